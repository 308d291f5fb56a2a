/-
  What the law EntUnescapes answers: true, at every text.
-/
import Derived.Test.YtipbmagondoooaaDoorRefUn
namespace Go.Proofs.YtipbmagondoooaaDoor
open Go.RowKit

set_option maxHeartbeats 4000000 in
set_option maxRecDepth 100000 in
theorem entUnescapes_law (s : ByteArray) (w : World) (hT : Tabs w) :
    Calls Tryd.prog 4 #[.string s] w fun e w' => e = .returned (.bool true) ∧ Below w.heap.size w w' := by
  by_cases hs : 1500 < s.size
  · go_enter Tryd.func4, Tryd.ntmps4
    go_wp2
    go_ret
    exact ⟨rfl, Below.refl _ _⟩
  · have hA := fun W (hW : Tabs W) => unescape_any s W (by omega) hW
    have hR := fun W => refUnescape_any s W (by omega)
    have hK := fun W (hW : Tabs W) => known_any W hW
    generalize (⟨(Spec.unesc s.data.toList).toArray⟩ : ByteArray) = v at hA hR
    have hv : (v.toList == v.toList) = true := beq_self_eq_true _
    go_enter Tryd.func4, Tryd.ntmps4
    go_wp2_with fail
    refine (hA _ hT).mono ?_
    rintro e w1 ⟨rfl, hb1⟩
    go_wp2_with fail
    refine (hR _).mono ?_
    rintro e w2 ⟨rfl, hb2⟩
    go_wp2_with fail
    refine (hK _ ((hT.below hb1).below hb2)).mono ?_
    rintro e w3 ⟨rfl, hb3⟩
    go_wp2
    go_ret
    exact ⟨rfl, hb1.trans ((hb2.trans (hb3.mono hb2.size)).mono hb1.size)⟩
end Go.Proofs.YtipbmagondoooaaDoor
