/-
  What the law LeafFences answers: true, at every line, sign and number.
-/
import Derived.Test.YtipbmagondoooaaDoorRefFen
import Derived.Test.YtipbmagondoooaaDoorKnown18
namespace Go.Proofs.YtipbmagondoooaaDoor
open Go.RowKit

set_option maxHeartbeats 1000000 in
set_option maxRecDepth 100000 in
theorem leafFences_law (s : ByteArray) (x n : Int) (w : World) (hx0 : 0 ≤ x) (hx1 : x ≤ 255) (hn0 : -9223372036854775808 ≤ n) (hn1 : n ≤ 9223372036854775807) (hT : Tabs w) :
    Calls Tryd.prog 8 #[.string s, .int .u8 x, .int .i64 n] w fun e w' => e = .returned (.bool true) ∧ Below w.heap.size w w' := by
  by_cases hs : 1000 < s.size
  · go_enter Tryd.func8, Tryd.ntmps8
    go_wp2
    go_ret
    exact ⟨rfl, Below.refl _ _⟩
  · obtain ⟨c, hc⟩ : ∃ c : UInt8, c = UInt8.ofNat x.toNat := ⟨_, rfl⟩
    have hcx : (c.toNat : Int) = x := by rw [hc, UInt8.toNat_ofNat_of_lt' (by show x.toNat < 256; omega)]; omega
    have hA := fun W (hW : Tabs W) => fence_any s W (by omega) hW
    have hB := fun W => refFence_any s W (by omega)
    have hC := fun W => ends_any s x n c W hcx hn0 hn1 (by omega)
    have hD := fun W => refEnds_any s x n c W hcx hn0 hn1 (by omega)
    have hK := fun W => known18_any W
    unfold fenceRes at hA hB
    generalize (⟨(fenceL s.data.toList).2.2.toArray⟩ : ByteArray) = v at hA hB
    generalize ((fenceL s.data.toList).2.1 : Int) = m at hA hB
    generalize ((fenceL s.data.toList).1 : Int) = y at hA hB
    generalize endsL s.data.toList c n = q at hC hD
    have h1 : (v.toList == v.toList) = true := beq_self_eq_true _
    have h2 : (m == m) = true := beq_self_eq_true _
    have h3 : (y == y) = true := beq_self_eq_true _
    have h4 : (q == q) = true := beq_self_eq_true _
    clear hcx hc
    go_enter Tryd.func8, Tryd.ntmps8
    go_wp2_with fail
    refine (hA _ hT).mono ?_
    rintro e w1 ⟨rfl, hb1⟩
    go_wp2_with fail
    refine (hB _).mono ?_
    rintro e w2 ⟨rfl, hb2⟩
    have hw2 := hb1.trans (hb2.mono hb1.size)
    go_wp2_with fail
    refine (hC _).mono ?_
    rintro e w3 ⟨rfl, hb3⟩
    have hw3 := hw2.trans (hb3.mono hw2.size)
    go_wp2_with fail
    refine (hD _).mono ?_
    rintro e w4 ⟨rfl, hb4⟩
    have hw4 := hw3.trans (hb4.mono hw3.size)
    go_wp2_with fail
    refine (hK _).mono ?_
    rintro e w5 ⟨rfl, hb5⟩
    go_wp2
    go_ret
    exact ⟨rfl, hw4.trans (hb5.mono hw4.size)⟩
end Go.Proofs.YtipbmagondoooaaDoor
