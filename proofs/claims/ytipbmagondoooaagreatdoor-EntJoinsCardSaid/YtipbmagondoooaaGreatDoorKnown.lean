/-
  The laws' 'known': one text that is unescaped as it should be.
-/
import Derived.Test.YtipbmagondoooaaGreatDoorUnesc
namespace Go.Proofs.YtipbmagondoooaaGreatDoor
open Go.RowKit

theorem known_text : Spec.unesc [97, 92, 42, 38, 35, 51, 51, 59, 38, 120, 59] = [97, 42, 33, 38, 120, 59] := by decide +kernel
set_option maxHeartbeats 4000000 in
set_option maxRecDepth 100000 in
theorem known_any (w : World) (hT : Tabs w) :
    Calls Tryz.prog 7 #[] w fun e w' => e = .returned (.bool true) ∧ Below w.heap.size w w' := by
  have hU : ∀ W, Tabs W → Calls Tryz.prog 8 #[.string (⟨#[97, 92, 42, 38, 35, 51, 51, 59, 38, 120, 59]⟩ : ByteArray)] W fun e w' => e = .returned (.string (⟨#[97, 42, 33, 38, 120, 59]⟩ : ByteArray)) ∧ Below W.heap.size W w' := fun W hW => by
    have := unescape_any ⟨#[97, 92, 42, 38, 35, 51, 51, 59, 38, 120, 59]⟩ W (by decide) hW
    rw [show (⟨#[97, 92, 42, 38, 35, 51, 51, 59, 38, 120, 59]⟩ : ByteArray).data.toList = [97, 92, 42, 38, 35, 51, 51, 59, 38, 120, 59] from rfl, known_text] at this
    exact this
  go_enter Tryz.func7, Tryz.ntmps7
  go_wp2_with (go_at_call 8; refine (hU _ hT).mono ?_; rintro e w1 ⟨rfl, hb⟩)
  go_ret
  exact ⟨rfl, hb⟩

end Go.Proofs.YtipbmagondoooaaGreatDoor
