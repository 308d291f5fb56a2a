/-
  The leaves' law's 'known': a heading and a marker.
-/
import Derived.Test.YtipbmagondoooaaDoorEnds
import Derived.Handy
import Derived.Deep.QuietTactic
import Derived.BigQuiet
namespace Go.Proofs.YtipbmagondoooaaDoor
open Go.RowKit

theorem drewN_below (w : World) (n : Nat) : Below w.heap.size w (w.drewN n) := by
  have h := Below.refl w.heap.size w
  exact ⟨h.os, h.tape, h.output, h.size, h.block⟩
set_option maxHeartbeats 1000000 in
set_option maxRecDepth 100000 in
theorem marker_known (w : World) :
    Calls Tryd.prog 43 #[.string (⟨#[49, 50, 41, 32, 120]⟩ : ByteArray)] w fun e w' => e = .returned (.tuple #[.int .i64 3, .int .u8 41, .int .i64 12]) ∧ Below w.heap.size w w' := by
  have hI1 : ∀ W, Calls Tryd.prog 23 #[.string (⟨#[46, 41]⟩ : ByteArray), .int .u8 41] W fun e w' => e = .returned (.int .i64 1) ∧ w' = W := fun W => Tryd.strings_IndexByte ⟨#[46, 41]⟩ 41 W
  have hI2 : ∀ W, Calls Tryd.prog 23 #[.string (⟨#[32, 9]⟩ : ByteArray), .int .u8 32] W fun e w' => e = .returned (.int .i64 0) ∧ w' = W := fun W => Tryd.strings_IndexByte ⟨#[32, 9]⟩ 32 W
  have hE : ∀ W, Calls Tryd.prog 54 #[.string ((⟨#[49, 50, 41, 32, 120]⟩ : ByteArray).extract 3 5)] W fun e w' => e = .returned (.bool true) ∧ w' = W := fun W => by
    rw [show (⟨#[49, 50, 41, 32, 120]⟩ : ByteArray).extract 3 5 = ⟨#[32, 120]⟩ from by decide +kernel]
    go_enter Tryd.func54, Tryd.ntmps54
    go_wp2_with fail
    refine (hI2 _).mono ?_
    rintro e w1 ⟨rfl, rfl⟩
    go_wp2
    go_ret
    exact ⟨rfl, rfl⟩
  go_enter Tryd.func43, Tryd.ntmps43
  go_wp2_with fail
  go_loop [2, 4] (fun a b => (a = .int .i64 0 ∧ b = .int .i64 0) ∨ (a = .int .i64 1 ∧ b = .int .i64 1) ∨ (a = .int .i64 2 ∧ b = .int .i64 12)) (fun a _ => 3 - (intOf a).toNat)
  case atStart => exact .inl ⟨rfl, rfl⟩
  case round =>
    rcases hrel with ⟨rfl, rfl⟩ | ⟨rfl, rfl⟩ | ⟨rfl, rfl⟩
    · go_wp2
      exact ⟨.inr (.inl ⟨rfl, rfl⟩), by simp [intOf]⟩
    · go_wp2
      exact ⟨.inr (.inr ⟨rfl, rfl⟩), by simp [intOf]⟩
    · go_wp2_with fail
      refine (hI1 _).mono ?_
      rintro e w1 ⟨rfl, rfl⟩
      go_wp2_with fail
      refine (hE _).mono ?_
      rintro e w2 ⟨rfl, rfl⟩
      go_wp2_with fail
      go_quiet (fail)
      go_wp2
      go_ret3
      exact ⟨rfl, drewN_below _ _⟩

set_option maxHeartbeats 1000000 in
set_option maxRecDepth 100000 in
theorem heading_known (w : World) :
    Calls Tryd.prog 42 #[.string (⟨#[35, 35, 32, 97, 32, 35, 98, 32, 35, 35]⟩ : ByteArray)] w fun e w' => e = .returned (.tuple #[.int .i64 2, .string ⟨#[97, 32, 35, 98]⟩]) ∧ Below w.heap.size w w' := by
  have hR : ∀ W, Calls Tryd.prog 37 #[.string (⟨#[35, 35, 32, 97, 32, 35, 98, 32, 35, 35]⟩ : ByteArray), .int .u8 35] W fun e w' => e = .returned (.int .i64 2) ∧ w' = W := fun W => run_any _ 35 35 W rfl (by decide)
  have hI2 : ∀ W, Calls Tryd.prog 23 #[.string (⟨#[32, 9]⟩ : ByteArray), .int .u8 32] W fun e w' => e = .returned (.int .i64 0) ∧ w' = W := fun W => Tryd.strings_IndexByte ⟨#[32, 9]⟩ 32 W
  have hx : (⟨#[35, 35, 32, 97, 32, 35, 98, 32, 35, 35]⟩ : ByteArray).extract 2 10 = ⟨#[32, 97, 32, 35, 98, 32, 35, 35]⟩ := by decide +kernel
  have hE : ∀ W, Calls Tryd.prog 54 #[.string ((⟨#[35, 35, 32, 97, 32, 35, 98, 32, 35, 35]⟩ : ByteArray).extract 2 10)] W fun e w' => e = .returned (.bool true) ∧ w' = W := fun W => by
    rw [hx]
    go_enter Tryd.func54, Tryd.ntmps54
    go_wp2_with fail
    refine (hI2 _).mono ?_
    rintro e w1 ⟨rfl, rfl⟩
    go_wp2
    go_ret
    exact ⟨rfl, rfl⟩
  have hS1 : ∀ W, Calls Tryd.prog 38 #[.string ((⟨#[35, 35, 32, 97, 32, 35, 98, 32, 35, 35]⟩ : ByteArray).extract 2 10)] W fun e w' => e = .returned (.string ⟨#[97, 32, 35, 98, 32, 35, 35]⟩) ∧ Below W.heap.size W w' := fun W => by
    rw [hx]; exact strip_any ⟨#[32, 97, 32, 35, 98, 32, 35, 35]⟩ W (by decide)
  have hT : ∀ W, Calls Tryd.prog 55 #[.string (⟨#[97, 32, 35, 98, 32, 35, 35]⟩ : ByteArray), .string ⟨#[35]⟩] W fun e w' => e = .returned (.string ⟨#[97, 32, 35, 98, 32]⟩) ∧ Below W.heap.size W w' := fun W =>
    Any.strings_TrimRight_laid Tryd.lays162 (by kernel_rfl) ⟨#[97, 32, 35, 98, 32, 35, 35]⟩ ⟨#[35]⟩ W (by decide) (by decide) (ascii_of_all (by decide))
  have hS2 : ∀ W, Calls Tryd.prog 38 #[.string (⟨#[97, 32, 35, 98, 32]⟩ : ByteArray)] W fun e w' => e = .returned (.string ⟨#[97, 32, 35, 98]⟩) ∧ Below W.heap.size W w' := fun W => strip_any ⟨#[97, 32, 35, 98, 32]⟩ W (by decide)
  clear hx
  go_enter Tryd.func42, Tryd.ntmps42
  go_wp2_with fail
  refine (hR _).mono ?_
  rintro e w1 ⟨rfl, rfl⟩
  go_wp2_with fail
  refine (hE _).mono ?_
  rintro e w2 ⟨rfl, rfl⟩
  go_wp2_with fail
  refine (hS1 _).mono ?_
  rintro e w3 ⟨rfl, hb3⟩
  go_wp2_with fail
  refine (hT _).mono ?_
  rintro e w4 ⟨rfl, hb4⟩
  go_wp2_with fail
  refine (hI2 _).mono ?_
  rintro e w5 ⟨rfl, rfl⟩
  go_wp2_with fail
  refine (hS2 _).mono ?_
  rintro e w6 ⟨rfl, hb6⟩
  go_wp2
  go_ret2
  exact ⟨rfl, hb3.trans ((hb4.trans (hb6.mono hb4.size)).mono hb3.size)⟩

set_option maxHeartbeats 1000000 in
set_option maxRecDepth 100000 in
theorem known18_any (w : World) :
    Calls Tryd.prog 22 #[] w fun e w' => e = .returned (.bool true) ∧ Below w.heap.size w w' := by
  have hH := fun W => heading_known W
  have hM := fun W => marker_known W
  go_enter Tryd.func22, Tryd.ntmps22
  go_wp2_with fail
  refine (hH _).mono ?_
  rintro e w1 ⟨rfl, hb1⟩
  go_wp2_with fail
  refine (hM _).mono ?_
  rintro e w2 ⟨rfl, hb2⟩
  go_wp2
  go_ret
  exact ⟨rfl, hb1.trans (hb2.mono hb1.size)⟩
end Go.Proofs.YtipbmagondoooaaDoor
