/-
  Whether a line ends a fence: the program's answer and the reference's, at every line.
-/
import Derived.Test.YtipbmagondoooaaDoorFence
namespace Go.Proofs.YtipbmagondoooaaDoor
open Go.RowKit

/-- Does a line end a fence of k or more? -/
def endsL (l : List UInt8) (c : UInt8) (n : Int) : Bool := decide (max 1 n ≤ (runL l c : Int)) && (Lib.trimRightS (l.drop (runL l c)) blanks).isEmpty

set_option maxHeartbeats 4000000 in
set_option maxRecDepth 100000 in
theorem ends_any (s : ByteArray) (x n : Int) (c : UInt8) (w : World) (hc : (c.toNat : Int) = x) (hn0 : -9223372036854775808 ≤ n) (hn1 : n ≤ 9223372036854775807) (hs : s.size ≤ 1000000) :
    Calls Tryd.prog 20 #[.string s, .int .u8 x, .int .i64 n] w fun e w' => e = .returned (.bool (endsL s.data.toList c n)) ∧ Below w.heap.size w w' := by
  have hR := fun W => run_any s x c W hc hs
  have hle := runL_le s.data.toList c
  rw [← Lib.size_eq] at hle
  have HE : Hid (endsL s.data.toList c n = (decide (max 1 n ≤ (runL s.data.toList c : Int)) && (Lib.trimRightS (s.data.toList.drop (runL s.data.toList c)) blanks).isEmpty)) := Lib.hid rfl
  obtain ⟨k, hk⟩ : ∃ k, k = runL s.data.toList c := ⟨_, rfl⟩
  rw [← hk] at hR hle HE
  have hS := fun W => strip_any (s.extract k s.size) W (by rw [ByteArray.size_extract]; omega)
  rw [drop_text s k hle] at hS
  simp only at hS
  rw [← drop_text s k hle] at hS
  obtain ⟨r, hr⟩ : ∃ r : ByteArray, r = ⟨(Lib.trimS (s.data.toList.drop k) blanks).toArray⟩ := ⟨_, rfl⟩
  rw [← hr] at hS
  have hq : r.toList.isEmpty = (Lib.trimRightS (s.data.toList.drop k) blanks).isEmpty := by
    rw [ByteArray.toList_eq, hr, Bool.eq_iff_iff, List.isEmpty_iff, List.isEmpty_iff]
    exact trims_nil _ _
  have hsl : ∀ W, (Instr.slice 9 (.string s) (some (.int .i64 (k : Int))) none none).run Tryd.prog W = .ok (.string (s.extract k s.size)) W := fun W => by
    rw [run_slice_string_from_if W _ _ .i64 _ Tryd.underlying9, if_pos ⟨by omega, by omega⟩]
    rfl
  obtain ⟨b, hb⟩ : ∃ b, b = endsL s.data.toList c n := ⟨_, rfl⟩
  rw [← hb] at HE ⊢
  rw [← hq] at HE
  clear hb hq hr hk hc
  by_cases hm : max 1 n ≤ (k : Int)
  · have h1 : (1 : Int) ≤ k := by omega
    have h2 : n ≤ (k : Int) := by omega
    have HF : Hid (b = r.toList.isEmpty) := Lib.hid (by rw [HE.out, decide_eq_true hm, Bool.true_and])
    clear HE
    go_enter Tryd.func20, Tryd.ntmps20
    go_wp2_with (first | (go_at_call 37; refine (hR _).mono ?_; rintro e w1 ⟨rfl, rfl⟩) | (go_at_call 38; refine (hS _).mono ?_; rintro e w2 ⟨rfl, hb2⟩))
    go_ret
    exact ⟨ret_bool HF.out.symm, hb2⟩
  · have h1 : ¬ (max 1 n ≤ (k : Int)) := hm
    have HF : Hid (b = false) := Lib.hid (by rw [HE.out, decide_eq_false hm, Bool.false_and])
    clear HE
    go_enter Tryd.func20, Tryd.ntmps20
    go_wp2_with (first | (go_at_call 37; refine (hR _).mono ?_; rintro e w1 ⟨rfl, rfl⟩) | (go_at_call 38; refine (hS _).mono ?_; rintro e w2 ⟨rfl, hb2⟩))
    go_ret
    exact ⟨by rw [HF.out]; rfl, Below.refl _ _⟩
set_option maxHeartbeats 4000000 in
set_option maxRecDepth 100000 in
theorem refEnds_any (s : ByteArray) (x n : Int) (c : UInt8) (w : World) (hc : (c.toNat : Int) = x) (hn0 : -9223372036854775808 ≤ n) (hn1 : n ≤ 9223372036854775807) (hs : s.size ≤ 1000000) :
    Calls Tryd.prog 21 #[.string s, .int .u8 x, .int .i64 n] w fun e w' => e = .returned (.bool (endsL s.data.toList c n)) ∧ Below w.heap.size w w' := by
  have hR := fun W => many_any s x c W hc hs
  have hle := runL_le s.data.toList c
  rw [← Lib.size_eq] at hle
  have HE : Hid (endsL s.data.toList c n = (decide (max 1 n ≤ (runL s.data.toList c : Int)) && (Lib.trimRightS (s.data.toList.drop (runL s.data.toList c)) blanks).isEmpty)) := Lib.hid rfl
  obtain ⟨k, hk⟩ : ∃ k, k = runL s.data.toList c := ⟨_, rfl⟩
  rw [← hk] at hR hle HE
  have hS := fun W => right_any (s.extract k s.size) W (by rw [ByteArray.size_extract]; omega)
  rw [drop_text s k hle] at hS
  simp only at hS
  rw [← drop_text s k hle] at hS
  obtain ⟨r, hr⟩ : ∃ r : ByteArray, r = ⟨(Lib.trimRightS (s.data.toList.drop k) blanks).toArray⟩ := ⟨_, rfl⟩
  rw [← hr] at hS
  have hq : r.toList.isEmpty = (Lib.trimRightS (s.data.toList.drop k) blanks).isEmpty := by
    rw [ByteArray.toList_eq, hr]
  have hsl : ∀ W, (Instr.slice 9 (.string s) (some (.int .i64 (k : Int))) none none).run Tryd.prog W = .ok (.string (s.extract k s.size)) W := fun W => by
    rw [run_slice_string_from_if W _ _ .i64 _ Tryd.underlying9, if_pos ⟨by omega, by omega⟩]
    rfl
  obtain ⟨b, hb⟩ : ∃ b, b = endsL s.data.toList c n := ⟨_, rfl⟩
  rw [← hb] at HE ⊢
  rw [← hq] at HE
  clear hb hq hr hk hc
  by_cases hm : max 1 n ≤ (k : Int)
  · have h1 : (1 : Int) ≤ k := by omega
    have h2 : n ≤ (k : Int) := by omega
    have HF : Hid (b = r.toList.isEmpty) := Lib.hid (by rw [HE.out, decide_eq_true hm, Bool.true_and])
    clear HE
    go_enter Tryd.func21, Tryd.ntmps21
    go_wp2_with (first | (go_at_call 39; refine (hR _).mono ?_; rintro e w1 ⟨rfl, rfl⟩) | (go_at_call 41; refine (hS _).mono ?_; rintro e w2 ⟨rfl, rfl⟩))
    go_ret
    exact ⟨ret_bool HF.out.symm, Below.refl _ _⟩
  · have h1 : ¬ (max 1 n ≤ (k : Int)) := hm
    have HF : Hid (b = false) := Lib.hid (by rw [HE.out, decide_eq_false hm, Bool.false_and])
    clear HE
    go_enter Tryd.func21, Tryd.ntmps21
    go_wp2_with (first | (go_at_call 39; refine (hR _).mono ?_; rintro e w1 ⟨rfl, rfl⟩) | (go_at_call 41; refine (hS _).mono ?_; rintro e w2 ⟨rfl, rfl⟩))
    go_ret
    exact ⟨by rw [HF.out]; rfl, Below.refl _ _⟩
end Go.Proofs.YtipbmagondoooaaDoor
