/-
  byteStringReplacer's Replace, walked.
-/
import Derived.Test.YtipbmagondoooaaGreatDoorRepC
import Derived.Laws.Cover3
import Derived.Test.YtipbmagondoooaaGreatDoorSl
namespace Go.Proofs.YtipbmagondoooaaGreatDoor
open Go.RowKit

theorem below_drewN2 {B : Nat} {a w : World} (h : Below B a w) (n : Nat) : Below B a (w.drewN n) := ⟨h.os, h.tape, h.output, h.size, h.block⟩
theorem made_zero (n : Nat) : madeCells #[Value.int .u8 0] n = Array.replicate n (.int .u8 0) := by
  rw [← Array.toList_inj, toList_madeCells_one, Array.toList_replicate]
theorem byte_at (s : ByteArray) (i : Nat) (h : i < s.size) : s.data.toList.take (i + 1) = s.data.toList.take i ++ [s[i]'h] := by
  rw [List.take_add_one, List.getElem?_eq_getElem (by simpa using h)]
  rfl

theorem take_set_one (l : List Value) (j : Nat) (v : Value) (h : j < l.length) : (l.set j v).take (j + 1) = l.take j ++ [v] := by
  rw [List.set_eq_take_append_cons_drop, if_pos h, List.take_append, List.length_take, Nat.min_eq_left (by omega), List.take_of_length_le (by rw [List.length_take]; omega), show j + 1 - j = 1 by omega]
  rfl
theorem bytes_one (u : List UInt8) : ∀ v ∈ Lib.byteCells u, v.oneCell' = true := by
  intro v hv
  unfold Lib.byteCells at hv
  obtain ⟨c, _, rfl⟩ := List.mem_map.1 hv
  rfl
theorem growK_zero (l : List UInt8) : growK 0 l = 0 := by
  induction l with
  | nil => rfl
  | cons c t ih => exact (Nat.zero_add _).trans ih
theorem anyK_zero (l : List UInt8) : anyK 0 l = false := by
  induction l with
  | nil => rfl
  | cons c t ih => exact ih

set_option maxHeartbeats 8000000 in
set_option maxRecDepth 100000 in
theorem replace_any (w : World) (bb : Nat) (s : ByteArray) (hs : s.size ≤ 1000000) (hR : RepW w bb) :
    Calls Tryz.prog 148 #[.pointer (some ⟨bb, 0, none⟩), .string s] w fun e w' => e = .returned (.string ⟨(html s.data.toList).toArray⟩) ∧ Below w.heap.size w w' := by
  obtain ⟨tb, tcap, htb, h256, hlist⟩ := hR.list
  have HR := Lib.hid hR
  have HL := Lib.hid hlist
  have hmk := run_make_row' (P := Tryz.prog) 29 5 (.int .u8 0) 1 Tryz.underlying29 infoByte rfl .i64 .i64
  clear hR hlist
  go_enter Tryz.func148, Tryz.ntmps148
  go_upto_if 26 with fail
  go_cut [5, 6] (fun v5 v6 wc => v5 = .int .i64 ((s.size + growK 4 s.data.toList : Nat) : Int) ∧ v6 = .bool (anyK 4 s.data.toList) ∧ Hid (Below w.heap.size w wc))
  case first =>
    by_cases h32 : (32 : Int) ≤ s.size
    · have h32n : 32 ≤ s.size := by omega
      have h32d : decide ((32 : Int) ≤ (s.size : Int)) = true := decide_eq_true h32
      simp only [h32d]
      go_wp2
      go_loopw [32, 5, 6] (fun v32 v5 v6 wr => ∃ (k y : Nat) (b : Bool), Hid (Below w.heap.size w wr ∧ y = s.size + growK k s.data.toList ∧ b = anyK k s.data.toList) ∧ y ≤ 6000000 ∧ v5 = .int .i64 (y : Int) ∧ v6 = .bool b ∧ ((k = 0 ∧ v32 = .int .i64 0) ∨ (k = 1 ∧ v32 = .int .i64 1) ∨ (k = 2 ∧ v32 = .int .i64 2) ∨ (k = 3 ∧ v32 = .int .i64 3) ∨ (k = 4 ∧ v32 = .int .i64 4))) (fun v32 _ _ _ => 4 - (intOf v32).toNat)
      case atStart => exact ⟨0, s.size, false, Lib.hid ⟨Below.refl _ _, by rw [growK_zero]; rfl, by rw [anyK_zero]⟩, by omega, rfl, rfl, .inl ⟨rfl, rfl⟩⟩
      case round =>
        obtain ⟨k, y, b, HJ, hy, rfl, rfl, hkk⟩ := hrel
        have r256 := (HJ.out.1.cell (p := ⟨bb, 256, none⟩) HR.out.lt).trans h256
        rcases hkk with ⟨rfl, rfl⟩ | ⟨rfl, rfl⟩ | ⟨rfl, rfl⟩ | ⟨rfl, rfl⟩ | ⟨rfl, rfl⟩
        · have rst := (HJ.out.1.cell (p := ⟨tb, 0, none⟩) htb).trans (HL.out 0 _ rfl)
          obtain ⟨nb, ncap, cs, fz, n1, n2, n3⟩ := HR.out.tab 34
          have rn : wr.cell? ⟨bb, 34, none⟩ = some (.slice (some ⟨nb, 0, none⟩) 6 ncap) := (HJ.out.1.cell (p := ⟨bb, 34, none⟩) HR.out.lt).trans n1
          clear n1 n2 n3
          have e34 : (⟨#[34]⟩ : ByteArray)[0].toNat = 34 := rfl
          obtain ⟨m, HM⟩ : ∃ m, Hid (m = s.data.toList.count 34) := ⟨_, Lib.hid rfl⟩
          have hm : m ≤ 1000000 := by have := HM.out; have := List.count_le_length (a := (34 : UInt8)) (l := s.data.toList); have e : s.data.toList.length = s.size := Lib.size_eq s |>.symm; omega
          have hc : ∀ W : World, Calls Tryz.prog 150 #[.string s, .string ⟨#[34]⟩] W fun e w' => e = .returned (.int .i64 (m : Int)) ∧ W = w' := fun W => (Tryz.strings_Count_one s 34 W).mono fun e w' h => ⟨by rw [h.1, HM.out]; rfl, h.2.symm⟩
          have HG : Hid (s.size + growK 1 s.data.toList = y + m * 5 ∧ y + m * 5 ≤ 6000000 ∧ anyK 1 s.data.toList = (b || decide (m ≠ 0))) := by
            have h1 := growK_step 0 34 _ rfl rfl s.data.toList
            have h2 := anyK_step 0 34 _ rfl s.data.toList
            have h3 := growK_le 1 (by omega) s.data.toList
            have e : s.data.toList.length = s.size := Lib.size_eq s |>.symm
            rw [← HM.out] at h1 h2
            have h4 : growK 1 s.data.toList = growK 0 s.data.toList + m * 5 := h1
            have := HJ.out.2.1
            exact Lib.hid ⟨by omega, by omega, by rw [h2, HJ.out.2.2]⟩
          by_cases hm0 : m = 0
          · have hb0 : ((m : Int) != 0) = false := by subst hm0; rfl
            go_wp2_with (go_at_call 150; refine (hc _).mono ?_; rintro e w1 ⟨rfl, rfl⟩)
            go_roundw
            case rel =>
              subst hm0
              refine ⟨1, y, b, Lib.hid ⟨HJ.out.1, ?_, ?_⟩, hy, rfl, rfl, .inr (.inl ⟨rfl, rfl⟩)⟩
              · have := HG.out.1; omega
              · rw [HG.out.2.2]; simp
            case measure => simp [intOf]
          · have hb0 : ((m : Int) != 0) = true := by rw [bne_iff_ne]; omega
            go_wp2_with (go_at_call 150; refine (hc _).mono ?_; rintro e w1 ⟨rfl, rfl⟩)
            go_quiet (fail)
            go_wp2
            go_roundw
            case rel =>
              refine ⟨1, y + m * 5, true, Lib.hid ⟨below_drewN2 HJ.out.1 _, ?_, ?_⟩, HG.out.2.1, ?_, rfl, .inr (.inl ⟨rfl, rfl⟩)⟩
              · have := HG.out.1; omega
              · rw [HG.out.2.2]; simp [hm0]
              · first | (congr 1; done) | (congr 1; omega)
            case measure => simp [intOf]
        · have rst := (HJ.out.1.cell (p := ⟨tb, 1, none⟩) htb).trans (HL.out 1 _ rfl)
          obtain ⟨nb, ncap, cs, fz, n1, n2, n3⟩ := HR.out.tab 62
          have rn : wr.cell? ⟨bb, 62, none⟩ = some (.slice (some ⟨nb, 0, none⟩) 4 ncap) := (HJ.out.1.cell (p := ⟨bb, 62, none⟩) HR.out.lt).trans n1
          clear n1 n2 n3
          have e34 : (⟨#[62]⟩ : ByteArray)[0].toNat = 62 := rfl
          obtain ⟨m, HM⟩ : ∃ m, Hid (m = s.data.toList.count 62) := ⟨_, Lib.hid rfl⟩
          have hm : m ≤ 1000000 := by have := HM.out; have := List.count_le_length (a := (62 : UInt8)) (l := s.data.toList); have e : s.data.toList.length = s.size := Lib.size_eq s |>.symm; omega
          have hc : ∀ W : World, Calls Tryz.prog 150 #[.string s, .string ⟨#[62]⟩] W fun e w' => e = .returned (.int .i64 (m : Int)) ∧ W = w' := fun W => (Tryz.strings_Count_one s 62 W).mono fun e w' h => ⟨by rw [h.1, HM.out]; rfl, h.2.symm⟩
          have HG : Hid (s.size + growK 2 s.data.toList = y + m * 3 ∧ y + m * 3 ≤ 6000000 ∧ anyK 2 s.data.toList = (b || decide (m ≠ 0))) := by
            have h1 := growK_step 1 62 _ rfl rfl s.data.toList
            have h2 := anyK_step 1 62 _ rfl s.data.toList
            have h3 := growK_le 2 (by omega) s.data.toList
            have e : s.data.toList.length = s.size := Lib.size_eq s |>.symm
            rw [← HM.out] at h1 h2
            have h4 : growK 2 s.data.toList = growK 1 s.data.toList + m * 3 := h1
            have := HJ.out.2.1
            exact Lib.hid ⟨by omega, by omega, by rw [h2, HJ.out.2.2]⟩
          by_cases hm0 : m = 0
          · have hb0 : ((m : Int) != 0) = false := by subst hm0; rfl
            go_wp2_with (go_at_call 150; refine (hc _).mono ?_; rintro e w1 ⟨rfl, rfl⟩)
            go_roundw
            case rel =>
              subst hm0
              refine ⟨2, y, b, Lib.hid ⟨HJ.out.1, ?_, ?_⟩, hy, rfl, rfl, .inr (.inr (.inl ⟨rfl, rfl⟩))⟩
              · have := HG.out.1; omega
              · rw [HG.out.2.2]; simp
            case measure => simp [intOf]
          · have hb0 : ((m : Int) != 0) = true := by rw [bne_iff_ne]; omega
            go_wp2_with (go_at_call 150; refine (hc _).mono ?_; rintro e w1 ⟨rfl, rfl⟩)
            go_quiet (fail)
            go_wp2
            go_roundw
            case rel =>
              refine ⟨2, y + m * 3, true, Lib.hid ⟨below_drewN2 HJ.out.1 _, ?_, ?_⟩, HG.out.2.1, ?_, rfl, .inr (.inr (.inl ⟨rfl, rfl⟩))⟩
              · have := HG.out.1; omega
              · rw [HG.out.2.2]; simp [hm0]
              · first | (congr 1; done) | (congr 1; omega)
            case measure => simp [intOf]
        · have rst := (HJ.out.1.cell (p := ⟨tb, 2, none⟩) htb).trans (HL.out 2 _ rfl)
          obtain ⟨nb, ncap, cs, fz, n1, n2, n3⟩ := HR.out.tab 60
          have rn : wr.cell? ⟨bb, 60, none⟩ = some (.slice (some ⟨nb, 0, none⟩) 4 ncap) := (HJ.out.1.cell (p := ⟨bb, 60, none⟩) HR.out.lt).trans n1
          clear n1 n2 n3
          have e34 : (⟨#[60]⟩ : ByteArray)[0].toNat = 60 := rfl
          obtain ⟨m, HM⟩ : ∃ m, Hid (m = s.data.toList.count 60) := ⟨_, Lib.hid rfl⟩
          have hm : m ≤ 1000000 := by have := HM.out; have := List.count_le_length (a := (60 : UInt8)) (l := s.data.toList); have e : s.data.toList.length = s.size := Lib.size_eq s |>.symm; omega
          have hc : ∀ W : World, Calls Tryz.prog 150 #[.string s, .string ⟨#[60]⟩] W fun e w' => e = .returned (.int .i64 (m : Int)) ∧ W = w' := fun W => (Tryz.strings_Count_one s 60 W).mono fun e w' h => ⟨by rw [h.1, HM.out]; rfl, h.2.symm⟩
          have HG : Hid (s.size + growK 3 s.data.toList = y + m * 3 ∧ y + m * 3 ≤ 6000000 ∧ anyK 3 s.data.toList = (b || decide (m ≠ 0))) := by
            have h1 := growK_step 2 60 _ rfl rfl s.data.toList
            have h2 := anyK_step 2 60 _ rfl s.data.toList
            have h3 := growK_le 3 (by omega) s.data.toList
            have e : s.data.toList.length = s.size := Lib.size_eq s |>.symm
            rw [← HM.out] at h1 h2
            have h4 : growK 3 s.data.toList = growK 2 s.data.toList + m * 3 := h1
            have := HJ.out.2.1
            exact Lib.hid ⟨by omega, by omega, by rw [h2, HJ.out.2.2]⟩
          by_cases hm0 : m = 0
          · have hb0 : ((m : Int) != 0) = false := by subst hm0; rfl
            go_wp2_with (go_at_call 150; refine (hc _).mono ?_; rintro e w1 ⟨rfl, rfl⟩)
            go_roundw
            case rel =>
              subst hm0
              refine ⟨3, y, b, Lib.hid ⟨HJ.out.1, ?_, ?_⟩, hy, rfl, rfl, .inr (.inr (.inr (.inl ⟨rfl, rfl⟩)))⟩
              · have := HG.out.1; omega
              · rw [HG.out.2.2]; simp
            case measure => simp [intOf]
          · have hb0 : ((m : Int) != 0) = true := by rw [bne_iff_ne]; omega
            go_wp2_with (go_at_call 150; refine (hc _).mono ?_; rintro e w1 ⟨rfl, rfl⟩)
            go_quiet (fail)
            go_wp2
            go_roundw
            case rel =>
              refine ⟨3, y + m * 3, true, Lib.hid ⟨below_drewN2 HJ.out.1 _, ?_, ?_⟩, HG.out.2.1, ?_, rfl, .inr (.inr (.inr (.inl ⟨rfl, rfl⟩)))⟩
              · have := HG.out.1; omega
              · rw [HG.out.2.2]; simp [hm0]
              · first | (congr 1; done) | (congr 1; omega)
            case measure => simp [intOf]
        · have rst := (HJ.out.1.cell (p := ⟨tb, 3, none⟩) htb).trans (HL.out 3 _ rfl)
          obtain ⟨nb, ncap, cs, fz, n1, n2, n3⟩ := HR.out.tab 38
          have rn : wr.cell? ⟨bb, 38, none⟩ = some (.slice (some ⟨nb, 0, none⟩) 5 ncap) := (HJ.out.1.cell (p := ⟨bb, 38, none⟩) HR.out.lt).trans n1
          clear n1 n2 n3
          have e34 : (⟨#[38]⟩ : ByteArray)[0].toNat = 38 := rfl
          obtain ⟨m, HM⟩ : ∃ m, Hid (m = s.data.toList.count 38) := ⟨_, Lib.hid rfl⟩
          have hm : m ≤ 1000000 := by have := HM.out; have := List.count_le_length (a := (38 : UInt8)) (l := s.data.toList); have e : s.data.toList.length = s.size := Lib.size_eq s |>.symm; omega
          have hc : ∀ W : World, Calls Tryz.prog 150 #[.string s, .string ⟨#[38]⟩] W fun e w' => e = .returned (.int .i64 (m : Int)) ∧ W = w' := fun W => (Tryz.strings_Count_one s 38 W).mono fun e w' h => ⟨by rw [h.1, HM.out]; rfl, h.2.symm⟩
          have HG : Hid (s.size + growK 4 s.data.toList = y + m * 4 ∧ y + m * 4 ≤ 6000000 ∧ anyK 4 s.data.toList = (b || decide (m ≠ 0))) := by
            have h1 := growK_step 3 38 _ rfl rfl s.data.toList
            have h2 := anyK_step 3 38 _ rfl s.data.toList
            have h3 := growK_le 4 (by omega) s.data.toList
            have e : s.data.toList.length = s.size := Lib.size_eq s |>.symm
            rw [← HM.out] at h1 h2
            have h4 : growK 4 s.data.toList = growK 3 s.data.toList + m * 4 := h1
            have := HJ.out.2.1
            exact Lib.hid ⟨by omega, by omega, by rw [h2, HJ.out.2.2]⟩
          by_cases hm0 : m = 0
          · have hb0 : ((m : Int) != 0) = false := by subst hm0; rfl
            go_wp2_with (go_at_call 150; refine (hc _).mono ?_; rintro e w1 ⟨rfl, rfl⟩)
            go_roundw
            case rel =>
              subst hm0
              refine ⟨4, y, b, Lib.hid ⟨HJ.out.1, ?_, ?_⟩, hy, rfl, rfl, .inr (.inr (.inr (.inr ⟨rfl, rfl⟩)))⟩
              · have := HG.out.1; omega
              · rw [HG.out.2.2]; simp
            case measure => simp [intOf]
          · have hb0 : ((m : Int) != 0) = true := by rw [bne_iff_ne]; omega
            go_wp2_with (go_at_call 150; refine (hc _).mono ?_; rintro e w1 ⟨rfl, rfl⟩)
            go_quiet (fail)
            go_wp2
            go_roundw
            case rel =>
              refine ⟨4, y + m * 4, true, Lib.hid ⟨below_drewN2 HJ.out.1 _, ?_, ?_⟩, HG.out.2.1, ?_, rfl, .inr (.inr (.inr (.inr ⟨rfl, rfl⟩)))⟩
              · have := HG.out.1; omega
              · rw [HG.out.2.2]; simp [hm0]
              · first | (congr 1; done) | (congr 1; omega)
            case measure => simp [intOf]
        · go_wp2
          go_meet
          exact ⟨by rw [← HJ.out.2.1], by rw [← HJ.out.2.2], Lib.hid HJ.out.1⟩
    · have h32n : ¬ 32 ≤ s.size := by omega
      have h32d : decide ((32 : Int) ≤ (s.size : Int)) = false := decide_eq_false h32
      simp only [h32d]
      go_wp2
      go_loopw [10, 5, 6] (fun v10 v5 v6 wr => ∃ (i y : Nat) (b : Bool), i ≤ s.size ∧ Hid (Below w.heap.size w wr ∧ y = s.size + growK 4 (s.data.toList.take i) ∧ b = anyK 4 (s.data.toList.take i)) ∧ y ≤ 6000000 ∧ v10 = .int .i64 (i : Int) ∧ v5 = .int .i64 (y : Int) ∧ v6 = .bool b) (fun v10 _ _ _ => s.size - (intOf v10).toNat)
      case atStart => exact ⟨0, s.size, false, by omega, Lib.hid ⟨Below.refl _ _, rfl, rfl⟩, by omega, rfl, rfl, rfl⟩
      case round =>
        obtain ⟨i, y, b, hi, HJ, hy, rfl, rfl, rfl⟩ := hrel
        by_cases hp : i < s.size
        · have hpi : (i : Int) < s.size := by omega
          have htk := byte_at s i hp
          have hle := growK_le 4 (by omega) (s.data.toList.take (i + 1))
          have hll : (s.data.toList.take (i + 1)).length ≤ s.size := by rw [List.length_take, ← Lib.size_eq]; omega
          have hT := HR.out.tab (s[i]'hp)
          have hx8 := (s[i]'hp).toNat_lt
          have hx9 : (0 : Int) ≤ ((s[i]'hp).toNat : Int) ∧ ((s[i]'hp).toNat : Int) < 256 := ⟨by omega, by omega⟩
          have hx7 : (s[i]'hp).toNat < 256 := hx8
          cases hlk : lk reps (s[i]'hp) with
          | none =>
            rw [hlk] at hT
            have rn : wr.cell? ⟨bb, (s[i]'hp).toNat, none⟩ = some (.slice none 0 0) := (HJ.out.1.cell (p := ⟨bb, (s[i]'hp).toNat, none⟩) HR.out.lt).trans hT
            have hne : ∀ W, (binOp .neq 29 (.slice none 0 0) (.slice none 0 0)).run Tryz.prog W = .ok (.bool false) W := fun W => run_neq_slice_nil (w := W) _ _ none 0 0 Tryz.underlying29
            have HG : Hid (y = s.size + growK 4 (s.data.toList.take (i + 1)) ∧ b = anyK 4 (s.data.toList.take (i + 1))) := by
              refine Lib.hid ⟨?_, ?_⟩
              · rw [htk, growK_snoc]
                show y = _ + (_ + ((one (lk reps (s[i]'hp)) (s[i]'hp)).length - 1))
                rw [hlk, HJ.out.2.1]
                rfl
              · rw [htk, anyK_snoc]
                show b = (_ || (lk reps (s[i]'hp)).isSome)
                rw [hlk, HJ.out.2.2]
                simp
            clear hlk htk hT hle hll
            go_wp2
            go_roundw
            case rel => exact ⟨i + 1, y, b, by omega, Lib.hid ⟨HJ.out.1, HG.out.1, HG.out.2⟩, hy, by go_num, rfl, rfl⟩
            case measure => simp [intOf]; omega
          | some u =>
            rw [hlk] at hT
            obtain ⟨nb, ncap, cs, fz, n1, n2, n3⟩ := hT
            have rn : wr.cell? ⟨bb, (s[i]'hp).toNat, none⟩ = some (.slice (some ⟨nb, 0, none⟩) u.length ncap) := (HJ.out.1.cell (p := ⟨bb, (s[i]'hp).toNat, none⟩) HR.out.lt).trans n1
            have hne : ∀ W, (binOp .neq 29 (.slice (some ⟨nb, 0, none⟩) u.length ncap) (.slice none 0 0)).run Tryz.prog W = .ok (.bool true) W := fun W => run_neq_slice_nil (w := W) _ _ (some _) _ _ Tryz.underlying29
            have hu1 := reps_pos _ _ hlk
            have hu6 := reps_le _ _ hlk
            have HG : Hid (y + (u.length - 1) = s.size + growK 4 (s.data.toList.take (i + 1)) ∧ true = anyK 4 (s.data.toList.take (i + 1))) := by
              refine Lib.hid ⟨?_, ?_⟩
              · rw [htk, growK_snoc]
                show _ = _ + (_ + ((one (lk reps (s[i]'hp)) (s[i]'hp)).length - 1))
                rw [hlk, HJ.out.2.1]
                show _ = _ + (_ + (u.length - 1))
                omega
              · rw [htk, anyK_snoc]
                show true = (_ || (lk reps (s[i]'hp)).isSome)
                rw [hlk]
                simp
            have hy2 : y + (u.length - 1) ≤ 6000000 := by have := HG.out.1; omega
            clear hlk htk n1 n2 n3 hle hll
            go_wp2
            go_roundw
            case rel => exact ⟨i + 1, y + (u.length - 1), true, by omega, Lib.hid ⟨HJ.out.1, HG.out.1, HG.out.2⟩, hy2, by go_num, by congr 1; omega, rfl⟩
            case measure => simp [intOf]; omega
        · have hpi : ¬ (i : Int) < s.size := by omega
          have hw : s.data.toList.take i = s.data.toList := List.take_of_length_le (by rw [← Lib.size_eq]; omega)
          have HG : Hid (y = s.size + growK 4 s.data.toList ∧ b = anyK 4 s.data.toList) := by
            have := HJ.out.2
            rw [hw] at this
            exact Lib.hid this
          go_wp2
          go_meet
          exact ⟨by rw [← HG.out.1], by rw [← HG.out.2], Lib.hid HJ.out.1⟩
  case rest =>
    obtain ⟨rfl, rfl, HB⟩ := hcut
    cases ha : anyK 4 s.data.toList with
    | false =>
      have hb : Tryz.prog = Tryz.prog := rfl
      go_wp2
      go_ret
      have e : (⟨(html s.data.toList).toArray⟩ : ByteArray) = s := by rw [html_same _ ha]
      rw [e]
      exact ⟨rfl, HB.out⟩
    | true =>
      obtain ⟨N, HN⟩ : ∃ N, Hid (N = s.size + growK 4 s.data.toList) := ⟨_, Lib.hid rfl⟩
      have hN6 : N ≤ 6000000 := by
        have := growK_le 4 (by omega) s.data.toList
        have e : s.data.toList.length = s.size := Lib.size_eq s |>.symm
        have := HN.out
        omega
      have HL2 : Hid ((html s.data.toList).length = N) := Lib.hid (by rw [html_length, HN.out]; rw [Lib.size_eq s])
      rw [← HN.out]
      have hmk2 := hmk N (by omega) (by omega) wc
      rw [made_zero] at hmk2
      clear hmk ha
      go_wp2
      have hg0 := heap_alloc_new wc (.cells (Array.replicate N (Value.int .u8 0)) 5)
      have hB1 : Below w.heap.size w (wc.alloc (.cells (Array.replicate N (Value.int .u8 0)) 5)) := HB.out.alloc HB.out.size _
      have gge := HB.out.size
      clear hmk2 HB
      generalize wc.alloc (.cells (Array.replicate N (Value.int .u8 0)) 5) = w1 at hg0 hB1 ⊢
      generalize wc.heap.size = g at hg0 gge ⊢
      have HS : Hid (Below w.heap.size w w1 ∧ ∃ cur, w1.heap[g]? = some (.cells cur 5 (0, 0)) ∧ cur.size = N ∧ cur.toList.take 0 = Lib.byteCells (html (s.data.toList.take 0))) := Lib.hid ⟨hB1, _, hg0, by simp, by simp [html, Lib.byteCells]⟩
      clear hg0 hB1
      go_loopw [13, 14] (fun v13 v14 wr => ∃ i j : Nat, i ≤ s.size ∧ v13 = .int .i64 (j : Int) ∧ v14 = .int .i64 (i : Int) ∧ Hid (Below w.heap.size w wr ∧ j = (html (s.data.toList.take i)).length ∧ ∃ cur, wr.heap[g]? = some (.cells cur 5 (0, 0)) ∧ cur.size = N ∧ cur.toList.take j = Lib.byteCells (html (s.data.toList.take i)))) (fun _ v14 _ => s.size - (intOf v14).toNat)
      case atStart => exact ⟨0, 0, by omega, rfl, rfl, Lib.hid ⟨HS.out.1, by simp [html], HS.out.2⟩⟩
      case round =>
        obtain ⟨i, j, hi, rfl, rfl, HJ⟩ := hrel
        by_cases hp : i < s.size
        · have hpi : (i : Int) < s.size := by omega
          have htk := byte_at s i hp
          have hT := HR.out.tab (s[i]'hp)
          have hx8 := (s[i]'hp).toNat_lt
          have hx9 : (0 : Int) ≤ ((s[i]'hp).toNat : Int) ∧ ((s[i]'hp).toNat : Int) < 256 := ⟨by omega, by omega⟩
          have hx7 : (s[i]'hp).toNat < 256 := hx8
          obtain ⟨hbel, hj, cur, hrow, hsz, hpre⟩ := HJ.out
          have hlen : j + (one (lk reps (s[i]'hp)) (s[i]'hp)).length ≤ N := by
            have h1 : html s.data.toList = html (s.data.toList.take (i + 1)) ++ html (s.data.toList.drop (i + 1)) := by rw [← html_app, List.take_append_drop]
            have h2 := congrArg List.length h1
            rw [htk, html_app, List.length_append, List.length_append, HL2.out, ← hj] at h2
            have h3 : (html [s[i]'hp]).length = (one (lk reps (s[i]'hp)) (s[i]'hp)).length := by simp [html]
            omega
          have hnew : html (s.data.toList.take (i + 1)) = html (s.data.toList.take i) ++ one (lk reps (s[i]'hp)) (s[i]'hp) := by rw [htk, html_app]; simp [html]
          cases hlk : lk reps (s[i]'hp) with
          | none =>
            rw [hlk] at hT hlen hnew
            have hjN : j < N := by have : (one none (s[i]'hp)).length = 1 := rfl; omega
            have hjNi : (j : Int) < N := by omega
            have rn : wr.cell? ⟨bb, (s[i]'hp).toNat, none⟩ = some (.slice none 0 0) := (hbel.cell (p := ⟨bb, (s[i]'hp).toNat, none⟩) HR.out.lt).trans hT
            have hne : ∀ W, (binOp .neq 29 (.slice none 0 0) (.slice none 0 0)).run Tryz.prog W = .ok (.bool false) W := fun W => run_neq_slice_nil (w := W) _ _ none 0 0 Tryz.underlying29
            obtain ⟨cv, hcell⟩ : ∃ cv, wr.cell? ⟨g, j, none⟩ = some cv := ⟨cur[j]'(by omega), by rw [cell_row hrow]; exact Array.getElem?_eq_getElem (by omega)⟩
            have hfro : wr.frozen? ⟨g, j, none⟩ = false := by simp [World.frozen?, hrow]
            have HN2 : Hid (Below w.heap.size w (wr.setCell ⟨g, j, none⟩ (.int .u8 ((s[i]'hp).toNat : Int))) ∧ j + 1 = (html (s.data.toList.take (i + 1))).length ∧ ∃ cur', (wr.setCell ⟨g, j, none⟩ (.int .u8 ((s[i]'hp).toNat : Int))).heap[g]? = some (.cells cur' 5 (0, 0)) ∧ cur'.size = N ∧ cur'.toList.take (j + 1) = Lib.byteCells (html (s.data.toList.take (i + 1)))) := by
              refine Lib.hid ⟨hbel.setCell (p := ⟨g, j, none⟩) gge _, ?_, _, heap_setCell_same wr g j cur _ _ hrow, by simp [hsz], ?_⟩
              · rw [hnew, List.length_append, ← hj]; rfl
              · rw [hnew, Lib.byteCells_append, ← hpre, Array.toList_setIfInBounds, take_set_one _ _ _ (by rw [Array.length_toList]; omega)]
                rfl
            clear hlk htk hT hlen hnew hrow hpre HJ hj hbel
            go_wp2
            go_roundw
            case rel => exact ⟨i + 1, j + 1, by omega, by go_num, by go_num, HN2⟩
            case measure => simp [intOf]; omega
          | some u =>
            rw [hlk] at hT hlen hnew
            obtain ⟨nb, ncap, cs, fz, n1, n2, n3⟩ := hT
            have hu1 := reps_pos _ _ hlk
            have hjN : j + u.length ≤ N := hlen
            have hjNi : (j : Int) ≤ N := by omega
            have hnlt := blk_lt n2
            have rn : wr.cell? ⟨bb, (s[i]'hp).toNat, none⟩ = some (.slice (some ⟨nb, 0, none⟩) u.length ncap) := (hbel.cell (p := ⟨bb, (s[i]'hp).toNat, none⟩) HR.out.lt).trans n1
            have hne : ∀ W, (binOp .neq 29 (.slice (some ⟨nb, 0, none⟩) u.length ncap) (.slice none 0 0)).run Tryz.prog W = .ok (.bool true) W := fun W => run_neq_slice_nil (w := W) _ _ (some _) _ _ Tryz.underlying29
            have hul : (Lib.byteCells u).length = u.length := by simp [Lib.byteCells]
            have hsl : ∀ W, (Instr.slice 29 (.slice (some ⟨g, 0, none⟩) N N) (some (.int .i64 (j : Int))) none none).run Tryz.prog W = .ok (.slice (some ⟨g, j, none⟩) (N - j) (N - j)) W := fun W => by
              have h := run_slice_low (P := Tryz.prog) (size := 1) Tryz.underlying29 Tryz.sizeOf5 (some ⟨g, 0, none⟩) N N j _ rfl (by omega) (Nat.le_refl _) W
              have hNj : ¬ N = j := by omega
              rw [if_neg hNj] at h
              simpa [addr_add] using h
            have hcp := run_copy_row (P := Tryz.prog) wr.drew 29 29 3 5 g j (N - j) (N - j) ⟨nb, 0, none⟩ u.length ncap cur 5 (Lib.byteCells u) Tryz.underlying29 (by kernel_rfl) (show wr.drew.heap[g]? = _ from hrow) (by rw [hul]; exact (Nat.min_eq_left (by omega)).symm) (by
              intro q v hv
              rw [addr_add, cell_row (show wr.drew.heap[nb]? = _ from (hbel.block nb hnlt).trans n2)]
              unfold Lib.byteCells at hv
              rw [List.getElem?_map] at hv
              obtain ⟨c, hc, rfl⟩ := Option.map_eq_some_iff.1 hv
              exact n3 q c hc) (by rw [hul]; omega) (bytes_one u)
            rw [hul] at hcp
            have HN2 : Hid (Below w.heap.size w (wr.drew.setRow g (cur.toList.take j ++ Lib.byteCells u ++ cur.toList.drop (j + u.length)).toArray) ∧ j + u.length = (html (s.data.toList.take (i + 1))).length ∧ ∃ cur', (wr.drew.setRow g (cur.toList.take j ++ Lib.byteCells u ++ cur.toList.drop (j + u.length)).toArray).heap[g]? = some (.cells cur' 5 (0, 0)) ∧ cur'.size = N ∧ cur'.toList.take (j + u.length) = Lib.byteCells (html (s.data.toList.take (i + 1)))) := by
              refine Lib.hid ⟨⟨hbel.os, hbel.tape, hbel.output, by rw [setRow_size]; exact hbel.size, fun k hk => (setRow_other _ _ _ _ (by omega)).trans (hbel.block k hk)⟩, ?_, _, setRow_heap wr.drew g cur _ _ _ hrow, ?_, ?_⟩
              · rw [hnew, List.length_append, ← hj]; rfl
              · rw [List.size_toArray, List.length_append, List.length_append, List.length_take, List.length_drop, Array.length_toList, hul]
                omega
              · rw [hnew, Lib.byteCells_append, ← hpre]
                show (cur.toList.take j ++ Lib.byteCells u ++ cur.toList.drop (j + u.length)).take (j + u.length) = cur.toList.take j ++ Lib.byteCells u
                rw [List.take_append_of_le_length (by rw [List.length_append, List.length_take, Array.length_toList (xs := cur), hul, hsz]; omega), List.take_of_length_le (by rw [List.length_append, List.length_take, hul]; omega)]
            clear hlk htk hlen hnew hrow hpre HJ hj hbel n1 n2 n3
            generalize wr.drew.setRow g (cur.toList.take j ++ Lib.byteCells u ++ cur.toList.drop (j + u.length)).toArray = w2 at hcp HN2
            go_upto_region 28 with fail
            go_region
            all_goals
              go_wp2
              go_roundw
              case rel => exact ⟨i + 1, j + u.length, by omega, by go_num, by go_num, HN2⟩
              case measure => simp [intOf]; omega
        · have hpi : ¬ (i : Int) < s.size := by omega
          have hw : s.data.toList.take i = s.data.toList := List.take_of_length_le (by rw [← Lib.size_eq]; omega)
          obtain ⟨hbel, hj, cur, hrow, hsz, hpre⟩ := HJ.out
          rw [hw] at hj hpre
          have hjN : j = N := hj.trans HL2.out
          have hcv : (convert 29 9 (.slice (some ⟨g, 0, none⟩) N N)).run Tryz.prog wr = .ok (.string ⟨(html s.data.toList).toArray⟩) wr := by
            have := run_convert_bytes_back (P := Tryz.prog) wr 29 9 5 ⟨g, 0, none⟩ N (html s.data.toList) Tryz.underlying29 Tryz.underlying5 Tryz.underlying9 (by
              intro q hq
              rw [addr_add, cell_row hrow, ← Array.getElem?_toList]
              have e : (cur.toList.take j)[q]? = (Lib.byteCells (html s.data.toList))[q]? := by rw [hpre]
              rw [List.getElem?_take_of_lt (by omega)] at e
              rw [e]
              simp [Lib.byteCells, hq])
            rw [HL2.out] at this
            exact this
          clear hrow hpre hj HJ hw
          go_wp2
          go_ret
          exact ⟨rfl, hbel⟩
end Go.Proofs.YtipbmagondoooaaGreatDoor
