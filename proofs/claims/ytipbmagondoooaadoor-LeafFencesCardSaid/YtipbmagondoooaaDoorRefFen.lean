/-
  The reference's fence: it answers as the program's, at every line.
-/
import Derived.Test.YtipbmagondoooaaDoorFen
import Derived.Deep.RegionWith
namespace Go.Proofs.YtipbmagondoooaaDoor
open Go.RowKit

theorem fence_ret {x : Int} {a n : Nat} {l : List UInt8} (h : x = (a : Int)) : Ending.returned (.tuple #[.int .u8 x, .int .i64 (n : Int), .string ⟨l.toArray⟩]) = .returned (fenceRes (a, n, l)) := by
  rw [h]; rfl
theorem contains_at (l : List UInt8) (i : Nat) (h : i < l.length) (c : UInt8) : (l.drop i).contains c = (c == l[i] || (l.drop (i + 1)).contains c) := by
  rw [List.drop_eq_getElem_cons h, List.contains_cons]
set_option maxHeartbeats 1000000 in
set_option maxRecDepth 100000 in
theorem refFence_any (s : ByteArray) (w : World) (hs : s.size ≤ 1000000) :
    Calls Tryd.prog 19 #[.string s] w fun e w' => e = .returned (fenceRes (fenceL s.data.toList)) ∧ Below w.heap.size w w' := by
  obtain ⟨P, hP⟩ : ∃ P, P = fenceL s.data.toList := ⟨_, rfl⟩
  rw [← hP]
  by_cases h0 : 0 < s.size
  · have h0i : (0 : Int) < s.size := by omega
    have hse : s.toList.isEmpty = false := by
      rw [ByteArray.toList_eq]
      cases hl : s.data.toList with
      | nil => rw [Lib.size_eq, hl] at h0; exact absurd h0 (by decide)
      | cons _ _ => rfl
    have hrun : ∀ c, (s[0]'h0) ≠ c → runL s.data.toList c = 0 := fun c hc => by
      have := run_step s 0 h0 c
      rw [if_neg hc] at this
      exact this
    by_cases h96 : (s[0]'h0) = 96
    · have r2 := hrun 126 (by rw [h96]; decide)
      unfold fenceL at hP
      rw [r2, if_neg (show ¬ 3 ≤ 0 by omega)] at hP
      have hle := runL_le s.data.toList 96
      rw [← Lib.size_eq] at hle
      have hM := fun W => many_any s ((s[0]'h0).toNat : Int) 96 W (by rw [h96]) hs
      have hSt := fun W => refStrip_any (s.extract (runL s.data.toList 96) s.size) W (by rw [ByteArray.size_extract]; omega)
      rw [drop_text s _ hle] at hSt
      simp only at hSt
      rw [← drop_text s _ hle] at hSt
      have hUn := fun W => refUnescape_any ⟨(Lib.trimS (s.data.toList.drop (runL s.data.toList 96)) blanks).toArray⟩ W (by
        rw [Lib.size_eq]
        have := trims_le blanks (s.data.toList.drop (runL s.data.toList 96))
        rw [List.length_drop, ← Lib.size_eq] at this
        show (Lib.trimS _ _).length ≤ _
        omega)
      simp only at hUn
      have hf : fenceOf s.data.toList 96 = Spec.unesc (Lib.trimS (s.data.toList.drop (runL s.data.toList 96)) blanks) := rfl
      rw [← hf] at hUn
      obtain ⟨n, hn⟩ : ∃ n, n = runL s.data.toList 96 := ⟨_, rfl⟩
      rw [← hn] at hle hM hSt hUn hP hf
      have hsl : ∀ W, (Instr.slice 9 (.string s) (some (.int .i64 (n : Int))) none none).run Tryd.prog W = .ok (.string (s.extract n s.size)) W := fun W => by
        rw [run_slice_string_from_if W _ _ .i64 _ Tryd.underlying9, if_pos ⟨by omega, by omega⟩]
        rfl
      generalize (⟨(Lib.trimS (s.data.toList.drop n) blanks).toArray⟩ : ByteArray) = a1 at hSt hUn
      generalize fenceOf s.data.toList 96 = ya at hUn hP
      have HP := Lib.hid hP
      have HCZ : Hid (((s[0]'h0).toNat : Int) = ((96 : Nat) : Int)) := Lib.hid (by rw [h96]; rfl)
      have k1 : (((s[0]'h0).toNat : Int) == 96) = true := by rw [h96]; rfl
      have k3 : (((s[0]'h0).toNat : Int) != 96) = false := by rw [h96]; rfl
      have HC : Hid (∀ i (h : i < s.size), (s.data.toList.drop i).contains 96 = (((s[i]'h).toNat : Int) == 96 || (s.data.toList.drop (i + 1)).contains 96)) := Lib.hid (fun i h => by
        rw [contains_at _ i (by rw [← Lib.size_eq]; exact h)]
        congr 1
        rw [Bool.eq_iff_iff, beq_iff_eq, beq_iff_eq]
        show (96 = s[i]'h) ↔ _
        constructor
        · intro e; rw [← e]; rfl
        · intro e; exact (UInt8.toNat_inj.1 (by have : (96 : UInt8).toNat = 96 := rfl; omega)).symm)
      clear hP h96 hf hn r2 hrun
      go_enter Tryd.func19, Tryd.ntmps19
      go_wp2_with (go_at_call 39; refine (hM _).mono ?_; rintro e w1 ⟨rfl, rfl⟩)
      go_loop [6] (fun v => ∃ i : Nat, i ≤ s.size ∧ v = .int .i64 i ∧ Hid ((s.data.toList.drop n).contains 96 = (s.data.toList.drop i).contains 96)) (fun v => s.size - (intOf v).toNat)
      case atStart => exact ⟨n, hle, rfl, Lib.hid rfl⟩
      case round =>
        obtain ⟨i, hi, rfl, HR⟩ := hrel
        by_cases hp : i < s.size
        · have hpi : (i : Int) < s.size := by omega
          have HC1 := HC.out i hp
          cases he : (((s[i]'hp).toNat : Int) == 96) with
          | true =>
            rw [he, Bool.true_or] at HC1
            have HF : Hid (P = (0, 0, [])) := Lib.hid (by rw [HP.out, if_neg (fun h => by rw [HR.out, HC1] at h; cases h.2)])
            clear HC1 HC HR HP
            go_wp2
            go_ret3
            exact ⟨by rw [HF.out]; rfl, Below.refl _ _⟩
          | false =>
            rw [he, Bool.false_or] at HC1
            have HS : Hid ((s.data.toList.drop n).contains 96 = (s.data.toList.drop (i + 1)).contains 96) := Lib.hid (by rw [HR.out, HC1])
            clear HC1 HC HR HP
            go_wp2
            go_round
            case rel => exact ⟨i + 1, by omega, by go_num, HS⟩
            case measure => simp [intOf]; omega
        · have hpi : ¬ (i : Int) < s.size := by omega
          have HN : Hid ((s.data.toList.drop n).contains 96 = false) := Lib.hid (by rw [HR.out, List.drop_of_length_le (by rw [← Lib.size_eq]; omega)]; rfl)
          by_cases h3 : 3 ≤ n
          · have h3i : ¬ ((n : Int) < 3) := by omega
            have HF : Hid (P = (96, n, ya)) := Lib.hid (by rw [HP.out, if_pos ⟨h3, HN.out⟩])
            clear HC HR HP HN
            go_wp2_with fail
            all_goals
              go_region_with (first | (go_at_call 40; refine (hSt _).mono ?_; rintro e w2 ⟨rfl, rfl⟩) | (go_at_call 13; refine (hUn _).mono ?_; rintro e w3 ⟨rfl, hb3⟩))
            all_goals
              go_wp2
              go_ret3
              exact ⟨(fence_ret HCZ.out).trans (by rw [HF.out]), Below.trans (below_drew (Below.refl _ _)) hb3⟩
          · have h3i : (n : Int) < 3 := by omega
            have HF : Hid (P = (0, 0, [])) := Lib.hid (by rw [HP.out, if_neg (fun h => h3 h.1)])
            clear HC HR HP HN
            go_wp2
            go_ret3
            exact ⟨by rw [HF.out]; rfl, Below.refl _ _⟩
    · by_cases h126 : (s[0]'h0) = 126
      · have r1 := hrun 96 (by rw [h126]; decide)
        unfold fenceL at hP
        rw [r1, if_neg (fun h => absurd h.1 (show ¬ 3 ≤ 0 by omega))] at hP
        have hle := runL_le s.data.toList 126
        rw [← Lib.size_eq] at hle
        have hM := fun W => many_any s ((s[0]'h0).toNat : Int) 126 W (by rw [h126]) hs
        have hSt := fun W => refStrip_any (s.extract (runL s.data.toList 126) s.size) W (by rw [ByteArray.size_extract]; omega)
        rw [drop_text s _ hle] at hSt
        simp only at hSt
        rw [← drop_text s _ hle] at hSt
        have hUn := fun W => refUnescape_any ⟨(Lib.trimS (s.data.toList.drop (runL s.data.toList 126)) blanks).toArray⟩ W (by
          rw [Lib.size_eq]
          have := trims_le blanks (s.data.toList.drop (runL s.data.toList 126))
          rw [List.length_drop, ← Lib.size_eq] at this
          show (Lib.trimS _ _).length ≤ _
          omega)
        simp only at hUn
        have hf : fenceOf s.data.toList 126 = Spec.unesc (Lib.trimS (s.data.toList.drop (runL s.data.toList 126)) blanks) := rfl
        rw [← hf] at hUn
        obtain ⟨n, hn⟩ : ∃ n, n = runL s.data.toList 126 := ⟨_, rfl⟩
        rw [← hn] at hle hM hSt hUn hP hf
        have hsl : ∀ W, (Instr.slice 9 (.string s) (some (.int .i64 (n : Int))) none none).run Tryd.prog W = .ok (.string (s.extract n s.size)) W := fun W => by
          rw [run_slice_string_from_if W _ _ .i64 _ Tryd.underlying9, if_pos ⟨by omega, by omega⟩]
          rfl
        generalize (⟨(Lib.trimS (s.data.toList.drop n) blanks).toArray⟩ : ByteArray) = a1 at hSt hUn
        generalize fenceOf s.data.toList 126 = ya at hUn hP
        have HCZ : Hid (((s[0]'h0).toNat : Int) = ((126 : Nat) : Int)) := Lib.hid (by rw [h126]; rfl)
        have k1 : (((s[0]'h0).toNat : Int) == 96) = false := by rw [h126]; decide
        have k2 : (((s[0]'h0).toNat : Int) != 126) = false := by rw [h126]; rfl
        have k3 : (((s[0]'h0).toNat : Int) != 96) = true := by rw [h126]; decide
        have HP := Lib.hid hP
        clear hP h96 h126 hf hn r1 hrun
        by_cases h3 : 3 ≤ n
        · have h3i : ¬ ((n : Int) < 3) := by omega
          have HF : Hid (P = (126, n, ya)) := Lib.hid (by rw [HP.out, if_pos h3])
          clear HP
          go_enter Tryd.func19, Tryd.ntmps19
          go_wp2_with (go_at_call 39; refine (hM _).mono ?_; rintro e w1 ⟨rfl, rfl⟩)
          go_loop [6] (fun v => v = .int .i64 n) (fun _ => 0)
          case atStart => rfl
          case round =>
            subst hrel
            go_wp2_with fail
            all_goals
              go_region_with (first | (go_at_call 40; refine (hSt _).mono ?_; rintro e w2 ⟨rfl, rfl⟩) | (go_at_call 13; refine (hUn _).mono ?_; rintro e w3 ⟨rfl, hb3⟩))
            all_goals
              go_wp2
              go_ret3
              exact ⟨(fence_ret HCZ.out).trans (by rw [HF.out]), Below.trans (below_drew (Below.refl _ _)) hb3⟩
        · have h3i : (n : Int) < 3 := by omega
          have HF : Hid (P = (0, 0, [])) := Lib.hid (by rw [HP.out, if_neg h3])
          clear HP
          go_enter Tryd.func19, Tryd.ntmps19
          go_wp2_with (go_at_call 39; refine (hM _).mono ?_; rintro e w1 ⟨rfl, rfl⟩)
          go_loop [6] (fun v => v = .int .i64 n) (fun _ => 0)
          case atStart => rfl
          case round =>
            subst hrel
            go_wp2
            all_goals
              go_ret3
              exact ⟨by rw [HF.out]; rfl, Below.refl _ _⟩
      · have r1 := hrun 96 h96
        have r2 := hrun 126 h126
        unfold fenceL at hP
        rw [r1, r2, if_neg (fun h => absurd h.1 (show ¬ 3 ≤ 0 by omega)), if_neg (show ¬ 3 ≤ 0 by omega)] at hP
        have HF := Lib.hid hP
        have k1 : (((s[0]'h0).toNat : Int) == 96) = false := beq_eq_false_iff_ne.2 (fun e => h96 (UInt8.toNat_inj.1 (by have : (96 : UInt8).toNat = 96 := rfl; omega)))
        have k2 : (((s[0]'h0).toNat : Int) == 126) = false := beq_eq_false_iff_ne.2 (fun e => h126 (UInt8.toNat_inj.1 (by have : (126 : UInt8).toNat = 126 := rfl; omega)))
        have k3 : (((s[0]'h0).toNat : Int) != 96) = true := by rw [bne, k1]; rfl
        have k4 : (((s[0]'h0).toNat : Int) != 126) = true := by rw [bne, k2]; rfl
        clear hP h96 h126 r1 r2 hrun
        go_enter Tryd.func19, Tryd.ntmps19
        go_wp2
        go_ret3
        exact ⟨by rw [HF.out]; rfl, Below.refl _ _⟩
  · have h0i : ¬ (0 : Int) < s.size := by omega
    have hl : s.data.toList = [] := List.length_eq_zero_iff.1 (by rw [← Lib.size_eq]; omega)
    have hse : s.toList.isEmpty = true := by rw [ByteArray.toList_eq, hl]; rfl
    have HF : Hid (P = (0, 0, [])) := Lib.hid (by rw [hP, hl]; rfl)
    clear hP hl
    go_enter Tryd.func19, Tryd.ntmps19
    go_wp2
    go_ret3
    exact ⟨by rw [HF.out]; rfl, Below.refl _ _⟩
end Go.Proofs.YtipbmagondoooaaDoor
