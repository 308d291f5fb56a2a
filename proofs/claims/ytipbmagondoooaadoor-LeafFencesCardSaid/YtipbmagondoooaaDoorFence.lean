/-
  The leaves' small functions: how many of a sign a text begins with; a text without blanks at its ends.
-/
import Derived.Test.YtipbmagondoooaaDoorUnesc
import Derived.Test.YtipbmagondoooaaDoorClass
import Derived.Shelf.Strings.SlTrimAscii
import Derived.Handy
namespace Go.Proofs.YtipbmagondoooaaDoor
open Go.RowKit

/-- How many of a byte a text begins with. -/
def runL (l : List UInt8) (c : UInt8) : Nat := (l.takeWhile (· == c)).length
theorem runL_le (l : List UInt8) (c : UInt8) : runL l c ≤ l.length := by
  unfold runL
  exact (List.takeWhile_sublist _).length_le
theorem runL_cons (l : List UInt8) (c d : UInt8) : runL (d :: l) c = if d = c then runL l c + 1 else 0 := by
  unfold runL
  rw [List.takeWhile_cons]
  by_cases h : d = c
  · rw [if_pos (beq_iff_eq.2 h), if_pos h]; rfl
  · rw [if_neg (fun e => h (beq_iff_eq.1 e)), if_neg h]; rfl
/-- The texts of two functions that count are alike but for their numbers. -/
theorem run_step (s : ByteArray) (i : Nat) (h : i < s.size) (c : UInt8) : runL (s.data.toList.drop i) c = if (s[i]'h) = c then runL (s.data.toList.drop (i + 1)) c + 1 else 0 := by
  have hb : s.data.toList.drop i = (s[i]'h) :: s.data.toList.drop (i + 1) := by
    rw [List.drop_eq_getElem_cons (by simpa using h)]; rfl
  rw [hb, runL_cons]

set_option maxHeartbeats 4000000 in
set_option maxRecDepth 100000 in
theorem run_any (s : ByteArray) (x : Int) (c : UInt8) (w : World) (hc : (c.toNat : Int) = x) (hs : s.size ≤ 1000000) :
    Calls Tryd.prog 37 #[.string s, .int .u8 x] w fun e w' => e = .returned (.int .i64 (runL s.data.toList c : Int)) ∧ w' = w := by
  have HC := Lib.hid hc
  clear hc
  go_enter Tryd.func37, Tryd.ntmps37
  go_wp2
  go_loop [5] (fun v => ∃ i : Nat, i ≤ s.size ∧ v = .int .i64 i ∧ Hid (i + runL (s.data.toList.drop i) c = runL s.data.toList c)) (fun v => s.size - (intOf v).toNat)
  case atStart => exact ⟨0, Nat.zero_le _, rfl, Lib.hid (by simp)⟩
  case round =>
    obtain ⟨i, hi, rfl, HR⟩ := hrel
    by_cases hp : i < s.size
    · have hpi : (i : Int) < s.size := by omega
      have hst := run_step s i hp c
      by_cases h : (s[i]'hp) = c
      · rw [if_pos h] at hst
        have HS : Hid (i + 1 + runL (s.data.toList.drop (i + 1)) c = runL s.data.toList c) := Lib.hid (by have := HR.out; omega)
        have hb : (((s[i]'hp).toNat : Int) == x) = true := by rw [h, HC.out]; exact beq_self_eq_true x
        clear hst h HR HC
        go_wp2
        go_round
        case rel => exact ⟨i + 1, by omega, by go_num, HS⟩
        case measure => simp [intOf]; omega
      · rw [if_neg h] at hst
        have HS : Hid (runL s.data.toList c = i) := Lib.hid (by have := HR.out; omega)
        have hb : (((s[i]'hp).toNat : Int) == x) = false := beq_eq_false_iff_ne.2 (fun e => h (UInt8.toNat_inj.1 (by have := HC.out; omega)))
        clear hst h HR HC
        go_wp2
        go_ret
        exact ⟨ret_int (by rw [HS.out]), rfl⟩
    · have hpi : ¬ (i : Int) < s.size := by omega
      have HS : Hid (runL s.data.toList c = i) := Lib.hid (by
        have := HR.out
        rw [List.drop_of_length_le (by rw [← Lib.size_eq]; omega)] at this
        exact this.symm)
      clear HR HC
      go_wp2
      go_ret
      exact ⟨ret_int (by rw [HS.out]), rfl⟩
set_option maxHeartbeats 4000000 in
set_option maxRecDepth 100000 in
theorem many_any (s : ByteArray) (x : Int) (c : UInt8) (w : World) (hc : (c.toNat : Int) = x) (hs : s.size ≤ 1000000) :
    Calls Tryd.prog 39 #[.string s, .int .u8 x] w fun e w' => e = .returned (.int .i64 (runL s.data.toList c : Int)) ∧ w' = w := by
  have HC := Lib.hid hc
  clear hc
  go_enter Tryd.func39, Tryd.ntmps39
  go_wp2
  go_loop [5] (fun v => ∃ i : Nat, i ≤ s.size ∧ v = .int .i64 i ∧ Hid (i + runL (s.data.toList.drop i) c = runL s.data.toList c)) (fun v => s.size - (intOf v).toNat)
  case atStart => exact ⟨0, Nat.zero_le _, rfl, Lib.hid (by simp)⟩
  case round =>
    obtain ⟨i, hi, rfl, HR⟩ := hrel
    by_cases hp : i < s.size
    · have hpi : (i : Int) < s.size := by omega
      have hst := run_step s i hp c
      by_cases h : (s[i]'hp) = c
      · rw [if_pos h] at hst
        have HS : Hid (i + 1 + runL (s.data.toList.drop (i + 1)) c = runL s.data.toList c) := Lib.hid (by have := HR.out; omega)
        have hb : (((s[i]'hp).toNat : Int) == x) = true := by rw [h, HC.out]; exact beq_self_eq_true x
        clear hst h HR HC
        go_wp2
        go_round
        case rel => exact ⟨i + 1, by omega, by go_num, HS⟩
        case measure => simp [intOf]; omega
      · rw [if_neg h] at hst
        have HS : Hid (runL s.data.toList c = i) := Lib.hid (by have := HR.out; omega)
        have hb : (((s[i]'hp).toNat : Int) == x) = false := beq_eq_false_iff_ne.2 (fun e => h (UInt8.toNat_inj.1 (by have := HC.out; omega)))
        clear hst h HR HC
        go_wp2
        go_ret
        exact ⟨ret_int (by rw [HS.out]), rfl⟩
    · have hpi : ¬ (i : Int) < s.size := by omega
      have HS : Hid (runL s.data.toList c = i) := Lib.hid (by
        have := HR.out
        rw [List.drop_of_length_le (by rw [← Lib.size_eq]; omega)] at this
        exact this.symm)
      clear HR HC
      go_wp2
      go_ret
      exact ⟨ret_int (by rw [HS.out]), rfl⟩

/-! ### strip -/
def blanks : List UInt8 := [32, 9]
set_option maxRecDepth 100000 in
theorem strip_any (s : ByteArray) (w : World) (hs : s.size ≤ 1000000) :
    Calls Tryd.prog 38 #[.string s] w fun e w' => e = .returned (.string ⟨(Lib.trimS s.data.toList blanks).toArray⟩) ∧ Below w.heap.size w w' := by
  have hT : ∀ W, Calls Tryd.prog 52 #[.string s, .string ⟨#[32, 9]⟩] W fun e w' => e = .returned (.string ⟨(Lib.trimS s.data.toList blanks).toArray⟩) ∧ Below W.heap.size W w' := fun W =>
    Any.strings_Trim_laid Tryd.lays160 (by kernel_rfl) s ⟨#[32, 9]⟩ W (by omega) (by decide) (ascii_of_all (by decide))
  generalize (⟨(Lib.trimS s.data.toList blanks).toArray⟩ : ByteArray) = r at hT ⊢
  go_enter Tryd.func38, Tryd.ntmps38
  go_wp2_with (go_at_call 52; refine (hT _).mono ?_; rintro e w1 ⟨rfl, hb⟩)
  go_ret
  exact ⟨rfl, hb⟩

/-! ### Right and Strip -/
set_option maxHeartbeats 4000000 in
set_option maxRecDepth 100000 in
theorem blank_any (c : UInt8) (w : World) :
    Calls Tryd.prog 53 #[.int .u8 (c.toNat : Int)] w fun e w' => e = .returned (.bool (blanks.contains c)) ∧ w' = w := by
  obtain ⟨x, hx⟩ : ∃ x : Int, x = (c.toNat : Int) := ⟨_, rfl⟩
  have hb : ((x == 32) || (x == 9)) = blanks.contains c := by
    unfold blanks
    rw [hx, Bool.eq_iff_iff, Bool.or_eq_true, beq_iff_eq, beq_iff_eq, List.contains_iff_mem, List.mem_cons, List.mem_singleton]
    constructor
    · rintro (h | h)
      · exact .inl (UInt8.toNat_inj.1 (by have : (32 : UInt8).toNat = 32 := rfl; omega))
      · exact .inr (UInt8.toNat_inj.1 (by have : (9 : UInt8).toNat = 9 := rfl; omega))
    · rintro (h | h)
      · exact .inl (by rw [h]; rfl)
      · exact .inr (by rw [h]; rfl)
  rw [← hb, ← hx]
  clear hb hx
  cases h1 : x == 32 with
  | true =>
    go_enter Tryd.func53, Tryd.ntmps53
    go_wp2
    go_ret
    exact ⟨rfl, rfl⟩
  | false =>
    cases h2 : x == 9 with
    | true =>
      go_enter Tryd.func53, Tryd.ntmps53
      go_wp2
      go_ret
      exact ⟨rfl, rfl⟩
    | false =>
      go_enter Tryd.func53, Tryd.ntmps53
      go_wp2
      go_ret
      exact ⟨rfl, rfl⟩

theorem right_cons (cs : List UInt8) (x : UInt8) (t : List UInt8) : Lib.trimRightS (x :: t) cs = if (Lib.trimRightS t cs).isEmpty = true then (if cs.contains x = true then [] else [x]) else x :: Lib.trimRightS t cs := by
  unfold Lib.trimRightS
  rw [List.reverse_cons, List.dropWhile_append]
  by_cases h : (List.dropWhile (fun b => cs.contains b) t.reverse).isEmpty = true
  · rw [if_pos h, if_pos (by simpa using h)]
    rw [List.dropWhile_cons]
    by_cases hx : cs.contains x = true
    · rw [if_pos hx, if_pos hx]; rfl
    · rw [if_neg hx, if_neg hx]; rfl
  · rw [if_neg h, if_neg (by simpa using h), List.reverse_append]; rfl
theorem trims_commute (cs : List UInt8) : ∀ l : List UInt8, Lib.trimS l cs = Lib.trimRightS (Lib.trimLeftS l cs) cs
  | [] => rfl
  | x :: t => by
    have ih := trims_commute cs t
    unfold Lib.trimS Lib.trimLeftS at ih ⊢
    rw [right_cons, List.dropWhile_cons]
    by_cases hx : cs.contains x = true
    · rw [if_pos hx, if_pos hx, ← ih]
      by_cases h : (Lib.trimRightS t cs).isEmpty = true
      · rw [if_pos h]
        rw [List.isEmpty_iff] at h
        rw [h]
      · rw [if_neg h, List.dropWhile_cons, if_pos hx]
    · rw [if_neg hx, if_neg hx, right_cons]
      by_cases h : (Lib.trimRightS t cs).isEmpty = true
      · rw [if_pos h, if_pos h, if_neg hx, List.dropWhile_cons, if_neg hx]
      · rw [if_neg h, if_neg h, List.dropWhile_cons, if_neg hx]
theorem trims_nil (cs l : List UInt8) : (Lib.trimS l cs = []) ↔ (Lib.trimRightS l cs = []) := by
  unfold Lib.trimS Lib.trimLeftS
  constructor
  · intro h
    have h1 := List.all_eq_true.1 ((dropWhile_nil _ _).1 h)
    by_cases he : Lib.trimRightS l cs = []
    · exact he
    · exfalso
      -- the last byte of what is left is no blank
      unfold Lib.trimRightS at h1 he
      have hne : l.reverse.dropWhile (fun b => cs.contains b) ≠ [] := fun e => he (by rw [e]; rfl)
      have hd := List.head_dropWhile_not (fun b => cs.contains b) hne
      have hm := List.head_mem hne
      rw [h1 _ (List.mem_reverse.2 hm)] at hd
      cases hd
  · intro h; rw [h]; rfl

theorem right_snoc (cs l : List UInt8) (c : UInt8) : Lib.trimRightS (l ++ [c]) cs = if cs.contains c = true then Lib.trimRightS l cs else l ++ [c] := by
  unfold Lib.trimRightS
  rw [List.reverse_append, List.reverse_singleton, List.singleton_append, List.dropWhile_cons]
  by_cases h : cs.contains c = true
  · rw [if_pos h, if_pos h]
  · rw [if_neg h, if_neg h]; simp
theorem last_text (t : ByteArray) (h : 0 < t.size) : t.data.toList = (t.extract 0 (t.size - 1)).data.toList ++ [t[t.size - 1]'(by omega)] := by
  have h1 : t.data.toList = t.data.toList.take (t.size - 1) ++ t.data.toList.drop (t.size - 1) := (List.take_append_drop _ _).symm
  have h2 : t.data.toList.drop (t.size - 1) = [t[t.size - 1]'(by omega)] := by
    rw [List.drop_eq_getElem_cons (show t.size - 1 < t.data.toList.length by rw [← Lib.size_eq]; omega), List.drop_of_length_le (by rw [← Lib.size_eq]; omega)]
    rfl
  rw [take_text]
  simp only
  rw [← h2]
  exact h1
set_option maxHeartbeats 4000000 in
set_option maxRecDepth 100000 in
theorem right_any (s : ByteArray) (w : World) (hs : s.size ≤ 1000000) :
    Calls Tryd.prog 41 #[.string s] w fun e w' => e = .returned (.string ⟨(Lib.trimRightS s.data.toList blanks).toArray⟩) ∧ w' = w := by
  go_enter Tryd.func41, Tryd.ntmps41
  go_wp2
  go_loop [0] (fun v => ∃ t : ByteArray, v = .string t ∧ t.size ≤ 1000000 ∧ Hid (Lib.trimRightS t.data.toList blanks = Lib.trimRightS s.data.toList blanks)) (fun v => match v with | .string t => t.size | _ => 0)
  case atStart => exact ⟨s, rfl, hs, Lib.hid rfl⟩
  case round =>
    obtain ⟨t, rfl, ht, HT⟩ := hrel
    by_cases h0 : 0 < t.size
    · have h0i : (0 : Int) < t.size := by omega
      have hl := last_text t h0
      obtain ⟨c, hc⟩ : ∃ c, c = t[t.size - 1]'(by omega) := ⟨_, rfl⟩
      obtain ⟨t2, ht2⟩ : ∃ t2, t2 = t.extract 0 (t.size - 1) := ⟨_, rfl⟩
      have hix : ∀ W, (Instr.index 9 (.string t) (.int .i64 ((t.size : Int) - 1))).run Tryd.prog W = .ok (.int .u8 (c.toNat : Int)) W := fun W => by
        rw [run_index_string _ _ _ _ _ Tryd.underlying9, dif_pos ⟨by omega, by omega⟩, hc]
        have : ((t.size : Int) - 1).toNat = t.size - 1 := by omega
        simp only [this]
      have hsl : ∀ W, (Instr.slice 9 (.string t) none (some (.int .i64 ((t.size : Int) - 1))) none).run Tryd.prog W = .ok (.string t2) W := fun W => by
        rw [run_slice_string_to_if W _ _ .i64 _ Tryd.underlying9, if_pos ⟨by omega, by omega⟩, ht2, show ((t.size : Int) - 1).toNat = t.size - 1 by omega]
      have hB := fun W => blank_any c W
      rw [← ht2, ← hc] at hl
      have hz2 : t2.size < t.size := by rw [ht2, ByteArray.size_extract]; omega
      have hrs := right_snoc blanks t2.data.toList c
      rw [← hl] at hrs
      cases hb : blanks.contains c with
      | true =>
        rw [hb] at hB
        rw [if_pos hb, HT.out] at hrs
        have HS := Lib.hid hrs.symm
        clear hb hrs hl hc ht2 HT
        go_wp2_with (go_at_call 53; refine (hB _).mono ?_; rintro e w1 ⟨rfl, rfl⟩)
        go_round
        case rel => exact ⟨t2, rfl, by omega, HS⟩
        case measure => simp; omega
      | false =>
        rw [hb] at hB
        rw [if_neg (by rw [hb]; simp), HT.out] at hrs
        have HS : Hid ((⟨(Lib.trimRightS s.data.toList blanks).toArray⟩ : ByteArray) = t) := Lib.hid (by rw [hrs])
        clear hb hrs hl hc ht2 HT
        go_wp2_with (go_at_call 53; refine (hB _).mono ?_; rintro e w1 ⟨rfl, rfl⟩)
        go_ret
        exact ⟨ret_str HS.out.symm, rfl⟩
    · have h0i : ¬ (0 : Int) < t.size := by omega
      have HS : Hid ((⟨(Lib.trimRightS s.data.toList blanks).toArray⟩ : ByteArray) = t) := Lib.hid (by
        have hn : t.data.toList = [] := List.length_eq_zero_iff.1 (by rw [← Lib.size_eq]; omega)
        rw [← HT.out, hn]
        have : t = ⟨t.data.toList.toArray⟩ := by simp
        rw [this, hn]; rfl)
      clear HT
      go_wp2
      go_ret
      exact ⟨ret_str HS.out.symm, rfl⟩

set_option maxHeartbeats 4000000 in
set_option maxRecDepth 100000 in
theorem refStrip_any (s : ByteArray) (w : World) (hs : s.size ≤ 1000000) :
    Calls Tryd.prog 40 #[.string s] w fun e w' => e = .returned (.string ⟨(Lib.trimS s.data.toList blanks).toArray⟩) ∧ w' = w := by
  rw [trims_commute]
  go_enter Tryd.func40, Tryd.ntmps40
  go_wp2
  go_loop [0] (fun v => ∃ t : ByteArray, v = .string t ∧ t.size ≤ 1000000 ∧ Hid (Lib.trimLeftS t.data.toList blanks = Lib.trimLeftS s.data.toList blanks)) (fun v => match v with | .string t => t.size | _ => 0)
  case atStart => exact ⟨s, rfl, hs, Lib.hid rfl⟩
  case round =>
    obtain ⟨t, rfl, ht, HT⟩ := hrel
    have hR := fun W => right_any t W ht
    by_cases h0 : 0 < t.size
    · have h0i : (0 : Int) < t.size := by omega
      obtain ⟨c, hc⟩ : ∃ c, c = t[0]'h0 := ⟨_, rfl⟩
      obtain ⟨t2, ht2⟩ : ∃ t2, t2 = t.extract 1 t.size := ⟨_, rfl⟩
      have hl : t.data.toList = c :: t2.data.toList := by
        rw [ht2, drop_text t 1 (by omega), hc]
        have := List.drop_eq_getElem_cons (show 0 < t.data.toList.length by rw [← Lib.size_eq]; omega)
        rw [List.drop_zero] at this
        rw [this]; rfl
      have hsl : ∀ W, (Instr.slice 9 (.string t) (some (.int .i64 1)) none none).run Tryd.prog W = .ok (.string t2) W := fun W => by
        rw [run_slice_string_from_if W _ _ .i64 _ Tryd.underlying9, if_pos ⟨by omega, by omega⟩, ht2]
        rfl
      have hB := fun W => blank_any c W
      have hz2 : t2.size < t.size := by rw [ht2, ByteArray.size_extract]; omega
      have hls : Lib.trimLeftS t.data.toList blanks = if blanks.contains c = true then Lib.trimLeftS t2.data.toList blanks else t.data.toList := by
        rw [hl]; unfold Lib.trimLeftS; rw [List.dropWhile_cons]
      have hcz : ((t[0]'h0).toNat : Int) = (c.toNat : Int) := by rw [hc]
      cases hb : blanks.contains c with
      | true =>
        rw [hb] at hB
        rw [if_pos hb, HT.out] at hls
        have HS := Lib.hid hls.symm
        clear hb hls hl hc ht2 HT
        go_wp2_with (go_at_call 53; refine (hB _).mono ?_; rintro e w1 ⟨rfl, rfl⟩)
        go_round
        case rel => exact ⟨t2, rfl, by omega, HS⟩
        case measure => simp; omega
      | false =>
        rw [hb] at hB
        rw [if_neg (by rw [hb]; simp), HT.out] at hls
        rw [← hls] at hR
        clear hb hls hl hc ht2 HT
        go_wp2_with (first | (go_at_call 53; refine (hB _).mono ?_; rintro e w1 ⟨rfl, rfl⟩) | (go_at_call 41; refine (hR _).mono ?_; rintro e w1 ⟨rfl, rfl⟩))
        go_ret
        exact ⟨rfl, rfl⟩
    · have h0i : ¬ (0 : Int) < t.size := by omega
      have hls : Lib.trimLeftS s.data.toList blanks = t.data.toList := by
        have hn : t.data.toList = [] := List.length_eq_zero_iff.1 (by rw [← Lib.size_eq]; omega)
        rw [← HT.out, hn]; rfl
      rw [← hls] at hR
      clear HT hls
      go_wp2_with (go_at_call 41; refine (hR _).mono ?_; rintro e w1 ⟨rfl, rfl⟩)
      go_ret
      exact ⟨rfl, rfl⟩
end Go.Proofs.YtipbmagondoooaaDoor
