/-
  Texts of one proof, joined: InA, InB, InC, InE, InCut, InF, InG, InH.
-/
import Derived.Test.YtmplfiflikhpjaaGreatDoorV01
import Derived.Test.YtmplfiflikhpjaaGreatDoorV04
import Derived.Handy
import Derived.Lib.IndexBytes
import Derived.Lib.ReplaceLaws
import Derived.Shelf.Strings.SlTrimAscii
import Derived.WalkSpells
/-
  The small functions of inline: is, ticks, pair, until.
-/
namespace Go.Proofs.YtmplfiflikhpjaaGreatDoor
open Go.RowKit

theorem contains_idx (l : List UInt8) (c : UInt8) : decide (0 ≤ Lib.indexByte l c) = l.contains c := by
  rw [Bool.eq_iff_iff, decide_eq_true_eq, List.contains_iff_mem]
  constructor
  · intro h
    obtain ⟨o, ho⟩ := Int.eq_ofNat_of_zero_le h
    exact List.mem_of_getElem? (Lib.indexByte_some ho).1
  · intro h
    have hg := Lib.indexByte_ge l c
    apply Decidable.byContradiction
    intro hn
    obtain ⟨k, hk, e⟩ := List.getElem_of_mem h
    exact Lib.indexByte_none (show Lib.indexByte l c = -1 by omega) k (by rw [List.getElem?_eq_getElem hk, e])

set_option maxHeartbeats 1000000 in
theorem is_any (c : UInt8) (of : ByteArray) (w : World) :
    Calls Tryz.prog 85 #[.int .u8 (c.toNat : Int), .string of] w fun e w' => e = .returned (.bool (of.data.toList.contains c)) ∧ w' = w := by
  rw [← contains_idx]
  have hJ : ∀ W, Calls Tryz.prog 87 #[.string of, .int .u8 (c.toNat : Int)] W fun e w' => e = .returned (.int .i64 (Lib.indexByte of.data.toList c)) ∧ W = w' := fun W => by
    have := Tryz.strings_IndexByte of (c.toNat : Int) W
    rw [show ((c.toNat : Int)).toNat.toUInt8 = c by simp] at this
    exact this.mono fun e w' h => ⟨h.1, h.2.symm⟩
  generalize Lib.indexByte of.data.toList c = i at hJ ⊢
  generalize (c.toNat : Int) = x at hJ ⊢
  go_enter Tryz.func85, Tryz.ntmps85
  go_wp2_with (go_at_call 87; refine (hJ _).mono ?_; rintro e w1 ⟨rfl, rfl⟩)
  go_ret
  exact ⟨rfl, rfl⟩

theorem run_le (l : List UInt8) (c : UInt8) : Spec.run l c ≤ l.length := by
  unfold Spec.run
  exact (List.takeWhile_sublist _).length_le
theorem run_drop (l : List UInt8) (c : UInt8) : (Lib.trimLeftB l c).length + Spec.run l c = l.length := by
  unfold Lib.trimLeftB Spec.run
  have := congrArg List.length (List.takeWhile_append_dropWhile (p := (· == c)) (l := l))
  rw [List.length_append] at this
  omega
set_option maxHeartbeats 1000000 in
theorem ticks_any (s : ByteArray) (w : World) (hs : s.size ≤ 1000000) :
    Calls Tryz.prog 41 #[.string s] w fun e w' => e = .returned (.int .i64 (Spec.ticks s.data.toList : Int)) ∧ w' = w := by
  obtain ⟨t, ht⟩ : ∃ t : ByteArray, t = ⟨(Lib.trimLeftB s.data.toList 96).toArray⟩ := ⟨_, rfl⟩
  have hT : ∀ W, Calls Tryz.prog 30 #[.string s, .string ⟨#[96]⟩] W fun e w' => e = .returned (.string t) ∧ W = w' := fun W => by
    rw [ht]
    exact (Tryz.strings_TrimLeft_one s 96 (by decide) W).mono fun e w' h => ⟨h.1, h.2.symm⟩
  have hr := run_drop s.data.toList 96
  have e1 : t.size = (Lib.trimLeftB s.data.toList 96).length := by rw [ht, Lib.size_eq]
  rw [← e1, ← Lib.size_eq] at hr
  have hle : t.size ≤ s.size := by omega
  have HR : Hid (Spec.ticks s.data.toList = s.size - t.size) := Lib.hid (by unfold Spec.ticks; omega)
  clear hr e1 ht
  go_enter Tryz.func41, Tryz.ntmps41
  go_wp2_with (go_at_call 30; refine (hT _).mono ?_; rintro e w1 ⟨rfl, rfl⟩)
  go_ret
  exact ⟨ret_int (by rw [HR.out]; omega), rfl⟩

/-! ### pair, until -/
theorem pair_cons (c d : UInt8) (u : List UInt8) : Spec.pair (c :: d :: u) = (c == 92 && Spec.sign d) := rfl
set_option maxHeartbeats 4000000 in
theorem pair_any (s : ByteArray) (w : World) (hs : s.size ≤ 1000000) :
    Calls Tryz.prog 84 #[.string s] w fun e w' => e = .returned (.bool (Spec.pair s.data.toList)) ∧ Below w.heap.size w w' := by
  by_cases h1 : 1 < s.size
  · have h1i : (1 : Int) < s.size := by omega
    have h0i : (0 : Int) < s.size := by omega
    have hd : s.data.toList = (s[0]'(by omega)) :: (s[1]'h1) :: s.data.toList.drop 2 := by
      have e0 : s.data.toList.drop 0 = (s[0]'(by omega)) :: s.data.toList.drop 1 := by rw [List.drop_eq_getElem_cons (by simpa using (show 0 < s.size by omega))]; rfl
      have e1 : s.data.toList.drop 1 = (s[1]'h1) :: s.data.toList.drop 2 := by rw [List.drop_eq_getElem_cons (by simpa using h1)]; rfl
      rw [List.drop_zero, e1] at e0
      exact e0
    rw [hd, pair_cons]
    have hS := fun W => sign_any (s[1]'h1) W
    by_cases h92 : (s[0]'(by omega)) = 92
    · have hb : (((s[0]'(by omega)).toNat : Int) == 92) = true := by rw [h92]; rfl
      rw [h92]
      generalize Spec.sign (s[1]'h1) = b at hS ⊢
      clear h92 hd
      go_enter Tryz.func84, Tryz.ntmps84
      go_wp2_with (go_at_call 92; refine (hS _).mono ?_; rintro e w1 ⟨rfl, hb1⟩)
      go_ret
      exact ⟨rfl, hb1⟩
    · have hb : (((s[0]'(by omega)).toNat : Int) == 92) = false := beq_eq_false_iff_ne.2 (fun e => h92 (UInt8.toNat_inj.1 (by have : (92 : UInt8).toNat = 92 := rfl; omega)))
      rw [beq_eq_false_iff_ne.2 h92]
      clear h92 hd hS
      go_enter Tryz.func84, Tryz.ntmps84
      go_wp2
      go_ret
      exact ⟨rfl, Below.refl _ _⟩
  · have h1i : ¬ (1 : Int) < s.size := by omega
    have hp : Spec.pair s.data.toList = false := by
      have hl : s.data.toList.length ≤ 1 := by rw [← Lib.size_eq]; omega
      match s.data.toList, hl with
      | [], _ => rfl
      | [_], _ => rfl
    rw [hp]
    clear hp
    go_enter Tryz.func84, Tryz.ntmps84
    go_wp2
    go_ret
    exact ⟨rfl, Below.refl _ _⟩

def optI : Option Nat → Int
  | none => -1
  | some n => (n : Int)
theorem until_cons (e : UInt8) (no : List UInt8) (c : UInt8) (t : List UInt8) : Spec.until_ e no (c :: t) =
    if Spec.pair (c :: t) = true then (Spec.until_ e no (t.drop 1)).map (· + 2) else if c = e then some 0 else if no.contains c = true then none else (Spec.until_ e no t).map (· + 1) := by
  cases t with
  | nil =>
    rw [show Spec.until_ e no [c] = if c = e then some 0 else none from by rw [Spec.until_], show Spec.until_ e no [] = none from by rw [Spec.until_], show Spec.pair [c] = false from rfl, if_neg Bool.false_ne_true]
    by_cases h : c = e
    · rw [if_pos h, if_pos h]
    · rw [if_neg h, if_neg h]
      split <;> rfl
  | cons d u =>
    rw [pair_cons]
    rw [show Spec.until_ e no (c :: d :: u) = if c = 92 ∧ Spec.sign d = true then (Spec.until_ e no u).map (· + 2) else if c = e then some 0 else if no.contains c = true then none else (Spec.until_ e no (d :: u)).map (· + 1) from by rw [Spec.until_]]
    by_cases h : c = 92 ∧ Spec.sign d = true
    · rw [if_pos h, if_pos (show (c == 92 && Spec.sign d) = true by rw [h.1, h.2]; rfl)]; rfl
    · rw [if_neg h, if_neg (show ¬ ((c == 92 && Spec.sign d) = true) by
        intro hh
        rw [Bool.and_eq_true, beq_iff_eq] at hh
        exact h hh)]
theorem drop_at (s : ByteArray) (pos : Nat) (hp : pos < s.size) : s.data.toList.drop pos = (s[pos]'hp) :: s.data.toList.drop (pos + 1) := by
  rw [List.drop_eq_getElem_cons (by simpa using hp)]; rfl
theorem u8_true {a b : UInt8} {x : Int} (h : a = b) (hx : (b.toNat : Int) = x) : ((a.toNat : Int) == x) = true := by rw [h, hx]; exact beq_self_eq_true x
theorem u8_false {a b : UInt8} {x : Int} (h : ¬ a = b) (hx : (b.toNat : Int) = x) : ((a.toNat : Int) == x) = false := beq_eq_false_iff_ne.2 (fun e => h (UInt8.toNat_inj.1 (by omega)))

set_option maxHeartbeats 8000000 in
set_option maxRecDepth 100000 in
theorem until_any (s no : ByteArray) (e : UInt8) (x : Int) (w : World) (hx : (e.toNat : Int) = x) (hs : s.size ≤ 1000000) :
    Calls Tryz.prog 83 #[.string s, .int .u8 x, .string no] w fun r w' => r = .returned (.int .i64 (optI (Spec.until_ e no.data.toList s.data.toList))) ∧ Below w.heap.size w w' := by
  have HX := Lib.hid hx
  clear hx
  go_enter Tryz.func83, Tryz.ntmps83
  go_wp2
  go_loopw [7] (fun v7 wr => ∃ i : Nat, i ≤ s.size ∧ v7 = .int .i64 i ∧ Hid (Spec.until_ e no.data.toList s.data.toList = (Spec.until_ e no.data.toList (s.data.toList.drop i)).map (· + i)) ∧ Below w.heap.size w wr) (fun v7 _ => s.size - (intOf v7).toNat)
  case atStart => exact ⟨0, Nat.zero_le _, rfl, Lib.hid (by rw [List.drop_zero]; simp), Below.refl _ _⟩
  case round =>
    obtain ⟨i, hi, rfl, HU, hbw⟩ := hrel
    by_cases hp : i < s.size
    · have hpi : (i : Int) < s.size := by omega
      have huc := until_cons e no.data.toList (s[i]'hp) (s.data.toList.drop (i + 1))
      rw [← drop_at s i hp] at huc
      have hext : (s.extract i s.size).data.toList = s.data.toList.drop i := by rw [drop_text s i (by omega)]
      have hP : ∀ W, Calls Tryz.prog 84 #[.string (s.extract i s.size)] W fun r w' => r = .returned (.bool (Spec.pair (s.data.toList.drop i))) ∧ Below W.heap.size W w' := fun W => by
        have := pair_any (s.extract i s.size) W (by rw [Lib.size_eq, hext, List.length_drop, ← Lib.size_eq]; omega)
        rw [hext] at this
        exact this
      have hI := fun W => is_any (s[i]'hp) no W
      clear hext
      cases hb : Spec.pair (s.data.toList.drop i) with
      | true =>
        rw [hb] at hP
        rw [if_pos hb, List.drop_drop] at huc
        have hi2 : i + 2 ≤ s.size := by
          apply Decidable.byContradiction
          intro hn
          rw [drop_at s i hp, List.drop_of_length_le (by rw [← Lib.size_eq]; omega)] at hb
          cases hb
        have HU2 : Hid (Spec.until_ e no.data.toList s.data.toList = (Spec.until_ e no.data.toList (s.data.toList.drop (i + 2))).map (· + (i + 2))) := Lib.hid (by
          rw [HU.out, huc]
          cases Spec.until_ e no.data.toList (s.data.toList.drop (i + 2)) <;> simp [Nat.add_comm, Nat.add_left_comm])
        clear huc HU hb hI
        go_wp2_with (go_at_call 84; refine (hP _).mono ?_; rintro r w1 ⟨rfl, hb1⟩)
        have hbw1 := hbw.trans (hb1.mono hbw.size)
        go_roundw
        case rel => exact ⟨i + 2, by omega, by go_num, HU2, hbw1⟩
        case measure => simp [intOf]; omega
      | false =>
        rw [hb] at hP
        rw [if_neg (by rw [hb]; decide)] at huc
        clear hb
        by_cases he : (s[i]'hp) = e
        · rw [if_pos he] at huc
          have hbe := u8_true he HX.out
          have HR : Hid (optI (Spec.until_ e no.data.toList s.data.toList) = (i : Int)) := Lib.hid (by rw [HU.out, huc]; simp [optI])
          clear huc HU he hI
          go_wp2_with (go_at_call 84; refine (hP _).mono ?_; rintro r w1 ⟨rfl, hb1⟩)
          have hbw1 := hbw.trans (hb1.mono hbw.size)
          go_ret
          exact ⟨ret_int HR.out.symm, hbw1⟩
        · rw [if_neg he] at huc
          have hbe := u8_false he HX.out
          cases hn : no.data.toList.contains (s[i]'hp) with
          | true =>
            rw [hn] at hI
            rw [if_pos hn] at huc
            have HR : Hid (optI (Spec.until_ e no.data.toList s.data.toList) = -1) := Lib.hid (by rw [HU.out, huc]; rfl)
            clear huc HU he hn
            go_wp2_with (first | (go_at_call 84; refine (hP _).mono ?_; rintro r w1 ⟨rfl, hb1⟩) | (go_at_call 85; refine (hI _).mono ?_; rintro r w2 ⟨rfl, rfl⟩))
            have hbw1 := hbw.trans (hb1.mono hbw.size)
            go_ret
            exact ⟨ret_int HR.out.symm, hbw1⟩
          | false =>
            rw [hn] at hI
            rw [if_neg (by rw [hn]; decide)] at huc
            have HU2 : Hid (Spec.until_ e no.data.toList s.data.toList = (Spec.until_ e no.data.toList (s.data.toList.drop (i + 1))).map (· + (i + 1))) := Lib.hid (by
              rw [HU.out, huc]
              cases Spec.until_ e no.data.toList (s.data.toList.drop (i + 1)) <;> simp [Nat.add_comm, Nat.add_left_comm])
            clear huc HU he hn
            go_wp2_with (first | (go_at_call 84; refine (hP _).mono ?_; rintro r w1 ⟨rfl, hb1⟩) | (go_at_call 85; refine (hI _).mono ?_; rintro r w2 ⟨rfl, rfl⟩))
            have hbw1 := hbw.trans (hb1.mono hbw.size)
            go_roundw
            case rel => exact ⟨i + 1, by omega, by go_num, HU2, hbw1⟩
            case measure => simp [intOf]; omega
    · have hpi : ¬ (i : Int) < s.size := by omega
      have HR : Hid (optI (Spec.until_ e no.data.toList s.data.toList) = -1) := Lib.hid (by
        rw [HU.out, List.drop_of_length_le (by rw [← Lib.size_eq]; omega)]; rfl)
      clear HU
      go_wp2
      go_ret
      exact ⟨ret_int HR.out.symm, hbw⟩
end Go.Proofs.YtmplfiflikhpjaaGreatDoor
/-
  inline's address and what is said of it.
-/
namespace Go.Proofs.YtmplfiflikhpjaaGreatDoor
open Go.RowKit

theorem until_lt (e : UInt8) (no : List UInt8) : ∀ (n : Nat) (l : List UInt8), l.length ≤ n → ∀ k, Spec.until_ e no l = some k → k < l.length := by
  intro n
  induction n with
  | zero =>
    intro l h k hk
    obtain rfl := List.length_eq_zero_iff.1 (Nat.le_zero.1 h)
    rw [Spec.until_] at hk; cases hk
  | succ n ih =>
    intro l h k hk
    cases l with
    | nil => rw [Spec.until_] at hk; cases hk
    | cons c t =>
      rw [until_cons] at hk
      simp only [List.length_cons] at h ⊢
      by_cases hp : Spec.pair (c :: t) = true
      · rw [if_pos hp] at hk
        obtain ⟨j, hj, rfl⟩ := Option.map_eq_some_iff.1 hk
        have := ih (t.drop 1) (by rw [List.length_drop]; omega) j hj
        rw [List.length_drop] at this
        omega
      · rw [if_neg hp] at hk
        by_cases hc : c = e
        · rw [if_pos hc] at hk; cases hk; omega
        · rw [if_neg hc] at hk
          split at hk
          · cases hk
          · obtain ⟨j, hj, rfl⟩ := Option.map_eq_some_iff.1 hk
            have := ih t (by omega) j hj
            omega
theorem bare_cons (deep : Nat) (c : UInt8) (t : List UInt8) : Spec.bare deep (c :: t) =
    if c.toNat ≤ 32 then (if 0 < deep then none else some 0) else if Spec.pair (c :: t) = true then (Spec.bare deep (t.drop 1)).map (· + 2) else if c = 40 then (Spec.bare (deep + 1) t).map (· + 1)
    else if c = 41 then (if deep = 0 then some 0 else (Spec.bare (deep - 1) t).map (· + 1)) else (Spec.bare deep t).map (· + 1) := by
  have nil : ∀ d, Spec.bare d [] = if 0 < d then none else some 0 := fun d => by cases d <;> rw [Spec.bare]
  cases t with
  | nil =>
    rw [show Spec.bare deep [c] = if c.toNat ≤ 32 then (if 0 < deep then none else some 0) else if c = 40 then none else if c = 41 then (if deep = 0 then some 0 else if 1 < deep then none else some 1) else if 0 < deep then none else some 1 from by cases deep <;> rw [Spec.bare],
      show Spec.pair [c] = false from rfl, if_neg (show ¬ (false = true) by decide), nil, nil, nil]
    by_cases h1 : c.toNat ≤ 32
    · rw [if_pos h1, if_pos h1]
    · rw [if_neg h1, if_neg h1]
      by_cases h2 : c = 40
      · rw [if_pos h2, if_pos h2, if_pos (by omega)]; rfl
      · rw [if_neg h2, if_neg h2]
        by_cases h3 : c = 41
        · rw [if_pos h3, if_pos h3]
          by_cases h4 : deep = 0
          · rw [if_pos h4, if_pos h4]
          · rw [if_neg h4, if_neg h4]
            by_cases h5 : 1 < deep
            · rw [if_pos h5, if_pos (by omega)]; rfl
            · rw [if_neg h5, if_neg (by omega)]; rfl
        · rw [if_neg h3, if_neg h3]
          by_cases h4 : 0 < deep
          · rw [if_pos h4, if_pos h4]; rfl
          · rw [if_neg h4, if_neg h4]; rfl
  | cons d u =>
    rw [show Spec.bare deep (c :: d :: u) = if c.toNat ≤ 32 then (if 0 < deep then none else some 0)
        else if c = 92 ∧ Spec.sign d = true then (Spec.bare deep u).map (· + 2)
        else if c = 40 then (Spec.bare (deep + 1) (d :: u)).map (· + 1)
        else if c = 41 then (if deep = 0 then some 0 else (Spec.bare (deep - 1) (d :: u)).map (· + 1))
        else (Spec.bare deep (d :: u)).map (· + 1) from by cases deep <;> rw [Spec.bare], pair_cons]
    by_cases h1 : c.toNat ≤ 32
    · rw [if_pos h1, if_pos h1]
    · rw [if_neg h1, if_neg h1]
      by_cases h : c = 92 ∧ Spec.sign d = true
      · rw [if_pos h, if_pos (show (c == 92 && Spec.sign d) = true by rw [h.1, h.2]; rfl)]; rfl
      · rw [if_neg h, if_neg (show ¬ ((c == 92 && Spec.sign d) = true) by
          intro hh
          rw [Bool.and_eq_true, beq_iff_eq] at hh
          exact h hh)]
theorem bare_nil (deep : Nat) : Spec.bare deep [] = if 0 < deep then none else some 0 := by cases deep <;> rw [Spec.bare]

def adrRes : Option (List UInt8 × Nat) → Value
  | none => .tuple #[.string ⟨#[]⟩, .int .i64 (-1)]
  | some p => .tuple #[.string ⟨p.1.toArray⟩, .int .i64 (p.2 : Int)]
theorem ret_adr {a b : ByteArray} {x y : Int} (h : a = b) (h2 : x = y) : Ending.returned (.tuple #[.string a, .int .i64 x]) = .returned (.tuple #[.string b, .int .i64 y]) := by rw [h, h2]
theorem pre_text (s : ByteArray) (k : Nat) : s.extract 0 k = ⟨(s.data.toList.take k).toArray⟩ := by rw [Lib.extract_eq, List.drop_zero]; rfl
theorem mid_text (s : ByteArray) (a b : Nat) : s.extract a b = ⟨((s.data.toList.drop a).take (b - a)).toArray⟩ := Lib.extract_eq s a b
/-- An address without angles, as a text and its length. -/
def bareRes (l : List UInt8) : Option (List UInt8 × Nat) := (Spec.bare 0 l).map fun n => (l.take n, n)
theorem address_bare (l : List UInt8) (h : l.head? ≠ some 60) : Spec.address l = bareRes l := by
  unfold Spec.address bareRes
  cases l with
  | nil => simp
  | cons c t =>
    simp only
    rw [if_neg (fun e => h (by rw [e]; rfl))]
theorem address_angle (t : List UInt8) : Spec.address (60 :: t) = (Spec.until_ 62 [60, 10] t).map fun n => (t.take n, n + 2) := by
  unfold Spec.address
  rfl

set_option maxHeartbeats 8000000 in
set_option maxRecDepth 100000 in
theorem addressBare_any (s : ByteArray) (w : World) (hs : s.size ≤ 1000000) (h60 : s.data.toList.head? ≠ some 60) :
    Calls Tryz.prog 31 #[.string s] w fun r w' => r = .returned (adrRes (Spec.address s.data.toList)) ∧ Below w.heap.size w w' := by
  rw [address_bare _ h60]
  have hhead : s.toList.isEmpty = true ∨ (s.toList.isEmpty = false ∧ ∃ h : 0 < s.size, (((s[0]'h).toNat : Int) == 60) = false) := by
    by_cases h0 : 0 < s.size
    · refine .inr ⟨?_, h0, ?_⟩
      · rw [emptyB]
        cases hl : s.data.toList with
        | nil => rw [Lib.size_eq, hl] at h0; cases h0
        | cons a t => rfl
      · refine u8_false (b := 60) (fun e => h60 ?_) rfl
        have := drop_at s 0 h0
        rw [List.drop_zero] at this
        rw [this, e]; rfl
    · refine .inl ?_
      rw [emptyB]
      have : s.data.toList.length = 0 := by rw [← Lib.size_eq]; omega
      rw [List.length_eq_zero_iff.1 this]; rfl
  clear h60
  have main : (∀ (_ : True), True) := fun _ => trivial
  clear main
  rcases hhead with he | ⟨he, h00, hb0⟩
  all_goals
    go_enter Tryz.func31, Tryz.ntmps31
    go_wp2
    go_loopw [5, 6] (fun v5 v6 wr => ∃ deep i : Nat, i ≤ s.size ∧ deep ≤ i ∧ v5 = .int .i64 deep ∧ v6 = .int .i64 i ∧ Hid (Spec.bare 0 s.data.toList = (Spec.bare deep (s.data.toList.drop i)).map (· + i)) ∧ Below w.heap.size w wr) (fun _ v6 _ => s.size - (intOf v6).toNat)
    case atStart => exact ⟨0, 0, Nat.zero_le _, Nat.le_refl _, rfl, rfl, Lib.hid (by rw [List.drop_zero]; simp), Below.refl _ _⟩
    case round =>
      obtain ⟨deep, i, hi, hdi, rfl, rfl, HB, hbw⟩ := hrel
      have fin : ∀ W, Below w.heap.size w W → Spec.bare 0 s.data.toList = some i → Ending.returned (.tuple #[.string (s.extract 0 i), .int .i64 (i : Int)]) = Ending.returned (adrRes (bareRes s.data.toList)) ∧ Below w.heap.size w W := fun W hW h => by
        unfold bareRes
        rw [h]
        exact ⟨ret_adr (pre_text s i) rfl, hW⟩
      have FIN := Lib.hid fin
      have FNO : Hid (∀ W, Below w.heap.size w W → Spec.bare 0 s.data.toList = none → Ending.returned (.tuple #[.string ⟨#[]⟩, .int .i64 (-1)]) = Ending.returned (adrRes (bareRes s.data.toList)) ∧ Below w.heap.size w W) := Lib.hid (fun W hW h => by
        unfold bareRes
        rw [h]
        exact ⟨rfl, hW⟩)
      clear fin
      by_cases hp : i < s.size
      · have hpi : (i : Int) < s.size := by omega
        have hbc := bare_cons deep (s[i]'hp) (s.data.toList.drop (i + 1))
        rw [← drop_at s i hp] at hbc
        by_cases h32 : (s[i]'hp).toNat ≤ 32
        · have h32i : ¬ (32 : Int) < ((s[i]'hp).toNat : Int) := by omega
          rw [if_pos h32] at hbc
          clear h32
          by_cases hd : 0 < deep
          · have hdi2 : (0 : Int) < deep := by omega
            rw [if_pos hd] at hbc
            have HN : Hid (Spec.bare 0 s.data.toList = none) := Lib.hid (by rw [HB.out, hbc]; rfl)
            clear hbc HB
            go_wp2
            go_ret2
            exact FNO.out _ hbw HN.out
          · have hdi2 : ¬ (0 : Int) < deep := by omega
            rw [if_neg hd] at hbc
            have HN : Hid (Spec.bare 0 s.data.toList = some i) := Lib.hid (by rw [HB.out, hbc]; simp)
            clear hbc HB
            go_wp2
            go_ret2
            exact FIN.out _ hbw HN.out
        · have h32i : (32 : Int) < ((s[i]'hp).toNat : Int) := by omega
          rw [if_neg h32] at hbc
          clear h32
          have hext : (s.extract i s.size).data.toList = s.data.toList.drop i := by rw [drop_text s i (by omega)]
          have hP : ∀ W, Calls Tryz.prog 84 #[.string (s.extract i s.size)] W fun r w' => r = .returned (.bool (Spec.pair (s.data.toList.drop i))) ∧ Below W.heap.size W w' := fun W => by
            have := pair_any (s.extract i s.size) W (by rw [Lib.size_eq, hext, List.length_drop, ← Lib.size_eq]; omega)
            rw [hext] at this
            exact this
          clear hext
          cases hb : Spec.pair (s.data.toList.drop i) with
          | true =>
            rw [hb] at hP
            rw [if_pos hb, List.drop_drop] at hbc
            have hi2 : i + 2 ≤ s.size := by
              apply Decidable.byContradiction
              intro hn
              rw [drop_at s i hp, List.drop_of_length_le (by rw [← Lib.size_eq]; omega)] at hb
              cases hb
            have HB2 : Hid (Spec.bare 0 s.data.toList = (Spec.bare deep (s.data.toList.drop (i + 2))).map (· + (i + 2))) := Lib.hid (by
              rw [HB.out, hbc]
              cases Spec.bare deep (s.data.toList.drop (i + 2)) <;> simp [Nat.add_comm, Nat.add_left_comm])
            clear hbc HB hb
            go_wp2_with (go_at_call 84; refine (hP _).mono ?_; rintro r w1 ⟨rfl, hb1⟩)
            have hbw1 := hbw.trans (hb1.mono hbw.size)
            go_roundw
            case rel => exact ⟨deep, i + 2, by omega, by omega, rfl, by go_num, HB2, hbw1⟩
            case measure => simp [intOf]; omega
          | false =>
            rw [hb] at hP
            rw [if_neg (by rw [hb]; decide)] at hbc
            clear hb
            by_cases h40 : (s[i]'hp) = 40
            · rw [if_pos h40] at hbc
              have hb40 := u8_true h40 (x := 40) rfl
              have HB2 : Hid (Spec.bare 0 s.data.toList = (Spec.bare (deep + 1) (s.data.toList.drop (i + 1))).map (· + (i + 1))) := Lib.hid (by
                rw [HB.out, hbc]
                cases Spec.bare (deep + 1) (s.data.toList.drop (i + 1)) <;> simp [Nat.add_comm, Nat.add_left_comm])
              clear hbc HB h40
              go_wp2_with (go_at_call 84; refine (hP _).mono ?_; rintro r w1 ⟨rfl, hb1⟩)
              have hbw1 := hbw.trans (hb1.mono hbw.size)
              go_roundw
              case rel => exact ⟨deep + 1, i + 1, by omega, by omega, by go_num, by go_num, HB2, hbw1⟩
              case measure => simp [intOf]; omega
            · rw [if_neg h40] at hbc
              have hb40 := u8_false h40 (x := 40) rfl
              clear h40
              by_cases h41 : (s[i]'hp) = 41
              · rw [if_pos h41] at hbc
                have hb41 := u8_true h41 (x := 41) rfl
                clear h41
                by_cases hd0 : deep = 0
                · subst hd0
                  rw [if_pos rfl] at hbc
                  have HN : Hid (Spec.bare 0 s.data.toList = some i) := Lib.hid (by rw [HB.out, hbc]; simp)
                  clear hbc HB
                  go_wp2_with (go_at_call 84; refine (hP _).mono ?_; rintro r w1 ⟨rfl, hb1⟩)
                  have hbw1 := hbw.trans (hb1.mono hbw.size)
                  go_ret2
                  exact FIN.out _ hbw1 HN.out
                · rw [if_neg hd0] at hbc
                  obtain ⟨dd, rfl⟩ : ∃ dd, deep = dd + 1 := ⟨deep - 1, by omega⟩
                  have HB2 : Hid (Spec.bare 0 s.data.toList = (Spec.bare dd (s.data.toList.drop (i + 1))).map (· + (i + 1))) := Lib.hid (by
                    rw [HB.out, hbc, Nat.add_sub_cancel]
                    cases Spec.bare dd (s.data.toList.drop (i + 1)) <;> simp [Nat.add_comm, Nat.add_left_comm])
                  have hnn : ¬ ((dd : Int) + 1 - 1 < 0) := by omega
                  clear hbc HB hd0
                  go_wp2_with (go_at_call 84; refine (hP _).mono ?_; rintro r w1 ⟨rfl, hb1⟩)
                  have hbw1 := hbw.trans (hb1.mono hbw.size)
                  go_roundw
                  case rel => exact ⟨dd, i + 1, by omega, by omega, by go_num, by go_num, HB2, hbw1⟩
                  case measure => simp [intOf]; omega
              · rw [if_neg h41] at hbc
                have hb41 := u8_false h41 (x := 41) rfl
                have HB2 : Hid (Spec.bare 0 s.data.toList = (Spec.bare deep (s.data.toList.drop (i + 1))).map (· + (i + 1))) := Lib.hid (by
                  rw [HB.out, hbc]
                  cases Spec.bare deep (s.data.toList.drop (i + 1)) <;> simp [Nat.add_comm, Nat.add_left_comm])
                have hnn : ¬ ((deep : Int) < 0) := by omega
                clear hbc HB h41
                go_wp2_with (go_at_call 84; refine (hP _).mono ?_; rintro r w1 ⟨rfl, hb1⟩)
                have hbw1 := hbw.trans (hb1.mono hbw.size)
                go_roundw
                case rel => exact ⟨deep, i + 1, by omega, by omega, rfl, by go_num, HB2, hbw1⟩
                case measure => simp [intOf]; omega
      · have hpi : ¬ (i : Int) < s.size := by omega
        have hnil : s.data.toList.drop i = [] := List.drop_of_length_le (by rw [← Lib.size_eq]; omega)
        by_cases hd : 0 < deep
        · have hdi2 : (0 : Int) < deep := by omega
          have HN : Hid (Spec.bare 0 s.data.toList = none) := Lib.hid (by rw [HB.out, hnil, bare_nil, if_pos hd]; rfl)
          clear hnil HB
          go_wp2
          go_ret2
          exact FNO.out _ hbw HN.out
        · have hdi2 : ¬ (0 : Int) < deep := by omega
          have HN : Hid (Spec.bare 0 s.data.toList = some i) := Lib.hid (by rw [HB.out, hnil, bare_nil, if_neg hd]; simp)
          clear hnil HB
          go_wp2
          go_ret2
          exact FIN.out _ hbw HN.out
end Go.Proofs.YtmplfiflikhpjaaGreatDoor
/-
  inline's address whole; what is said of it.
-/
namespace Go.Proofs.YtmplfiflikhpjaaGreatDoor
open Go.RowKit

theorem head_cons (s : ByteArray) (h : 0 < s.size) : s.data.toList = (s[0]'h) :: s.data.toList.drop 1 := by
  have := drop_at s 0 h
  rw [List.drop_zero] at this
  exact this
theorem text_empty {s : ByteArray} (h : ¬ 0 < s.size) : s.data.toList = [] := by
  have : s.data.toList.length = 0 := by rw [← Lib.size_eq]; omega
  exact List.length_eq_zero_iff.1 this
theorem isEmpty_true {s : ByteArray} (h : ¬ 0 < s.size) : s.toList.isEmpty = true := by rw [emptyB, text_empty h]; rfl
theorem isEmpty_false {s : ByteArray} (h : 0 < s.size) : s.toList.isEmpty = false := by rw [emptyB, head_cons s h]; rfl
/-- A slice with both bounds. -/
theorem slice_mid (s : ByteArray) (a b : Nat) (ib : Int) (hab : a ≤ b) (hb : b ≤ s.size) (hib : ib = (b : Int)) :
    ∀ W, (Instr.slice 9 (.string s) (some (.int .i64 (a : Int))) (some (.int .i64 ib)) none).run Tryz.prog W = .ok (.string (s.extract a b)) W := fun W => by
  subst hib
  have := run_slice_string (P := Tryz.prog) (w := W) 9 s .i64 .i64 (a : Int) (b : Int) Tryz.underlying9 (by omega) (by omega) (by omega)
  simpa using this

set_option maxHeartbeats 4000000 in
set_option maxRecDepth 100000 in
theorem address_any (s : ByteArray) (w : World) (hs : s.size ≤ 1000000) :
    Calls Tryz.prog 31 #[.string s] w fun r w' => r = .returned (adrRes (Spec.address s.data.toList)) ∧ Below w.heap.size w w' := by
  by_cases h60 : s.data.toList.head? = some 60
  · have h0 : 0 < s.size := by
      apply Decidable.byContradiction
      intro h
      rw [text_empty h] at h60; cases h60
    have hc := head_cons s h0
    have h60' : (s[0]'h0) = 60 := by rw [hc] at h60; exact Option.some.inj h60
    have hb60 := u8_true h60' (x := 60) rfl
    have he := isEmpty_false h0
    rw [hc, h60', address_angle]
    have hex : (s.extract 1 s.size).data.toList = s.data.toList.drop 1 := by rw [drop_text s 1 (by omega)]
    have hU : ∀ W, Calls Tryz.prog 83 #[.string (s.extract 1 s.size), .int .u8 62, .string ⟨#[60, 10]⟩] W fun r w' => r = .returned (.int .i64 (optI (Spec.until_ 62 [60, 10] (s.data.toList.drop 1)))) ∧ Below W.heap.size W w' := fun W => by
      have := until_any (s.extract 1 s.size) ⟨#[60, 10]⟩ 62 62 W rfl (by rw [Lib.size_eq, hex, List.length_drop, ← Lib.size_eq]; omega)
      rw [hex] at this
      exact this
    have hlt := until_lt 62 [60, 10] _ (s.data.toList.drop 1) (Nat.le_refl _)
    have h0i : (0 : Int) < s.size := by omega
    have h1i : (1 : Int) ≤ s.size := by omega
    clear h60 hc h60' hex
    cases hu : Spec.until_ 62 [60, 10] (s.data.toList.drop 1) with
    | none =>
      rw [hu] at hU
      have hU : ∀ W, Calls Tryz.prog 83 #[.string (s.extract 1 s.size), .int .u8 62, .string ⟨#[60, 10]⟩] W fun r w' => r = .returned (.int .i64 (-1)) ∧ Below W.heap.size W w' := hU
      clear hu hlt
      go_enter Tryz.func31, Tryz.ntmps31
      go_wp2_with (go_at_call 83; refine (hU _).mono ?_; rintro r w1 ⟨rfl, hb1⟩)
      go_ret2
      exact ⟨rfl, hb1⟩
    | some n =>
      have hn := hlt n hu
      rw [List.length_drop, ← Lib.size_eq] at hn
      rw [hu] at hU
      have hU : ∀ W, Calls Tryz.prog 83 #[.string (s.extract 1 s.size), .int .u8 62, .string ⟨#[60, 10]⟩] W fun r w' => r = .returned (.int .i64 (n : Int)) ∧ Below W.heap.size W w' := hU
      have hsl := slice_mid s 1 (n + 1) ((n : Int) + 1) (by omega) (by omega) (by omega)
      have FIN : Hid ((s.extract 1 (n + 1)) = ⟨((s.data.toList.drop 1).take n).toArray⟩) := Lib.hid (by rw [mid_text]; rfl)
      generalize s.extract 1 (n + 1) = u at hsl FIN
      have hsl : ∀ W, (Instr.slice 9 (.string s) (some (.int .i64 1)) (some (.int .i64 ((n : Int) + 1))) none).run Tryz.prog W = .ok (.string u) W := hsl
      clear hu hlt
      go_enter Tryz.func31, Tryz.ntmps31
      go_wp2_with (go_at_call 83; refine (hU _).mono ?_; rintro r w1 ⟨rfl, hb1⟩)
      go_ret2
      exact ⟨ret_adr FIN.out (by show (n : Int) + 2 = ((n + 2 : Nat) : Int); omega), hb1⟩
  · exact addressBare_any s w hs h60

def saidRes (p : List UInt8 × Nat) : Value := .tuple #[.string ⟨p.1.toArray⟩, .int .i64 (p.2 : Int)]
theorem said_le (l : List UInt8) : (Spec.said l).2 ≤ l.length := by
  unfold Spec.said
  cases l with
  | nil => exact Nat.le_refl _
  | cons c t =>
    simp only [List.length_cons]
    split
    · cases h : Spec.until_ c [] t with
      | none => simp
      | some n => have := until_lt c [] _ t (Nat.le_refl _) n h; simp only; omega
    · split
      · cases h : Spec.until_ 41 [40] t with
        | none => simp
        | some n => have := until_lt 41 [40] _ t (Nat.le_refl _) n h; simp only; omega
      · simp
theorem bare_le : ∀ (n : Nat) (l : List UInt8), l.length ≤ n → ∀ deep k, Spec.bare deep l = some k → k ≤ l.length := by
  intro n
  induction n with
  | zero =>
    intro l h deep k hk
    obtain rfl := List.length_eq_zero_iff.1 (Nat.le_zero.1 h)
    rw [bare_nil] at hk
    split at hk
    · cases hk
    · cases hk; exact Nat.le_refl _
  | succ n ih =>
    intro l h deep k hk
    cases l with
    | nil =>
      rw [bare_nil] at hk
      split at hk
      · cases hk
      · cases hk; exact Nat.le_refl _
    | cons c t =>
      rw [bare_cons] at hk
      simp only [List.length_cons] at h ⊢
      have one : ∀ d, (Spec.bare d t).map (· + 1) = some k → k ≤ t.length + 1 := fun d hd => by
        obtain ⟨j, hj, rfl⟩ := Option.map_eq_some_iff.1 hd
        have := ih t (by omega) d j hj
        omega
      by_cases h1 : c.toNat ≤ 32
      · rw [if_pos h1] at hk
        split at hk
        · cases hk
        · cases hk; omega
      · rw [if_neg h1] at hk
        by_cases hp : Spec.pair (c :: t) = true
        · rw [if_pos hp] at hk
          obtain ⟨j, hj, rfl⟩ := Option.map_eq_some_iff.1 hk
          have := ih (t.drop 1) (by rw [List.length_drop]; omega) deep j hj
          rw [List.length_drop] at this
          have : 1 ≤ t.length := by
            cases t with
            | nil => cases hp
            | cons d u => simp
          omega
        · rw [if_neg hp] at hk
          split at hk
          · exact one _ hk
          · split at hk
            · split at hk
              · cases hk; omega
              · exact one _ hk
            · exact one _ hk
theorem address_le (l : List UInt8) (a : List UInt8) (k : Nat) (h : Spec.address l = some (a, k)) : k ≤ l.length ∧ a.length ≤ l.length := by
  by_cases h60 : l.head? = some 60
  · cases l with
    | nil => cases h60
    | cons c t =>
      obtain rfl : c = 60 := Option.some.inj h60
      rw [address_angle] at h
      obtain ⟨n, hn, e⟩ := Option.map_eq_some_iff.1 h
      have := until_lt 62 [60, 10] _ t (Nat.le_refl _) n hn
      have e1 := congrArg Prod.fst e
      have e2 := congrArg Prod.snd e
      simp only at e1 e2
      rw [← e1, ← e2, List.length_take, List.length_cons]
      omega
  · rw [address_bare l h60] at h
    obtain ⟨n, hn, e⟩ := Option.map_eq_some_iff.1 h
    have := bare_le _ l (Nat.le_refl _) 0 n hn
    have e1 := congrArg Prod.fst e
    have e2 := congrArg Prod.snd e
    simp only at e1 e2
    rw [← e1, ← e2, List.length_take]
    omega

set_option maxHeartbeats 4000000 in
set_option maxRecDepth 100000 in
theorem said_any (s : ByteArray) (w : World) (hs : s.size ≤ 1000000) :
    Calls Tryz.prog 32 #[.string s] w fun r w' => r = .returned (saidRes (Spec.said s.data.toList)) ∧ Below w.heap.size w w' := by
  by_cases h0 : 0 < s.size
  · have hc := head_cons s h0
    have he := isEmpty_false h0
    have h0i : (0 : Int) < s.size := by omega
    have h1i : (1 : Int) ≤ s.size := by omega
    have hI : ∀ W, Calls Tryz.prog 85 #[.int .u8 ((s[0]'h0).toNat : Int), .string ⟨#[34, 39, 40]⟩] W fun e w' => e = .returned (.bool (([34, 39, 40] : List UInt8).contains (s[0]'h0))) ∧ W = w' := fun W => (is_any (s[0]'h0) ⟨#[34, 39, 40]⟩ W).mono fun e w' h => ⟨h.1, h.2.symm⟩
    have hex : (s.extract 1 s.size).data.toList = s.data.toList.drop 1 := by rw [drop_text s 1 (by omega)]
    have hU : ∀ (e : UInt8) (x : Int) (no : ByteArray), (e.toNat : Int) = x → ∀ W, Calls Tryz.prog 83 #[.string (s.extract 1 s.size), .int .u8 x, .string no] W fun r w' => r = .returned (.int .i64 (optI (Spec.until_ e no.data.toList (s.data.toList.drop 1)))) ∧ Below W.heap.size W w' := fun e x no hx W => by
      have := until_any (s.extract 1 s.size) no e x W hx (by rw [Lib.size_eq, hex, List.length_drop, ← Lib.size_eq]; omega)
      rw [hex] at this
      exact this
    have tail : ∀ (e : UInt8) (no : List UInt8) n, Spec.until_ e no (s.data.toList.drop 1) = some n → n + 1 ≤ s.size ∧ (s.extract 1 (n + 1)) = ⟨((s.data.toList.drop 1).take n).toArray⟩ := fun e no n h => by
      have := until_lt e no _ (s.data.toList.drop 1) (Nat.le_refl _) n h
      rw [List.length_drop, ← Lib.size_eq] at this
      exact ⟨by omega, by rw [mid_text]; rfl⟩
    rw [hc]
    generalize s.data.toList.drop 1 = t at hU tail ⊢
    clear hc hex
    have go : ∀ (e : UInt8) (x : Int) (no : ByteArray), (e.toNat : Int) = x → Spec.said ((s[0]'h0) :: t) = (match Spec.until_ e no.data.toList t with | some n => (t.take n, n + 2) | none => ([], 0)) →
        (∀ r : Int, (∀ W, Calls Tryz.prog 83 #[.string (s.extract 1 s.size), .int .u8 x, .string no] W fun e w' => e = .returned (.int .i64 r) ∧ Below W.heap.size W w') → (r = -1 ∨ ∃ n : Nat, r = n ∧ n + 1 ≤ s.size) →
          ∀ u, (∀ n : Nat, r = n → ∀ W, (Instr.slice 9 (.string s) (some (.int .i64 1)) (some (.int .i64 ((n : Int) + 1))) none).run Tryz.prog W = .ok (.string u) W) →
          Calls Tryz.prog 32 #[.string s] w fun e w' => e = .returned (.tuple #[.string (if r = -1 then ⟨#[]⟩ else u), .int .i64 (if r = -1 then 0 else r + 2)]) ∧ Below w.heap.size w w') →
        Calls Tryz.prog 32 #[.string s] w fun r w' => r = .returned (saidRes (Spec.said ((s[0]'h0) :: t))) ∧ Below w.heap.size w w' := fun e x no hx hsp hw => by
      rw [hsp]
      have hU := hU e x no hx
      cases hu : Spec.until_ e no.data.toList t with
      | none =>
        rw [hu] at hU
        exact (hw (-1) hU (.inl rfl) ⟨#[]⟩ (fun n h => by omega)).mono fun _ _ h => h
      | some n =>
        rw [hu] at hU
        have ht := tail e no.data.toList n hu
        have hsl := slice_mid s 1 (n + 1) ((n : Int) + 1) (by omega) ht.1 (by omega)
        refine (hw (n : Int) hU (.inr ⟨n, rfl, ht.1⟩) (s.extract 1 (n + 1)) (fun m hm => by
          obtain rfl : n = m := by omega
          exact hsl)).mono fun _ _ h => ?_
        rw [if_neg (by omega), if_neg (by omega)] at h
        rw [h.1, ht.2]
        exact ⟨ret_adr rfl (by show (n : Int) + 2 = ((n + 2 : Nat) : Int); omega), h.2⟩
    clear hU tail
    by_cases hq : (s[0]'h0) = 34 ∨ (s[0]'h0) = 39
    · rw [show ([34, 39, 40] : List UInt8).contains (s[0]'h0) = true by rcases hq with h | h <;> rw [h] <;> rfl] at hI
      have hn40 : (((s[0]'h0).toNat : Int) == 40) = false := by rcases hq with h | h <;> rw [h] <;> rfl
      refine go (s[0]'h0) ((s[0]'h0).toNat : Int) ⟨#[]⟩ rfl (by
        unfold Spec.said
        simp only
        rw [if_pos hq]
        rfl) ?_
      clear go hq
      intro r hU hr u hsl
      rcases hr with rfl | ⟨n, rfl, hn⟩
      · rw [if_pos rfl, if_pos rfl]
        clear hsl
        go_enter Tryz.func32, Tryz.ntmps32
        go_wp2_with (first | (go_at_call 85; refine (hI _).mono ?_; rintro e w2 ⟨rfl, rfl⟩) | (go_at_call 83; refine (hU _).mono ?_; rintro r w1 ⟨rfl, hb1⟩))
        go_ret2
        exact ⟨rfl, hb1⟩
      · rw [if_neg (by omega), if_neg (by omega)]
        have hsl := hsl n rfl
        go_enter Tryz.func32, Tryz.ntmps32
        go_wp2_with (first | (go_at_call 85; refine (hI _).mono ?_; rintro e w2 ⟨rfl, rfl⟩) | (go_at_call 83; refine (hU _).mono ?_; rintro r w1 ⟨rfl, hb1⟩))
        go_ret2
        exact ⟨rfl, hb1⟩
    · by_cases h40 : (s[0]'h0) = 40
      · have hb40 := u8_true h40 (x := 40) rfl
        rw [show ([34, 39, 40] : List UInt8).contains (s[0]'h0) = true by rw [h40]; rfl] at hI
        refine go 41 41 ⟨#[40]⟩ rfl (by
          unfold Spec.said
          simp only
          rw [if_neg hq, if_pos h40]
          rfl) ?_
        clear go hq h40
        intro r hU hr u hsl
        rcases hr with rfl | ⟨n, rfl, hn⟩
        · rw [if_pos rfl, if_pos rfl]
          clear hsl
          go_enter Tryz.func32, Tryz.ntmps32
          go_wp2_with (first | (go_at_call 85; refine (hI _).mono ?_; rintro e w2 ⟨rfl, rfl⟩) | (go_at_call 83; refine (hU _).mono ?_; rintro r w1 ⟨rfl, hb1⟩))
          go_ret2
          exact ⟨rfl, hb1⟩
        · rw [if_neg (by omega), if_neg (by omega)]
          have hsl := hsl n rfl
          go_enter Tryz.func32, Tryz.ntmps32
          go_wp2_with (first | (go_at_call 85; refine (hI _).mono ?_; rintro e w2 ⟨rfl, rfl⟩) | (go_at_call 83; refine (hU _).mono ?_; rintro r w1 ⟨rfl, hb1⟩))
          go_ret2
          exact ⟨rfl, hb1⟩
      · have hno : ([34, 39, 40] : List UInt8).contains (s[0]'h0) = false := by
          rw [← Bool.not_eq_true, List.contains_iff_mem]
          intro hm
          simp only [List.mem_cons, List.not_mem_nil, or_false] at hm
          rcases hm with h | h | h
          · exact hq (.inl h)
          · exact hq (.inr h)
          · exact h40 h
        rw [hno] at hI
        have hsp : Spec.said ((s[0]'h0) :: t) = ([], 0) := by
          unfold Spec.said
          simp only
          rw [if_neg hq, if_neg h40]
        rw [hsp]
        clear go hq h40 hno hsp
        go_enter Tryz.func32, Tryz.ntmps32
        go_wp2_with (go_at_call 85; refine (hI _).mono ?_; rintro e w2 ⟨rfl, rfl⟩)
        go_ret2
        exact ⟨rfl, Below.refl _ _⟩
  · have he := isEmpty_true h0
    rw [text_empty h0]
    clear h0
    go_enter Tryz.func32, Tryz.ntmps32
    go_wp2
    go_ret2
    exact ⟨rfl, Below.refl _ _⟩
end Go.Proofs.YtmplfiflikhpjaaGreatDoor
/-
  PLAIN LEAN: what the library's ReplaceAll, Split, Cut and Trim answer, in the words of inline's own functions.
-/
namespace Go.Proofs.YtmplfiflikhpjaaGreatDoor
open Go.RowKit

theorem idx_step (c x : UInt8) (t : List UInt8) : Lib.indexByte (c :: t) x = if c = x then 0 else if Lib.indexByte t x = -1 then -1 else Lib.indexByte t x + 1 := by
  rw [Lib.indexByte]
  by_cases h : c = x
  · rw [if_pos h, if_pos (beq_iff_eq.2 h)]
  · rw [if_neg h, if_neg (fun e => h (beq_iff_eq.1 e))]
    by_cases e : Lib.indexByte t x = -1
    · rw [if_pos e, if_pos (beq_iff_eq.2 e)]
    · rw [if_neg e, if_neg (fun h => e (beq_iff_eq.1 h))]
theorem replaceK_skip (c : UInt8) (new : List UInt8) (k : Nat) (b : UInt8) (l : List UInt8) (h : b ≠ c) : Lib.replaceK [c] new k (b :: l) = b :: Lib.replaceK [c] new k l := by
  cases k with
  | zero => rfl
  | succ k =>
    rw [Lib.replaceK, Lib.replaceK, Lib.index_one, Lib.index_one, idx_step, if_neg h]
    by_cases e : Lib.indexByte l c = -1
    · rw [if_pos e, e]; rfl
    · have hg := Lib.indexByte_ge l c
      rw [if_neg e, if_neg (fun x => by have := beq_iff_eq.1 x; omega), if_neg (fun x => e (beq_iff_eq.1 x))]
      have ht : (Lib.indexByte l c + 1).toNat = (Lib.indexByte l c).toNat + 1 := by omega
      rw [ht, List.take_succ_cons, show (Lib.indexByte l c).toNat + 1 + [c].length = ((Lib.indexByte l c).toNat + [c].length) + 1 by omega, List.drop_succ_cons]
      rfl
theorem replaceAll_map (c d : UInt8) (hcd : c ≠ d) : ∀ l : List UInt8, Lib.replaceAll l [c] [d] = l.map fun b => if b = c then d else b := by
  have h : ∀ l : List UInt8, Lib.replaceK [c] [d] (Lib.count l [c]) l = l.map fun b => if b = c then d else b := by
    intro l
    induction l with
    | nil => rfl
    | cons b t ih =>
      by_cases h : b = c
      · subst h
        rw [Lib.count_cons_eq, Nat.add_comm, Lib.replaceK_hit _ _ _ _ 0 (by rw [Lib.index_one, idx_step, if_pos rfl]; rfl), List.map_cons, if_pos rfl]
        show [] ++ [d] ++ Lib.replaceK [b] [d] (Lib.count t [b]) (t.drop 0) = _
        rw [List.drop_zero, ih]; rfl
      · rw [Lib.count_cons_ne _ _ _ h, replaceK_skip _ _ _ _ _ h, ih, List.map_cons, if_neg h]
  intro l
  unfold Lib.replaceAll Lib.replace Lib.replaceNum
  rw [if_neg (by simp [hcd]), if_pos (.inl (by decide))]
  exact h l
theorem parts_idx : ∀ l : List UInt8, Spec.parts l = if 0 ≤ Lib.indexByte l 46 then l.take (Lib.indexByte l 46).toNat :: Spec.parts (l.drop ((Lib.indexByte l 46).toNat + 1)) else [l]
  | [] => by rw [if_neg (by decide)]; rfl
  | c :: t => by
    have ih := parts_idx t
    have hg := Lib.indexByte_ge t 46
    rw [idx_step]
    rw [show Spec.parts (c :: t) = if c = 46 then [] :: Spec.parts t else match Spec.parts t with | p :: ps => (c :: p) :: ps | [] => [[c]] from by rw [Spec.parts]; rfl]
    by_cases h : c = 46
    · rw [if_pos h, if_pos h, if_pos (by decide)]; rfl
    · rw [if_neg h, if_neg h]
      by_cases e : Lib.indexByte t 46 = -1
      · rw [if_pos e, if_neg (by decide), ih, if_neg (by omega)]
      · rw [if_neg e, if_pos (by omega), ih, if_pos (by omega)]
        have ht : (Lib.indexByte t 46 + 1).toNat = (Lib.indexByte t 46).toNat + 1 := by omega
        rw [ht]; rfl
theorem split_parts : ∀ (k : Nat) (s : ByteArray), Lib.countB s ⟨#[46]⟩ = k → Lib.splitB ⟨#[46]⟩ 0 k s = (Spec.parts s.data.toList).map fun p => ⟨p.toArray⟩ := by
  intro k
  induction k with
  | zero =>
    intro s h
    rw [Lib.splitB_zero, parts_idx]
    have hno : ¬ 0 ≤ Lib.indexByte s.data.toList 46 := by
      intro h0
      obtain ⟨i, hi⟩ := Int.eq_ofNat_of_zero_le h0
      have := Lib.countB_hit s ⟨#[46]⟩ i (by decide) (by show Lib.index _ _ = _; rw [show (⟨#[46]⟩ : ByteArray).data.toList = [46] from rfl, Lib.index_one]; exact hi)
      omega
    rw [if_neg hno]
    simp
  | succ k ih =>
    intro s h
    have hyes : 0 ≤ Lib.indexByte s.data.toList 46 := by
      apply Decidable.byContradiction
      intro hn
      have hg := Lib.indexByte_ge s.data.toList 46
      have := Lib.countB_miss s ⟨#[46]⟩ (by show Lib.index _ _ = _; rw [show (⟨#[46]⟩ : ByteArray).data.toList = [46] from rfl, Lib.index_one]; omega)
      omega
    obtain ⟨i, hi⟩ := Int.eq_ofNat_of_zero_le hyes
    have hib : Lib.indexB s ⟨#[46]⟩ = i := by
      show Lib.index _ _ = _
      rw [show (⟨#[46]⟩ : ByteArray).data.toList = [46] from rfl, Lib.index_one]; exact hi
    have hlt : i < s.size := by
      rw [Lib.size_eq]
      exact (List.getElem?_eq_some_iff.1 (Lib.indexByte_some hi).1).1
    have hc := Lib.countB_hit s ⟨#[46]⟩ i (by decide) hib
    rw [Lib.splitB, if_neg (fun e => by have := beq_iff_eq.1 e; omega), hib, parts_idx, if_pos hyes, hi]
    have e1 : ((i : Int).toNat) = i := by omega
    rw [e1, List.map_cons]
    have e2 : (⟨#[46]⟩ : ByteArray).size = 1 := rfl
    rw [e2] at hc ⊢
    rw [ih (s.extract (i + 1) s.size) (by omega), drop_text s (i + 1) (by omega), Nat.add_zero, pre_text]
theorem cut_eq (c : UInt8) (l : List UInt8) : Lib.cut l [c] = match Spec.cutAt c l with | some (a, b) => (a, b, true) | none => (l, [], false) := by
  unfold Lib.cut Spec.cutAt
  rw [Lib.index_one]
  by_cases h : 0 ≤ Lib.indexByte l c
  · rw [if_pos h, if_pos h]; rfl
  · rw [if_neg h, if_neg h]
theorem dropWhile_all {α : Type} (p : α → Bool) (l : List α) : (l.dropWhile p).all p = true ↔ l.all p = true := by
  constructor
  · intro h
    induction l with
    | nil => rfl
    | cons a t ih =>
      rw [List.dropWhile_cons] at h
      rw [List.all_cons]
      cases ha : p a with
      | true => rw [ha] at h; simpa using ih (by simpa using h)
      | false =>
        rw [ha, if_neg (by simp)] at h
        simp only [List.all_cons, ha, Bool.false_and, Bool.false_eq_true] at h
  · intro h
    rw [(dropWhile_nil p l).2 h]; rfl
theorem trimS_all (l cs : List UInt8) : Lib.trimS l cs = [] ↔ l.all (cs.contains ·) = true := by
  unfold Lib.trimS Lib.trimLeftS Lib.trimRightS
  rw [dropWhile_nil, List.all_reverse, dropWhile_all, List.all_reverse]
end Go.Proofs.YtmplfiflikhpjaaGreatDoor
/-
  inline's function that cuts the runes of an ASCII set off a text's begin: the walk of ent's, of the same text.
-/
namespace Go.Proofs.YtmplfiflikhpjaaGreatDoor
open Go.RowKit

set_option maxHeartbeats 4000000 in
set_option maxRecDepth 1000000 in
theorem inCutLeft_any (s set : ByteArray) (ha : Ascii set) (w : World) (_hs : s.size ≤ 1000000) :
    Calls Tryz.prog 56 #[.string s, .string set] w fun e w' => e = .returned (.string ⟨(Lib.trimLeftS s.data.toList set.data.toList).toArray⟩) ∧ Below w.heap.size w w' := by
  go_enter Tryz.func56, Tryz.ntmps56
  go_wp2
  go_loopw [] (fun wr => ∃ pos : Nat, pos ≤ s.size ∧ wr.heap[w.heap.size]? = some (.stringIter s pos) ∧ Below w.heap.size w wr ∧ (∀ (j : Nat) b, j < pos → s.data.toList[j]? = some b → set.data.toList.contains b = true)) (fun wr => s.size - wr.iterPos w.heap.size)
  case atStart =>
    refine ⟨0, Nat.zero_le _, ?_, (Below.refl _ w).alloc (Nat.le_refl _) _, fun j b h => absurd h (Nat.not_lt_zero _)⟩
    exact World.iter_heap w s 0
  case round =>
    obtain ⟨pos, hpl, hit, hbw, hall⟩ := hrel
    obtain ⟨wq, rfl⟩ : ∃ wq : World, wq = wr := ⟨_, rfl⟩
    have hsz : w.heap.size < wq.heap.size := (Array.getElem?_eq_some_iff.1 hit).1
    by_cases hp : pos < s.size
    · have hnx : ∀ ty, (Instr.next (.pointer (some ⟨w.heap.size, 0, none⟩)) true ty).run Tryz.prog wq = _ := fun ty => Lib.run_next_any_at wq w.heap.size s pos ty hit hp
      have hd1 := decode_le s pos
      have hit2 := Lib.iterAt_heap wq w.heap.size s pos (pos + (Utf8.decode s pos).2) hit
      have hbw2 := Lib.below_iterAt hbw (k := w.heap.size) (by omega) s (pos + (Utf8.decode s pos).2)
      have hsz2 : w.heap.size < (wq.iterAt w.heap.size s (pos + (Utf8.decode s pos).2)).heap.size := by rw [Lib.iterAt_size]; omega
      obtain ⟨wo, hwo⟩ : ∃ wo : World, wo = wq.iterAt w.heap.size s (pos + (Utf8.decode s pos).2) := ⟨_, rfl⟩
      rw [← hwo] at hnx hit2 hbw2 hsz2
      clear hwo
      obtain ⟨r, hr⟩ : ∃ r : Nat, r = (Utf8.decode s pos).1 := ⟨_, rfl⟩
      rw [← hr] at hnx hd1
      have HR := Lib.hid hr
      clear hr
      go_wp2
      go_loopw [7] (fun v7 wi => ∃ (q : Nat) (b : Bool), q ≤ set.size ∧ v7 = .bool b ∧ Hid (b = inB (set.data.toList.take q) r) ∧ wi.heap[wo.heap.size]? = some (.stringIter set q) ∧ Below wo.heap.size wo wi) (fun _ wi => set.size - wi.iterPos wo.heap.size)
      case atStart =>
        exact ⟨0, false, Nat.zero_le _, rfl, Lib.hid rfl, World.iter_heap wo set 0, (Below.refl _ wo).alloc (Nat.le_refl _) _⟩
      case round =>
        obtain ⟨q, b, hql, rfl, HB, hiq, hbi⟩ := hrel
        by_cases hq : q < set.size
        · have hny : ∀ ty, (Instr.next (.pointer (some ⟨wo.heap.size, 0, none⟩)) true ty).run Tryz.prog wr = _ := fun ty => Lib.run_next_ascii_at wr wo.heap.size set q ty hiq hq (ha q hq)
          have hiq2 := Lib.iterAt_heap wr wo.heap.size set q (q + 1) hiq
          have hbi2 := Lib.below_iterAt hbi (k := wo.heap.size) (by omega) set (q + 1)
          have hin := inB_snoc (set.data.toList.take q) (set[q]'hq) r
          rw [← take_snoc set q hq] at hin
          have HN : Hid (inB (set.data.toList.take (q + 1)) r = (b || r == (set[q]'hq).toNat)) := Lib.hid (by rw [hin, HB.out])
          clear hin HB
          have hms : wr.iterPos wo.heap.size = q := by simp only [World.iterPos, hiq]
          have HM : Hid (wr.iterPos wo.heap.size = q) := Lib.hid hms
          clear hms
          obtain ⟨d, hd⟩ : ∃ d : Nat, d = (set[q]'hq).toNat := ⟨_, rfl⟩
          rw [← hd] at hny HN
          clear hd
          obtain ⟨wn, hwn⟩ : ∃ wn : World, wn = wr.iterAt wo.heap.size set (q + 1) := ⟨_, rfl⟩
          rw [← hwn] at hny hiq2 hbi2
          clear hwn
          have HM2 : Hid (wn.iterPos wo.heap.size = q + 1) := Lib.hid (by simp only [World.iterPos, hiq2])
          cases b with
          | true =>
            go_wp2
            go_roundw
            case rel => exact ⟨q + 1, true, by omega, rfl, Lib.hid (by rw [HN.out]; rfl), hiq2, hbi2⟩
            case measure => rw [HM.out, HM2.out]; omega
          | false =>
            have ec := cast_beq r d
            cases e : (r == d) with
            | true =>
              rw [e] at ec
              go_wp2
              go_roundw
              case rel => exact ⟨q + 1, true, by omega, rfl, Lib.hid (by rw [HN.out, e]; rfl), hiq2, hbi2⟩
              case measure => rw [HM.out, HM2.out]; omega
            | false =>
              rw [e] at ec
              go_wp2
              go_roundw
              case rel => exact ⟨q + 1, false, by omega, rfl, Lib.hid (by rw [HN.out, e]; rfl), hiq2, hbi2⟩
              case measure => rw [HM.out, HM2.out]; omega
        · -- the set is through
          have hny : ∀ ty, (Instr.next (.pointer (some ⟨wo.heap.size, 0, none⟩)) true ty).run Tryz.prog wr = _ := fun ty => Lib.run_next_end_at wr wo.heap.size set q ty hiq hq
          have hca := cut_at s set ha pos hp
          have hqe : q = set.size := by omega
          have hbe := HB.out
          rw [hqe, List.take_of_length_le (by simp), HR.out, hca.1] at hbe
          have hpm : wq.iterPos w.heap.size = pos := by simp only [World.iterPos, hit]
          have hkeep : wr.heap[w.heap.size]? = some (.stringIter s (pos + (Utf8.decode s pos).2)) := by rw [hbi.block _ (by omega)]; exact hit2
          have HP : Hid (wq.iterPos w.heap.size = pos) := Lib.hid hpm
          have HK : Hid (wr.heap[w.heap.size]? = some (.stringIter s (pos + (Utf8.decode s pos).2))) := Lib.hid hkeep
          have HBE : Hid (b = set.data.toList.contains (s[pos]'hp)) := Lib.hid hbe
          have HCA := Lib.hid hca.2
          have hbb : Below w.heap.size w wr := hbw2.trans (hbi.mono (by omega))
          clear hpm hkeep hbe hca hqe HB hit2 hiq hnx
          cases b with
          | true =>
            go_wp2
            go_roundw
            case rel =>
              have hw1 := HCA.out HBE.out.symm
              have hk := HK.out
              rw [hw1] at hk
              refine ⟨pos + 1, by omega, hk, hbb, fun j c hj hc => ?_⟩
              by_cases hjp : j < pos
              · exact hall j c hjp hc
              · obtain rfl : j = pos := by omega
                rw [at_list s _ hp] at hc
                cases hc
                exact HBE.out.symm
            case measure =>
              have hw1 := HCA.out HBE.out.symm
              have hk := HK.out
              rw [HP.out]
              simp only [World.iterPos, hk]
              omega
          | false =>
            go_wp2
            go_ret
            refine ⟨ret_str ?_, hbb⟩
            rw [drop_text s pos hpl, Lib.trimLeftS_drop s.data.toList set.data.toList pos (by simpa using hpl) hall (fun c hc => by rw [at_list s _ hp] at hc; cases hc; exact HBE.out.symm)]
    · have hnx : ∀ ty, (Instr.next (.pointer (some ⟨w.heap.size, 0, none⟩)) true ty).run Tryz.prog wq = _ := fun ty => Lib.run_next_end_at wq w.heap.size s pos ty hit hp
      have hpe : pos = s.size := by omega
      have HE := Lib.hid hpe
      clear hpe hit
      go_wp2
      go_ret
      refine ⟨ret_str ?_, hbw⟩
      rw [Lib.trimLeftS_drop s.data.toList set.data.toList pos (by simpa using hpl) hall (fun c hc => by rw [HE.out, List.getElem?_eq_none (by simp)] at hc; cases hc), HE.out, List.drop_of_length_le (by simp)]
end Go.Proofs.YtmplfiflikhpjaaGreatDoor
/-
  inline.Code: the code that a text begins with, at every text.
-/
namespace Go.Proofs.YtmplfiflikhpjaaGreatDoor
open Go.RowKit

/-- The two tables of utf8, and a number of the library's own. -/
structure TabsM (w : World) : Prop where
  tabs : Tabs w
  max : ∃ m, w.cell? ⟨0, 0, none⟩ = some (.int .i64 m)
theorem TabsM.below {w w' : World} (h : TabsM w) (hb : Below w.heap.size w w') : TabsM w' :=
  ⟨h.tabs.below hb, by
    obtain ⟨m, hm⟩ := h.max
    exact ⟨m, (hb.cell (p := ⟨0, 0, none⟩) (World.block_lt_of_cell? _ _ hm)).trans hm⟩⟩

theorem toL' (s : ByteArray) : s = ⟨s.data.toList.toArray⟩ := by simp
def codeRes (p : List UInt8 × Nat) : Value := .tuple #[.string ⟨p.1.toArray⟩, .int .i64 (p.2 : Int)]
theorem code_zero (l : List UInt8) (h : Spec.ticks l = 0) : Spec.code l = ([], 0) := by
  unfold Spec.code
  rw [if_pos h]
theorem code_pos (l : List UInt8) (h : Spec.ticks l ≠ 0) : Spec.code l = match Spec.codeAt (Spec.ticks l) l (l.length + 1) (Spec.ticks l) with
    | some i => (Spec.codeText ((l.take i).drop (Spec.ticks l)), i + Spec.ticks l)
    | none => ([], 0) := by
  unfold Spec.code
  rw [if_neg h]
  rfl
theorem codeAt_end (n : Nat) (l : List UInt8) (f i : Nat) (h : l.length ≤ i) : Spec.codeAt n l f i = none := by
  cases f with
  | zero => rfl
  | succ f => rw [Spec.codeAt, if_neg (by omega)]
theorem codeAt_hit (n : Nat) (l : List UInt8) (f i : Nat) (h : i < l.length) (ht : Spec.ticks (l.drop i) = n) : Spec.codeAt n l (f + 1) i = some i := by
  rw [Spec.codeAt, if_pos h, if_pos ht]
theorem codeAt_miss (n : Nat) (l : List UInt8) (f i : Nat) (h : i < l.length) (ht : Spec.ticks (l.drop i) ≠ n) : Spec.codeAt n l (f + 1) i = Spec.codeAt n l f (i + max 1 (Spec.ticks (l.drop i))) := by
  rw [Spec.codeAt, if_pos h, if_neg ht]
/-- Without a blank at each end. -/
def trimmed (u : List UInt8) : List UInt8 :=
  if 1 < u.length ∧ u.head? = some 32 ∧ u.getLast? = some 32 ∧ u.all (· == 32) = false then (u.drop 1).dropLast else u
theorem codeText_eq (t : List UInt8) : Spec.codeText t = trimmed (t.map fun c => if c = 10 then 32 else c) := rfl
theorem trimB_all (u : List UInt8) : Lib.trimB u 32 = [] ↔ u.all (· == 32) = true := by
  rw [← Lib.trimS_one, trimS_all]
  rw [show (fun x : UInt8 => ([32] : List UInt8).contains x) = (· == 32) from by
    funext x
    rw [Bool.eq_iff_iff, List.contains_iff_mem, beq_iff_eq, List.mem_singleton]]
theorem dropLast_take (u : List UInt8) : (u.drop 1).dropLast = (u.drop 1).take (u.length - 1 - 1) := by
  rw [List.dropLast_eq_take, List.length_drop]
theorem lastU_at (u : ByteArray) (h : 0 < u.size) : u.data.toList.getLast? = some (u[u.size - 1]'(by omega)) := by
  rw [List.getLast?_eq_getElem?, ← Lib.size_eq]
  exact at_list u (u.size - 1) (by omega)

set_option maxHeartbeats 8000000 in
set_option maxRecDepth 100000 in
theorem code_any (s : ByteArray) (w : World) (hs : s.size ≤ 100000) (hT : TabsM w) :
    Calls Tryz.prog 21 #[.string s] w fun r w' => r = .returned (codeRes (Spec.code s.data.toList)) ∧ Below w.heap.size w w' := by
  have hTi := fun W => ticks_any s W (by omega)
  have hnl := run_le s.data.toList 96
  rw [← Lib.size_eq] at hnl
  obtain ⟨n, hn⟩ : ∃ n, n = Spec.ticks s.data.toList := ⟨_, rfl⟩
  have hns : n ≤ s.size := by rw [hn]; exact hnl
  rw [← hn] at hTi
  have hTi : ∀ W, Calls Tryz.prog 41 #[.string s] W fun e w' => e = .returned (.int .i64 (n : Int)) ∧ W = w' := fun W => (hTi W).mono fun e w' h => ⟨h.1, h.2.symm⟩
  clear hnl
  by_cases h0 : n = 0
  · rw [code_zero _ (by omega)]
    subst h0
    clear hn
    go_enter Tryz.func21, Tryz.ntmps21
    go_wp2_with (go_at_call 41; refine (hTi _).mono ?_; rintro e w1 ⟨rfl, rfl⟩)
    refine wp_loop_rounds 1 ?_
    rw [rounds_succ]
    go_wp2
    go_ret2
    exact ⟨rfl, Below.refl _ _⟩
  · have hcp := code_pos s.data.toList (by omega)
    rw [← hn] at hcp
    have HC := Lib.hid hcp
    have h0i : (0 : Int) < n := by omega
    clear hcp hn h0
    go_enter Tryz.func21, Tryz.ntmps21
    go_wp2_with (go_at_call 41; refine (hTi _).mono ?_; rintro e w1 ⟨rfl, rfl⟩)
    clear hTi
    go_loopw [5] (fun v5 wr => ∃ i f : Nat, i ≤ s.size ∧ n ≤ i ∧ v5 = .int .i64 i ∧ Hid (s.size - i < f ∧ Spec.codeAt n s.data.toList (s.data.toList.length + 1) n = Spec.codeAt n s.data.toList f i) ∧ w = wr) (fun v5 _ => s.size - (intOf v5).toNat)
    case atStart => exact ⟨n, s.data.toList.length + 1, hns, Nat.le_refl _, rfl, Lib.hid ⟨by rw [← Lib.size_eq]; omega, rfl⟩, rfl⟩
    case round =>
      obtain ⟨i, f, hi, hni, rfl, HF, rfl⟩ := hrel
      by_cases hp : i < s.size
      · have hpi : (i : Int) < s.size := by omega
        have hext : (s.extract i s.size).data.toList = s.data.toList.drop i := by rw [drop_text s i (by omega)]
        obtain ⟨k, hk⟩ : ∃ k, k = Spec.ticks (s.data.toList.drop i) := ⟨_, rfl⟩
        have hkl : k ≤ s.size - i := by
          have := run_le (s.data.toList.drop i) 96
          rw [List.length_drop, ← Lib.size_eq] at this
          rw [hk]; exact this
        have hTk : ∀ W, Calls Tryz.prog 41 #[.string (s.extract i s.size)] W fun e w' => e = .returned (.int .i64 (k : Int)) ∧ W = w' := fun W => by
          have := ticks_any (s.extract i s.size) W (by rw [Lib.size_eq, hext, List.length_drop, ← Lib.size_eq]; omega)
          rw [hext, ← hk] at this
          exact this.mono fun e w' h => ⟨h.1, h.2.symm⟩
        obtain ⟨g, rfl⟩ : ∃ g, f = g + 1 := ⟨f - 1, by have := HF.out.1; omega⟩
        clear hext
        by_cases hkn : k = n
        · have hr := codeAt_hit n s.data.toList g i (by rw [← Lib.size_eq]; exact hp) (by omega)
          have hkni : ((k : Int) == n) = true := by rw [hkn]; exact beq_self_eq_true _
          -- the text between
          obtain ⟨M, hM⟩ : ∃ M : ByteArray, M = s.extract n i := ⟨_, rfl⟩
          have hMl : M.data.toList = (s.data.toList.take i).drop n := by
            rw [hM, mid_text, List.drop_take]
          have hMs : M.size ≤ 100000 := by
            rw [Lib.size_eq, hMl, List.length_drop, List.length_take, ← Lib.size_eq]; omega
          have hslM : ∀ W, (Instr.slice 9 (.string s) (some (.int .i64 (n : Int))) (some (.int .i64 (i : Int))) none).run Tryz.prog W = .ok (.string M) W := by
            rw [hM]; exact slice_mid s n i (i : Int) hni hi rfl
          obtain ⟨U, hU⟩ : ∃ U : ByteArray, U = ⟨(M.data.toList.map fun c => if c = 10 then 32 else c).toArray⟩ := ⟨_, rfl⟩
          have hUl : U.data.toList = M.data.toList.map fun c => if c = 10 then 32 else c := by rw [hU]
          have hUs : U.size ≤ 100000 := by rw [Lib.size_eq, hUl, List.length_map, ← Lib.size_eq]; exact hMs
          have hRA : Calls Tryz.prog 42 #[.string M, .string ⟨#[10]⟩, .string ⟨#[32]⟩] w fun e w' => e = .returned (.string U) ∧ Below w.heap.size w w' := by
            obtain ⟨m, hm⟩ := hT.max
            have hc := Lib.countB_le ⟨#[10]⟩ (by decide) _ M (Nat.le_refl _)
            have := Tryz.strings_ReplaceAll M ⟨#[10]⟩ ⟨#[32]⟩ m w (by omega) hm (by decide) (by show M.size + Lib.countB M ⟨#[10]⟩ * 1 ≤ _; omega)
            rw [show Lib.replaceAll M.data.toList (⟨#[10]⟩ : ByteArray).data.toList (⟨#[32]⟩ : ByteArray).data.toList = M.data.toList.map fun c => if c = 10 then 32 else c from replaceAll_map 10 32 (by decide) _, ← hU] at this
            exact this
          have HR : Hid (Spec.code s.data.toList = (trimmed U.data.toList, i + n)) := Lib.hid (by
            rw [HC.out, HF.out.2, hr]
            simp only
            rw [codeText_eq, hUl, hMl])
          have hkint : (i : Int) + n = ((i + n : Nat) : Int) := by omega
          have HKI := Lib.hid hkint
          have HTR : ∀ W, Calls Tryz.prog 43 #[.string U, .string ⟨#[32]⟩] W fun e w' => e = .returned (.string ⟨(Lib.trimB U.data.toList 32).toArray⟩) ∧ Below W.heap.size W w' := fun W => (Tryz.strings_Trim_one U 32 (by decide) W (by omega)).mono fun e w' h => ⟨h.1, h.2.elim (fun x => by rw [x]; exact Below.refl _ _) (fun x => by rw [x]; exact (Below.refl _ _).drew)⟩
          clear hk hkn hr hU hUl hMl hM HC HF hkint
          by_cases h1 : 1 < U.size
          · have h1i : (1 : Int) < U.size := by omega
            have hU0 : 0 < U.size := by omega
            have hUl1 : U.size - 1 < U.size := by omega
            have hidx : ∀ W, (Instr.index 9 (.string U) (.int .i64 ((U.size : Int) - 1))).run Tryz.prog W = .ok (.int .u8 ((U[U.size - 1]'hUl1).toNat : Int)) W := fun W => by
              have e : ((U.size : Int) - 1) = ((U.size - 1 : Nat) : Int) := by omega
              rw [e]
              go_simp
            have hlast := lastU_at U hU0
            have hhead := head_cons U hU0
            have hn1 : 1 < U.data.toList.length := by rw [← Lib.size_eq]; exact h1
            have hsame : ¬ (U[0]'hU0 = 32 ∧ U[U.size - 1]'hUl1 = 32 ∧ U.data.toList.all (· == 32) = false) → trimmed U.data.toList = U.data.toList := fun hx => by
              unfold trimmed
              rw [if_neg]
              rintro ⟨_, e1, e2, e3⟩
              rw [hlast] at e2
              rw [hhead] at e1
              exact hx ⟨Option.some.inj e1, Option.some.inj e2, e3⟩
            by_cases hA : U[0]'hU0 = 32
            · have hbA := u8_true hA (x := 32) rfl
              by_cases hZ : U[U.size - 1]'hUl1 = 32
              · have hbZ := u8_true hZ (x := 32) rfl
                obtain ⟨Tb, hTb⟩ : ∃ Tb : ByteArray, Tb = ⟨(Lib.trimB U.data.toList 32).toArray⟩ := ⟨_, rfl⟩
                rw [← hTb] at HTR
                cases hall : U.data.toList.all (· == 32) with
                | true =>
                  have HUE := Lib.hid (hsame (fun x => by rw [hall] at x; cases x.2.2))
                  have hte : Tb.toList.isEmpty = true := by rw [emptyB, hTb]; show (Lib.trimB U.data.toList 32).isEmpty = true; rw [(trimB_all _).2 hall]; rfl
                  clear hall hsame hlast hhead hA hZ hTb hn1
                  go_wp2_with fail
                  refine (hTk _).mono ?_
                  rintro e w1 ⟨rfl, rfl⟩
                  go_wp2_with fail
                  refine hRA.mono ?_
                  rintro e w1 ⟨rfl, hb1⟩
                  go_wp2_with fail
                  refine (HTR _).mono ?_
                  rintro e w2 ⟨rfl, hb2⟩
                  go_wp2
                  go_ret2
                  exact ⟨by rw [HR.out, HUE.out]; exact ret_adr (toL' U) HKI.out, hb1.trans (hb2.mono hb1.size)⟩
                | false =>
                  have hte : Tb.toList.isEmpty = false := by
                    rw [emptyB, hTb]
                    show (Lib.trimB U.data.toList 32).isEmpty = false
                    cases hq : Lib.trimB U.data.toList 32 with
                    | nil => rw [(trimB_all _).1 hq] at hall; cases hall
                    | cons a t => rfl
                  obtain ⟨V, hV⟩ : ∃ V : ByteArray, V = U.extract 1 (U.size - 1) := ⟨_, rfl⟩
                  have hslV : ∀ W, (Instr.slice 9 (.string U) (some (.int .i64 1)) (some (.int .i64 ((U.size : Int) - 1))) none).run Tryz.prog W = .ok (.string V) W := by
                    rw [hV]; exact slice_mid U 1 (U.size - 1) ((U.size : Int) - 1) (by omega) (by omega) (by omega)
                  have HUE : Hid (trimmed U.data.toList = V.data.toList) := Lib.hid (by
                    unfold trimmed
                    rw [if_pos ⟨hn1, by rw [hhead, hA]; rfl, by rw [hlast, hZ], hall⟩, hV, mid_text, dropLast_take, ← Lib.size_eq])
                  clear hall hsame hlast hhead hA hZ hTb hn1 hV
                  go_wp2_with fail
                  refine (hTk _).mono ?_
                  rintro e w1 ⟨rfl, rfl⟩
                  go_wp2_with fail
                  refine hRA.mono ?_
                  rintro e w1 ⟨rfl, hb1⟩
                  go_wp2_with fail
                  refine (HTR _).mono ?_
                  rintro e w2 ⟨rfl, hb2⟩
                  go_wp2
                  go_ret2
                  exact ⟨by rw [HR.out, HUE.out]; exact ret_adr (toL' V) HKI.out, hb1.trans (hb2.mono hb1.size)⟩
              · have hbZ := u8_false hZ (x := 32) rfl
                have HUE := Lib.hid (hsame (fun x => hZ x.2.1))
                clear hsame hlast hhead hA hZ hn1 HTR
                go_wp2_with fail
                refine (hTk _).mono ?_
                rintro e w1 ⟨rfl, rfl⟩
                go_wp2_with fail
                refine hRA.mono ?_
                rintro e w1 ⟨rfl, hb1⟩
                go_wp2
                go_ret2
                exact ⟨by rw [HR.out, HUE.out]; exact ret_adr (toL' U) HKI.out, hb1⟩
            · have hbA := u8_false hA (x := 32) rfl
              have HUE := Lib.hid (hsame (fun x => hA x.1))
              clear hsame hlast hhead hA hn1 HTR hidx
              go_wp2_with fail
              refine (hTk _).mono ?_
              rintro e w1 ⟨rfl, rfl⟩
              go_wp2_with fail
              refine hRA.mono ?_
              rintro e w1 ⟨rfl, hb1⟩
              go_wp2
              go_ret2
              exact ⟨by rw [HR.out, HUE.out]; exact ret_adr (toL' U) HKI.out, hb1⟩
          · have h1i : ¬ (1 : Int) < U.size := by omega
            have hUe : trimmed U.data.toList = U.data.toList := by
              unfold trimmed
              rw [if_neg (fun h => h1 (by have := h.1; rw [← Lib.size_eq] at this; exact this))]
            go_wp2_with fail
            refine (hTk _).mono ?_
            rintro e w1 ⟨rfl, rfl⟩
            go_wp2_with fail
            refine hRA.mono ?_
            rintro e w1 ⟨rfl, hb1⟩
            go_wp2
            go_ret2
            exact ⟨by rw [HR.out, hUe]; exact ret_adr (toL' U) HKI.out, hb1⟩
        · have hr := codeAt_miss n s.data.toList g i (by rw [← Lib.size_eq]; exact hp) (by omega)
          rw [← hk] at hr
          have hkni : ((k : Int) == n) = false := beq_eq_false_iff_ne.2 (by omega)
          have HF2 : Hid (s.size - (i + max 1 k) < g ∧ Spec.codeAt n s.data.toList (s.data.toList.length + 1) n = Spec.codeAt n s.data.toList g (i + max 1 k)) := Lib.hid ⟨by have := HF.out.1; omega, by rw [HF.out.2, hr]⟩
          clear hk hkn hr HF
          go_wp2_with fail
          refine (hTk _).mono ?_
          rintro e w1 ⟨rfl, rfl⟩
          go_wp2
          all_goals
            go_roundw
            case rel => exact ⟨i + max 1 k, g, by omega, by omega, by go_num, HF2, by first | rfl | trivial⟩
            case measure => simp [intOf]; omega
      · have hpi : ¬ (i : Int) < s.size := by omega
        have hr : Spec.codeAt n s.data.toList f i = none := codeAt_end n _ f i (by rw [← Lib.size_eq]; omega)
        have HR : Hid (Spec.code s.data.toList = ([], 0)) := Lib.hid (by rw [HC.out, HF.out.2, hr])
        clear hr HC HF
        go_wp2
        go_ret2
        exact ⟨by rw [HR.out]; rfl, Below.refl _ _⟩
end Go.Proofs.YtmplfiflikhpjaaGreatDoor
/-
  inline's scheme and host of a link, at every text.
-/
namespace Go.Proofs.YtmplfiflikhpjaaGreatDoor
open Go.RowKit

def schemeL : List UInt8 := [97, 98, 99, 100, 101, 102, 103, 104, 105, 106, 107, 108, 109, 110, 111, 112, 113, 114, 115, 116, 117, 118, 119, 120, 121, 122, 65, 66, 67, 68, 69, 70, 71, 72, 73, 74, 75, 76, 77, 78, 79, 80, 81, 82, 83, 84, 85, 86, 87, 88, 89, 90, 48, 49, 50, 51, 52, 53, 54, 55, 56, 57, 43, 46, 45]
def letterL : List UInt8 := [97, 98, 99, 100, 101, 102, 103, 104, 105, 106, 107, 108, 109, 110, 111, 112, 113, 114, 115, 116, 117, 118, 119, 120, 121, 122, 65, 66, 67, 68, 69, 70, 71, 72, 73, 74, 75, 76, 77, 78, 79, 80, 81, 82, 83, 84, 85, 86, 87, 88, 89, 90]
def hostL : List UInt8 := [97, 98, 99, 100, 101, 102, 103, 104, 105, 106, 107, 108, 109, 110, 111, 112, 113, 114, 115, 116, 117, 118, 119, 120, 121, 122, 65, 66, 67, 68, 69, 70, 71, 72, 73, 74, 75, 76, 77, 78, 79, 80, 81, 82, 83, 84, 85, 86, 87, 88, 89, 90, 48, 49, 50, 51, 52, 53, 54, 55, 56, 57, 45]
theorem u8_all {p q : UInt8 → Bool} (h : ∀ n, n < 256 → p (UInt8.ofNat n) = q (UInt8.ofNat n)) (c : UInt8) : p c = q c := by
  have := h c.toNat c.toNat_lt
  rwa [UInt8.ofNat_toNat] at this
theorem schemeL_eq (c : UInt8) : schemeL.contains c = Spec.schemeC c := u8_all (p := (schemeL.contains ·)) (q := Spec.schemeC) (by decide +kernel) c
theorem letterL_eq (c : UInt8) : letterL.contains c = Spec.alpha c := u8_all (p := (letterL.contains ·)) (q := Spec.alpha) (by decide +kernel) c
theorem hostL_eq (c : UInt8) : hostL.contains c = Spec.hostC c := u8_all (p := (hostL.contains ·)) (q := Spec.hostC) (by decide +kernel) c
theorem ne_of_eq {a b : Int} {r : Bool} (h : (a == b) = r) : (a != b) = !r := by rw [bne, h]
theorem angleC_true (c : UInt8) (h : Spec.angleC c = true) : (32 : Int) < (c.toNat : Int) ∧ ((c.toNat : Int) != 60) = true ∧ ((c.toNat : Int) != 62) = true := by
  unfold Spec.angleC at h
  simp only [Bool.and_eq_true, decide_eq_true_eq, bne_iff_ne] at h
  exact ⟨by omega, ne_of_eq (u8_false (b := 60) h.1.2 rfl), ne_of_eq (u8_false (b := 62) h.2 rfl)⟩
theorem angleC_false (c : UInt8) (h : Spec.angleC c = false) : ¬ (32 : Int) < (c.toNat : Int) ∨ ((32 : Int) < (c.toNat : Int) ∧ ((c.toNat : Int) != 60) = false) ∨ ((32 : Int) < (c.toNat : Int) ∧ ((c.toNat : Int) != 60) = true ∧ ((c.toNat : Int) != 62) = false) := by
  by_cases h1 : (32 : Int) < (c.toNat : Int)
  · by_cases h2 : c = 60
    · exact .inr (.inl ⟨h1, ne_of_eq (u8_true h2 rfl)⟩)
    · by_cases h3 : c = 62
      · exact .inr (.inr ⟨h1, ne_of_eq (u8_false h2 rfl), ne_of_eq (u8_true h3 rfl)⟩)
      · exfalso
        unfold Spec.angleC at h
        rw [decide_eq_true (by omega)] at h
        simp [h2, h3] at h
  · exact .inl h1
theorem takeW_len (p : UInt8 → Bool) (l : List UInt8) : (l.takeWhile p).length ≤ l.length := (List.takeWhile_sublist _).length_le
theorem takeW_cons (p : UInt8 → Bool) (c : UInt8) (t : List UInt8) : ((c :: t).takeWhile p).length = if p c = true then (t.takeWhile p).length + 1 else 0 := by
  rw [List.takeWhile_cons]
  split <;> rfl

set_option maxHeartbeats 8000000 in
set_option maxRecDepth 100000 in
theorem scheme_any (s : ByteArray) (w : World) (hs : s.size ≤ 1000000) :
    Calls Tryz.prog 46 #[.string s] w fun r w' => r = .returned (.int .i64 (Spec.scheme s.data.toList : Int)) ∧ Below w.heap.size w w' := by
  obtain ⟨n, hn⟩ : ∃ n, n = (s.data.toList.takeWhile Spec.schemeC).length := ⟨_, rfl⟩
  have hns : n ≤ s.size := by rw [hn, Lib.size_eq]; exact takeW_len _ _
  obtain ⟨t, ht⟩ : ∃ t : ByteArray, t = ⟨(Lib.trimLeftS s.data.toList schemeL).toArray⟩ := ⟨_, rfl⟩
  have hC : ∀ W, Calls Tryz.prog 56 #[.string s, .string ⟨schemeL.toArray⟩] W fun e w' => e = .returned (.string t) ∧ Below W.heap.size W w' := fun W => by
    rw [ht]
    exact inCutLeft_any s ⟨schemeL.toArray⟩ (by unfold Ascii schemeL; decide) W hs
  have hts : (s.size : Int) - t.size = n := by
    have h1 := congrArg List.length (List.takeWhile_append_dropWhile (p := Spec.schemeC) (l := s.data.toList))
    rw [List.length_append, ← hn, ← Lib.size_eq] at h1
    have h2 : t.size = (s.data.toList.dropWhile Spec.schemeC).length := by
      rw [ht, Lib.size_eq]
      show (s.data.toList.dropWhile (schemeL.contains ·)).length = _
      rw [show (schemeL.contains ·) = Spec.schemeC from funext schemeL_eq]
    omega
  have hsp : Spec.scheme s.data.toList = if 2 ≤ n ∧ n ≤ 32 ∧ (s.data.toList.head?.map Spec.alpha) = some true ∧ s.data.toList[n]? = some 58 then n + ((s.data.toList.drop n).takeWhile Spec.angleC).length else 0 := by
    rw [hn]; rfl
  have HSP := Lib.hid hsp
  unfold schemeL at hC
  clear hsp ht
  have enter0 : ∀ (_ : n < 2 ∨ 32 < n), Spec.scheme s.data.toList = 0 := fun h => by rw [HSP.out, if_neg (by omega)]
  by_cases c1 : n < 2
  · have c1i : (n : Int) < 2 := by omega
    rw [enter0 (.inl c1)]
    clear enter0 hn HSP c1
    go_enter Tryz.func46, Tryz.ntmps46
    go_wp2_with (go_at_call 56; refine (hC _).mono ?_; rintro e w1 ⟨rfl, hb1⟩)
    go_ret
    exact ⟨rfl, hb1⟩
  · have c1i : ¬ (n : Int) < 2 := by omega
    by_cases c2 : 32 < n
    · have c2i : (32 : Int) < n := by omega
      rw [enter0 (.inr c2)]
      clear enter0 hn HSP c1 c2
      go_enter Tryz.func46, Tryz.ntmps46
      go_wp2_with (go_at_call 56; refine (hC _).mono ?_; rintro e w1 ⟨rfl, hb1⟩)
      go_ret
      exact ⟨rfl, hb1⟩
    · have c2i : ¬ (32 : Int) < n := by omega
      have hs0 : 0 < s.size := by omega
      have h0i : (0 : Int) < s.size := by omega
      have hhd := head_cons s hs0
      have hI : ∀ W, Calls Tryz.prog 85 #[.int .u8 ((s[0]'hs0).toNat : Int), .string ⟨letterL.toArray⟩] W fun e w' => e = .returned (.bool (Spec.alpha (s[0]'hs0))) ∧ W = w' := fun W => (is_any (s[0]'hs0) ⟨letterL.toArray⟩ W).mono fun e w' h => ⟨by rw [← letterL_eq]; exact h.1, h.2.symm⟩
      have HHD : Hid (s.data.toList.head?.map Spec.alpha = some (Spec.alpha (s[0]'hs0))) := Lib.hid (by rw [hhd]; rfl)
      unfold letterL at hI
      clear enter0 hn hhd
      cases c3 : Spec.alpha (s[0]'hs0) with
      | false =>
        rw [c3] at hI HHD
        have HZ : Hid (Spec.scheme s.data.toList = 0) := Lib.hid (by rw [HSP.out, if_neg (fun h => by rw [HHD.out] at h; cases h.2.2.1)])
        clear c3 HSP HHD
        go_enter Tryz.func46, Tryz.ntmps46
        go_wp2_with (first | (go_at_call 56; refine (hC _).mono ?_; rintro e w1 ⟨rfl, hb1⟩) | (go_at_call 85; refine (hI _).mono ?_; rintro e w2 ⟨rfl, rfl⟩))
        go_ret
        exact ⟨ret_int (by rw [HZ.out]; rfl), hb1⟩
      | true =>
        rw [c3] at hI HHD
        clear c3
        by_cases c4 : n = s.size
        · have c4i : ((n : Int) == s.size) = true := by rw [c4]; exact beq_self_eq_true _
          have HZ : Hid (Spec.scheme s.data.toList = 0) := Lib.hid (by rw [HSP.out, if_neg (fun h => by
            have := h.2.2.2
            rw [List.getElem?_eq_none (by rw [← Lib.size_eq]; omega)] at this
            cases this)])
          clear HSP HHD c4
          go_enter Tryz.func46, Tryz.ntmps46
          go_wp2_with (first | (go_at_call 56; refine (hC _).mono ?_; rintro e w1 ⟨rfl, hb1⟩) | (go_at_call 85; refine (hI _).mono ?_; rintro e w2 ⟨rfl, rfl⟩))
          go_ret
          exact ⟨ret_int (by rw [HZ.out]; rfl), hb1⟩
        · have c4i : ((n : Int) == s.size) = false := beq_eq_false_iff_ne.2 (by omega)
          have hnl : n < s.size := by omega
          have hnli : (n : Int) < s.size := by omega
          have hat := at_list s n hnl
          clear c4
          by_cases c5 : (s[n]'hnl) = 58
          · have c5b := u8_true c5 (x := 58) rfl
            have c5n : (((s[n]'hnl).toNat : Int) != 58) = false := by rw [bne, c5b]; rfl
            have HZ : Hid (Spec.scheme s.data.toList = n + ((s.data.toList.drop n).takeWhile Spec.angleC).length) := Lib.hid (by
              rw [HSP.out, if_pos ⟨by omega, by omega, HHD.out, by rw [hat, c5]⟩])
            clear HSP HHD c5 hat
            go_enter Tryz.func46, Tryz.ntmps46
            go_wp2_with (first | (go_at_call 56; refine (hC _).mono ?_; rintro e w1 ⟨rfl, hb1⟩) | (go_at_call 85; refine (hI _).mono ?_; rintro e w2 ⟨rfl, rfl⟩))
            clear hC hI
            go_loop [3] (fun v3 => ∃ j : Nat, j ≤ s.size ∧ v3 = .int .i64 j ∧ Hid (Spec.scheme s.data.toList = j + ((s.data.toList.drop j).takeWhile Spec.angleC).length)) (fun v3 => s.size - (intOf v3).toNat)
            case atStart => exact ⟨n, hns, rfl, HZ⟩
            case round =>
              obtain ⟨j, hj, rfl, HJ⟩ := hrel
              by_cases hp : j < s.size
              · have hpi : (j : Int) < s.size := by omega
                have htw := takeW_cons Spec.angleC (s[j]'hp) (s.data.toList.drop (j + 1))
                rw [← drop_at s j hp] at htw
                cases hA : Spec.angleC (s[j]'hp) with
                | true =>
                  obtain ⟨a1, a2, a3⟩ := angleC_true _ hA
                  rw [if_pos hA] at htw
                  have HJ2 : Hid (Spec.scheme s.data.toList = (j + 1) + ((s.data.toList.drop (j + 1)).takeWhile Spec.angleC).length) := Lib.hid (by rw [HJ.out, htw]; omega)
                  clear htw hA HJ HZ
                  go_wp2
                  go_round
                  case rel => exact ⟨j + 1, by omega, by go_num, HJ2⟩
                  case measure => simp [intOf]; omega
                | false =>
                  rw [if_neg (by rw [hA]; decide)] at htw
                  have HJ2 : Hid (Spec.scheme s.data.toList = j) := Lib.hid (by rw [HJ.out, htw]; rfl)
                  have hcase := angleC_false _ hA
                  clear htw hA HJ HZ
                  rcases hcase with a1 | ⟨a1, a2⟩ | ⟨a1, a2, a3⟩
                  all_goals
                    go_wp2
                    go_ret
                    exact ⟨ret_int (by rw [HJ2.out]), hb1⟩
              · have hpi : ¬ (j : Int) < s.size := by omega
                have HJ2 : Hid (Spec.scheme s.data.toList = j) := Lib.hid (by rw [HJ.out, List.drop_of_length_le (by rw [← Lib.size_eq]; omega)]; rfl)
                clear HJ HZ
                go_wp2
                go_ret
                exact ⟨ret_int (by rw [HJ2.out]), hb1⟩
          · have c5b := u8_false c5 (x := 58) rfl
            have c5n : (((s[n]'hnl).toNat : Int) != 58) = true := by rw [bne, c5b]; rfl
            have HZ : Hid (Spec.scheme s.data.toList = 0) := Lib.hid (by rw [HSP.out, if_neg (fun h => by
              have := h.2.2.2
              rw [hat] at this
              exact c5 (Option.some.inj this))])
            clear HSP HHD c5 hat
            go_enter Tryz.func46, Tryz.ntmps46
            go_wp2_with (first | (go_at_call 56; refine (hC _).mono ?_; rintro e w1 ⟨rfl, hb1⟩) | (go_at_call 85; refine (hI _).mono ?_; rintro e w2 ⟨rfl, rfl⟩))
            go_ret
            exact ⟨ret_int (by rw [HZ.out]; rfl), hb1⟩
end Go.Proofs.YtmplfiflikhpjaaGreatDoor
/-
  inline.isHost: parts, parted by points, at every text.
-/
namespace Go.Proofs.YtmplfiflikhpjaaGreatDoor
open Go.RowKit

theorem trimHost_any (u : ByteArray) (w : World) (hs : u.size ≤ 1000000) :
    Calls Tryz.prog 43 #[.string u, .string ⟨hostL.toArray⟩] w fun e w' => e = .returned (.string ⟨(Lib.trimS u.data.toList hostL).toArray⟩) ∧ Below w.heap.size w w' :=
  Any.strings_Trim_laid Tryz.lays160 (by kernel_rfl) u ⟨hostL.toArray⟩ w (by omega) (by decide) (ascii_of_all (by decide))
/-- The text that a trim leaves is empty just where all bytes are of the set. -/
theorem trimS_empty (u : ByteArray) (cs : List UInt8) : (⟨(Lib.trimS u.data.toList cs).toArray⟩ : ByteArray).toList.isEmpty = u.data.toList.all (cs.contains ·) := by
  rw [emptyB]
  show (Lib.trimS u.data.toList cs).isEmpty = _
  cases h : u.data.toList.all (cs.contains ·) with
  | true => rw [(trimS_all _ _).2 h]; rfl
  | false =>
    cases hq : Lib.trimS u.data.toList cs with
    | nil => rw [(trimS_all _ _).1 hq] at h; cases h
    | cons a t => rfl

set_option maxHeartbeats 8000000 in
set_option maxRecDepth 100000 in
theorem isHost_any (s : ByteArray) (w : World) (hs : s.size ≤ 100000) (hT : TabsM w) :
    Calls Tryz.prog 48 #[.string s] w fun r w' => r = .returned (.bool (Spec.host s.data.toList)) ∧ Below w.heap.size w w' := by
  obtain ⟨PB, hPB⟩ : ∃ PB : List ByteArray, PB = (Spec.parts s.data.toList).map fun p => ⟨p.toArray⟩ := ⟨_, rfl⟩
  obtain ⟨n, hn⟩ : ∃ n, n = Lib.countB s ⟨#[46]⟩ + 1 := ⟨_, rfl⟩
  have hsz : Lib.countB s ⟨#[46]⟩ ≤ s.size := Lib.countB_le ⟨#[46]⟩ (by decide) _ s (Nat.le_refl _)
  have hnl : PB.length = n := by
    have := Lib.splitB_all ⟨#[46]⟩ (by decide) 0 _ s rfl
    rw [split_parts _ s rfl, ← hPB] at this
    omega
  have hns : n ≤ 100001 := by omega
  have hSplit : Calls Tryz.prog 104 #[.string s, .string ⟨#[46]⟩] w fun e w' => e = .returned (.slice (some ⟨w.heap.size, 0, none⟩) n n) ∧ w' = w.alloc (.cells (PB.map Value.string).toArray 9) := by
    obtain ⟨m, hm⟩ := hT.max
    have := Tryz.strings_Split s ⟨#[46]⟩ m w (by omega) hm (by decide)
    rw [split_parts _ s rfl, ← hPB, ← hn] at this
    exact this
  have HH : Hid (Spec.host s.data.toList = PB.all fun p => Spec.partOk p.data.toList) := Lib.hid (by
    unfold Spec.host
    rw [hPB, List.all_map]
    congr 1)
  have hsmall : ∀ p ∈ PB, p.size ≤ 100000 := by
    intro p hp
    rw [hPB] at hp
    obtain ⟨q, hq, rfl⟩ := List.mem_map.1 hp
    rw [Lib.size_eq]
    have key : ∀ l : List UInt8, ∀ q ∈ Spec.parts l, q.length ≤ l.length := by
      intro l
      induction l with
      | nil => intro q hq; rw [show Spec.parts [] = [[]] from by rw [Spec.parts]] at hq; simp at hq; subst hq; exact Nat.le_refl _
      | cons c t ih =>
        intro q hq
        rw [show Spec.parts (c :: t) = if c = 46 then [] :: Spec.parts t else match Spec.parts t with | p :: ps => (c :: p) :: ps | [] => [[c]] from by rw [Spec.parts]; rfl] at hq
        by_cases h : c = 46
        · rw [if_pos h] at hq
          rcases List.mem_cons.1 hq with rfl | hq
          · simp
          · have := ih q hq; simp only [List.length_cons]; omega
        · rw [if_neg h] at hq
          cases hpt : Spec.parts t with
          | nil => rw [hpt] at hq; simp at hq; subst hq; simp
          | cons p ps =>
            rw [hpt] at hq ih
            simp only at hq
            rcases List.mem_cons.1 hq with rfl | hq
            · have := ih p (by simp); simp only [List.length_cons]; omega
            · have := ih q (by simp [hq]); simp only [List.length_cons]; omega
    have := key _ q hq
    rw [← Lib.size_eq] at this
    show q.length ≤ _
    omega
  have HSM := Lib.hid hsmall
  have HNL := Lib.hid hnl
  clear hPB hn hsz hsmall hnl
  go_enter Tryz.func48, Tryz.ntmps48
  go_wp2_with fail
  refine hSplit.mono ?_
  rintro e w1 ⟨rfl, rfl⟩
  clear hSplit
  go_wp2_with fail
  go_loopw [8] (fun v8 wr => ∃ j : Nat, j ≤ n ∧ v8 = .int .i64 j ∧ Hid (∀ k : Nat, k < j → ∀ p, PB[k]? = some p → Spec.partOk p.data.toList = true) ∧ Hid (∀ (k : Nat) p, PB[k]? = some p → wr.cell? ⟨w.heap.size, k, none⟩ = some (.string p)) ∧ Below w.heap.size w wr ∧ w.heap.size < wr.heap.size) (fun v8 _ => n - (intOf v8).toNat)
  case atStart =>
    refine ⟨0, Nat.zero_le _, rfl, Lib.hid (fun k hk => absurd hk (Nat.not_lt_zero _)), Lib.hid (fun k p hp => ?_), (Below.refl _ _).alloc (Nat.le_refl _) _, by simp⟩
    rw [show (⟨w.heap.size, k, none⟩ : Addr) = ⟨w.heap.size, k, none⟩ from rfl, cell_of_row _ _ _ _ _ _ (heap_alloc_new w _)]
    simp [hp]
  case round =>
    obtain ⟨j, hj, rfl, HO, HC, hbw, hbs⟩ := hrel
    by_cases hp : j < n
    · have hpi : (j : Int) < n := by omega
      obtain ⟨P, hP⟩ : ∃ P, PB[j]? = some P := ⟨_, List.getElem?_eq_getElem (by have := HNL.out; omega)⟩
      have hcell := HC.out j P hP
      have hPs := HSM.out P (List.mem_of_getElem? hP)
      have HP := Lib.hid hP
      have hTr := fun W => trimHost_any P W (by omega)
      have hte := trimS_empty P hostL
      rw [show (fun x => hostL.contains x) = Spec.hostC from funext hostL_eq] at hte
      generalize (⟨(Lib.trimS P.data.toList hostL).toArray⟩ : ByteArray) = Q at hTr hte
      have HTE := Lib.hid hte
      unfold hostL at hTr
      have no : Spec.partOk P.data.toList = false → Spec.host s.data.toList = false := fun h => by
        rw [HH.out, ← Bool.not_eq_true, List.all_eq_true]
        intro hx
        rw [hx P (List.mem_of_getElem? HP.out)] at h
        cases h
      have NO := Lib.hid no
      clear no hte hP
      by_cases c1 : 0 < P.size
      · have hP0 := isEmpty_false c1
        have c1i : (0 : Int) < P.size := by omega
        have hPl : P.size - 1 < P.size := by omega
        have hhd := head_cons P c1
        have hla := lastU_at P c1
        have hidx : ∀ W, (Instr.index 9 (.string P) (.int .i64 ((P.size : Int) - 1))).run Tryz.prog W = .ok (.int .u8 ((P[P.size - 1]'hPl).toNat : Int)) W := fun W => by
          have e : ((P.size : Int) - 1) = ((P.size - 1 : Nat) : Int) := by omega
          rw [e]
          go_simp
        have HPO : Hid (Spec.partOk P.data.toList = (decide (P.size ≤ 63) && (P[0]'c1) != 45 && (P[P.size - 1]'hPl) != 45 && P.data.toList.all Spec.hostC)) := Lib.hid (by
          unfold Spec.partOk
          rw [← Lib.size_eq, decide_eq_true c1, Bool.true_and, hla]
          rw [show P.data.toList.head? = some (P[0]'c1) by rw [hhd]; rfl]
          rfl)
        clear hhd hla
        by_cases c2 : 63 < P.size
        · have c2i : (63 : Int) < P.size := by omega
          have hz := NO.out (by rw [HPO.out, decide_eq_false (by omega)]; rfl)
          have HZ := Lib.hid hz
          clear hz
          go_wp2
          go_ret
          exact ⟨ret_bool HZ.out.symm, hbw⟩
        · have c2i : ¬ (63 : Int) < P.size := by omega
          by_cases c3 : (P[0]'c1) = 45
          · have c3b := u8_true c3 (x := 45) rfl
            have hz := NO.out (by rw [HPO.out, c3]; simp)
            have HZ := Lib.hid hz
            clear hz c3
            go_wp2
            go_ret
            exact ⟨ret_bool HZ.out.symm, hbw⟩
          · have c3b := u8_false c3 (x := 45) rfl
            by_cases c4 : (P[P.size - 1]'hPl) = 45
            · have c4b := u8_true c4 (x := 45) rfl
              have hz := NO.out (by rw [HPO.out, c4]; simp)
              have HZ := Lib.hid hz
              clear hz c4 c3
              go_wp2
              go_ret
              exact ⟨ret_bool HZ.out.symm, hbw⟩
            · have c4b := u8_false c4 (x := 45) rfl
              cases c5 : P.data.toList.all Spec.hostC with
              | false =>
                have hQe : Q.toList.isEmpty = false := by rw [HTE.out]; exact c5
                have hz := NO.out (by rw [HPO.out, c5]; simp)
                have HZ := Lib.hid hz
                clear hz c5 c4 c3
                go_wp2_with fail
                refine (hTr _).mono ?_
                rintro e w2 ⟨rfl, hb2⟩
                go_wp2
                go_ret
                exact ⟨ret_bool HZ.out.symm, hbw.trans (hb2.mono hbw.size)⟩
              | true =>
                have hQe : Q.toList.isEmpty = true := by rw [HTE.out]; exact c5
                have hok : Spec.partOk P.data.toList = true := by
                  rw [HPO.out, c5, decide_eq_true (by omega)]
                  simp [c3, c4]
                have HO2 : Hid (∀ k : Nat, k < j + 1 → ∀ p, PB[k]? = some p → Spec.partOk p.data.toList = true) := Lib.hid (fun k hk p hp2 => by
                  by_cases e : k = j
                  · subst e
                    rw [HP.out] at hp2
                    obtain rfl := Option.some.inj hp2
                    exact hok
                  · exact HO.out k (by omega) p hp2)
                clear c5 c4 c3 hok
                go_wp2_with fail
                refine (hTr _).mono ?_
                rintro e w2 ⟨rfl, hb2⟩
                have HC2 : Hid (∀ (k : Nat) p, PB[k]? = some p → w2.cell? ⟨w.heap.size, k, none⟩ = some (.string p)) := Lib.hid (fun k p hp2 => (hb2.cell (p := ⟨w.heap.size, k, none⟩) hbs).trans (HC.out k p hp2))
                have hbw2 := hbw.trans (hb2.mono hbw.size)
                have hbs2 : w.heap.size < w2.heap.size := Nat.lt_of_lt_of_le hbs hb2.size
                clear hb2 hTr hcell
                go_wp2
                go_roundw
                case rel => exact ⟨j + 1, by omega, by go_num, HO2, HC2, hbw2, hbs2⟩
                case measure => simp [intOf]; omega
      · have hP0 := isEmpty_true c1
        have hz := NO.out (by rw [text_empty c1]; rfl)
        have HZ := Lib.hid hz
        clear hz
        go_wp2
        go_ret
        exact ⟨ret_bool HZ.out.symm, hbw⟩
    · have hpi : ¬ (j : Int) < n := by omega
      have hz : Spec.host s.data.toList = true := by
        rw [HH.out, List.all_eq_true]
        intro p hpm
        obtain ⟨k, hk, rfl⟩ := List.getElem_of_mem hpm
        exact HO.out k (by have := HNL.out; omega) _ (List.getElem?_eq_getElem hk)
      have HZ := Lib.hid hz
      clear hz
      go_wp2
      go_ret
      exact ⟨ret_bool HZ.out.symm, hbw⟩
end Go.Proofs.YtmplfiflikhpjaaGreatDoor
