/-
  Addresses: which bytes stand in one as they are, and ent.URI whole, at every text.
-/
import Derived.Test.YtipbmagondoooaaDoorBuild
import Derived.Test.YtipbmagondoooaaDoorUnesc
import Derived.Shelf.Strings.SlTrimAscii
import Derived.Laws.BitsLemmas
import Derived.StillTailTactics
namespace Go.Proofs.YtipbmagondoooaaDoor
open Go.RowKit

set_option maxHeartbeats 4000000 in
set_option maxRecDepth 100000 in
theorem isLetter_any (c : UInt8) (w : World) :
    Calls Tryd.prog 34 #[.int .u8 (c.toNat : Int)] w fun e w' => e = .returned (.bool (Spec.letter c)) ∧ w' = w := by
  obtain ⟨x, hx⟩ : ∃ x : Int, x = (c.toNat : Int) := ⟨_, rfl⟩
  have x0 : 0 ≤ x := by omega
  have x1 : x ≤ 255 := by have := c.toNat_lt; omega
  obtain ⟨b, hb⟩ : ∃ b, b = Spec.letter c := ⟨_, rfl⟩
  have hway : x < 48 ∨ (48 ≤ x ∧ x ≤ 57) ∨ (57 < x ∧ x < 65) ∨ (65 ≤ x ∧ x ≤ 90) ∨ (90 < x ∧ x < 97) ∨ (97 ≤ x ∧ x ≤ 122) ∨ 122 < x := by omega
  rw [← hb, ← hx]
  unfold Spec.letter at hb
  rcases hway with h | ⟨h, h'⟩ | ⟨h, h'⟩ | ⟨h, h'⟩ | ⟨h, h'⟩ | ⟨h, h'⟩ | h
  all_goals first
    | (have HF : Hid (b = true) := Lib.hid (by rw [hb]; simp only [Bool.or_eq_true, Bool.and_eq_true, decide_eq_true_eq]; omega)
       clear hb hx
       go_enter Tryd.func34, Tryd.ntmps34
       go_wp2
       go_ret
       exact ⟨by first | (rw [HF.out]; rfl) | exact ret_bool (by rw [HF.out]; simp only [Bool.or_eq_false_iff, Bool.and_eq_false_iff, Bool.or_eq_true, Bool.and_eq_true, decide_eq_false_iff_not, decide_eq_true_eq]; omega), rfl⟩)
    | (have HF : Hid (b = false) := Lib.hid (by rw [hb]; simp only [Bool.or_eq_false_iff, Bool.and_eq_false_iff, decide_eq_false_iff_not]; omega)
       clear hb hx
       go_enter Tryd.func34, Tryd.ntmps34
       go_wp2
       go_ret
       exact ⟨by first | (rw [HF.out]; rfl) | exact ret_bool (by rw [HF.out]; simp only [Bool.or_eq_false_iff, Bool.and_eq_false_iff, Bool.or_eq_true, Bool.and_eq_true, decide_eq_false_iff_not, decide_eq_true_eq]; omega), rfl⟩)

theorem mem_takeWhile {α : Type} (p : α → Bool) : ∀ (l : List α) (x : α), x ∈ l.takeWhile p → p x = true
  | [], _, h => by cases h
  | y :: l, x, h => by
    rw [List.takeWhile_cons] at h
    by_cases hy : p y = true
    · rw [if_pos hy] at h
      rcases List.mem_cons.1 h with rfl | h
      · exact hy
      · exact mem_takeWhile p l x h
    · rw [if_neg hy] at h; cases h
theorem trim_nil (l cs : List UInt8) : (Lib.trimS l cs = []) ↔ l.all (cs.contains ·) = true := by
  unfold Lib.trimS Lib.trimLeftS Lib.trimRightS
  rw [List.all_eq_true]
  constructor
  · intro h x hx
    have h2 := List.all_eq_true.1 ((dropWhile_nil _ _).1 h)
    rcases Decidable.em (cs.contains x = true) with hc | hc
    · exact hc
    · refine h2 x ?_
      rw [List.mem_reverse]
      have hs := List.takeWhile_append_dropWhile (p := (cs.contains ·)) (l := l.reverse)
      have hm : x ∈ l.reverse := List.mem_reverse.2 hx
      rw [← hs] at hm
      rcases List.mem_append.1 hm with h3 | h3
      · exact absurd (mem_takeWhile _ _ _ h3) hc
      · exact h3
  · intro h
    have : l.reverse.dropWhile (cs.contains ·) = [] := (dropWhile_nil _ _).2 (List.all_eq_true.2 fun x hx => h x (List.mem_reverse.1 hx))
    rw [this]
    rfl
def hexB2 : ByteArray := ⟨#[48, 49, 50, 51, 52, 53, 54, 55, 56, 57, 97, 98, 99, 100, 101, 102, 65, 66, 67, 68, 69, 70]⟩
set_option maxRecDepth 100000 in
theorem trimHex_any (s : ByteArray) (w : World) (hs : s.size ≤ 1000000) :
    Calls Tryd.prog 52 #[.string s, .string hexB2] w fun e w' => e = .returned (.string ⟨(Lib.trimS s.data.toList Spec.hexs).toArray⟩) ∧ Below w.heap.size w w' :=
  Any.strings_Trim_laid Tryd.lays160 (by kernel_rfl) s hexB2 w (by omega) (by decide) (ascii_of_all (by decide))

set_option maxHeartbeats 4000000 in
set_option maxRecDepth 100000 in
theorem isHex_any (s : ByteArray) (w : World) (hs : s.size ≤ 1000000) :
    Calls Tryd.prog 35 #[.string s] w fun e w' => e = .returned (.bool (Spec.isHex s.data.toList)) ∧ Below w.heap.size w w' := by
  by_cases h : 2 ≤ s.size
  · have hi : (2 : Int) ≤ s.size := by omega
    have hT := fun W => trimHex_any (s.extract 0 2) W (by rw [ByteArray.size_extract]; omega)
    have he : (s.extract 0 2).data.toList = s.data.toList.take 2 := by rw [take_text]
    rw [he] at hT
    obtain ⟨r, hr⟩ : ∃ r : ByteArray, r = ⟨(Lib.trimS (s.data.toList.take 2) Spec.hexs).toArray⟩ := ⟨_, rfl⟩
    rw [← hr] at hT
    have hq : r.toList.isEmpty = Spec.isHex s.data.toList := by
      rw [ByteArray.toList_eq, hr]
      have hl : 2 ≤ s.data.toList.length := by rw [← Lib.size_eq]; exact h
      match s.data.toList, hl with
      | a :: b :: t, _ =>
        rw [Bool.eq_iff_iff, List.isEmpty_iff]
        have := trim_nil [a, b] Spec.hexs
        simp only [List.all_cons, List.all_nil, Bool.and_true] at this
        show (Lib.trimS [a, b] Spec.hexs = []) ↔ _
        rw [this]
        rfl
    obtain ⟨q, hqq⟩ : ∃ q, q = Spec.isHex s.data.toList := ⟨_, rfl⟩
    rw [← hqq] at hq ⊢
    unfold hexB2 at hT
    have HQ := Lib.hid hq
    clear hr he hqq hq
    go_enter Tryd.func35, Tryd.ntmps35
    go_wp2_with (go_at_call 52; refine (hT _).mono ?_; rintro e w1 ⟨rfl, hb⟩)
    go_ret
    exact ⟨ret_bool HQ.out, hb⟩
  · have hi : ¬ (2 : Int) ≤ s.size := by omega
    have HF : Hid (Spec.isHex s.data.toList = false) := Lib.hid (by
      have hl : s.data.toList.length < 2 := by rw [← Lib.size_eq]; omega
      match s.data.toList, hl with
      | [], _ => rfl
      | [_], _ => rfl)
    go_enter Tryd.func35, Tryd.ntmps35
    go_wp2
    go_ret
    exact ⟨by rw [HF.out]; rfl, Below.refl _ w⟩

/-! ### ent.URI -/
theorem idx_has (l : List UInt8) (c : UInt8) : (0 ≤ Lib.indexByte l c ↔ l.contains c = true) ∧ -1 ≤ Lib.indexByte l c := by
  induction l with
  | nil => exact ⟨by simp [Lib.indexByte], by simp [Lib.indexByte]⟩
  | cons a l ih =>
    rw [Lib.indexByte, List.contains_cons]
    by_cases h : (a == c) = true
    · have h2 : (c == a) = true := by rw [beq_iff_eq] at h ⊢; exact h.symm
      rw [if_pos h, h2]
      simp
    · have h2 : (c == a) = false := by
        rw [beq_eq_false_iff_ne]; intro e; exact h (beq_iff_eq.2 e.symm)
      rw [if_neg h, h2, Bool.false_or]
      by_cases h3 : (Lib.indexByte l c == -1) = true
      · rw [if_pos h3]
        rw [beq_iff_eq] at h3
        constructor
        · rw [← ih.1]; omega
        · omega
      · rw [if_neg h3]
        have h3 : Lib.indexByte l c ≠ -1 := fun e => h3 (beq_iff_eq.2 e)
        constructor
        · rw [← ih.1]; omega
        · omega
theorem below_drew {B : Nat} {w W : World} (h : Below B w W) : Below B w W.drew := ⟨h.os, h.tape, h.output, h.size, h.block⟩
def plainB : ByteArray := ⟨#[59, 47, 63, 58, 64, 38, 61, 43, 36, 44, 45, 95, 46, 33, 126, 42, 39, 40, 41, 35]⟩
/-- Does a byte stand in an address as it is? -/
def stands (c : UInt8) (t : List UInt8) : Prop := Spec.letter c = true ∨ Spec.plains.contains c = true ∨ (c = 37 ∧ Spec.isHex t = true)
theorem uri_cons (c : UInt8) (t : List UInt8) (h : stands c t) : Spec.uri (c :: t) = [c] ++ Spec.uri t := by
  unfold stands at h; rw [Spec.uri, if_pos h]
theorem uri_cons' (c : UInt8) (t : List UInt8) (h : ¬ stands c t) : Spec.uri (c :: t) = [37, Spec.cap (c.toNat / 16), Spec.cap (c.toNat % 16)] ++ Spec.uri t := by
  unfold stands at h; rw [Spec.uri, if_neg h]
theorem cap_at : ∀ n : Nat, n < 16 → ∀ s : ByteArray, s = ⟨#[48, 49, 50, 51, 52, 53, 54, 55, 56, 57, 65, 66, 67, 68, 69, 70]⟩ → s.extract n (n + 1) = ⟨#[Spec.cap n]⟩ := by
  intro n hn s hs
  subst hs
  match n, hn with
  | 0, _ | 1, _ | 2, _ | 3, _ | 4, _ | 5, _ | 6, _ | 7, _ | 8, _ | 9, _ | 10, _ | 11, _ | 12, _ | 13, _ | 14, _ | 15, _ => rfl
  | n + 16, h => exact absurd h (by omega)
def UriAt (s : ByteArray) (pos : Nat) (acc : List UInt8) : Prop := acc ++ Spec.uri (s.data.toList.drop pos) = Spec.uri s.data.toList ∧ acc.length ≤ 3 * pos

theorem pct_any (W : World) (bs : List UInt8) (B hi lo : Nat) (m1 m2 : ByteArray) (h1 : m1 = ⟨#[Spec.cap hi]⟩) (h2 : m2 = ⟨#[Spec.cap lo]⟩) (hI : Lib.IsBuilderF 44 5 B B (Lib.byteCells bs) W) (hl : bs.length ≤ 3000000) (hB : B ≤ W.heap.size) :
    Calls Tryd.prog 32 #[.pointer (some ⟨B, 0, none⟩), .string ((⟨#[37]⟩ : ByteArray) ++ m1 ++ m2)] W fun e w' => e = .returned (.tuple #[.int .i64 3, .nilIface]) ∧ Lib.IsBuilderF 44 5 B B (Lib.byteCells (bs ++ [37, Spec.cap hi, Spec.cap lo])) w' ∧ Below B W w' := by
  obtain ⟨m, hm⟩ : ∃ m, m = (⟨#[37]⟩ : ByteArray) ++ m1 ++ m2 := ⟨_, rfl⟩
  have hd : m.data.toList = [37, Spec.cap hi, Spec.cap lo] := by
    rw [hm, h1, h2]
    simp [ByteArray.data_append]
  have hs : m.size = 3 := by rw [Lib.size_eq, hd]; rfl
  rw [← hm]
  refine (writeString_any B B _ m W hI (by rw [Lib.byteCells_length, hs]; omega) hB).mono ?_
  rintro e w2 ⟨rfl, hI2, hb2, _⟩
  rw [strCells_bytes, hd, ← Lib.byteCells_append] at hI2
  exact ⟨by rw [hs]; rfl, hI2, hb2⟩

set_option maxHeartbeats 1000000 in
set_option maxRecDepth 1000000 in
theorem uri_any (s : ByteArray) (w : World) (hs : s.size ≤ 1000000) :
    Calls Tryd.prog 16 #[.string s] w fun e w' => e = .returned (.string ⟨(Spec.uri s.data.toList).toArray⟩) ∧ Below w.heap.size w w' := by
  go_enter Tryd.func16, Tryd.ntmps16
  go_wp2
  go_loopw [8] (fun v8 wr => ∃ (pos : Nat) (acc : List UInt8), pos ≤ s.size ∧ v8 = .int .i64 pos ∧ Lib.IsBuilderF 44 5 w.heap.size w.heap.size (Lib.byteCells acc) wr ∧ Below w.heap.size w wr ∧ Hid (UriAt s pos acc)) (fun v8 _ => s.size - (intOf v8).toNat)
  case atStart =>
    exact ⟨0, [], Nat.zero_le _, rfl, Lib.IsBuilderF.of (Lib.fresh_isBuilder 44 5 w), (Below.refl _ w).alloc (Nat.le_refl _) _, Lib.hid ⟨rfl, Nat.zero_le _⟩⟩
  case round =>
    obtain ⟨pos, acc, hpl, rfl, hI, hbw, HU⟩ := hrel
    have hsz : w.heap.size ≤ wr.heap.size := hbw.size
    have hal : acc.length ≤ 3 * pos := HU.out.2
    by_cases hp : pos < s.size
    · have hpi : (pos : Int) < s.size := by omega
      have hdrop : s.data.toList.drop pos = (s[pos]'hp) :: s.data.toList.drop (pos + 1) := by
        rw [List.drop_eq_getElem_cons (by simpa using hp)]; rfl
      obtain ⟨c, hc⟩ : ∃ c, c = s[pos]'hp := ⟨_, rfl⟩
      have hL := fun W => isLetter_any c W
      have hJ : ∀ W, Calls Tryd.prog 23 #[.string plainB, .int .u8 (c.toNat : Int)] W fun e w' => e = .returned (.int .i64 (Lib.indexByte Spec.plains c)) ∧ w' = W := fun W => by
        have := Tryd.strings_IndexByte plainB (c.toNat : Int) W
        rw [show (c.toNat : Int).toNat.toUInt8 = c by simp] at this
        exact this
      unfold plainB at hJ
      obtain ⟨x, hx⟩ : ∃ x, x = s.extract (pos + 1) s.size := ⟨_, rfl⟩
      have hxl : x.data.toList = s.data.toList.drop (pos + 1) := by rw [hx, drop_text s (pos + 1) (by omega)]
      have hxs : x.size ≤ 1000000 := by rw [Lib.size_eq, hxl, List.length_drop, ← Lib.size_eq]; omega
      have hH := fun W => isHex_any x W hxs
      rw [hxl, hx] at hH
      have hsl : ∀ W, (Instr.slice 9 (.string s) (some (.int .i64 ((pos : Int) + 1))) none none).run Tryd.prog W = .ok (.string (s.extract (pos + 1) s.size)) W := fun W => by
        rw [run_slice_string_from_if W _ _ .i64 _ Tryd.underlying9, if_pos ⟨by omega, by omega⟩]
        rfl
      rw [← hc] at hdrop
      clear hx hxl hxs
      have hidx := idx_has Spec.plains c
      obtain ⟨k, hk⟩ : ∃ k, k = Lib.indexByte Spec.plains c := ⟨_, rfl⟩
      rw [← hk] at hidx hJ
      clear hk
      have hN : Hid (∀ u : List UInt8, Spec.uri (c :: s.data.toList.drop (pos + 1)) = u ++ Spec.uri (s.data.toList.drop (pos + 1)) → u.length ≤ 3 → ∀ W, Lib.IsBuilderF 44 5 w.heap.size w.heap.size (Lib.byteCells (acc ++ u)) W → Below w.heap.size w W →
          (∃ (p2 : Nat) (acc2 : List UInt8), p2 ≤ s.size ∧ Value.int .i64 ((pos + 1 : Nat) : Int) = .int .i64 p2 ∧ Lib.IsBuilderF 44 5 w.heap.size w.heap.size (Lib.byteCells acc2) W ∧ Below w.heap.size w W ∧ Hid (UriAt s p2 acc2))) := Lib.hid fun u hu hul W h1 h2 =>
        ⟨pos + 1, acc ++ u, by omega, rfl, h1, h2, Lib.hid ⟨by rw [List.append_assoc, ← hu, ← hdrop]; exact HU.out.1, by rw [List.length_append]; omega⟩⟩
      have hcx : (c.toNat : Int) ≤ 255 := by have := c.toNat_lt; omega
      have hc0 : 0 ≤ (c.toNat : Int) := by omega
      clear HU hdrop
      by_cases hst : stands c (s.data.toList.drop (pos + 1))
      · have HX := Lib.hid (hN.out _ (uri_cons c _ hst) (by simp))
        clear hN
        by_cases hl : Spec.letter c = true
        · rw [hl] at hL
          clear hst hidx hJ hH hl
          go_wp2_with (go_at_call 34; rw [← hc]; refine (hL _).mono ?_; rintro e w1 ⟨rfl, rfl⟩)
          refine (writeByte_any w.heap.size w.heap.size _ _ _ hI (by rw [Lib.byteCells_length]; omega) hsz).mono ?_
          rintro e w2 ⟨rfl, hI2, hb2, _⟩
          rw [← hc, byteCells_snoc] at hI2
          have hbb : Below w.heap.size w w2 := hbw.trans hb2
          have HI2 := Lib.hid hI2
          clear hI2 hI hb2
          go_wp2
          go_roundw
          case rel => exact HX.out w2 HI2.out hbb
          case measure => simp [intOf]; omega
        · have hl : Spec.letter c = false := by simpa using hl
          rw [hl] at hL
          by_cases hpl2 : Spec.plains.contains c = true
          · have hk0 : 0 ≤ k := hidx.1.2 hpl2
            clear hst hidx hH hl hpl2
            go_wp2_with (first | (go_at_call 34; rw [← hc]; refine (hL _).mono ?_; rintro e w1 ⟨rfl, rfl⟩) | (go_at_call 23; rw [← hc]; refine (hJ _).mono ?_; rintro e w1 ⟨rfl, rfl⟩))
            refine (writeByte_any w.heap.size w.heap.size _ _ _ hI (by rw [Lib.byteCells_length]; omega) hsz).mono ?_
            rintro e w2 ⟨rfl, hI2, hb2, _⟩
            rw [← hc, byteCells_snoc] at hI2
            have hbb : Below w.heap.size w w2 := hbw.trans hb2
            have HI2 := Lib.hid hI2
            clear hI2 hI hb2
            go_wp2
            go_roundw
            case rel => exact HX.out w2 HI2.out hbb
            case measure => simp [intOf]; omega
          · have hk0 : k < 0 := by
              apply Decidable.byContradiction
              intro h
              exact hpl2 (hidx.1.1 (by omega))
            obtain ⟨h37, hx⟩ : c = 37 ∧ Spec.isHex (s.data.toList.drop (pos + 1)) = true := by
              rcases hst with h | h | h
              · rw [hl] at h; cases h
              · exact absurd h hpl2
              · exact h
            rw [hx] at hH
            have h37b : (((s[pos]'hp).toNat : Int) == 37) = true := by rw [← hc, h37]; rfl
            clear hst hidx hl hpl2 hx
            go_wp2_with (first | (go_at_call 34; rw [← hc]; refine (hL _).mono ?_; rintro e w1 ⟨rfl, rfl⟩) | (go_at_call 23; rw [← hc]; refine (hJ _).mono ?_; rintro e w1 ⟨rfl, rfl⟩) | (go_at_call 35; refine (hH _).mono ?_; rintro e w1 ⟨rfl, hb1⟩))
            have hI := bld_below hI hb1
            have hbw := hbw.trans (hb1.mono hsz)
            have hsz : w.heap.size ≤ w1.heap.size := hbw.size
            refine (writeByte_any w.heap.size w.heap.size _ _ _ hI (by rw [Lib.byteCells_length]; omega) hsz).mono ?_
            rintro e w2 ⟨rfl, hI2, hb2, _⟩
            rw [← hc, byteCells_snoc] at hI2
            have hbb : Below w.heap.size w w2 := hbw.trans hb2
            have HI2 := Lib.hid hI2
            clear hI2 hI hb2
            go_wp2
            go_roundw
            case rel => exact HX.out w2 HI2.out hbb
            case measure => simp [intOf]; omega
      · have HX := Lib.hid (hN.out _ (uri_cons' c _ hst) (by simp))
        clear hN
        have hl : Spec.letter c = false := by
          cases h : Spec.letter c
          · rfl
          · exact absurd (.inl h) hst
        have hk0 : k < 0 := by
          apply Decidable.byContradiction
          intro h
          exact hst (.inr (.inl (hidx.1.1 (by omega))))
        rw [hl] at hL
        obtain ⟨hi, hhi⟩ : ∃ hi : Nat, hi = c.toNat / 16 := ⟨_, rfl⟩
        obtain ⟨lo, hlo⟩ : ∃ lo : Nat, lo = c.toNat % 16 := ⟨_, rfl⟩
        rw [← hhi, ← hlo] at HX
        have hhi16 : hi < 16 := by have := c.toNat_lt; omega
        have hlo16 : lo < 16 := by omega
        have hhe : ((s[pos]'hp).toNat : Int) / 16 = (hi : Int) := by rw [← hc]; omega
        have hle : bits .and .u8 ((s[pos]'hp).toNat : Int) 15 = (lo : Int) := by rw [← hc, u8_and15 _ hc0 (by omega)]; omega
        have hs1 : ∀ W, (Instr.slice 9 (.string ⟨#[48, 49, 50, 51, 52, 53, 54, 55, 56, 57, 65, 66, 67, 68, 69, 70]⟩) (some (.int .u8 (hi : Int))) (some (.int .u8 ((hi : Int) + 1))) none).run Tryd.prog W = .ok (.string ⟨#[Spec.cap hi]⟩) W := fun W => by
          rw [run_slice_string W _ _ .u8 .u8 _ _ Tryd.underlying9 (by omega) (by omega) (by show (hi : Int) + 1 ≤ 16; omega)]
          rw [show ((hi : Int) + 1).toNat = hi + 1 by omega, Int.toNat_natCast, cap_at hi hhi16 _ rfl]
        have hs2 : ∀ W, (Instr.slice 9 (.string ⟨#[48, 49, 50, 51, 52, 53, 54, 55, 56, 57, 65, 66, 67, 68, 69, 70]⟩) (some (.int .u8 (lo : Int))) (some (.int .u8 ((lo : Int) + 1))) none).run Tryd.prog W = .ok (.string ⟨#[Spec.cap lo]⟩) W := fun W => by
          rw [run_slice_string W _ _ .u8 .u8 _ _ Tryd.underlying9 (by omega) (by omega) (by show (lo : Int) + 1 ≤ 16; omega)]
          rw [show ((lo : Int) + 1).toNat = lo + 1 by omega, Int.toNat_natCast, cap_at lo hlo16 _ rfl]
        have hw1 : IntKind.u8.wrap ((hi : Int) + 1) = (hi : Int) + 1 := wraps_u8 _ (by omega) (by omega)
        have hw2 : IntKind.u8.wrap ((lo : Int) + 1) = (lo : Int) + 1 := wraps_u8 _ (by omega) (by omega)
        obtain ⟨m1, hm1⟩ : ∃ m1 : ByteArray, m1 = ⟨#[Spec.cap hi]⟩ := ⟨_, rfl⟩
        obtain ⟨m2, hm2⟩ : ∃ m2 : ByteArray, m2 = ⟨#[Spec.cap lo]⟩ := ⟨_, rfl⟩
        rw [← hm1] at hs1
        rw [← hm2] at hs2
        have hWS := fun (W : World) (bs : List UInt8) (h1 : Lib.IsBuilderF 44 5 w.heap.size w.heap.size (Lib.byteCells bs) W) (h2 : bs.length ≤ 3000000) (h3 : w.heap.size ≤ W.heap.size) => pct_any W bs w.heap.size hi lo m1 m2 hm1 hm2 h1 h2 h3
        have z1 : m1.size = 1 := by rw [hm1]; rfl
        have z2 : m2.size = 1 := by rw [hm2]; rfl
        have z3 : ((⟨#[37]⟩ : ByteArray) ++ m1).size = 2 := by rw [ByteArray.size_append, z1]; rfl
        clear hm1 hm2
        clear hhi hlo hidx hl
        by_cases h37 : c = 37
        · have hx : Spec.isHex (s.data.toList.drop (pos + 1)) = false := by
            cases h : Spec.isHex (s.data.toList.drop (pos + 1))
            · rfl
            · exact absurd (.inr (.inr ⟨h37, h⟩)) hst
          rw [hx] at hH
          have h37b : (((s[pos]'hp).toNat : Int) == 37) = true := by rw [← hc, h37]; rfl
          clear hst hx
          go_wp2_with (first | (go_at_call 34; rw [← hc]; refine (hL _).mono ?_; rintro e w1 ⟨rfl, rfl⟩) | (go_at_call 23; rw [← hc]; refine (hJ _).mono ?_; rintro e w1 ⟨rfl, rfl⟩) | (go_at_call 35; refine (hH _).mono ?_; rintro e w1 ⟨rfl, hb1⟩))
          have hI := bld_below hI hb1
          have hbw := hbw.trans (hb1.mono hsz)
          have hsz : w.heap.size ≤ w1.heap.size := hbw.size
          go_still_tail 14, (by kernel_rfl)
          change wpList _ _ _ _ _ w1.drew
          have hI := bld_below hI (below_drew (Below.refl _ _))
          have hbw := below_drew hbw
          have hsz : w.heap.size ≤ _ := hbw.size
          generalize w1.drew = wd at hI hbw hsz ⊢
          go_wp2_with fail
          refine (hWS _ _ hI (by omega) hsz).mono ?_
          rintro e w2 ⟨rfl, hI2, hb2⟩
          have hbb : Below w.heap.size w w2 := hbw.trans hb2
          have HI2 := Lib.hid hI2
          clear hI2 hI hb2
          go_wp2
          go_roundw
          case rel => exact HX.out w2 HI2.out hbb
          case measure => simp [intOf]; omega
        · have h37b : (((s[pos]'hp).toNat : Int) == 37) = false := beq_eq_false_iff_ne.2 (fun e => h37 (UInt8.toNat_inj.1 (by rw [← hc] at e; have : (37 : UInt8).toNat = 37 := rfl; omega)))
          clear hst
          go_wp2_with (first | (go_at_call 34; rw [← hc]; refine (hL _).mono ?_; rintro e w1 ⟨rfl, rfl⟩) | (go_at_call 23; rw [← hc]; refine (hJ _).mono ?_; rintro e w1 ⟨rfl, rfl⟩))
          go_still_tail 14, (by kernel_rfl)
          change wpList _ _ _ _ _ w1.drew
          have hI := bld_below hI (below_drew (Below.refl _ _))
          have hbw := below_drew hbw
          have hsz : w.heap.size ≤ _ := hbw.size
          generalize w1.drew = wd at hI hbw hsz ⊢
          go_wp2_with fail
          refine (hWS _ _ hI (by omega) hsz).mono ?_
          rintro e w2 ⟨rfl, hI2, hb2⟩
          have hbb : Below w.heap.size w w2 := hbw.trans hb2
          have HI2 := Lib.hid hI2
          clear hI2 hI hb2
          go_wp2
          go_roundw
          case rel => exact HX.out w2 HI2.out hbb
          case measure => simp [intOf]; omega
    · -- the text is through
      have hpe : pos = s.size := by omega
      have hfin : acc = Spec.uri s.data.toList := by
        have := HU.out.1
        rw [List.drop_of_length_le (by rw [← Lib.size_eq]; omega), Spec.uri, List.append_nil] at this
        exact this
      have HF := Lib.hid hfin
      have HP : Hid (pos = s.size) := Lib.hid hpe
      clear hpe hfin HU
      have hpi : ¬ (pos : Int) < s.size := by omega
      go_wp2_with (go_at_call 33; refine (Tryd.Builder_String_any_k w.heap.size w.heap.size acc _ hI (by omega)).mono ?_; rintro e w1 ⟨rfl, _, hb1, _⟩)
      go_ret
      exact ⟨ret_str (by rw [HF.out]), hbw.trans hb1⟩
end Go.Proofs.YtipbmagondoooaaDoor
