/-
  Texts of one proof, joined: Uri, InD.
-/
import Derived.Test.YtmplfiflikhpjaaGreatDoorV04
import Derived.Test.YtmplfiflikhpjaaGreatDoorV05
import Derived.Laws.BitsLemmas
import Derived.Shelf.Strings.SlTrimAscii
import Derived.StillTailTactics
/-
  Addresses: which bytes stand in one as they are, and ent.URI whole, at every text.
-/
namespace Go.Proofs.YtmplfiflikhpjaaGreatDoor
open Go.RowKit

set_option maxHeartbeats 4000000 in
set_option maxRecDepth 100000 in
theorem isLetter_any (c : UInt8) (w : World) :
    Calls Tryz.prog 86 #[.int .u8 (c.toNat : Int)] w fun e w' => e = .returned (.bool (Spec.letter c)) ∧ w' = w := by
  obtain ⟨x, hx⟩ : ∃ x : Int, x = (c.toNat : Int) := ⟨_, rfl⟩
  have x0 : 0 ≤ x := by omega
  have x1 : x ≤ 255 := by have := c.toNat_lt; omega
  obtain ⟨b, hb⟩ : ∃ b, b = Spec.letter c := ⟨_, rfl⟩
  have hway : x < 48 ∨ (48 ≤ x ∧ x ≤ 57) ∨ (57 < x ∧ x < 65) ∨ (65 ≤ x ∧ x ≤ 90) ∨ (90 < x ∧ x < 97) ∨ (97 ≤ x ∧ x ≤ 122) ∨ 122 < x := by omega
  rw [← hb, ← hx]
  unfold Spec.letter at hb
  rcases hway with h | ⟨h, h'⟩ | ⟨h, h'⟩ | ⟨h, h'⟩ | ⟨h, h'⟩ | ⟨h, h'⟩ | h
  all_goals first
    | (have HF : Hid (b = true) := Lib.hid (by rw [hb]; simp only [Bool.or_eq_true, Bool.and_eq_true, decide_eq_true_eq]; omega)
       clear hb hx
       go_enter Tryz.func86, Tryz.ntmps86
       go_wp2
       go_ret
       exact ⟨by first | (rw [HF.out]; rfl) | exact ret_bool (by rw [HF.out]; simp only [Bool.or_eq_false_iff, Bool.and_eq_false_iff, Bool.or_eq_true, Bool.and_eq_true, decide_eq_false_iff_not, decide_eq_true_eq]; omega), rfl⟩)
    | (have HF : Hid (b = false) := Lib.hid (by rw [hb]; simp only [Bool.or_eq_false_iff, Bool.and_eq_false_iff, decide_eq_false_iff_not]; omega)
       clear hb hx
       go_enter Tryz.func86, Tryz.ntmps86
       go_wp2
       go_ret
       exact ⟨by first | (rw [HF.out]; rfl) | exact ret_bool (by rw [HF.out]; simp only [Bool.or_eq_false_iff, decide_eq_false_iff_not]; omega), rfl⟩)

theorem mem_takeWhile {α : Type} (p : α → Bool) : ∀ (l : List α) (x : α), x ∈ l.takeWhile p → p x = true
  | [], _, h => by cases h
  | y :: l, x, h => by
    rw [List.takeWhile_cons] at h
    by_cases hy : p y = true
    · rw [if_pos hy] at h
      rcases List.mem_cons.1 h with rfl | h
      · exact hy
      · exact mem_takeWhile p l x h
    · rw [if_neg hy] at h; cases h
theorem trim_nil (l cs : List UInt8) : (Lib.trimS l cs = []) ↔ l.all (cs.contains ·) = true := by
  unfold Lib.trimS Lib.trimLeftS Lib.trimRightS
  rw [List.all_eq_true]
  constructor
  · intro h x hx
    have h2 := List.all_eq_true.1 ((dropWhile_nil _ _).1 h)
    rcases Decidable.em (cs.contains x = true) with hc | hc
    · exact hc
    · refine h2 x ?_
      rw [List.mem_reverse]
      have hs := List.takeWhile_append_dropWhile (p := (cs.contains ·)) (l := l.reverse)
      have hm : x ∈ l.reverse := List.mem_reverse.2 hx
      rw [← hs] at hm
      rcases List.mem_append.1 hm with h3 | h3
      · exact absurd (mem_takeWhile _ _ _ h3) hc
      · exact h3
  · intro h
    have : l.reverse.dropWhile (cs.contains ·) = [] := (dropWhile_nil _ _).2 (List.all_eq_true.2 fun x hx => h x (List.mem_reverse.1 hx))
    rw [this]
    rfl
def hexB2 : ByteArray := ⟨#[48, 49, 50, 51, 52, 53, 54, 55, 56, 57, 97, 98, 99, 100, 101, 102, 65, 66, 67, 68, 69, 70]⟩
set_option maxRecDepth 100000 in
theorem trimHex_any (s : ByteArray) (w : World) (hs : s.size ≤ 1000000) :
    Calls Tryz.prog 43 #[.string s, .string hexB2] w fun e w' => e = .returned (.string ⟨(Lib.trimS s.data.toList Spec.hexs).toArray⟩) ∧ Below w.heap.size w w' :=
  Any.strings_Trim_laid Tryz.lays160 (by kernel_rfl) s hexB2 w (by omega) (by decide) (ascii_of_all (by decide))

set_option maxHeartbeats 4000000 in
set_option maxRecDepth 100000 in
theorem isHex_any (s : ByteArray) (w : World) (hs : s.size ≤ 1000000) :
    Calls Tryz.prog 88 #[.string s] w fun e w' => e = .returned (.bool (Spec.isHex s.data.toList)) ∧ Below w.heap.size w w' := by
  by_cases h : 2 ≤ s.size
  · have hi : (2 : Int) ≤ s.size := by omega
    have hT := fun W => trimHex_any (s.extract 0 2) W (by rw [ByteArray.size_extract]; omega)
    have he : (s.extract 0 2).data.toList = s.data.toList.take 2 := by rw [take_text]
    rw [he] at hT
    obtain ⟨r, hr⟩ : ∃ r : ByteArray, r = ⟨(Lib.trimS (s.data.toList.take 2) Spec.hexs).toArray⟩ := ⟨_, rfl⟩
    rw [← hr] at hT
    have hq : r.toList.isEmpty = Spec.isHex s.data.toList := by
      rw [ByteArray.toList_eq, hr]
      have hl : 2 ≤ s.data.toList.length := by rw [← Lib.size_eq]; exact h
      match s.data.toList, hl with
      | a :: b :: t, _ =>
        rw [Bool.eq_iff_iff, List.isEmpty_iff]
        have := trim_nil [a, b] Spec.hexs
        simp only [List.all_cons, List.all_nil, Bool.and_true] at this
        show (Lib.trimS [a, b] Spec.hexs = []) ↔ _
        rw [this]
        rfl
    obtain ⟨q, hqq⟩ : ∃ q, q = Spec.isHex s.data.toList := ⟨_, rfl⟩
    rw [← hqq] at hq ⊢
    unfold hexB2 at hT
    have HQ := Lib.hid hq
    clear hr he hqq hq
    go_enter Tryz.func88, Tryz.ntmps88
    go_wp2_with (go_at_call 43; refine (hT _).mono ?_; rintro e w1 ⟨rfl, hb⟩)
    go_ret
    exact ⟨ret_bool HQ.out, hb⟩
  · have hi : ¬ (2 : Int) ≤ s.size := by omega
    have HF : Hid (Spec.isHex s.data.toList = false) := Lib.hid (by
      have hl : s.data.toList.length < 2 := by rw [← Lib.size_eq]; omega
      match s.data.toList, hl with
      | [], _ => rfl
      | [_], _ => rfl)
    go_enter Tryz.func88, Tryz.ntmps88
    go_wp2
    go_ret
    exact ⟨by rw [HF.out]; rfl, Below.refl _ w⟩

/-! ### ent.URI -/
theorem idx_has (l : List UInt8) (c : UInt8) : (0 ≤ Lib.indexByte l c ↔ l.contains c = true) ∧ -1 ≤ Lib.indexByte l c := by
  induction l with
  | nil => exact ⟨by simp [Lib.indexByte], by simp [Lib.indexByte]⟩
  | cons a l ih =>
    rw [Lib.indexByte, List.contains_cons]
    by_cases h : (a == c) = true
    · have h2 : (c == a) = true := by rw [beq_iff_eq] at h ⊢; exact h.symm
      rw [if_pos h, h2]
      simp
    · have h2 : (c == a) = false := by
        rw [beq_eq_false_iff_ne]; intro e; exact h (beq_iff_eq.2 e.symm)
      rw [if_neg h, h2, Bool.false_or]
      by_cases h3 : (Lib.indexByte l c == -1) = true
      · rw [if_pos h3]
        rw [beq_iff_eq] at h3
        constructor
        · rw [← ih.1]; omega
        · omega
      · rw [if_neg h3]
        have h3 : Lib.indexByte l c ≠ -1 := fun e => h3 (beq_iff_eq.2 e)
        constructor
        · rw [← ih.1]; omega
        · omega
theorem below_drew {B : Nat} {w W : World} (h : Below B w W) : Below B w W.drew := ⟨h.os, h.tape, h.output, h.size, h.block⟩
def plainB : ByteArray := ⟨#[59, 47, 63, 58, 64, 38, 61, 43, 36, 44, 45, 95, 46, 33, 126, 42, 39, 40, 41, 35]⟩
/-- Does a byte stand in an address as it is? -/
def stands (c : UInt8) (t : List UInt8) : Prop := Spec.letter c = true ∨ Spec.plains.contains c = true ∨ (c = 37 ∧ Spec.isHex t = true)
theorem uri_cons (c : UInt8) (t : List UInt8) (h : stands c t) : Spec.uri (c :: t) = [c] ++ Spec.uri t := by
  unfold stands at h; rw [Spec.uri, if_pos h]
theorem uri_cons' (c : UInt8) (t : List UInt8) (h : ¬ stands c t) : Spec.uri (c :: t) = [37, Spec.cap (c.toNat / 16), Spec.cap (c.toNat % 16)] ++ Spec.uri t := by
  unfold stands at h; rw [Spec.uri, if_neg h]
theorem cap_at : ∀ n : Nat, n < 16 → ∀ s : ByteArray, s = ⟨#[48, 49, 50, 51, 52, 53, 54, 55, 56, 57, 65, 66, 67, 68, 69, 70]⟩ → s.extract n (n + 1) = ⟨#[Spec.cap n]⟩ := by
  intro n hn s hs
  subst hs
  match n, hn with
  | 0, _ | 1, _ | 2, _ | 3, _ | 4, _ | 5, _ | 6, _ | 7, _ | 8, _ | 9, _ | 10, _ | 11, _ | 12, _ | 13, _ | 14, _ | 15, _ => rfl
  | n + 16, h => exact absurd h (by omega)
def UriAt (s : ByteArray) (pos : Nat) (acc : List UInt8) : Prop := acc ++ Spec.uri (s.data.toList.drop pos) = Spec.uri s.data.toList ∧ acc.length ≤ 3 * pos

theorem pct_any (W : World) (bs : List UInt8) (B hi lo : Nat) (m1 m2 : ByteArray) (h1 : m1 = ⟨#[Spec.cap hi]⟩) (h2 : m2 = ⟨#[Spec.cap lo]⟩) (hI : Lib.IsBuilderF 100 5 B B (Lib.byteCells bs) W) (hl : bs.length ≤ 3000000) (hB : B ≤ W.heap.size) :
    Calls Tryz.prog 90 #[.pointer (some ⟨B, 0, none⟩), .string ((⟨#[37]⟩ : ByteArray) ++ m1 ++ m2)] W fun e w' => e = .returned (.tuple #[.int .i64 3, .nilIface]) ∧ Lib.IsBuilderF 100 5 B B (Lib.byteCells (bs ++ [37, Spec.cap hi, Spec.cap lo])) w' ∧ Below B W w' := by
  obtain ⟨m, hm⟩ : ∃ m, m = (⟨#[37]⟩ : ByteArray) ++ m1 ++ m2 := ⟨_, rfl⟩
  have hd : m.data.toList = [37, Spec.cap hi, Spec.cap lo] := by
    rw [hm, h1, h2]
    simp [ByteArray.data_append]
  have hs : m.size = 3 := by rw [Lib.size_eq, hd]; rfl
  rw [← hm]
  refine (writeString_any B B _ m W hI (by rw [Lib.byteCells_length, hs]; omega) hB).mono ?_
  rintro e w2 ⟨rfl, hI2, hb2, _⟩
  rw [strCells_bytes, hd, ← Lib.byteCells_append] at hI2
  exact ⟨by rw [hs]; rfl, hI2, hb2⟩

set_option maxHeartbeats 1000000 in
set_option maxRecDepth 1000000 in
theorem uri_any (s : ByteArray) (w : World) (hs : s.size ≤ 1000000) :
    Calls Tryz.prog 33 #[.string s] w fun e w' => e = .returned (.string ⟨(Spec.uri s.data.toList).toArray⟩) ∧ Below w.heap.size w w' := by
  go_enter Tryz.func33, Tryz.ntmps33
  go_wp2
  go_loopw [8] (fun v8 wr => ∃ (pos : Nat) (acc : List UInt8), pos ≤ s.size ∧ v8 = .int .i64 pos ∧ Lib.IsBuilderF 100 5 w.heap.size w.heap.size (Lib.byteCells acc) wr ∧ Below w.heap.size w wr ∧ Hid (UriAt s pos acc)) (fun v8 _ => s.size - (intOf v8).toNat)
  case atStart =>
    exact ⟨0, [], Nat.zero_le _, rfl, Lib.IsBuilderF.of (Lib.fresh_isBuilder 100 5 w), (Below.refl _ w).alloc (Nat.le_refl _) _, Lib.hid ⟨rfl, Nat.zero_le _⟩⟩
  case round =>
    obtain ⟨pos, acc, hpl, rfl, hI, hbw, HU⟩ := hrel
    have hsz : w.heap.size ≤ wr.heap.size := hbw.size
    have hal : acc.length ≤ 3 * pos := HU.out.2
    by_cases hp : pos < s.size
    · have hpi : (pos : Int) < s.size := by omega
      have hdrop : s.data.toList.drop pos = (s[pos]'hp) :: s.data.toList.drop (pos + 1) := by
        rw [List.drop_eq_getElem_cons (by simpa using hp)]; rfl
      obtain ⟨c, hc⟩ : ∃ c, c = s[pos]'hp := ⟨_, rfl⟩
      have hL := fun W => isLetter_any c W
      have hJ : ∀ W, Calls Tryz.prog 87 #[.string plainB, .int .u8 (c.toNat : Int)] W fun e w' => e = .returned (.int .i64 (Lib.indexByte Spec.plains c)) ∧ w' = W := fun W => by
        have := Tryz.strings_IndexByte plainB (c.toNat : Int) W
        rw [show (c.toNat : Int).toNat.toUInt8 = c by simp] at this
        exact this
      unfold plainB at hJ
      obtain ⟨x, hx⟩ : ∃ x, x = s.extract (pos + 1) s.size := ⟨_, rfl⟩
      have hxl : x.data.toList = s.data.toList.drop (pos + 1) := by rw [hx, drop_text s (pos + 1) (by omega)]
      have hxs : x.size ≤ 1000000 := by rw [Lib.size_eq, hxl, List.length_drop, ← Lib.size_eq]; omega
      have hH := fun W => isHex_any x W hxs
      rw [hxl, hx] at hH
      have hsl : ∀ W, (Instr.slice 9 (.string s) (some (.int .i64 ((pos : Int) + 1))) none none).run Tryz.prog W = .ok (.string (s.extract (pos + 1) s.size)) W := fun W => by
        rw [run_slice_string_from_if W _ _ .i64 _ Tryz.underlying9, if_pos ⟨by omega, by omega⟩]
        rfl
      rw [← hc] at hdrop
      clear hx hxl hxs
      have hidx := idx_has Spec.plains c
      obtain ⟨k, hk⟩ : ∃ k, k = Lib.indexByte Spec.plains c := ⟨_, rfl⟩
      rw [← hk] at hidx hJ
      clear hk
      have hN : Hid (∀ u : List UInt8, Spec.uri (c :: s.data.toList.drop (pos + 1)) = u ++ Spec.uri (s.data.toList.drop (pos + 1)) → u.length ≤ 3 → ∀ W, Lib.IsBuilderF 100 5 w.heap.size w.heap.size (Lib.byteCells (acc ++ u)) W → Below w.heap.size w W →
          (∃ (p2 : Nat) (acc2 : List UInt8), p2 ≤ s.size ∧ Value.int .i64 ((pos + 1 : Nat) : Int) = .int .i64 p2 ∧ Lib.IsBuilderF 100 5 w.heap.size w.heap.size (Lib.byteCells acc2) W ∧ Below w.heap.size w W ∧ Hid (UriAt s p2 acc2))) := Lib.hid fun u hu hul W h1 h2 =>
        ⟨pos + 1, acc ++ u, by omega, rfl, h1, h2, Lib.hid ⟨by rw [List.append_assoc, ← hu, ← hdrop]; exact HU.out.1, by rw [List.length_append]; omega⟩⟩
      have hcx : (c.toNat : Int) ≤ 255 := by have := c.toNat_lt; omega
      have hc0 : 0 ≤ (c.toNat : Int) := by omega
      clear HU hdrop
      by_cases hst : stands c (s.data.toList.drop (pos + 1))
      · have HX := Lib.hid (hN.out _ (uri_cons c _ hst) (by simp))
        clear hN
        by_cases hl : Spec.letter c = true
        · rw [hl] at hL
          clear hst hidx hJ hH hl
          go_wp2_with (go_at_call 86; rw [← hc]; refine (hL _).mono ?_; rintro e w1 ⟨rfl, rfl⟩)
          refine (writeByte_any w.heap.size w.heap.size _ _ _ hI (by rw [Lib.byteCells_length]; omega) hsz).mono ?_
          rintro e w2 ⟨rfl, hI2, hb2, _⟩
          rw [← hc, byteCells_snoc] at hI2
          have hbb : Below w.heap.size w w2 := hbw.trans hb2
          have HI2 := Lib.hid hI2
          clear hI2 hI hb2
          go_wp2
          go_roundw
          case rel => exact HX.out w2 HI2.out hbb
          case measure => simp [intOf]; omega
        · have hl : Spec.letter c = false := by simpa using hl
          rw [hl] at hL
          by_cases hpl2 : Spec.plains.contains c = true
          · have hk0 : 0 ≤ k := hidx.1.2 hpl2
            clear hst hidx hH hl hpl2
            go_wp2_with (first | (go_at_call 86; rw [← hc]; refine (hL _).mono ?_; rintro e w1 ⟨rfl, rfl⟩) | (go_at_call 87; rw [← hc]; refine (hJ _).mono ?_; rintro e w1 ⟨rfl, rfl⟩))
            refine (writeByte_any w.heap.size w.heap.size _ _ _ hI (by rw [Lib.byteCells_length]; omega) hsz).mono ?_
            rintro e w2 ⟨rfl, hI2, hb2, _⟩
            rw [← hc, byteCells_snoc] at hI2
            have hbb : Below w.heap.size w w2 := hbw.trans hb2
            have HI2 := Lib.hid hI2
            clear hI2 hI hb2
            go_wp2
            go_roundw
            case rel => exact HX.out w2 HI2.out hbb
            case measure => simp [intOf]; omega
          · have hk0 : k < 0 := by
              apply Decidable.byContradiction
              intro h
              exact hpl2 (hidx.1.1 (by omega))
            obtain ⟨h37, hx⟩ : c = 37 ∧ Spec.isHex (s.data.toList.drop (pos + 1)) = true := by
              rcases hst with h | h | h
              · rw [hl] at h; cases h
              · exact absurd h hpl2
              · exact h
            rw [hx] at hH
            have h37b : (((s[pos]'hp).toNat : Int) == 37) = true := by rw [← hc, h37]; rfl
            clear hst hidx hl hpl2 hx
            go_wp2_with (first | (go_at_call 86; rw [← hc]; refine (hL _).mono ?_; rintro e w1 ⟨rfl, rfl⟩) | (go_at_call 87; rw [← hc]; refine (hJ _).mono ?_; rintro e w1 ⟨rfl, rfl⟩) | (go_at_call 88; refine (hH _).mono ?_; rintro e w1 ⟨rfl, hb1⟩))
            have hI := bld_below hI hb1
            have hbw := hbw.trans (hb1.mono hsz)
            have hsz : w.heap.size ≤ w1.heap.size := hbw.size
            refine (writeByte_any w.heap.size w.heap.size _ _ _ hI (by rw [Lib.byteCells_length]; omega) hsz).mono ?_
            rintro e w2 ⟨rfl, hI2, hb2, _⟩
            rw [← hc, byteCells_snoc] at hI2
            have hbb : Below w.heap.size w w2 := hbw.trans hb2
            have HI2 := Lib.hid hI2
            clear hI2 hI hb2
            go_wp2
            go_roundw
            case rel => exact HX.out w2 HI2.out hbb
            case measure => simp [intOf]; omega
      · have HX := Lib.hid (hN.out _ (uri_cons' c _ hst) (by simp))
        clear hN
        have hl : Spec.letter c = false := by
          cases h : Spec.letter c
          · rfl
          · exact absurd (.inl h) hst
        have hk0 : k < 0 := by
          apply Decidable.byContradiction
          intro h
          exact hst (.inr (.inl (hidx.1.1 (by omega))))
        rw [hl] at hL
        obtain ⟨hi, hhi⟩ : ∃ hi : Nat, hi = c.toNat / 16 := ⟨_, rfl⟩
        obtain ⟨lo, hlo⟩ : ∃ lo : Nat, lo = c.toNat % 16 := ⟨_, rfl⟩
        rw [← hhi, ← hlo] at HX
        have hhi16 : hi < 16 := by have := c.toNat_lt; omega
        have hlo16 : lo < 16 := by omega
        have hhe : ((s[pos]'hp).toNat : Int) / 16 = (hi : Int) := by rw [← hc]; omega
        have hle : bits .and .u8 ((s[pos]'hp).toNat : Int) 15 = (lo : Int) := by rw [← hc, u8_and15 _ hc0 (by omega)]; omega
        have hs1 : ∀ W, (Instr.slice 9 (.string ⟨#[48, 49, 50, 51, 52, 53, 54, 55, 56, 57, 65, 66, 67, 68, 69, 70]⟩) (some (.int .u8 (hi : Int))) (some (.int .u8 ((hi : Int) + 1))) none).run Tryz.prog W = .ok (.string ⟨#[Spec.cap hi]⟩) W := fun W => by
          rw [run_slice_string W _ _ .u8 .u8 _ _ Tryz.underlying9 (by omega) (by omega) (by show (hi : Int) + 1 ≤ 16; omega)]
          rw [show ((hi : Int) + 1).toNat = hi + 1 by omega, Int.toNat_natCast, cap_at hi hhi16 _ rfl]
        have hs2 : ∀ W, (Instr.slice 9 (.string ⟨#[48, 49, 50, 51, 52, 53, 54, 55, 56, 57, 65, 66, 67, 68, 69, 70]⟩) (some (.int .u8 (lo : Int))) (some (.int .u8 ((lo : Int) + 1))) none).run Tryz.prog W = .ok (.string ⟨#[Spec.cap lo]⟩) W := fun W => by
          rw [run_slice_string W _ _ .u8 .u8 _ _ Tryz.underlying9 (by omega) (by omega) (by show (lo : Int) + 1 ≤ 16; omega)]
          rw [show ((lo : Int) + 1).toNat = lo + 1 by omega, Int.toNat_natCast, cap_at lo hlo16 _ rfl]
        have hw1 : IntKind.u8.wrap ((hi : Int) + 1) = (hi : Int) + 1 := wraps_u8 _ (by omega) (by omega)
        have hw2 : IntKind.u8.wrap ((lo : Int) + 1) = (lo : Int) + 1 := wraps_u8 _ (by omega) (by omega)
        obtain ⟨m1, hm1⟩ : ∃ m1 : ByteArray, m1 = ⟨#[Spec.cap hi]⟩ := ⟨_, rfl⟩
        obtain ⟨m2, hm2⟩ : ∃ m2 : ByteArray, m2 = ⟨#[Spec.cap lo]⟩ := ⟨_, rfl⟩
        rw [← hm1] at hs1
        rw [← hm2] at hs2
        have hWS := fun (W : World) (bs : List UInt8) (h1 : Lib.IsBuilderF 100 5 w.heap.size w.heap.size (Lib.byteCells bs) W) (h2 : bs.length ≤ 3000000) (h3 : w.heap.size ≤ W.heap.size) => pct_any W bs w.heap.size hi lo m1 m2 hm1 hm2 h1 h2 h3
        have z1 : m1.size = 1 := by rw [hm1]; rfl
        have z2 : m2.size = 1 := by rw [hm2]; rfl
        have z3 : ((⟨#[37]⟩ : ByteArray) ++ m1).size = 2 := by rw [ByteArray.size_append, z1]; rfl
        clear hm1 hm2
        clear hhi hlo hidx hl
        by_cases h37 : c = 37
        · have hx : Spec.isHex (s.data.toList.drop (pos + 1)) = false := by
            cases h : Spec.isHex (s.data.toList.drop (pos + 1))
            · rfl
            · exact absurd (.inr (.inr ⟨h37, h⟩)) hst
          rw [hx] at hH
          have h37b : (((s[pos]'hp).toNat : Int) == 37) = true := by rw [← hc, h37]; rfl
          clear hst hx
          go_wp2_with (first | (go_at_call 86; rw [← hc]; refine (hL _).mono ?_; rintro e w1 ⟨rfl, rfl⟩) | (go_at_call 87; rw [← hc]; refine (hJ _).mono ?_; rintro e w1 ⟨rfl, rfl⟩) | (go_at_call 88; refine (hH _).mono ?_; rintro e w1 ⟨rfl, hb1⟩))
          have hI := bld_below hI hb1
          have hbw := hbw.trans (hb1.mono hsz)
          have hsz : w.heap.size ≤ w1.heap.size := hbw.size
          go_still_tail 14, (by kernel_rfl)
          change wpList _ _ _ _ _ w1.drew
          have hI := bld_below hI (below_drew (Below.refl _ _))
          have hbw := below_drew hbw
          have hsz : w.heap.size ≤ _ := hbw.size
          generalize w1.drew = wd at hI hbw hsz ⊢
          go_wp2_with fail
          refine (hWS _ _ hI (by omega) hsz).mono ?_
          rintro e w2 ⟨rfl, hI2, hb2⟩
          have hbb : Below w.heap.size w w2 := hbw.trans hb2
          have HI2 := Lib.hid hI2
          clear hI2 hI hb2
          go_wp2
          go_roundw
          case rel => exact HX.out w2 HI2.out hbb
          case measure => simp [intOf]; omega
        · have h37b : (((s[pos]'hp).toNat : Int) == 37) = false := beq_eq_false_iff_ne.2 (fun e => h37 (UInt8.toNat_inj.1 (by rw [← hc] at e; have : (37 : UInt8).toNat = 37 := rfl; omega)))
          clear hst
          go_wp2_with (first | (go_at_call 86; rw [← hc]; refine (hL _).mono ?_; rintro e w1 ⟨rfl, rfl⟩) | (go_at_call 87; rw [← hc]; refine (hJ _).mono ?_; rintro e w1 ⟨rfl, rfl⟩))
          go_still_tail 14, (by kernel_rfl)
          change wpList _ _ _ _ _ w1.drew
          have hI := bld_below hI (below_drew (Below.refl _ _))
          have hbw := below_drew hbw
          have hsz : w.heap.size ≤ _ := hbw.size
          generalize w1.drew = wd at hI hbw hsz ⊢
          go_wp2_with fail
          refine (hWS _ _ hI (by omega) hsz).mono ?_
          rintro e w2 ⟨rfl, hI2, hb2⟩
          have hbb : Below w.heap.size w w2 := hbw.trans hb2
          have HI2 := Lib.hid hI2
          clear hI2 hI hb2
          go_wp2
          go_roundw
          case rel => exact HX.out w2 HI2.out hbb
          case measure => simp [intOf]; omega
    · -- the text is through
      have hpe : pos = s.size := by omega
      have hfin : acc = Spec.uri s.data.toList := by
        have := HU.out.1
        rw [List.drop_of_length_le (by rw [← Lib.size_eq]; omega), Spec.uri, List.append_nil] at this
        exact this
      have HF := Lib.hid hfin
      have HP : Hid (pos = s.size) := Lib.hid hpe
      clear hpe hfin HU
      have hpi : ¬ (pos : Int) < s.size := by omega
      go_wp2_with (go_at_call 91; refine (Tryz.Builder_String_any_k w.heap.size w.heap.size acc _ hI (by omega)).mono ?_; rintro e w1 ⟨rfl, _, hb1, _⟩)
      go_ret
      exact ⟨ret_str (by rw [HF.out]), hbw.trans hb1⟩
end Go.Proofs.YtmplfiflikhpjaaGreatDoor
/-
  inline.Dest: where a link leads, at every text.
-/
namespace Go.Proofs.YtmplfiflikhpjaaGreatDoor
open Go.RowKit

theorem unesc_len4 (l : List UInt8) : (Spec.unesc l).length ≤ 4 * l.length := by
  have h : ∀ n (l : List UInt8), l.length ≤ n → (Spec.unesc l).length ≤ 4 * l.length := by
    intro n
    induction n with
    | zero =>
      intro l h
      obtain rfl := List.length_eq_zero_iff.1 (Nat.le_zero.1 h)
      exact Nat.le_refl _
    | succ n ih =>
      intro l h
      cases l with
      | nil => exact Nat.le_refl _
      | cons c t =>
        have hs := step_le c t
        rw [unesc_cons, List.length_append]
        have := ih ((c :: t).drop (Spec.step (c :: t)).2) (by rw [List.length_drop]; omega)
        rw [List.length_drop] at this
        omega
  exact h _ l (Nat.le_refl _)
theorem skipW_le (l : List UInt8) : (Spec.skipW l).length ≤ l.length := by
  unfold Spec.skipW
  exact (List.dropWhile_sublist _).length_le
theorem skipW_set (l : List UInt8) : Lib.trimLeftS l [32, 9, 10] = Spec.skipW l := by
  unfold Lib.trimLeftS Spec.skipW
  congr 1
  funext b
  unfold Spec.whiteC
  rw [Bool.eq_iff_iff]
  simp [or_assoc]
theorem trimWhite_any (u : ByteArray) (w : World) :
    Calls Tryz.prog 30 #[.string u, .string ⟨#[32, 9, 10]⟩] w fun e w' => e = .returned (.string ⟨(Spec.skipW u.data.toList).toArray⟩) ∧ Below w.heap.size w w' := by
  have := Any.strings_TrimLeft_laid Tryz.lays161 (by kernel_rfl) u ⟨#[32, 9, 10]⟩ w (by decide) (ascii_of_all (by decide))
  rw [show Lib.trimLeftS u.data.toList (⟨#[32, 9, 10]⟩ : ByteArray).data.toList = Spec.skipW u.data.toList from skipW_set _] at this
  exact this

theorem said_fst_le (l : List UInt8) : (Spec.said l).1.length ≤ l.length := by
  unfold Spec.said
  cases l with
  | nil => exact Nat.le_refl _
  | cons c t =>
    simp only [List.length_cons]
    split
    · cases h : Spec.until_ c [] t with
      | none => simp
      | some n => simp only [List.length_take]; omega
    · split
      · cases h : Spec.until_ 41 [40] t with
        | none => simp
        | some n => simp only [List.length_take]; omega
      · simp

def destRes (p : List UInt8 × List UInt8 × Nat) : Value := .tuple #[.string ⟨p.1.toArray⟩, .string ⟨p.2.1.toArray⟩, .int .i64 (p.2.2 : Int)]
/-- What stands behind an address and what is said. -/
def destEnd (len : Nat) (a t rest : List UInt8) : List UInt8 × List UInt8 × Nat :=
  if rest.head? = some 41 then (Spec.uri (Spec.unesc a), Spec.unesc t, len - rest.length + 1) else ([], [], 0)
theorem dest_cons (t : List UInt8) : Spec.dest (40 :: t) =
    match Spec.address (Spec.skipW t) with
    | none => ([], [], 0)
    | some (a, k) =>
      if (Spec.skipW ((Spec.skipW t).drop k)).length < ((Spec.skipW t).drop k).length then
        destEnd (t.length + 1) a (Spec.said (Spec.skipW ((Spec.skipW t).drop k))).1 (Spec.skipW ((Spec.skipW ((Spec.skipW t).drop k)).drop (Spec.said (Spec.skipW ((Spec.skipW t).drop k))).2))
      else destEnd (t.length + 1) a [] ((Spec.skipW t).drop k) := by
  unfold Spec.dest destEnd
  simp only
  rw [if_neg (by decide)]
  cases Spec.address (Spec.skipW t) with
  | none => rfl
  | some p =>
    obtain ⟨a, k⟩ := p
    simp only
    by_cases h : (Spec.skipW ((Spec.skipW t).drop k)).length < ((Spec.skipW t).drop k).length
    · rw [if_pos h, if_pos h]; rfl
    · rw [if_neg h, if_neg h]; rfl
theorem dest_no (l : List UInt8) (h : l.head? ≠ some 40) : Spec.dest l = ([], [], 0) := by
  unfold Spec.dest
  cases l with
  | nil => rfl
  | cons c t =>
    simp only
    rw [if_pos (fun e => h (by rw [e]; rfl))]
theorem ret3 {a b c d : ByteArray} {x y : Int} (h : a = b) (h2 : c = d) (h3 : x = y) : Ending.returned (.tuple #[.string a, .string c, .int .i64 x]) = .returned (.tuple #[.string b, .string d, .int .i64 y]) := by rw [h, h2, h3]
theorem toL (s : ByteArray) : s = ⟨s.data.toList.toArray⟩ := by simp

set_option maxHeartbeats 8000000 in
set_option maxRecDepth 100000 in
theorem dest_any (s : ByteArray) (w : World) (hs : s.size ≤ 100000) (hT : Tabs w) :
    Calls Tryz.prog 19 #[.string s] w fun r w' => r = .returned (destRes (Spec.dest s.data.toList)) ∧ Below w.heap.size w w' := by
  by_cases h40 : s.data.toList.head? = some 40
  · have h0 : 0 < s.size := by
      apply Decidable.byContradiction
      intro h
      rw [text_empty h] at h40; cases h40
    have hc := head_cons s h0
    have h40' : (s[0]'h0) = 40 := by rw [hc] at h40; exact Option.some.inj h40
    have hb40 := u8_true h40' (x := 40) rfl
    have he := isEmpty_false h0
    have h0i : (0 : Int) < s.size := by omega
    have h1i : (1 : Int) ≤ s.size := by omega
    have hex : (s.extract 1 s.size).data.toList = s.data.toList.drop 1 := by rw [drop_text s 1 (by omega)]
    have htl : (s.data.toList.drop 1).length = s.size - 1 := by rw [List.length_drop, ← Lib.size_eq]
    rw [hc, h40', dest_cons]
    -- the texts on the way
    obtain ⟨R1, hR1⟩ : ∃ R1 : ByteArray, R1 = ⟨(Spec.skipW (s.data.toList.drop 1)).toArray⟩ := ⟨_, rfl⟩
    have hR1l : R1.data.toList = Spec.skipW (s.data.toList.drop 1) := by rw [hR1]
    have hR1s : R1.size ≤ s.size - 1 := by have := skipW_le (s.data.toList.drop 1); rw [Lib.size_eq, hR1l]; omega
    have hW1 : ∀ W, Calls Tryz.prog 30 #[.string (s.extract 1 s.size), .string ⟨#[32, 9, 10]⟩] W fun e w' => e = .returned (.string R1) ∧ Below W.heap.size W w' := fun W => by
      have := trimWhite_any (s.extract 1 s.size) W
      rw [hex, ← hR1] at this
      exact this
    have hAd := fun W => address_any R1 W (by omega)
    have hale := address_le R1.data.toList
    rw [← hR1l, htl]
    have hlen1 : s.size - 1 + 1 = s.size := by omega
    rw [hlen1]
    clear hR1 hR1l hc h40 h40' hex htl hlen1
    cases had : Spec.address R1.data.toList with
    | none =>
      rw [had] at hAd
      have hAd : ∀ W, Calls Tryz.prog 31 #[.string R1] W fun r w' => r = .returned (.tuple #[.string ⟨#[]⟩, .int .i64 (-1)]) ∧ Below W.heap.size W w' := hAd
      clear had hale
      go_enter Tryz.func19, Tryz.ntmps19
      go_wp2_with fail
      refine (hW1 _).mono ?_
      rintro e w1 ⟨rfl, hb1⟩
      go_wp2_with fail
      refine (hAd _).mono ?_
      rintro e w2 ⟨rfl, hb2⟩
      go_wp2
      go_ret3
      exact ⟨rfl, hb1.trans (hb2.mono hb1.size)⟩
    | some p =>
      obtain ⟨a, k⟩ := p
      obtain ⟨hk, hal⟩ := hale a k had
      rw [← Lib.size_eq] at hk hal
      rw [had] at hAd
      obtain ⟨aB, haB⟩ : ∃ aB : ByteArray, aB = ⟨a.toArray⟩ := ⟨_, rfl⟩
      have haL : aB.data.toList = a := by rw [haB]
      have haS : aB.size ≤ s.size := by rw [Lib.size_eq, haL]; omega
      have hAd : ∀ W, Calls Tryz.prog 31 #[.string R1] W fun r w' => r = .returned (.tuple #[.string aB, .int .i64 (k : Int)]) ∧ Below W.heap.size W w' := by rw [haB]; exact hAd
      have hki : (k : Int) ≤ R1.size := by omega
      obtain ⟨R2, hR2⟩ : ∃ R2 : ByteArray, R2 = R1.extract k R1.size := ⟨_, rfl⟩
      have hR2l : R2.data.toList = R1.data.toList.drop k := by rw [hR2, drop_text R1 k hk]
      have hR2s : R2.size = R1.size - k := by rw [Lib.size_eq, hR2l, List.length_drop, ← Lib.size_eq]
      simp only
      rw [← hR2l, ← haL]
      obtain ⟨X, hX⟩ : ∃ X : ByteArray, X = ⟨(Spec.skipW R2.data.toList).toArray⟩ := ⟨_, rfl⟩
      have hXl : X.data.toList = Spec.skipW R2.data.toList := by rw [hX]
      have hXs : X.size ≤ R2.size := by have := skipW_le R2.data.toList; rw [Lib.size_eq, hXl, Lib.size_eq]; exact this
      have hW2 : ∀ W, Calls Tryz.prog 30 #[.string R2, .string ⟨#[32, 9, 10]⟩] W fun e w' => e = .returned (.string X) ∧ Below W.heap.size W w' := fun W => by
        have := trimWhite_any R2 W
        rw [← hX] at this
        exact this
      rw [← hXl, ← Lib.size_eq, ← Lib.size_eq]
      -- the end, for whatever rest and whatever is said
      have fin : ∀ (tB R : ByteArray), tB.size ≤ s.size → R.size ≤ s.size →
          (∀ W, Tabs W → Calls Tryz.prog 34 #[.string tB] W fun e w' => e = .returned (.string ⟨(Spec.unesc tB.data.toList).toArray⟩) ∧ Below W.heap.size W w') ∧
          (∀ W, Tabs W → Calls Tryz.prog 34 #[.string aB] W fun e w' => e = .returned (.string ⟨(Spec.unesc aB.data.toList).toArray⟩) ∧ Below W.heap.size W w') ∧
          (∀ W, Calls Tryz.prog 33 #[.string ⟨(Spec.unesc aB.data.toList).toArray⟩] W fun e w' => e = .returned (.string ⟨(Spec.uri (Spec.unesc aB.data.toList)).toArray⟩) ∧ Below W.heap.size W w') := fun tB R htb hrb => by
        refine ⟨fun W hW => unescape_any tB W (by omega) hW, fun W hW => unescape_any aB W (by omega) hW, fun W => ?_⟩
        have := uri_any ⟨(Spec.unesc aB.data.toList).toArray⟩ W (by
          rw [Lib.size_eq]
          have h4 := unesc_len4 aB.data.toList
          rw [← Lib.size_eq] at h4
          show (Spec.unesc aB.data.toList).length ≤ _
          omega)
        exact this
      have hslk : ∀ W, (Instr.slice 9 (.string R1) (some (.int .i64 (k : Int))) none none).run Tryz.prog W = .ok (.string R2) W := fun W => by
        rw [run_slice_string_from_if W _ _ .i64 _ Tryz.underlying9, if_pos ⟨by omega, by omega⟩, hR2]
        rfl
      have hR2le : R2.size ≤ s.size := by omega
      clear had hale hk hal haL hR2l hXl hR2s
      by_cases hx : X.size < R2.size
      · rw [if_pos hx]
        have hxi : (X.size : Int) < R2.size := by omega
        have hSa0 := fun W => said_any X W (by omega)
        have hml := said_le X.data.toList
        rw [← Lib.size_eq] at hml
        obtain ⟨m, hm⟩ : ∃ m, m = (Spec.said X.data.toList).2 := ⟨_, rfl⟩
        obtain ⟨tB, htB⟩ : ∃ tB : ByteArray, tB = ⟨(Spec.said X.data.toList).1.toArray⟩ := ⟨_, rfl⟩
        have htL : tB.data.toList = (Spec.said X.data.toList).1 := by rw [htB]
        have htS : tB.size ≤ s.size := by
          rw [Lib.size_eq, htL]
          have := said_fst_le X.data.toList
          rw [← Lib.size_eq] at this
          omega
        have hSa : ∀ W, Calls Tryz.prog 32 #[.string X] W fun r w' => r = .returned (.tuple #[.string tB, .int .i64 (m : Int)]) ∧ Below W.heap.size W w' := by rw [htB, hm]; exact hSa0
        rw [← hm] at hml ⊢
        rw [← htL]
        have hmi : (m : Int) ≤ X.size := by omega
        obtain ⟨S3, hS3⟩ : ∃ S3 : ByteArray, S3 = X.extract m X.size := ⟨_, rfl⟩
        have hS3l : S3.data.toList = X.data.toList.drop m := by rw [hS3, drop_text X m hml]
        have hslm : ∀ W, (Instr.slice 9 (.string X) (some (.int .i64 (m : Int))) none none).run Tryz.prog W = .ok (.string S3) W := fun W => by
          rw [run_slice_string_from_if W _ _ .i64 _ Tryz.underlying9, if_pos ⟨by omega, by omega⟩, hS3]
          rfl
        obtain ⟨R, hR⟩ : ∃ R : ByteArray, R = ⟨(Spec.skipW (X.data.toList.drop m)).toArray⟩ := ⟨_, rfl⟩
        have hRl : R.data.toList = Spec.skipW (X.data.toList.drop m) := by rw [hR]
        have hRs : R.size ≤ s.size := by
          have := skipW_le (X.data.toList.drop m)
          rw [List.length_drop, ← Lib.size_eq] at this
          rw [Lib.size_eq, hRl]
          omega
        have hW3 : ∀ W, Calls Tryz.prog 30 #[.string S3, .string ⟨#[32, 9, 10]⟩] W fun e w' => e = .returned (.string R) ∧ Below W.heap.size W w' := fun W => by
          have := trimWhite_any S3 W
          rw [hS3l, ← hR] at this
          exact this
        obtain ⟨hUT, hUA, hUR⟩ := fin tB R htS hRs
        rw [← hRl]
        clear fin hx hml hm htB htL hSa0 hS3 hS3l hR hRl hR2 hX haB
        unfold destEnd
        by_cases h41 : R.data.toList.head? = some 41
        · rw [if_pos h41]
          have hr0 : 0 < R.size := by
            apply Decidable.byContradiction
            intro h
            rw [text_empty h] at h41; cases h41
          have hb41 := u8_true (show (R[0]'hr0) = 41 by rw [head_cons R hr0] at h41; exact Option.some.inj h41) (x := 41) rfl
          have hre := isEmpty_false hr0
          have hr0i : (0 : Int) < R.size := by omega
          have FIN : Hid ((s.size : Int) - R.size + 1 = ((s.size - R.data.toList.length + 1 : Nat) : Int)) := Lib.hid (by rw [← Lib.size_eq]; omega)
          have hrs : (R.size : Int) ≤ s.size := by omega
          clear h41
          go_enter Tryz.func19, Tryz.ntmps19
          go_wp2_with fail
          refine (hW1 _).mono ?_
          rintro e w1 ⟨rfl, hb1⟩
          have hbw1 := hb1
          clear hb1
          go_wp2_with fail
          refine (hAd _).mono ?_
          rintro e w2 ⟨rfl, hb2⟩
          have hbw2 := hbw1.trans (hb2.mono hbw1.size)
          clear hb2
          go_wp2_with fail
          refine (hW2 _).mono ?_
          rintro e w3 ⟨rfl, hb3⟩
          have hbw3 := hbw2.trans (hb3.mono hbw2.size)
          clear hb3
          go_wp2_with fail
          refine (hSa _).mono ?_
          rintro e w4 ⟨rfl, hb4⟩
          have hbw4 := hbw3.trans (hb4.mono hbw3.size)
          clear hb4
          go_wp2_with fail
          refine (hW3 _).mono ?_
          rintro e w5 ⟨rfl, hb5⟩
          have hbw5 := hbw4.trans (hb5.mono hbw4.size)
          clear hb5
          have hTn := hT.below hbw5
          go_wp2_with fail
          refine (hUA _ hTn).mono ?_
          rintro e w6 ⟨rfl, hb6⟩
          have hbw6 := hbw5.trans (hb6.mono hbw5.size)
          clear hb6
          go_wp2_with fail
          refine (hUR _).mono ?_
          rintro e w7 ⟨rfl, hb7⟩
          have hbw7 := hbw6.trans (hb7.mono hbw6.size)
          clear hb7
          have hTm := hT.below hbw7
          go_wp2_with fail
          refine (hUT _ hTm).mono ?_
          rintro e w8 ⟨rfl, hb8⟩
          have hbw8 := hbw7.trans (hb8.mono hbw7.size)
          clear hb8
          go_wp2
          go_ret3
          exact ⟨ret3 rfl rfl FIN.out, hbw8⟩
        · rw [if_neg h41]
          have hcase : R.toList.isEmpty = true ∨ (R.toList.isEmpty = false ∧ ∃ h : 0 < R.size, (((R[0]'h).toNat : Int) == 41) = false) := by
            by_cases hr0 : 0 < R.size
            · refine .inr ⟨isEmpty_false hr0, hr0, u8_false (b := 41) (fun e => h41 ?_) rfl⟩
              rw [head_cons R hr0, e]; rfl
            · exact .inl (isEmpty_true hr0)
          clear h41 hUA hUT hUR
          rcases hcase with hre | ⟨hre, hr0, hb41⟩
          · skip
            go_enter Tryz.func19, Tryz.ntmps19
            go_wp2_with fail
            refine (hW1 _).mono ?_
            rintro e w1 ⟨rfl, hb1⟩
            have hbw1 := hb1
            clear hb1
            go_wp2_with fail
            refine (hAd _).mono ?_
            rintro e w2 ⟨rfl, hb2⟩
            have hbw2 := hbw1.trans (hb2.mono hbw1.size)
            clear hb2
            go_wp2_with fail
            refine (hW2 _).mono ?_
            rintro e w3 ⟨rfl, hb3⟩
            have hbw3 := hbw2.trans (hb3.mono hbw2.size)
            clear hb3
            go_wp2_with fail
            refine (hSa _).mono ?_
            rintro e w4 ⟨rfl, hb4⟩
            have hbw4 := hbw3.trans (hb4.mono hbw3.size)
            clear hb4
            go_wp2_with fail
            refine (hW3 _).mono ?_
            rintro e w5 ⟨rfl, hb5⟩
            have hbw5 := hbw4.trans (hb5.mono hbw4.size)
            clear hb5
            go_wp2
            go_ret3
            exact ⟨rfl, hbw5⟩
          · skip
            go_enter Tryz.func19, Tryz.ntmps19
            go_wp2_with fail
            refine (hW1 _).mono ?_
            rintro e w1 ⟨rfl, hb1⟩
            have hbw1 := hb1
            clear hb1
            go_wp2_with fail
            refine (hAd _).mono ?_
            rintro e w2 ⟨rfl, hb2⟩
            have hbw2 := hbw1.trans (hb2.mono hbw1.size)
            clear hb2
            go_wp2_with fail
            refine (hW2 _).mono ?_
            rintro e w3 ⟨rfl, hb3⟩
            have hbw3 := hbw2.trans (hb3.mono hbw2.size)
            clear hb3
            go_wp2_with fail
            refine (hSa _).mono ?_
            rintro e w4 ⟨rfl, hb4⟩
            have hbw4 := hbw3.trans (hb4.mono hbw3.size)
            clear hb4
            go_wp2_with fail
            refine (hW3 _).mono ?_
            rintro e w5 ⟨rfl, hb5⟩
            have hbw5 := hbw4.trans (hb5.mono hbw4.size)
            clear hb5
            go_wp2
            go_ret3
            exact ⟨rfl, hbw5⟩
      · rw [if_neg hx]
        have hxi : ¬ (X.size : Int) < R2.size := by omega
        obtain ⟨hUT, hUA, hUR⟩ := fin ⟨#[]⟩ R2 (by show 0 ≤ _; omega) (by omega)
        rw [show ([] : List UInt8) = (⟨#[]⟩ : ByteArray).data.toList from rfl]
        clear fin hx hR2 hX haB
        unfold destEnd
        by_cases h41 : R2.data.toList.head? = some 41
        · rw [if_pos h41]
          have hr0 : 0 < R2.size := by
            apply Decidable.byContradiction
            intro h
            rw [text_empty h] at h41; cases h41
          have hb41 := u8_true (show (R2[0]'hr0) = 41 by rw [head_cons R2 hr0] at h41; exact Option.some.inj h41) (x := 41) rfl
          have hre := isEmpty_false hr0
          have hr0i : (0 : Int) < R2.size := by omega
          have FIN : Hid ((s.size : Int) - R2.size + 1 = ((s.size - R2.data.toList.length + 1 : Nat) : Int)) := Lib.hid (by rw [← Lib.size_eq]; omega)
          have hrs : (R2.size : Int) ≤ s.size := by omega
          clear h41
          go_enter Tryz.func19, Tryz.ntmps19
          go_wp2_with fail
          refine (hW1 _).mono ?_
          rintro e w1 ⟨rfl, hb1⟩
          have hbw1 := hb1
          clear hb1
          go_wp2_with fail
          refine (hAd _).mono ?_
          rintro e w2 ⟨rfl, hb2⟩
          have hbw2 := hbw1.trans (hb2.mono hbw1.size)
          clear hb2
          go_wp2_with fail
          refine (hW2 _).mono ?_
          rintro e w3 ⟨rfl, hb3⟩
          have hbw3 := hbw2.trans (hb3.mono hbw2.size)
          clear hb3
          have hTn := hT.below hbw3
          go_wp2_with fail
          refine (hUA _ hTn).mono ?_
          rintro e w4 ⟨rfl, hb4⟩
          have hbw4 := hbw3.trans (hb4.mono hbw3.size)
          clear hb4
          go_wp2_with fail
          refine (hUR _).mono ?_
          rintro e w5 ⟨rfl, hb5⟩
          have hbw5 := hbw4.trans (hb5.mono hbw4.size)
          clear hb5
          have hTm := hT.below hbw5
          go_wp2_with fail
          refine (hUT _ hTm).mono ?_
          rintro e w6 ⟨rfl, hb6⟩
          have hbw6 := hbw5.trans (hb6.mono hbw5.size)
          clear hb6
          go_wp2
          go_ret3
          exact ⟨ret3 rfl rfl FIN.out, hbw6⟩
        · rw [if_neg h41]
          have hcase : R2.toList.isEmpty = true ∨ (R2.toList.isEmpty = false ∧ ∃ h : 0 < R2.size, (((R2[0]'h).toNat : Int) == 41) = false) := by
            by_cases hr0 : 0 < R2.size
            · refine .inr ⟨isEmpty_false hr0, hr0, u8_false (b := 41) (fun e => h41 ?_) rfl⟩
              rw [head_cons R2 hr0, e]; rfl
            · exact .inl (isEmpty_true hr0)
          clear h41 hUA hUT hUR
          rcases hcase with hre | ⟨hre, hr0, hb41⟩
          · skip
            go_enter Tryz.func19, Tryz.ntmps19
            go_wp2_with fail
            refine (hW1 _).mono ?_
            rintro e w1 ⟨rfl, hb1⟩
            have hbw1 := hb1
            clear hb1
            go_wp2_with fail
            refine (hAd _).mono ?_
            rintro e w2 ⟨rfl, hb2⟩
            have hbw2 := hbw1.trans (hb2.mono hbw1.size)
            clear hb2
            go_wp2_with fail
            refine (hW2 _).mono ?_
            rintro e w3 ⟨rfl, hb3⟩
            have hbw3 := hbw2.trans (hb3.mono hbw2.size)
            clear hb3
            go_wp2
            go_ret3
            exact ⟨rfl, hbw3⟩
          · skip
            go_enter Tryz.func19, Tryz.ntmps19
            go_wp2_with fail
            refine (hW1 _).mono ?_
            rintro e w1 ⟨rfl, hb1⟩
            have hbw1 := hb1
            clear hb1
            go_wp2_with fail
            refine (hAd _).mono ?_
            rintro e w2 ⟨rfl, hb2⟩
            have hbw2 := hbw1.trans (hb2.mono hbw1.size)
            clear hb2
            go_wp2_with fail
            refine (hW2 _).mono ?_
            rintro e w3 ⟨rfl, hb3⟩
            have hbw3 := hbw2.trans (hb3.mono hbw2.size)
            clear hb3
            go_wp2
            go_ret3
            exact ⟨rfl, hbw3⟩
  · rw [dest_no _ h40]
    have hcase : s.toList.isEmpty = true ∨ (s.toList.isEmpty = false ∧ ∃ h : 0 < s.size, (((s[0]'h).toNat : Int) == 40) = false) := by
      by_cases hr0 : 0 < s.size
      · refine .inr ⟨isEmpty_false hr0, hr0, u8_false (b := 40) (fun e => h40 ?_) rfl⟩
        rw [head_cons s hr0, e]; rfl
      · exact .inl (isEmpty_true hr0)
    clear h40
    rcases hcase with hre | ⟨hre, hr0, hb40⟩
    all_goals
      go_enter Tryz.func19, Tryz.ntmps19
      go_wp2
      go_ret3
      exact ⟨rfl, Below.refl _ _⟩
end Go.Proofs.YtmplfiflikhpjaaGreatDoor
