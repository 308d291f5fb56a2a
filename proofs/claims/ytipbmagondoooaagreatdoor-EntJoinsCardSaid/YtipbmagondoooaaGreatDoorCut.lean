/-
  The two functions that cut the runes of an ASCII set off a text's begin and end: what they answer, at every text.
-/
import Derived.Test.YtipbmagondoooaaGreatDoorShelf
import Derived.Test.YtipbmagondoooaaGreatDoorSpec
import Derived.Lib.SlTrimSet
import Derived.Lib.OthersKept
import Derived.Shelf.Unicode.DecodeSlow
import Derived.Lib.TrimAscii
import Derived.Lib.Hide
import Derived.WalkKit
import Derived.BigCall
namespace Go.Proofs.YtipbmagondoooaaGreatDoor
open Go.RowKit

theorem ret_str {a b : ByteArray} (h : a = b) : Ending.returned (.string a) = Ending.returned (.string b) := by rw [h]
theorem ret_int {k : IntKind} {a b : Int} (h : a = b) : Ending.returned (.int k a) = .returned (.int k b) := by rw [h]
theorem ret_bool {a b : Bool} (h : a = b) : Ending.returned (.bool a) = .returned (.bool b) := by rw [h]
/-- A set of ASCII bytes. -/
def Ascii (set : ByteArray) : Prop := ∀ j (h : j < set.size), (set[j]'h).toNat < 128

/-- Is a rune among the first bytes of a set? -/
def inB (l : List UInt8) (r : Nat) : Bool := l.any (fun b => r == b.toNat)

theorem take_snoc (s : ByteArray) (k : Nat) (h : k < s.size) : s.data.toList.take (k + 1) = s.data.toList.take k ++ [s[k]'h] := by
  rw [List.take_succ_eq_append_getElem (by simpa using h)]; rfl
theorem inB_snoc (l : List UInt8) (c : UInt8) (r : Nat) : inB (l ++ [c]) r = (inB l r || r == c.toNat) := by simp [inB]
theorem inB_byte (l : List UInt8) (c : UInt8) : inB l c.toNat = l.contains c := by
  induction l with
  | nil => rfl
  | cons a t ih =>
    have e : (c.toNat == a.toNat) = (c == a) := by
      by_cases h : c = a
      · subst h; rw [beq_self_eq_true, beq_self_eq_true]
      · have : c.toNat ≠ a.toNat := fun e => h (UInt8.toNat_inj.1 e)
        rw [beq_eq_false_iff_ne.2 this, beq_eq_false_iff_ne.2 h]
    simp only [inB, List.any_cons, List.contains_cons, e] at ih ⊢
    rw [ih]
theorem inB_high (set : ByteArray) (ha : Ascii set) (r : Nat) (h : 128 ≤ r) : inB set.data.toList r = false := by
  unfold inB
  rw [List.any_eq_false]
  intro b hb
  obtain ⟨j, hj, rfl⟩ := List.getElem_of_mem hb
  have := ha j (by simpa using hj)
  have e : set.data.toList[j] = set[j]'(by simpa using hj) := rfl
  rw [e]
  simp
  omega
theorem cast_beq (a b : Nat) : ((a : Int) == (b : Int)) = (a == b) := by
  by_cases h : a = b
  · subst h; rw [beq_self_eq_true, beq_self_eq_true]
  · have : ¬ (a : Int) = (b : Int) := by omega
    rw [beq_eq_false_iff_ne.2 this, beq_eq_false_iff_ne.2 h]

/-- At a place of a text: its rune is in the set just where its byte is; and such a rune is one byte. -/
theorem cut_at (s set : ByteArray) (ha : Ascii set) (pos : Nat) (hp : pos < s.size) :
    inB set.data.toList (Utf8.decode s pos).1 = set.data.toList.contains (s[pos]'hp) ∧ (set.data.toList.contains (s[pos]'hp) = true → (Utf8.decode s pos).2 = 1) := by
  by_cases h : (s[pos]'hp).toNat < 128
  · rw [decode_ascii s pos hp h]
    exact ⟨inB_byte _ _, fun _ => rfl⟩
  · have hh := inB_high set ha (s[pos]'hp).toNat (by omega)
    rw [inB_byte] at hh
    exact ⟨by rw [hh]; exact inB_high set ha _ (decode_high s pos hp (by omega)).1, fun e => by rw [hh] at e; cases e⟩
theorem at_list (s : ByteArray) (pos : Nat) (hp : pos < s.size) : s.data.toList[pos]? = some (s[pos]'hp) := by
  rw [List.getElem?_eq_getElem (by simpa using hp)]; rfl
theorem drop_text (s : ByteArray) (k : Nat) (hk : k ≤ s.size) : s.extract k s.size = ⟨(s.data.toList.drop k).toArray⟩ := by
  rw [Lib.extract_eq, List.take_of_length_le (by simp)]

set_option maxHeartbeats 4000000 in
set_option maxRecDepth 1000000 in
theorem cutLeft_any (s set : ByteArray) (ha : Ascii set) (w : World) (hs : s.size ≤ 1000000) :
    Calls Tryz.prog 47 #[.string s, .string set] w fun e w' => e = .returned (.string ⟨(Lib.trimLeftS s.data.toList set.data.toList).toArray⟩) ∧ Below w.heap.size w w' := by
  go_enter Tryz.func47, Tryz.ntmps47
  go_wp2
  go_loopw [] (fun wr => ∃ pos : Nat, pos ≤ s.size ∧ wr.heap[w.heap.size]? = some (.stringIter s pos) ∧ Below w.heap.size w wr ∧ (∀ (j : Nat) b, j < pos → s.data.toList[j]? = some b → set.data.toList.contains b = true)) (fun wr => s.size - wr.iterPos w.heap.size)
  case atStart =>
    refine ⟨0, Nat.zero_le _, ?_, (Below.refl _ w).alloc (Nat.le_refl _) _, fun j b h => absurd h (Nat.not_lt_zero _)⟩
    exact World.iter_heap w s 0
  case round =>
    obtain ⟨pos, hpl, hit, hbw, hall⟩ := hrel
    obtain ⟨wq, rfl⟩ : ∃ wq : World, wq = wr := ⟨_, rfl⟩
    have hsz : w.heap.size < wq.heap.size := (Array.getElem?_eq_some_iff.1 hit).1
    by_cases hp : pos < s.size
    · have hnx : ∀ ty, (Instr.next (.pointer (some ⟨w.heap.size, 0, none⟩)) true ty).run Tryz.prog wq = _ := fun ty => Lib.run_next_any_at wq w.heap.size s pos ty hit hp
      have hd1 := decode_le s pos
      have hit2 := Lib.iterAt_heap wq w.heap.size s pos (pos + (Utf8.decode s pos).2) hit
      have hbw2 := Lib.below_iterAt hbw (k := w.heap.size) (by omega) s (pos + (Utf8.decode s pos).2)
      have hsz2 : w.heap.size < (wq.iterAt w.heap.size s (pos + (Utf8.decode s pos).2)).heap.size := by rw [Lib.iterAt_size]; omega
      obtain ⟨wo, hwo⟩ : ∃ wo : World, wo = wq.iterAt w.heap.size s (pos + (Utf8.decode s pos).2) := ⟨_, rfl⟩
      rw [← hwo] at hnx hit2 hbw2 hsz2
      clear hwo
      obtain ⟨r, hr⟩ : ∃ r : Nat, r = (Utf8.decode s pos).1 := ⟨_, rfl⟩
      rw [← hr] at hnx hd1
      have HR := Lib.hid hr
      clear hr
      go_wp2
      go_loopw [7] (fun v7 wi => ∃ (q : Nat) (b : Bool), q ≤ set.size ∧ v7 = .bool b ∧ Hid (b = inB (set.data.toList.take q) r) ∧ wi.heap[wo.heap.size]? = some (.stringIter set q) ∧ Below wo.heap.size wo wi) (fun _ wi => set.size - wi.iterPos wo.heap.size)
      case atStart =>
        exact ⟨0, false, Nat.zero_le _, rfl, Lib.hid rfl, World.iter_heap wo set 0, (Below.refl _ wo).alloc (Nat.le_refl _) _⟩
      case round =>
        obtain ⟨q, b, hql, rfl, HB, hiq, hbi⟩ := hrel
        by_cases hq : q < set.size
        · have hny : ∀ ty, (Instr.next (.pointer (some ⟨wo.heap.size, 0, none⟩)) true ty).run Tryz.prog wr = _ := fun ty => Lib.run_next_ascii_at wr wo.heap.size set q ty hiq hq (ha q hq)
          have hiq2 := Lib.iterAt_heap wr wo.heap.size set q (q + 1) hiq
          have hbi2 := Lib.below_iterAt hbi (k := wo.heap.size) (by omega) set (q + 1)
          have hin := inB_snoc (set.data.toList.take q) (set[q]'hq) r
          rw [← take_snoc set q hq] at hin
          have HN : Hid (inB (set.data.toList.take (q + 1)) r = (b || r == (set[q]'hq).toNat)) := Lib.hid (by rw [hin, HB.out])
          clear hin HB
          have hms : wr.iterPos wo.heap.size = q := by simp only [World.iterPos, hiq]
          have HM : Hid (wr.iterPos wo.heap.size = q) := Lib.hid hms
          clear hms
          obtain ⟨d, hd⟩ : ∃ d : Nat, d = (set[q]'hq).toNat := ⟨_, rfl⟩
          rw [← hd] at hny HN
          clear hd
          obtain ⟨wn, hwn⟩ : ∃ wn : World, wn = wr.iterAt wo.heap.size set (q + 1) := ⟨_, rfl⟩
          rw [← hwn] at hny hiq2 hbi2
          clear hwn
          have HM2 : Hid (wn.iterPos wo.heap.size = q + 1) := Lib.hid (by simp only [World.iterPos, hiq2])
          cases b with
          | true =>
            go_wp2
            go_roundw
            case rel => exact ⟨q + 1, true, by omega, rfl, Lib.hid (by rw [HN.out]; rfl), hiq2, hbi2⟩
            case measure => rw [HM.out, HM2.out]; omega
          | false =>
            have ec := cast_beq r d
            cases e : (r == d) with
            | true =>
              rw [e] at ec
              go_wp2
              go_roundw
              case rel => exact ⟨q + 1, true, by omega, rfl, Lib.hid (by rw [HN.out, e]; rfl), hiq2, hbi2⟩
              case measure => rw [HM.out, HM2.out]; omega
            | false =>
              rw [e] at ec
              go_wp2
              go_roundw
              case rel => exact ⟨q + 1, false, by omega, rfl, Lib.hid (by rw [HN.out, e]; rfl), hiq2, hbi2⟩
              case measure => rw [HM.out, HM2.out]; omega
        · -- the set is through
          have hny : ∀ ty, (Instr.next (.pointer (some ⟨wo.heap.size, 0, none⟩)) true ty).run Tryz.prog wr = _ := fun ty => Lib.run_next_end_at wr wo.heap.size set q ty hiq hq
          have hca := cut_at s set ha pos hp
          have hqe : q = set.size := by omega
          have hbe := HB.out
          rw [hqe, List.take_of_length_le (by simp), HR.out, hca.1] at hbe
          have hpm : wq.iterPos w.heap.size = pos := by simp only [World.iterPos, hit]
          have hkeep : wr.heap[w.heap.size]? = some (.stringIter s (pos + (Utf8.decode s pos).2)) := by rw [hbi.block _ (by omega)]; exact hit2
          have HP : Hid (wq.iterPos w.heap.size = pos) := Lib.hid hpm
          have HK : Hid (wr.heap[w.heap.size]? = some (.stringIter s (pos + (Utf8.decode s pos).2))) := Lib.hid hkeep
          have HBE : Hid (b = set.data.toList.contains (s[pos]'hp)) := Lib.hid hbe
          have HCA := Lib.hid hca.2
          have hbb : Below w.heap.size w wr := hbw2.trans (hbi.mono (by omega))
          clear hpm hkeep hbe hca hqe HB hit2 hiq hnx
          cases b with
          | true =>
            go_wp2
            go_roundw
            case rel =>
              have hw1 := HCA.out HBE.out.symm
              have hk := HK.out
              rw [hw1] at hk
              refine ⟨pos + 1, by omega, hk, hbb, fun j c hj hc => ?_⟩
              by_cases hjp : j < pos
              · exact hall j c hjp hc
              · obtain rfl : j = pos := by omega
                rw [at_list s _ hp] at hc
                cases hc
                exact HBE.out.symm
            case measure =>
              have hw1 := HCA.out HBE.out.symm
              have hk := HK.out
              rw [HP.out]
              simp only [World.iterPos, hk]
              omega
          | false =>
            go_wp2
            go_ret
            refine ⟨ret_str ?_, hbb⟩
            rw [drop_text s pos hpl, Lib.trimLeftS_drop s.data.toList set.data.toList pos (by simpa using hpl) hall (fun c hc => by rw [at_list s _ hp] at hc; cases hc; exact HBE.out.symm)]
    · have hnx : ∀ ty, (Instr.next (.pointer (some ⟨w.heap.size, 0, none⟩)) true ty).run Tryz.prog wq = _ := fun ty => Lib.run_next_end_at wq w.heap.size s pos ty hit hp
      have hpe : pos = s.size := by omega
      have HE := Lib.hid hpe
      clear hpe hit
      go_wp2
      go_ret
      refine ⟨ret_str ?_, hbw⟩
      rw [Lib.trimLeftS_drop s.data.toList set.data.toList pos (by simpa using hpl) hall (fun c hc => by rw [HE.out, List.getElem?_eq_none (by simp)] at hc; cases hc), HE.out, List.drop_of_length_le (by simp)]

/-- unicode/utf8's two tables, as its text lays them. -/
structure Tabs (w : World) : Prop where out : Lib.Utf8Tabs 4 5 w
theorem Tabs.below {w w' : World} (h : Tabs w) (hb : Below w.heap.size w w') : Tabs w' := ⟨Utf8Tabs_below h.out hb⟩

theorem lastStart_le (l : List UInt8) (h2 : 2 ≤ l.length) : Lib.lastStart l + 2 ≤ l.length := by
  unfold Lib.lastStart
  simp only
  repeat' split
  all_goals omega
/-- The last rune is in an ASCII set just where the last byte is; and it is one byte then. -/
theorem last_at (l : List UInt8) (set : ByteArray) (ha : Ascii set) (c : UInt8) (t : List UInt8) (e : l = t ++ [c]) :
    inB set.data.toList (Lib.decodeLastL l).1 = set.data.toList.contains c ∧ (set.data.toList.contains c = true → (Lib.decodeLastL l).2 = 1) := by
  subst e
  by_cases h : c.toNat < 128
  · rw [Lib.decodeLastL_ascii t c h]
    exact ⟨inB_byte _ _, fun _ => rfl⟩
  · have hh := inB_high set ha c.toNat (by omega)
    rw [inB_byte] at hh
    refine ⟨?_, fun e => by rw [hh] at e; cases e⟩
    rw [hh]
    apply inB_high set ha
    unfold Lib.decodeLastL
    rw [if_neg (by simp)]
    have hl : (t ++ [c]).getD ((t ++ [c]).length - 1) 0 = c := by simp [List.getD]
    rw [hl, if_neg h]
    simp only
    split
    · rename_i hst
      obtain ⟨st, hs⟩ : ∃ st, st = Lib.lastStart (t ++ [c]) := ⟨_, rfl⟩
      rw [← hs] at hst ⊢
      have hlen : (t ++ [c]).length = t.length + 1 := by simp
      obtain ⟨m, hm⟩ : ∃ m, m = (t ++ [c]).drop st := ⟨_, rfl⟩
      rw [← hm] at hst ⊢
      have hmlen : m.length = t.length + 1 - st := by rw [hm]; simp
      by_cases hm0 : m = []
      · subst hm0
        exact absurd hst (by
          intro hst
          have hx : (Lib.decodeL []).2 = 1 := by decide
          rw [hx, hlen] at hst
          simp at hmlen
          omega)
      · have hp : 0 < (⟨m.toArray⟩ : ByteArray).size := by
          have : 0 < m.length := List.length_pos_iff.2 hm0
          simpa [ByteArray.size] using this
        show 128 ≤ (Utf8.decode ⟨m.toArray⟩ 0).1
        by_cases hb : ((⟨m.toArray⟩ : ByteArray)[0]'hp).toNat < 128
        · have hd : Lib.decodeL m = (((⟨m.toArray⟩ : ByteArray)[0]'hp).toNat, 1) := decode_ascii ⟨m.toArray⟩ 0 hp hb
          rw [hd, hlen] at hst
          have hst' : st = t.length := by simp at hst; omega
          by_cases h2 : 2 ≤ (t ++ [c]).length
          · have := lastStart_le (t ++ [c]) h2
            omega
          · have ht0 : t = [] := List.length_eq_zero_iff.1 (by omega)
            subst ht0
            simp at hst'
            subst hst'
            simp at hm
            subst hm
            exact absurd hb h
        · exact (decode_high ⟨m.toArray⟩ 0 hp (by omega)).1
    · decide

theorem take_text (s : ByteArray) (k : Nat) : s.extract 0 k = ⟨(s.data.toList.take k).toArray⟩ := by
  rw [Lib.extract_eq]; simp
/-- How many bytes a text value has. -/
def strLen : Value → Nat
  | .string t => t.size
  | _ => 0

set_option maxHeartbeats 4000000 in
set_option maxRecDepth 1000000 in
theorem cutRight_any (s set : ByteArray) (ha : Ascii set) (w : World) (hs : s.size ≤ 1000000) (hT : Tabs w) :
    Calls Tryz.prog 46 #[.string s, .string set] w fun e w' => e = .returned (.string ⟨(Lib.trimRightS s.data.toList set.data.toList).toArray⟩) ∧ Below w.heap.size w w' := by
  go_enter Tryz.func46, Tryz.ntmps46
  go_wp2
  go_loopw [0] (fun v wr => ∃ m : Nat, m ≤ s.size ∧ v = .string (s.extract 0 m) ∧ Below w.heap.size w wr ∧ (∀ (j : Nat) b, m ≤ j → s.data.toList[j]? = some b → set.data.toList.contains b = true)) (fun v _ => strLen v)
  case atStart =>
    refine ⟨s.size, Nat.le_refl _, ?_, Below.refl _ _, fun j b h hb => ?_⟩
    · rw [take_text, List.take_of_length_le (by simp)]
    · rw [List.getElem?_eq_none (by simpa using h)] at hb; cases hb
  case round =>
    obtain ⟨m, hm, rfl, hbw, hall⟩ := hrel
    obtain ⟨wq, rfl⟩ : ∃ wq : World, wq = wr := ⟨_, rfl⟩
    have hsz : (s.extract 0 m).size = m := by simp; omega
    by_cases h0 : 0 < m
    · obtain ⟨n, rfl⟩ : ∃ n, m = n + 1 := ⟨m - 1, by omega⟩
      have hp : n < s.size := by omega
      have hlist : (s.extract 0 (n + 1)).data.toList = s.data.toList.take n ++ [s[n]'hp] := by rw [take_text]; exact take_snoc s n hp
      have hla := last_at _ set ha _ _ hlist
      have HXS : Hid ((s.extract 0 n).size = n) := Lib.hid (by simp; omega)
      have hdec := Tryz.utf8_DecodeLastRuneInString (s.extract 0 (n + 1)) wq (by omega) (hT.below hbw).out
      have hnext : (s.extract 0 (n + 1)).extract 0 n = s.extract 0 n := by rw [take_text, hlist, take_text, List.take_append_of_le_length (by simp; omega), List.take_take, Nat.min_self]
      obtain ⟨t, ht⟩ : ∃ t, t = s.extract 0 (n + 1) := ⟨_, rfl⟩
      rw [← ht] at hsz hlist hla hdec hnext ⊢
      clear ht
      have HL := Lib.hid hlist
      have HA := Lib.hid hla
      have HX := Lib.hid hnext
      obtain ⟨r, hr⟩ : ∃ r, r = (Lib.decodeLastL t.data.toList).1 := ⟨_, rfl⟩
      obtain ⟨k, hk⟩ : ∃ k, k = (Lib.decodeLastL t.data.toList).2 := ⟨_, rfl⟩
      rw [← hr, ← hk] at hdec
      have HRK : Hid (inB set.data.toList r = set.data.toList.contains (s[n]'hp) ∧ (set.data.toList.contains (s[n]'hp) = true → k = 1)) := Lib.hid (by rw [hr, hk]; exact hla)
      clear hr hk hla hlist hnext
      go_wp2_with (go_at_call 66; refine hdec.mono ?_)
      rintro e wo ⟨rfl, hbo⟩
      clear hdec
      have hbwo : Below w.heap.size w wo := hbw.trans (hbo.mono hbw.size)
      go_wp2
      go_loopw [7] (fun v7 wi => ∃ (q : Nat) (b : Bool), q ≤ set.size ∧ v7 = .bool b ∧ Hid (b = inB (set.data.toList.take q) r) ∧ wi.heap[wo.heap.size]? = some (.stringIter set q) ∧ Below wo.heap.size wo wi) (fun _ wi => set.size - wi.iterPos wo.heap.size)
      case atStart =>
        exact ⟨0, false, Nat.zero_le _, rfl, Lib.hid rfl, World.iter_heap wo set 0, (Below.refl _ wo).alloc (Nat.le_refl _) _⟩
      case round =>
        obtain ⟨q, b, hql, rfl, HB, hiq, hbi⟩ := hrel
        by_cases hq : q < set.size
        · have hny : ∀ ty, (Instr.next (.pointer (some ⟨wo.heap.size, 0, none⟩)) true ty).run Tryz.prog wr = _ := fun ty => Lib.run_next_ascii_at wr wo.heap.size set q ty hiq hq (ha q hq)
          have hiq2 := Lib.iterAt_heap wr wo.heap.size set q (q + 1) hiq
          have hbi2 := Lib.below_iterAt hbi (k := wo.heap.size) (by omega) set (q + 1)
          have hin := inB_snoc (set.data.toList.take q) (set[q]'hq) r
          rw [← take_snoc set q hq] at hin
          have HN : Hid (inB (set.data.toList.take (q + 1)) r = (b || r == (set[q]'hq).toNat)) := Lib.hid (by rw [hin, HB.out])
          clear hin HB
          have hms : wr.iterPos wo.heap.size = q := by simp only [World.iterPos, hiq]
          have HM : Hid (wr.iterPos wo.heap.size = q) := Lib.hid hms
          clear hms
          obtain ⟨d, hd⟩ : ∃ d : Nat, d = (set[q]'hq).toNat := ⟨_, rfl⟩
          rw [← hd] at hny HN
          clear hd
          obtain ⟨wn, hwn⟩ : ∃ wn : World, wn = wr.iterAt wo.heap.size set (q + 1) := ⟨_, rfl⟩
          rw [← hwn] at hny hiq2 hbi2
          clear hwn
          have HM2 : Hid (wn.iterPos wo.heap.size = q + 1) := Lib.hid (by simp only [World.iterPos, hiq2])
          cases b with
          | true =>
            go_wp2
            go_roundw
            case rel => exact ⟨q + 1, true, by omega, rfl, Lib.hid (by rw [HN.out]; rfl), hiq2, hbi2⟩
            case measure => rw [HM.out, HM2.out]; omega
          | false =>
            have ec := cast_beq r d
            cases e : (r == d) with
            | true =>
              rw [e] at ec
              go_wp2
              go_roundw
              case rel => exact ⟨q + 1, true, by omega, rfl, Lib.hid (by rw [HN.out, e]; rfl), hiq2, hbi2⟩
              case measure => rw [HM.out, HM2.out]; omega
            | false =>
              rw [e] at ec
              go_wp2
              go_roundw
              case rel => exact ⟨q + 1, false, by omega, rfl, Lib.hid (by rw [HN.out, e]; rfl), hiq2, hbi2⟩
              case measure => rw [HM.out, HM2.out]; omega
        · -- the set is through
          have hny : ∀ ty, (Instr.next (.pointer (some ⟨wo.heap.size, 0, none⟩)) true ty).run Tryz.prog wr = _ := fun ty => Lib.run_next_end_at wr wo.heap.size set q ty hiq hq
          have hqe : q = set.size := by omega
          have hbe := HB.out
          rw [hqe, List.take_of_length_le (by simp), HRK.out.1] at hbe
          have HBE : Hid (b = set.data.toList.contains (s[n]'hp)) := Lib.hid hbe
          have hbb : Below w.heap.size w wr := hbwo.trans (hbi.mono (Nat.le_trans hbw.size hbo.size))
          clear hbe hqe HB hiq hbi hbo
          cases b with
          | true =>
            obtain rfl : k = 1 := HRK.out.2 HBE.out.symm
            go_wp2
            refine ⟨⟨n, by omega, by rw [HX.out], hbb, fun j c hj hc => ?_⟩, ?_⟩
            · by_cases hjn : n + 1 ≤ j
              · exact hall j c hjn hc
              · obtain rfl : j = n := by omega
                rw [at_list s _ hp] at hc
                cases hc
                exact HBE.out.symm
            · rw [HX.out]
              simp only [strLen, hsz]
              rw [HXS.out]
              omega
          | false =>
            go_wp2
            go_ret
            refine ⟨ret_str ?_, hbb⟩
            have e1 : t = s.extract 0 (n + 1) := by
              apply ByteArray.ext
              apply Array.toList_inj.1
              rw [HL.out, take_text]; exact (take_snoc s n hp).symm
            rw [e1, take_text, Lib.trimRightS_take s.data.toList set.data.toList (n + 1) (by simp; omega) hall (fun c _ hc => by rw [Nat.add_sub_cancel, at_list s _ hp] at hc; cases hc; exact HBE.out.symm)]
    · obtain rfl : m = 0 := by omega
      have he : s.extract 0 0 = (⟨#[]⟩ : ByteArray) := by rw [take_text]; rfl
      rw [he]
      clear hsz
      go_wp2
      go_ret
      refine ⟨ret_str ?_, hbw⟩
      rw [Lib.trimRightS_take s.data.toList set.data.toList 0 (by simp) hall (fun c hc => absurd hc (Nat.lt_irrefl 0)), List.take_zero]
end Go.Proofs.YtipbmagondoooaaGreatDoor
