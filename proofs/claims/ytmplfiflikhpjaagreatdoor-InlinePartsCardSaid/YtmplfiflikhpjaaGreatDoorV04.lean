/-
  Texts of one proof, joined: Cut, Num, Number, At, Build, Class, Unesc.
-/
import Derived.Test.YtmplfiflikhpjaaGreatDoorV01
import Derived.Test.YtmplfiflikhpjaaGreatDoorV03
import Derived.BigCall
import Derived.BigGuard
import Derived.Laws.Runes
import Derived.Laws.Strings3
import Derived.Lib.ConvBytes
import Derived.Lib.FrozenHead2
import Derived.Lib.Hide
import Derived.Lib.OthersKept
import Derived.Lib.SlTrimSet
import Derived.Lib.TrimAscii
import Derived.Lib.Walk
import Derived.Shelf.Unicode.DecodeSlow
import Derived.WalkKit
/-
  The two functions that cut the runes of an ASCII set off a text's begin and end: what they answer, at every text.
-/
namespace Go.Proofs.YtmplfiflikhpjaaGreatDoor
open Go.RowKit

theorem ret_str {a b : ByteArray} (h : a = b) : Ending.returned (.string a) = Ending.returned (.string b) := by rw [h]
theorem ret_int {k : IntKind} {a b : Int} (h : a = b) : Ending.returned (.int k a) = .returned (.int k b) := by rw [h]
theorem ret_bool {a b : Bool} (h : a = b) : Ending.returned (.bool a) = .returned (.bool b) := by rw [h]
/-- A set of ASCII bytes. -/
def Ascii (set : ByteArray) : Prop := ∀ j (h : j < set.size), (set[j]'h).toNat < 128

/-- Is a rune among the first bytes of a set? -/
def inB (l : List UInt8) (r : Nat) : Bool := l.any (fun b => r == b.toNat)

theorem take_snoc (s : ByteArray) (k : Nat) (h : k < s.size) : s.data.toList.take (k + 1) = s.data.toList.take k ++ [s[k]'h] := by
  rw [List.take_succ_eq_append_getElem (by simpa using h)]; rfl
theorem inB_snoc (l : List UInt8) (c : UInt8) (r : Nat) : inB (l ++ [c]) r = (inB l r || r == c.toNat) := by simp [inB]
theorem inB_byte (l : List UInt8) (c : UInt8) : inB l c.toNat = l.contains c := by
  induction l with
  | nil => rfl
  | cons a t ih =>
    have e : (c.toNat == a.toNat) = (c == a) := by
      by_cases h : c = a
      · subst h; rw [beq_self_eq_true, beq_self_eq_true]
      · have : c.toNat ≠ a.toNat := fun e => h (UInt8.toNat_inj.1 e)
        rw [beq_eq_false_iff_ne.2 this, beq_eq_false_iff_ne.2 h]
    simp only [inB, List.any_cons, List.contains_cons, e] at ih ⊢
    rw [ih]
theorem inB_high (set : ByteArray) (ha : Ascii set) (r : Nat) (h : 128 ≤ r) : inB set.data.toList r = false := by
  unfold inB
  rw [List.any_eq_false]
  intro b hb
  obtain ⟨j, hj, rfl⟩ := List.getElem_of_mem hb
  have := ha j (by simpa using hj)
  have e : set.data.toList[j] = set[j]'(by simpa using hj) := rfl
  rw [e]
  simp
  omega
theorem cast_beq (a b : Nat) : ((a : Int) == (b : Int)) = (a == b) := by
  by_cases h : a = b
  · subst h; rw [beq_self_eq_true, beq_self_eq_true]
  · have : ¬ (a : Int) = (b : Int) := by omega
    rw [beq_eq_false_iff_ne.2 this, beq_eq_false_iff_ne.2 h]

/-- At a place of a text: its rune is in the set just where its byte is; and such a rune is one byte. -/
theorem cut_at (s set : ByteArray) (ha : Ascii set) (pos : Nat) (hp : pos < s.size) :
    inB set.data.toList (Utf8.decode s pos).1 = set.data.toList.contains (s[pos]'hp) ∧ (set.data.toList.contains (s[pos]'hp) = true → (Utf8.decode s pos).2 = 1) := by
  by_cases h : (s[pos]'hp).toNat < 128
  · rw [decode_ascii s pos hp h]
    exact ⟨inB_byte _ _, fun _ => rfl⟩
  · have hh := inB_high set ha (s[pos]'hp).toNat (by omega)
    rw [inB_byte] at hh
    exact ⟨by rw [hh]; exact inB_high set ha _ (decode_high s pos hp (by omega)).1, fun e => by rw [hh] at e; cases e⟩
theorem at_list (s : ByteArray) (pos : Nat) (hp : pos < s.size) : s.data.toList[pos]? = some (s[pos]'hp) := by
  rw [List.getElem?_eq_getElem (by simpa using hp)]; rfl
theorem drop_text (s : ByteArray) (k : Nat) (_hk : k ≤ s.size) : s.extract k s.size = ⟨(s.data.toList.drop k).toArray⟩ := by
  rw [Lib.extract_eq, List.take_of_length_le (by simp)]

set_option maxHeartbeats 4000000 in
set_option maxRecDepth 1000000 in
theorem cutLeft_any (s set : ByteArray) (ha : Ascii set) (w : World) (_hs : s.size ≤ 1000000) :
    Calls Tryz.prog 150 #[.string s, .string set] w fun e w' => e = .returned (.string ⟨(Lib.trimLeftS s.data.toList set.data.toList).toArray⟩) ∧ Below w.heap.size w w' := by
  go_enter Tryz.func150, Tryz.ntmps150
  go_wp2
  go_loopw [] (fun wr => ∃ pos : Nat, pos ≤ s.size ∧ wr.heap[w.heap.size]? = some (.stringIter s pos) ∧ Below w.heap.size w wr ∧ (∀ (j : Nat) b, j < pos → s.data.toList[j]? = some b → set.data.toList.contains b = true)) (fun wr => s.size - wr.iterPos w.heap.size)
  case atStart =>
    refine ⟨0, Nat.zero_le _, ?_, (Below.refl _ w).alloc (Nat.le_refl _) _, fun j b h => absurd h (Nat.not_lt_zero _)⟩
    exact World.iter_heap w s 0
  case round =>
    obtain ⟨pos, hpl, hit, hbw, hall⟩ := hrel
    obtain ⟨wq, rfl⟩ : ∃ wq : World, wq = wr := ⟨_, rfl⟩
    have hsz : w.heap.size < wq.heap.size := (Array.getElem?_eq_some_iff.1 hit).1
    by_cases hp : pos < s.size
    · have hnx : ∀ ty, (Instr.next (.pointer (some ⟨w.heap.size, 0, none⟩)) true ty).run Tryz.prog wq = _ := fun ty => Lib.run_next_any_at wq w.heap.size s pos ty hit hp
      have hd1 := decode_le s pos
      have hit2 := Lib.iterAt_heap wq w.heap.size s pos (pos + (Utf8.decode s pos).2) hit
      have hbw2 := Lib.below_iterAt hbw (k := w.heap.size) (by omega) s (pos + (Utf8.decode s pos).2)
      have hsz2 : w.heap.size < (wq.iterAt w.heap.size s (pos + (Utf8.decode s pos).2)).heap.size := by rw [Lib.iterAt_size]; omega
      obtain ⟨wo, hwo⟩ : ∃ wo : World, wo = wq.iterAt w.heap.size s (pos + (Utf8.decode s pos).2) := ⟨_, rfl⟩
      rw [← hwo] at hnx hit2 hbw2 hsz2
      clear hwo
      obtain ⟨r, hr⟩ : ∃ r : Nat, r = (Utf8.decode s pos).1 := ⟨_, rfl⟩
      rw [← hr] at hnx hd1
      have HR := Lib.hid hr
      clear hr
      go_wp2
      go_loopw [7] (fun v7 wi => ∃ (q : Nat) (b : Bool), q ≤ set.size ∧ v7 = .bool b ∧ Hid (b = inB (set.data.toList.take q) r) ∧ wi.heap[wo.heap.size]? = some (.stringIter set q) ∧ Below wo.heap.size wo wi) (fun _ wi => set.size - wi.iterPos wo.heap.size)
      case atStart =>
        exact ⟨0, false, Nat.zero_le _, rfl, Lib.hid rfl, World.iter_heap wo set 0, (Below.refl _ wo).alloc (Nat.le_refl _) _⟩
      case round =>
        obtain ⟨q, b, hql, rfl, HB, hiq, hbi⟩ := hrel
        by_cases hq : q < set.size
        · have hny : ∀ ty, (Instr.next (.pointer (some ⟨wo.heap.size, 0, none⟩)) true ty).run Tryz.prog wr = _ := fun ty => Lib.run_next_ascii_at wr wo.heap.size set q ty hiq hq (ha q hq)
          have hiq2 := Lib.iterAt_heap wr wo.heap.size set q (q + 1) hiq
          have hbi2 := Lib.below_iterAt hbi (k := wo.heap.size) (by omega) set (q + 1)
          have hin := inB_snoc (set.data.toList.take q) (set[q]'hq) r
          rw [← take_snoc set q hq] at hin
          have HN : Hid (inB (set.data.toList.take (q + 1)) r = (b || r == (set[q]'hq).toNat)) := Lib.hid (by rw [hin, HB.out])
          clear hin HB
          have hms : wr.iterPos wo.heap.size = q := by simp only [World.iterPos, hiq]
          have HM : Hid (wr.iterPos wo.heap.size = q) := Lib.hid hms
          clear hms
          obtain ⟨d, hd⟩ : ∃ d : Nat, d = (set[q]'hq).toNat := ⟨_, rfl⟩
          rw [← hd] at hny HN
          clear hd
          obtain ⟨wn, hwn⟩ : ∃ wn : World, wn = wr.iterAt wo.heap.size set (q + 1) := ⟨_, rfl⟩
          rw [← hwn] at hny hiq2 hbi2
          clear hwn
          have HM2 : Hid (wn.iterPos wo.heap.size = q + 1) := Lib.hid (by simp only [World.iterPos, hiq2])
          cases b with
          | true =>
            go_wp2
            go_roundw
            case rel => exact ⟨q + 1, true, by omega, rfl, Lib.hid (by rw [HN.out]; rfl), hiq2, hbi2⟩
            case measure => rw [HM.out, HM2.out]; omega
          | false =>
            have ec := cast_beq r d
            cases e : (r == d) with
            | true =>
              rw [e] at ec
              go_wp2
              go_roundw
              case rel => exact ⟨q + 1, true, by omega, rfl, Lib.hid (by rw [HN.out, e]; rfl), hiq2, hbi2⟩
              case measure => rw [HM.out, HM2.out]; omega
            | false =>
              rw [e] at ec
              go_wp2
              go_roundw
              case rel => exact ⟨q + 1, false, by omega, rfl, Lib.hid (by rw [HN.out, e]; rfl), hiq2, hbi2⟩
              case measure => rw [HM.out, HM2.out]; omega
        · -- the set is through
          have hny : ∀ ty, (Instr.next (.pointer (some ⟨wo.heap.size, 0, none⟩)) true ty).run Tryz.prog wr = _ := fun ty => Lib.run_next_end_at wr wo.heap.size set q ty hiq hq
          have hca := cut_at s set ha pos hp
          have hqe : q = set.size := by omega
          have hbe := HB.out
          rw [hqe, List.take_of_length_le (by simp), HR.out, hca.1] at hbe
          have hpm : wq.iterPos w.heap.size = pos := by simp only [World.iterPos, hit]
          have hkeep : wr.heap[w.heap.size]? = some (.stringIter s (pos + (Utf8.decode s pos).2)) := by rw [hbi.block _ (by omega)]; exact hit2
          have HP : Hid (wq.iterPos w.heap.size = pos) := Lib.hid hpm
          have HK : Hid (wr.heap[w.heap.size]? = some (.stringIter s (pos + (Utf8.decode s pos).2))) := Lib.hid hkeep
          have HBE : Hid (b = set.data.toList.contains (s[pos]'hp)) := Lib.hid hbe
          have HCA := Lib.hid hca.2
          have hbb : Below w.heap.size w wr := hbw2.trans (hbi.mono (by omega))
          clear hpm hkeep hbe hca hqe HB hit2 hiq hnx
          cases b with
          | true =>
            go_wp2
            go_roundw
            case rel =>
              have hw1 := HCA.out HBE.out.symm
              have hk := HK.out
              rw [hw1] at hk
              refine ⟨pos + 1, by omega, hk, hbb, fun j c hj hc => ?_⟩
              by_cases hjp : j < pos
              · exact hall j c hjp hc
              · obtain rfl : j = pos := by omega
                rw [at_list s _ hp] at hc
                cases hc
                exact HBE.out.symm
            case measure =>
              have hw1 := HCA.out HBE.out.symm
              have hk := HK.out
              rw [HP.out]
              simp only [World.iterPos, hk]
              omega
          | false =>
            go_wp2
            go_ret
            refine ⟨ret_str ?_, hbb⟩
            rw [drop_text s pos hpl, Lib.trimLeftS_drop s.data.toList set.data.toList pos (by simpa using hpl) hall (fun c hc => by rw [at_list s _ hp] at hc; cases hc; exact HBE.out.symm)]
    · have hnx : ∀ ty, (Instr.next (.pointer (some ⟨w.heap.size, 0, none⟩)) true ty).run Tryz.prog wq = _ := fun ty => Lib.run_next_end_at wq w.heap.size s pos ty hit hp
      have hpe : pos = s.size := by omega
      have HE := Lib.hid hpe
      clear hpe hit
      go_wp2
      go_ret
      refine ⟨ret_str ?_, hbw⟩
      rw [Lib.trimLeftS_drop s.data.toList set.data.toList pos (by simpa using hpl) hall (fun c hc => by rw [HE.out, List.getElem?_eq_none (by simp)] at hc; cases hc), HE.out, List.drop_of_length_le (by simp)]

/-- unicode/utf8's two tables, as its text lays them. -/
structure Tabs (w : World) : Prop where out : Lib.Utf8Tabs 1 2 w
theorem Tabs.below {w w' : World} (h : Tabs w) (hb : Below w.heap.size w w') : Tabs w' := ⟨Utf8Tabs_below h.out hb⟩

theorem lastStart_le (l : List UInt8) (h2 : 2 ≤ l.length) : Lib.lastStart l + 2 ≤ l.length := by
  unfold Lib.lastStart
  simp only
  repeat' split
  all_goals omega
/-- The last rune is in an ASCII set just where the last byte is; and it is one byte then. -/
theorem last_at (l : List UInt8) (set : ByteArray) (ha : Ascii set) (c : UInt8) (t : List UInt8) (e : l = t ++ [c]) :
    inB set.data.toList (Lib.decodeLastL l).1 = set.data.toList.contains c ∧ (set.data.toList.contains c = true → (Lib.decodeLastL l).2 = 1) := by
  subst e
  by_cases h : c.toNat < 128
  · rw [Lib.decodeLastL_ascii t c h]
    exact ⟨inB_byte _ _, fun _ => rfl⟩
  · have hh := inB_high set ha c.toNat (by omega)
    rw [inB_byte] at hh
    refine ⟨?_, fun e => by rw [hh] at e; cases e⟩
    rw [hh]
    apply inB_high set ha
    unfold Lib.decodeLastL
    rw [if_neg (by simp)]
    have hl : (t ++ [c]).getD ((t ++ [c]).length - 1) 0 = c := by simp [List.getD]
    rw [hl, if_neg h]
    simp only
    split
    · rename_i hst
      obtain ⟨st, hs⟩ : ∃ st, st = Lib.lastStart (t ++ [c]) := ⟨_, rfl⟩
      rw [← hs] at hst ⊢
      have hlen : (t ++ [c]).length = t.length + 1 := by simp
      obtain ⟨m, hm⟩ : ∃ m, m = (t ++ [c]).drop st := ⟨_, rfl⟩
      rw [← hm] at hst ⊢
      have hmlen : m.length = t.length + 1 - st := by rw [hm]; simp
      by_cases hm0 : m = []
      · subst hm0
        exact absurd hst (by
          intro hst
          have hx : (Lib.decodeL []).2 = 1 := by decide
          rw [hx, hlen] at hst
          simp at hmlen
          omega)
      · have hp : 0 < (⟨m.toArray⟩ : ByteArray).size := by
          have : 0 < m.length := List.length_pos_iff.2 hm0
          simpa [ByteArray.size] using this
        show 128 ≤ (Utf8.decode ⟨m.toArray⟩ 0).1
        by_cases hb : ((⟨m.toArray⟩ : ByteArray)[0]'hp).toNat < 128
        · have hd : Lib.decodeL m = (((⟨m.toArray⟩ : ByteArray)[0]'hp).toNat, 1) := decode_ascii ⟨m.toArray⟩ 0 hp hb
          rw [hd, hlen] at hst
          have hst' : st = t.length := by simp at hst; omega
          by_cases h2 : 2 ≤ (t ++ [c]).length
          · have := lastStart_le (t ++ [c]) h2
            omega
          · have ht0 : t = [] := List.length_eq_zero_iff.1 (by omega)
            subst ht0
            simp at hst'
            subst hst'
            simp at hm
            subst hm
            exact absurd hb h
        · exact (decode_high ⟨m.toArray⟩ 0 hp (by omega)).1
    · decide

theorem take_text (s : ByteArray) (k : Nat) : s.extract 0 k = ⟨(s.data.toList.take k).toArray⟩ := by
  rw [Lib.extract_eq]; simp
/-- How many bytes a text value has. -/
def strLen : Value → Nat
  | .string t => t.size
  | _ => 0

set_option maxHeartbeats 4000000 in
set_option maxRecDepth 1000000 in
theorem cutRight_any (s set : ByteArray) (ha : Ascii set) (w : World) (hs : s.size ≤ 1000000) (hT : Tabs w) :
    Calls Tryz.prog 149 #[.string s, .string set] w fun e w' => e = .returned (.string ⟨(Lib.trimRightS s.data.toList set.data.toList).toArray⟩) ∧ Below w.heap.size w w' := by
  go_enter Tryz.func149, Tryz.ntmps149
  go_wp2
  go_loopw [0] (fun v wr => ∃ m : Nat, m ≤ s.size ∧ v = .string (s.extract 0 m) ∧ Below w.heap.size w wr ∧ (∀ (j : Nat) b, m ≤ j → s.data.toList[j]? = some b → set.data.toList.contains b = true)) (fun v _ => strLen v)
  case atStart =>
    refine ⟨s.size, Nat.le_refl _, ?_, Below.refl _ _, fun j b h hb => ?_⟩
    · rw [take_text, List.take_of_length_le (by simp)]
    · rw [List.getElem?_eq_none (by simpa using h)] at hb; cases hb
  case round =>
    obtain ⟨m, hm, rfl, hbw, hall⟩ := hrel
    obtain ⟨wq, rfl⟩ : ∃ wq : World, wq = wr := ⟨_, rfl⟩
    have hsz : (s.extract 0 m).size = m := by simp; omega
    by_cases h0 : 0 < m
    · obtain ⟨n, rfl⟩ : ∃ n, m = n + 1 := ⟨m - 1, by omega⟩
      have hp : n < s.size := by omega
      have hlist : (s.extract 0 (n + 1)).data.toList = s.data.toList.take n ++ [s[n]'hp] := by rw [take_text]; exact take_snoc s n hp
      have hla := last_at _ set ha _ _ hlist
      have HXS : Hid ((s.extract 0 n).size = n) := Lib.hid (by simp; omega)
      have hdec := Tryz.utf8_DecodeLastRuneInString (s.extract 0 (n + 1)) wq (by omega) (hT.below hbw).out
      have hnext : (s.extract 0 (n + 1)).extract 0 n = s.extract 0 n := by rw [take_text, hlist, take_text, List.take_append_of_le_length (by simp; omega), List.take_take, Nat.min_self]
      obtain ⟨t, ht⟩ : ∃ t, t = s.extract 0 (n + 1) := ⟨_, rfl⟩
      rw [← ht] at hsz hlist hla hdec hnext ⊢
      clear ht
      have HL := Lib.hid hlist
      have HA := Lib.hid hla
      have HX := Lib.hid hnext
      obtain ⟨r, hr⟩ : ∃ r, r = (Lib.decodeLastL t.data.toList).1 := ⟨_, rfl⟩
      obtain ⟨k, hk⟩ : ∃ k, k = (Lib.decodeLastL t.data.toList).2 := ⟨_, rfl⟩
      rw [← hr, ← hk] at hdec
      have HRK : Hid (inB set.data.toList r = set.data.toList.contains (s[n]'hp) ∧ (set.data.toList.contains (s[n]'hp) = true → k = 1)) := Lib.hid (by rw [hr, hk]; exact hla)
      clear hr hk hla hlist hnext
      go_wp2_with (go_at_call 145; refine hdec.mono ?_)
      rintro e wo ⟨rfl, hbo⟩
      clear hdec
      have hbwo : Below w.heap.size w wo := hbw.trans (hbo.mono hbw.size)
      go_wp2
      go_loopw [7] (fun v7 wi => ∃ (q : Nat) (b : Bool), q ≤ set.size ∧ v7 = .bool b ∧ Hid (b = inB (set.data.toList.take q) r) ∧ wi.heap[wo.heap.size]? = some (.stringIter set q) ∧ Below wo.heap.size wo wi) (fun _ wi => set.size - wi.iterPos wo.heap.size)
      case atStart =>
        exact ⟨0, false, Nat.zero_le _, rfl, Lib.hid rfl, World.iter_heap wo set 0, (Below.refl _ wo).alloc (Nat.le_refl _) _⟩
      case round =>
        obtain ⟨q, b, hql, rfl, HB, hiq, hbi⟩ := hrel
        by_cases hq : q < set.size
        · have hny : ∀ ty, (Instr.next (.pointer (some ⟨wo.heap.size, 0, none⟩)) true ty).run Tryz.prog wr = _ := fun ty => Lib.run_next_ascii_at wr wo.heap.size set q ty hiq hq (ha q hq)
          have hiq2 := Lib.iterAt_heap wr wo.heap.size set q (q + 1) hiq
          have hbi2 := Lib.below_iterAt hbi (k := wo.heap.size) (by omega) set (q + 1)
          have hin := inB_snoc (set.data.toList.take q) (set[q]'hq) r
          rw [← take_snoc set q hq] at hin
          have HN : Hid (inB (set.data.toList.take (q + 1)) r = (b || r == (set[q]'hq).toNat)) := Lib.hid (by rw [hin, HB.out])
          clear hin HB
          have hms : wr.iterPos wo.heap.size = q := by simp only [World.iterPos, hiq]
          have HM : Hid (wr.iterPos wo.heap.size = q) := Lib.hid hms
          clear hms
          obtain ⟨d, hd⟩ : ∃ d : Nat, d = (set[q]'hq).toNat := ⟨_, rfl⟩
          rw [← hd] at hny HN
          clear hd
          obtain ⟨wn, hwn⟩ : ∃ wn : World, wn = wr.iterAt wo.heap.size set (q + 1) := ⟨_, rfl⟩
          rw [← hwn] at hny hiq2 hbi2
          clear hwn
          have HM2 : Hid (wn.iterPos wo.heap.size = q + 1) := Lib.hid (by simp only [World.iterPos, hiq2])
          cases b with
          | true =>
            go_wp2
            go_roundw
            case rel => exact ⟨q + 1, true, by omega, rfl, Lib.hid (by rw [HN.out]; rfl), hiq2, hbi2⟩
            case measure => rw [HM.out, HM2.out]; omega
          | false =>
            have ec := cast_beq r d
            cases e : (r == d) with
            | true =>
              rw [e] at ec
              go_wp2
              go_roundw
              case rel => exact ⟨q + 1, true, by omega, rfl, Lib.hid (by rw [HN.out, e]; rfl), hiq2, hbi2⟩
              case measure => rw [HM.out, HM2.out]; omega
            | false =>
              rw [e] at ec
              go_wp2
              go_roundw
              case rel => exact ⟨q + 1, false, by omega, rfl, Lib.hid (by rw [HN.out, e]; rfl), hiq2, hbi2⟩
              case measure => rw [HM.out, HM2.out]; omega
        · -- the set is through
          have hny : ∀ ty, (Instr.next (.pointer (some ⟨wo.heap.size, 0, none⟩)) true ty).run Tryz.prog wr = _ := fun ty => Lib.run_next_end_at wr wo.heap.size set q ty hiq hq
          have hqe : q = set.size := by omega
          have hbe := HB.out
          rw [hqe, List.take_of_length_le (by simp), HRK.out.1] at hbe
          have HBE : Hid (b = set.data.toList.contains (s[n]'hp)) := Lib.hid hbe
          have hbb : Below w.heap.size w wr := hbwo.trans (hbi.mono (Nat.le_trans hbw.size hbo.size))
          clear hbe hqe HB hiq hbi hbo
          cases b with
          | true =>
            obtain rfl : k = 1 := HRK.out.2 HBE.out.symm
            go_wp2
            refine ⟨⟨n, by omega, by rw [HX.out], hbb, fun j c hj hc => ?_⟩, ?_⟩
            · by_cases hjn : n + 1 ≤ j
              · exact hall j c hjn hc
              · obtain rfl : j = n := by omega
                rw [at_list s _ hp] at hc
                cases hc
                exact HBE.out.symm
            · rw [HX.out]
              simp only [strLen, hsz]
              rw [HXS.out]
              omega
          | false =>
            go_wp2
            go_ret
            refine ⟨ret_str ?_, hbb⟩
            have e1 : t = s.extract 0 (n + 1) := by
              apply ByteArray.ext
              apply Array.toList_inj.1
              rw [HL.out, take_text]; exact (take_snoc s n hp).symm
            rw [e1, take_text, Lib.trimRightS_take s.data.toList set.data.toList (n + 1) (by simp; omega) hall (fun c _ hc => by rw [Nat.add_sub_cancel, at_list s _ hp] at hc; cases hc; exact HBE.out.symm)]
    · obtain rfl : m = 0 := by omega
      have he : s.extract 0 0 = (⟨#[]⟩ : ByteArray) := by rw [take_text]; rfl
      rw [he]
      clear hsz
      go_wp2
      go_ret
      refine ⟨ret_str ?_, hbw⟩
      rw [Lib.trimRightS_take s.data.toList set.data.toList 0 (by simp) hall (fun c hc => absurd hc (Nat.lt_irrefl 0)), List.take_zero]
end Go.Proofs.YtmplfiflikhpjaaGreatDoor
/-
  A number's digits read: strconv.ParseInt at digits of base 10 or 16, at most seven of them; and ent's function of a number's rune.
-/
namespace Go.Proofs.YtmplfiflikhpjaaGreatDoor
open Go.RowKit

theorem bytesW_below (w : World) (e : TypeId) (s : ByteArray) : Below w.heap.size w (Lib.bytesWorld w e s) :=
  ⟨by unfold Lib.bytesWorld World.freeze; split <;> rfl, by unfold Lib.bytesWorld World.freeze; split <;> rfl, by unfold Lib.bytesWorld World.freeze; split <;> rfl, by rw [Lib.bytesWorld_size]; omega, fun i hi => Lib.bytesWorld_at_old w e s i hi⟩

def Dig10 (b : UInt8) : Prop := 48 ≤ b.toNat ∧ b.toNat ≤ 57
def Dig16 (b : UInt8) : Prop := (48 ≤ b.toNat ∧ b.toNat ≤ 57) ∨ (97 ≤ b.toNat ∧ b.toNat ≤ 102) ∨ (65 ≤ b.toNat ∧ b.toNat ≤ 70)

theorem numV_snoc (base : Nat) (l : List UInt8) (c : UInt8) : Spec.numV base (l ++ [c]) = Spec.numV base l * base + Spec.digV c := by
  unfold Spec.numV; rw [List.foldl_append]; rfl
theorem numV_lt (base : Nat) : ∀ (l : List UInt8), (∀ c ∈ l, Spec.digV c < base) → Spec.numV base l < base ^ l.length := by
  intro l
  induction h : l.length generalizing l with
  | zero => intro _; obtain rfl := List.length_eq_zero_iff.1 h; simp [Spec.numV]
  | succ n ih =>
    intro hd
    obtain ⟨t, c, rfl⟩ : ∃ t c, l = t ++ [c] := ⟨l.dropLast, l.getLast (by intro e; subst e; cases h), (List.dropLast_concat_getLast _).symm⟩
    have hn : t.length = n := by simp at h; exact h
    have i := ih t hn (fun x hx => hd x (by simp [hx]))
    have hc := hd c (by simp)
    rw [numV_snoc, Nat.pow_succ]
    have : (Spec.numV base t + 1) * base ≤ base ^ n * base := Nat.mul_le_mul_right _ i
    rw [Nat.add_mul] at this
    omega
theorem dig10_lt {c : UInt8} (h : Dig10 c) : Spec.digV c = c.toNat - 48 ∧ Spec.digV c < 10 := by
  unfold Dig10 at h; unfold Spec.digV; rw [if_pos h.2]; omega
theorem dig16_lt {c : UInt8} (h : Dig16 c) : Spec.digV c < 16 := by
  unfold Dig16 at h; unfold Spec.digV
  split
  · omega
  · split <;> omega
/-- lower at the letters of hexadecimal digits. -/
theorem lower_hex (c : UInt8) (h : (97 ≤ c.toNat ∧ c.toNat ≤ 102) ∨ (65 ≤ c.toNat ∧ c.toNat ≤ 70)) :
    ∃ v : Int, 97 ≤ v ∧ v ≤ 102 ∧ bits .or .u8 (c.toNat : Int) 32 = v ∧ (Spec.digV c : Int) = v - 87 := by
  have e : c.toNat = 97 ∨ c.toNat = 98 ∨ c.toNat = 99 ∨ c.toNat = 100 ∨ c.toNat = 101 ∨ c.toNat = 102 ∨ c.toNat = 65 ∨ c.toNat = 66 ∨ c.toNat = 67 ∨ c.toNat = 68 ∨ c.toNat = 69 ∨ c.toNat = 70 := by omega
  unfold Spec.digV
  rcases e with e | e | e | e | e | e | e | e | e | e | e | e <;> rw [e]
  · exact ⟨97, by decide, by decide, by decide, by decide⟩
  · exact ⟨98, by decide, by decide, by decide, by decide⟩
  · exact ⟨99, by decide, by decide, by decide, by decide⟩
  · exact ⟨100, by decide, by decide, by decide, by decide⟩
  · exact ⟨101, by decide, by decide, by decide, by decide⟩
  · exact ⟨102, by decide, by decide, by decide, by decide⟩
  · exact ⟨97, by decide, by decide, by decide, by decide⟩
  · exact ⟨98, by decide, by decide, by decide, by decide⟩
  · exact ⟨99, by decide, by decide, by decide, by decide⟩
  · exact ⟨100, by decide, by decide, by decide, by decide⟩
  · exact ⟨101, by decide, by decide, by decide, by decide⟩
  · exact ⟨102, by decide, by decide, by decide, by decide⟩

set_option maxHeartbeats 32000000 in
set_option maxRecDepth 100000 in
theorem parseU10 (t : ByteArray) (w : World) (hne : t.size ≠ 0) (h7 : t.size ≤ 7) (hd : ∀ (j : Nat) b, t.data.toList[j]? = some b → Dig10 b) :
    Calls Tryz.prog 179 #[.string t, .int .i64 10, .int .i64 32] w fun e w' => e = .returned (.tuple #[.int .u64 (Spec.numV 10 t.data.toList : Nat), .nilIface]) ∧ Below w.heap.size w w' := by
  have hemp : t.toList.isEmpty = false := by
    rw [← decide_eq_emptyBytes]
    exact decide_eq_false (fun h => hne (by rw [h]; rfl))
  have hcv := Lib.run_convert_string_bytes (P := Tryz.prog) w 9 38 5 t (u := .string) Tryz.underlying9 Tryz.underlying38 Tryz.underlying5
  have hB : ∀ j, j < t.size → (Lib.bytesWorld w 5 t).cell? ⟨w.heap.size, j, none⟩ = some (.int .u8 (t.data.toList.getD j 0).toNat) := fun j hj => Lib.bytesWorld_cell w 5 t j hj
  have hbel := bytesW_below w 5 t
  obtain ⟨W1, hW1⟩ : ∃ W1, W1 = Lib.bytesWorld w 5 t := ⟨_, rfl⟩
  rw [← hW1] at hcv hB hbel
  clear hW1
  obtain ⟨bs, hL⟩ : ∃ bs, bs = t.data.toList := ⟨_, rfl⟩
  have hLn : bs.length = t.size := by rw [hL, Lib.size_eq]
  rw [← hL] at hB hd ⊢
  clear hL
  have hmv : IntKind.u64.wrap (IntKind.u64.wrap 4294967296 - 1) = 4294967295 := by
    rw [IntKind.wrap_u64, IntKind.wrap_u64]
    decide
  have hdl : ∀ c ∈ bs, Spec.digV c < 10 := fun c hc => by
    obtain ⟨j, hj, rfl⟩ := List.getElem_of_mem hc
    exact (dig10_lt (hd j _ (List.getElem?_eq_getElem hj))).2
  go_enter Tryz.func179, Tryz.ntmps179
  go_wp2
  go_loop [12, 13, 101] (fun vu vn vi => ∃ (k : Nat) (a : Int), vu = .bool false ∧ vn = .int .u64 a ∧ vi = .int .i64 k ∧ k ≤ t.size ∧ Hid (a = ((Spec.numV 10 (bs.take k) : Nat) : Int)))
    (fun _ _ vi => t.size - (intOf vi).toNat)
  case atStart => exact ⟨0, 0, rfl, rfl, rfl, Nat.zero_le _, Lib.hid rfl⟩
  case round =>
    obtain ⟨k, a, rfl, rfl, rfl, hk, hh⟩ := hrel
    have hlt := numV_lt 10 (bs.take k) (fun c hc => hdl c (List.mem_of_mem_take hc))
    have hp : (10 : Nat) ^ (bs.take k).length ≤ 10 ^ 7 := Nat.pow_le_pow_right (by decide) (by simp; omega)
    have a0 : 0 ≤ a := by rw [hh.out]; omega
    have hpn : (10 : Nat) ^ 7 ≤ 16777216 := by decide
    have a1 : a ≤ 16777216 := by rw [hh.out]; omega
    clear hlt hp hpn
    by_cases hkn : k < t.size
    · have hc := hB k hkn
      have hget : bs.getD k 0 = bs[k]'(by omega) := by simp [List.getD, List.getElem?_eq_getElem (show k < bs.length by omega)]
      have hdk := hd k _ (List.getElem?_eq_getElem (show k < bs.length by omega))
      have hts : bs.take (k + 1) = bs.take k ++ [bs[k]'(by omega)] := by rw [List.take_succ_eq_append_getElem (show k < bs.length by omega)]
      rw [hget] at hc
      generalize bs[k]'(by omega) = c at hc hdk hts
      have hc256 : c.toNat < 256 := c.toNat_lt
      clear hB hget
      have HN : Hid (((Spec.numV 10 (bs.take (k + 1)) : Nat) : Int) = a * 10 + (Spec.digV c : Int)) := Lib.hid (by rw [hts, numV_snoc, hh.out]; push_cast; rfl)
      clear hts hh
      by_cases hdig : 48 ≤ c.toNat ∧ c.toNat ≤ 57
      · obtain ⟨hd0, hd1⟩ := hdig
        have hv : Spec.digV c = c.toNat - 48 := (dig10_lt ⟨hd0, hd1⟩).1
        have HV : Hid (((Spec.numV 10 (bs.take (k + 1)) : Nat) : Int) = a * 10 + ((c.toNat : Int) - 48)) := Lib.hid (by rw [HN.out, hv]; omega)
        clear HN hv hdk
        have iov : a * 10 + ((c.toNat : Int) - 48) ≤ 4294967295 := by omega
        go_wp2
        refine ⟨⟨k + 1, a * 10 + ((c.toNat : Int) - 48), rfl, (by first | rfl | (congr 1; omega)), (by first | rfl | (congr 1; omega)), by omega, Lib.hid HV.out.symm⟩, by simp [intOf]; omega⟩
      · exact absurd hdk hdig
    · have hkk : k = t.size := by omega
      have he := hh.out
      rw [hkk, List.take_of_length_le (by omega)] at he
      have HE := Lib.hid he
      clear he hh
      go_wp2
      go_ret2
      exact ⟨by rw [← HE.out]; rfl, hbel⟩

set_option maxHeartbeats 32000000 in
set_option maxRecDepth 100000 in
theorem parseU16 (t : ByteArray) (w : World) (hne : t.size ≠ 0) (h7 : t.size ≤ 6) (hd : ∀ (j : Nat) b, t.data.toList[j]? = some b → Dig16 b) :
    Calls Tryz.prog 179 #[.string t, .int .i64 16, .int .i64 32] w fun e w' => e = .returned (.tuple #[.int .u64 (Spec.numV 16 t.data.toList : Nat), .nilIface]) ∧ Below w.heap.size w w' := by
  have hemp : t.toList.isEmpty = false := by
    rw [← decide_eq_emptyBytes]
    exact decide_eq_false (fun h => hne (by rw [h]; rfl))
  have hcv := Lib.run_convert_string_bytes (P := Tryz.prog) w 9 38 5 t (u := .string) Tryz.underlying9 Tryz.underlying38 Tryz.underlying5
  have hB : ∀ j, j < t.size → (Lib.bytesWorld w 5 t).cell? ⟨w.heap.size, j, none⟩ = some (.int .u8 (t.data.toList.getD j 0).toNat) := fun j hj => Lib.bytesWorld_cell w 5 t j hj
  have hbel := bytesW_below w 5 t
  obtain ⟨W1, hW1⟩ : ∃ W1, W1 = Lib.bytesWorld w 5 t := ⟨_, rfl⟩
  rw [← hW1] at hcv hB hbel
  clear hW1
  obtain ⟨bs, hL⟩ : ∃ bs, bs = t.data.toList := ⟨_, rfl⟩
  have hLn : bs.length = t.size := by rw [hL, Lib.size_eq]
  rw [← hL] at hB hd ⊢
  clear hL
  have hmv : IntKind.u64.wrap (IntKind.u64.wrap 4294967296 - 1) = 4294967295 := by
    rw [IntKind.wrap_u64, IntKind.wrap_u64]
    decide
  have hdl : ∀ c ∈ bs, Spec.digV c < 16 := fun c hc => by
    obtain ⟨j, hj, rfl⟩ := List.getElem_of_mem hc
    exact dig16_lt (hd j _ (List.getElem?_eq_getElem hj))
  go_enter Tryz.func179, Tryz.ntmps179
  go_wp2
  go_loop [12, 13, 101] (fun vu vn vi => ∃ (k : Nat) (a : Int), vu = .bool false ∧ vn = .int .u64 a ∧ vi = .int .i64 k ∧ k ≤ t.size ∧ Hid (a = ((Spec.numV 16 (bs.take k) : Nat) : Int)))
    (fun _ _ vi => t.size - (intOf vi).toNat)
  case atStart => exact ⟨0, 0, rfl, rfl, rfl, Nat.zero_le _, Lib.hid rfl⟩
  case round =>
    obtain ⟨k, a, rfl, rfl, rfl, hk, hh⟩ := hrel
    have hlt := numV_lt 16 (bs.take k) (fun c hc => hdl c (List.mem_of_mem_take hc))
    have hp : (16 : Nat) ^ (bs.take k).length ≤ 16 ^ 6 := Nat.pow_le_pow_right (by decide) (by simp; omega)
    have a0 : 0 ≤ a := by rw [hh.out]; omega
    have hpn : (16 : Nat) ^ 6 ≤ 16777216 := by decide
    have a1 : a ≤ 16777216 := by rw [hh.out]; omega
    clear hlt hp hpn
    by_cases hkn : k < t.size
    · have hc := hB k hkn
      have hget : bs.getD k 0 = bs[k]'(by omega) := by simp [List.getD, List.getElem?_eq_getElem (show k < bs.length by omega)]
      have hdk := hd k _ (List.getElem?_eq_getElem (show k < bs.length by omega))
      have hts : bs.take (k + 1) = bs.take k ++ [bs[k]'(by omega)] := by rw [List.take_succ_eq_append_getElem (show k < bs.length by omega)]
      rw [hget] at hc
      generalize bs[k]'(by omega) = c at hc hdk hts
      have hc256 : c.toNat < 256 := c.toNat_lt
      clear hB hget
      have HN : Hid (((Spec.numV 16 (bs.take (k + 1)) : Nat) : Int) = a * 16 + (Spec.digV c : Int)) := Lib.hid (by rw [hts, numV_snoc, hh.out]; push_cast; rfl)
      clear hts hh
      by_cases hdig : 48 ≤ c.toNat ∧ c.toNat ≤ 57
      · obtain ⟨hd0, hd1⟩ := hdig
        have hv : Spec.digV c = c.toNat - 48 := (dig10_lt ⟨hd0, hd1⟩).1
        have HV : Hid (((Spec.numV 16 (bs.take (k + 1)) : Nat) : Int) = a * 16 + ((c.toNat : Int) - 48)) := Lib.hid (by rw [HN.out, hv]; omega)
        clear HN hv hdk
        have iov : a * 16 + ((c.toNat : Int) - 48) ≤ 4294967295 := by omega
        go_wp2
        refine ⟨⟨k + 1, a * 16 + ((c.toNat : Int) - 48), rfl, (by first | rfl | (congr 1; omega)), (by first | rfl | (congr 1; omega)), by omega, Lib.hid HV.out.symm⟩, by simp [intOf]; omega⟩
      · obtain ⟨v, v0, v1, hbv, hdv⟩ := lower_hex c (by unfold Dig16 at hdk; omega)
        have HV : Hid (((Spec.numV 16 (bs.take (k + 1)) : Nat) : Int) = a * 16 + (v - 97 + 10)) := Lib.hid (by rw [HN.out, hdv]; omega)
        have hlow : ∀ W, Calls Tryz.prog 185 #[.int .u8 (c.toNat : Int)] W fun e w' => e = .returned (.int .u8 v) ∧ w' = W := fun W => by
          have := Tryz.internal_strconv_lower (c.toNat : Int) W
          rw [hbv] at this
          exact this
        have hne95 : (((c.toNat : Nat) : Int) == 95) = false := beq_eq_false_iff_ne.2 (by unfold Dig16 at hdk; omega)
        clear HN hbv hdv hdk
        have iov : a * 16 + (v - 97 + 10) ≤ 4294967295 := by omega
        go_wp2_with (go_at_call 185; refine (hlow _).mono ?_; rintro e w' ⟨rfl, rfl⟩)
        all_goals exact ⟨⟨k + 1, a * 16 + (v - 97 + 10), rfl, rfl, by go_num, by omega, Lib.hid HV.out.symm⟩, by simp [intOf]; omega⟩
    · have hkk : k = t.size := by omega
      have he := hh.out
      rw [hkk, List.take_of_length_le (by omega)] at he
      have HE := Lib.hid he
      clear he hh
      go_wp2
      go_ret2
      exact ⟨by rw [← HE.out]; rfl, hbel⟩

set_option maxHeartbeats 4000000 in
set_option maxRecDepth 100000 in
theorem parseI10 (t : ByteArray) (w : World) (hne : t.size ≠ 0) (h7 : t.size ≤ 7) (hd : ∀ (j : Nat) b, t.data.toList[j]? = some b → Dig10 b) :
    Calls Tryz.prog 151 #[.string t, .int .i64 10, .int .i64 32] w fun e w' => e = .returned (.tuple #[.int .i64 (Spec.numV 10 t.data.toList : Nat), .nilIface]) ∧ Below w.heap.size w w' := by
  have hemp : t.toList.isEmpty = false := by
    rw [← decide_eq_emptyBytes]
    exact decide_eq_false (fun h => hne (by rw [h]; rfl))
  have hlen : t.data.toList.length = t.size := by rw [Lib.size_eq]
  have hdl : ∀ c ∈ t.data.toList, Spec.digV c < 10 := fun c hc => by
    obtain ⟨j, hj, rfl⟩ := List.getElem_of_mem hc
    exact (dig10_lt (hd j _ (List.getElem?_eq_getElem hj))).2
  have hlt := numV_lt 10 t.data.toList hdl
  have hp : (10 : Nat) ^ t.data.toList.length ≤ 10 ^ 7 := Nat.pow_le_pow_right (by decide) (by omega)
  have hpn : (10 : Nat) ^ 7 ≤ 16777216 := by decide
  have h00 : 0 < t.size := by omega
  have hd0 := hd 0 _ (at_list t 0 h00)
  have hcall := parseU10 t
  obtain ⟨V, hV⟩ : ∃ V, V = Spec.numV 10 t.data.toList := ⟨_, rfl⟩
  rw [← hV] at hlt ⊢
  have hcall : ∀ W : World, Calls Tryz.prog 179 #[.string t, .int .i64 10, .int .i64 32] W fun e w' => e = .returned (.tuple #[.int .u64 (V : Nat), .nilIface]) ∧ Below W.heap.size W w' := fun W => by rw [hV]; exact hcall W hne h7 hd
  clear hV
  obtain ⟨a, HAV⟩ : ∃ a : Int, Hid (a = (V : Int)) := ⟨_, Lib.hid rfl⟩
  have v0 : 0 ≤ a := by rw [HAV.out]; omega
  have v1 : a ≤ 16777216 := by rw [HAV.out]; omega
  have hcall : ∀ W : World, Calls Tryz.prog 179 #[.string t, .int .i64 10, .int .i64 32] W fun e w' => e = .returned (.tuple #[.int .u64 a, .nilIface]) ∧ Below W.heap.size W w' := fun W => by rw [HAV.out]; exact hcall W
  rw [← HAV.out]
  clear hlt hp hpn hdl hlen HAV
  have n43 : (((t[0]'h00).toNat : Int) == 43) = false := beq_eq_false_iff_ne.2 (by unfold Dig10 at hd0; omega)
  have n45 : (((t[0]'h00).toNat : Int) == 45) = false := beq_eq_false_iff_ne.2 (by unfold Dig10 at hd0; omega)
  clear hd0 hd
  have hI : Calls Tryz.prog 172 #[.string t, .int .i64 10, .int .i64 32] w fun e w' => e = .returned (.tuple #[.int .i64 a, .nilIface]) ∧ Below w.heap.size w w' := by
    go_enter Tryz.func172, Tryz.ntmps172
    go_wp2_with (go_at_call 179; refine (hcall _).mono ?_)
    rintro e W1 ⟨rfl, hb1⟩
    clear n43 n45 hemp
    go_wp2
    go_ret2
    exact ⟨rfl, hb1⟩
  go_enter Tryz.func151, Tryz.ntmps151
  go_wp2_with (go_at_call 172; refine hI.mono ?_)
  rintro e W1 ⟨rfl, hb1⟩
  clear hI
  go_wp2
  go_ret2
  exact ⟨rfl, hb1⟩

set_option maxHeartbeats 4000000 in
set_option maxRecDepth 100000 in
theorem parseI16 (t : ByteArray) (w : World) (hne : t.size ≠ 0) (h7 : t.size ≤ 6) (hd : ∀ (j : Nat) b, t.data.toList[j]? = some b → Dig16 b) :
    Calls Tryz.prog 151 #[.string t, .int .i64 16, .int .i64 32] w fun e w' => e = .returned (.tuple #[.int .i64 (Spec.numV 16 t.data.toList : Nat), .nilIface]) ∧ Below w.heap.size w w' := by
  have hemp : t.toList.isEmpty = false := by
    rw [← decide_eq_emptyBytes]
    exact decide_eq_false (fun h => hne (by rw [h]; rfl))
  have hlen : t.data.toList.length = t.size := by rw [Lib.size_eq]
  have hdl : ∀ c ∈ t.data.toList, Spec.digV c < 16 := fun c hc => by
    obtain ⟨j, hj, rfl⟩ := List.getElem_of_mem hc
    exact dig16_lt (hd j _ (List.getElem?_eq_getElem hj))
  have hlt := numV_lt 16 t.data.toList hdl
  have hp : (16 : Nat) ^ t.data.toList.length ≤ 16 ^ 6 := Nat.pow_le_pow_right (by decide) (by omega)
  have hpn : (16 : Nat) ^ 6 ≤ 16777216 := by decide
  have h00 : 0 < t.size := by omega
  have hd0 := hd 0 _ (at_list t 0 h00)
  have hcall := parseU16 t
  obtain ⟨V, hV⟩ : ∃ V, V = Spec.numV 16 t.data.toList := ⟨_, rfl⟩
  rw [← hV] at hlt ⊢
  have hcall : ∀ W : World, Calls Tryz.prog 179 #[.string t, .int .i64 16, .int .i64 32] W fun e w' => e = .returned (.tuple #[.int .u64 (V : Nat), .nilIface]) ∧ Below W.heap.size W w' := fun W => by rw [hV]; exact hcall W hne h7 hd
  clear hV
  obtain ⟨a, HAV⟩ : ∃ a : Int, Hid (a = (V : Int)) := ⟨_, Lib.hid rfl⟩
  have v0 : 0 ≤ a := by rw [HAV.out]; omega
  have v1 : a ≤ 16777216 := by rw [HAV.out]; omega
  have hcall : ∀ W : World, Calls Tryz.prog 179 #[.string t, .int .i64 16, .int .i64 32] W fun e w' => e = .returned (.tuple #[.int .u64 a, .nilIface]) ∧ Below W.heap.size W w' := fun W => by rw [HAV.out]; exact hcall W
  rw [← HAV.out]
  clear hlt hp hpn hdl hlen HAV
  have n43 : (((t[0]'h00).toNat : Int) == 43) = false := beq_eq_false_iff_ne.2 (by unfold Dig16 at hd0; omega)
  have n45 : (((t[0]'h00).toNat : Int) == 45) = false := beq_eq_false_iff_ne.2 (by unfold Dig16 at hd0; omega)
  clear hd0 hd
  have hI : Calls Tryz.prog 172 #[.string t, .int .i64 16, .int .i64 32] w fun e w' => e = .returned (.tuple #[.int .i64 a, .nilIface]) ∧ Below w.heap.size w w' := by
    go_enter Tryz.func172, Tryz.ntmps172
    go_wp2_with (go_at_call 179; refine (hcall _).mono ?_)
    rintro e W1 ⟨rfl, hb1⟩
    clear n43 n45 hemp
    go_wp2
    go_ret2
    exact ⟨rfl, hb1⟩
  go_enter Tryz.func151, Tryz.ntmps151
  go_wp2_with (go_at_call 172; refine hI.mono ?_)
  rintro e W1 ⟨rfl, hb1⟩
  clear hI
  go_wp2
  go_ret2
  exact ⟨rfl, hb1⟩

end Go.Proofs.YtmplfiflikhpjaaGreatDoor
/-
  ent's number: the rune that digits of base 10 or 16 spell, at every text.
-/
namespace Go.Proofs.YtmplfiflikhpjaaGreatDoor
open Go.RowKit

theorem dropWhile_nil {α : Type} (p : α → Bool) (l : List α) : l.dropWhile p = [] ↔ l.all p = true := by
  induction l with
  | nil => simp
  | cons a t ih =>
    rw [List.dropWhile_cons, List.all_cons]
    cases h : p a with
    | true => simpa using ih
    | false => simp
theorem trim_all (l cs : List UInt8) : Lib.trimRightS (Lib.trimLeftS l cs) cs = [] ↔ l.all (cs.contains ·) = true := by
  unfold Lib.trimRightS Lib.trimLeftS
  rw [List.reverse_eq_nil_iff, dropWhile_nil, List.all_reverse]
  constructor
  · intro h
    induction l with
    | nil => rfl
    | cons a t ih =>
      rw [List.dropWhile_cons] at h
      rw [List.all_cons]
      cases ha : cs.contains a with
      | true => rw [ha] at h; simpa using ih (by simpa using h)
      | false =>
        rw [ha, if_neg (by simp)] at h
        simp only [List.all_cons, ha, Bool.false_and, Bool.false_eq_true] at h
  · intro h
    rw [(dropWhile_nil _ l).2 h]
    rfl
theorem trimLeft_length (l cs : List UInt8) : (Lib.trimLeftS l cs).length ≤ l.length := by
  unfold Lib.trimLeftS
  exact (List.dropWhile_sublist _).length_le

def decB : ByteArray := ⟨#[48, 49, 50, 51, 52, 53, 54, 55, 56, 57]⟩
def hexB : ByteArray := ⟨#[48, 49, 50, 51, 52, 53, 54, 55, 56, 57, 97, 98, 99, 100, 101, 102, 65, 66, 67, 68, 69, 70]⟩
theorem decB_ascii : Ascii decB := by unfold Ascii decB; decide
theorem hexB_ascii : Ascii hexB := by unfold Ascii hexB; decide
theorem mem_decs (c : UInt8) (h : Spec.decs.contains c = true) : Dig10 c := by
  have : c ∈ Spec.decs := List.contains_iff_mem.1 h
  unfold Spec.decs at this
  simp only [List.mem_cons, List.not_mem_nil, or_false] at this
  unfold Dig10
  rcases this with rfl | rfl | rfl | rfl | rfl | rfl | rfl | rfl | rfl | rfl <;> decide
theorem mem_hexs (c : UInt8) (h : Spec.hexs.contains c = true) : Dig16 c := by
  have : c ∈ Spec.hexs := List.contains_iff_mem.1 h
  unfold Spec.hexs at this
  simp only [List.mem_cons, List.not_mem_nil, or_false] at this
  unfold Dig16
  rcases this with rfl | rfl | rfl | rfl | rfl | rfl | rfl | rfl | rfl | rfl | rfl | rfl | rfl | rfl | rfl | rfl | rfl | rfl | rfl | rfl | rfl | rfl <;> decide

/-- What the number of digits is, as the call hands it back. -/
def numRes (o : Option Nat) : Value := match o with
  | some r => .tuple #[.int .i32 (r : Int), .bool true]
  | none => .tuple #[.int .i32 0, .bool false]
theorem validRune_nat (v : Nat) : Lib.validRune (v : Int) = Spec.validR v := by
  unfold Lib.validRune Spec.validR
  rw [Bool.eq_iff_iff]
  simp only [decide_eq_true_eq, Bool.or_eq_true, Bool.and_eq_true]
  omega
theorem emptyB (s : ByteArray) : s.toList.isEmpty = s.data.toList.isEmpty := by
  rw [← decide_eq_emptyBytes]
  cases s with
  | mk d =>
    cases d with
    | mk l =>
      cases l with
      | nil => rfl
      | cons a t =>
        apply decide_eq_false
        intro h
        have := congrArg (fun x : ByteArray => x.data.toList) h
        cases this

set_option maxHeartbeats 4000000 in
set_option maxRecDepth 100000 in
theorem number10_any (s : ByteArray) (w : World) (hs : s.size ≤ 1000000) (hT : Tabs w) :
    Calls Tryz.prog 111 #[.string s, .string decB, .int .i64 10, .int .i64 7] w fun e w' => e = .returned (numRes (Spec.number s.data.toList Spec.decs 10 7)) ∧ Below w.heap.size w w' := by
  have hlen : s.data.toList.length = s.size := by rw [Lib.size_eq]
  by_cases h0 : s.data.toList = []
  · have hr : Spec.number s.data.toList Spec.decs 10 7 = none := by unfold Spec.number; rw [if_pos (.inl h0)]
    rw [hr]
    have he : s.toList.isEmpty = true := by rw [emptyB, h0]; rfl
    clear hr hlen h0
    go_enter Tryz.func111, Tryz.ntmps111
    go_wp2
    go_ret2
    exact ⟨rfl, Below.refl _ _⟩
  · have he : s.toList.isEmpty = false := by rw [emptyB]; cases h : s.data.toList with | nil => exact absurd h h0 | cons a t => rfl
    by_cases h7 : 7 < s.size
    · have hr : Spec.number s.data.toList Spec.decs 10 7 = none := by unfold Spec.number; rw [if_pos (.inr (.inl (by omega)))]
      rw [hr]
      clear hr hlen h0
      go_enter Tryz.func111, Tryz.ntmps111
      go_wp2
      go_ret2
      exact ⟨rfl, Below.refl _ _⟩
    · cases hall : s.data.toList.all (Spec.decs.contains ·) with
      | false =>
        have hr : Spec.number s.data.toList Spec.decs 10 7 = none := by unfold Spec.number; rw [if_pos (.inr (.inr hall))]
        rw [hr]
        obtain ⟨u, hu⟩ : ∃ u : ByteArray, u = ⟨(Lib.trimLeftS s.data.toList decB.data.toList).toArray⟩ := ⟨_, rfl⟩
        have hc1 := cutLeft_any s decB decB_ascii w hs
        rw [← hu] at hc1
        have hul : u.size ≤ 1000000 := by
          have := trimLeft_length s.data.toList decB.data.toList
          rw [hu, Lib.size_eq]
          simp only
          omega
        obtain ⟨v, hv⟩ : ∃ v : ByteArray, v = ⟨(Lib.trimRightS u.data.toList decB.data.toList).toArray⟩ := ⟨_, rfl⟩
        have hve : v.toList.isEmpty = false := by
          rw [emptyB, hv, hu]
          cases h : Lib.trimRightS (Lib.trimLeftS s.data.toList decB.data.toList) decB.data.toList with
          | nil => rw [trim_all] at h; rw [show decB.data.toList = Spec.decs from rfl] at h; rw [hall] at h; cases h
          | cons a t => rfl
        have hc2 : ∀ W, Tabs W → Calls Tryz.prog 149 #[.string u, .string decB] W fun e w' => e = .returned (.string v) ∧ Below W.heap.size W w' := fun W hW => by
          rw [hv]; exact cutRight_any u decB decB_ascii W hul hW
        clear hr hlen h0 hu hv hall
        go_enter Tryz.func111, Tryz.ntmps111
        go_wp2_with (go_at_call 150; refine hc1.mono ?_)
        rintro e w1 ⟨rfl, hb1⟩
        go_wp2_with (go_at_call 149; refine (hc2 _ (hT.below hb1)).mono ?_)
        rintro e w2 ⟨rfl, hb2⟩
        go_wp2
        go_ret2
        exact ⟨rfl, hb1.trans (hb2.mono hb1.size)⟩
      | true =>
        obtain ⟨V, hV⟩ : ∃ V, V = Spec.numV 10 s.data.toList := ⟨_, rfl⟩
        have hr : Spec.number s.data.toList Spec.decs 10 7 = some (Spec.runeOf V) := by
          unfold Spec.number
          rw [if_neg (fun h => h.elim h0 (fun h => h.elim (fun h => by omega) (fun h => by rw [hall] at h; cases h))), hV]
        rw [hr]
        have hdig : ∀ (j : Nat) b, s.data.toList[j]? = some b → Dig10 b := fun j b hj =>
          mem_decs b (List.all_eq_true.1 hall b (List.mem_of_getElem? hj))
        have hle : V ≤ 16777216 := by
          have h1 := numV_lt 10 s.data.toList (fun c hc => by
            obtain ⟨j, hj, rfl⟩ := List.getElem_of_mem hc
            exact (dig10_lt (hdig j _ (List.getElem?_eq_getElem hj))).2)
          have h2 : (10 : Nat) ^ s.data.toList.length ≤ 10 ^ 7 := Nat.pow_le_pow_right (by decide) (by omega)
          have h3 : (10 : Nat) ^ 7 ≤ 16777216 := by decide
          omega
        have hc1 := cutLeft_any s decB decB_ascii w hs
        rw [show Lib.trimLeftS s.data.toList decB.data.toList = [] from (dropWhile_nil _ _).2 hall] at hc1
        have hc2 : ∀ W, Tabs W → Calls Tryz.prog 149 #[.string (⟨#[]⟩ : ByteArray), .string decB] W fun e w' => e = .returned (.string (⟨#[]⟩ : ByteArray)) ∧ Below W.heap.size W w' := fun W hW =>
          cutRight_any ⟨#[]⟩ decB decB_ascii W (by decide) hW
        have hne0 : s.size ≠ 0 := fun e => h0 (List.length_eq_zero_iff.1 (by omega))
        have hc3 := fun W => parseI10 s W hne0 (by omega) hdig
        rw [← hV] at hc3
        have hvr := validRune_nat V
        obtain ⟨a, HAV⟩ : ∃ a : Int, Hid (a = (V : Int)) := ⟨_, Lib.hid rfl⟩
        have v0 : 0 ≤ a := by rw [HAV.out]; omega
        have v1 : a ≤ 16777216 := by rw [HAV.out]; omega
        rw [← HAV.out] at hc3 hvr
        have hc4 := fun W => Tryz.utf8_ValidRune a W
        rw [hvr] at hc4
        clear hr hlen h0 hall hdig hV hle hne0 hvr
        have hfin : numRes (some (Spec.runeOf V)) = if a ≠ 0 ∧ Spec.validR V = true then .tuple #[.int .i32 a, .bool true] else .tuple #[.int .i32 65533, .bool true] := by
          have h1 := HAV.out
          unfold numRes Spec.runeOf
          simp only
          by_cases hz : V = 0
          · rw [if_neg (by simp [hz]), if_neg (by intro h; exact h.1 (by omega))]; rfl
          · cases hvd : Spec.validR V with
            | true => rw [if_pos ⟨hz, rfl⟩, if_pos ⟨by omega, rfl⟩, h1]
            | false => rw [if_neg (by simp), if_neg (by simp)]; rfl
        rw [hfin]
        have HF := HAV
        clear hfin HAV
        by_cases hz : a = 0
        · subst hz
          rw [if_neg (by simp)]
          go_enter Tryz.func111, Tryz.ntmps111
          go_wp2_with (go_at_call 150; refine hc1.mono ?_)
          rintro e w1 ⟨rfl, hb1⟩
          go_wp2_with (go_at_call 149; refine (hc2 _ (hT.below hb1)).mono ?_)
          rintro e w2 ⟨rfl, hb2⟩
          go_wp2_with (go_at_call 151; refine (hc3 _).mono ?_)
          rintro e w3 ⟨rfl, hb3⟩
          go_wp2
          go_ret2
          exact ⟨rfl, (hb1.trans (hb2.mono hb1.size)).trans (hb3.mono (hb1.trans (hb2.mono hb1.size)).size)⟩
        · have hz' : (a == 0) = false := beq_eq_false_iff_ne.2 hz
          have hz2 : (a != 0) = true := bne_iff_ne.2 hz
          cases hvd : Spec.validR V with
          | true =>
            rw [if_pos ⟨hz, rfl⟩]
            rw [hvd] at hc4
            clear hz hvd
            go_enter Tryz.func111, Tryz.ntmps111
            go_wp2_with (go_at_call 150; refine hc1.mono ?_)
            rintro e w1 ⟨rfl, hb1⟩
            go_wp2_with (go_at_call 149; refine (hc2 _ (hT.below hb1)).mono ?_)
            rintro e w2 ⟨rfl, hb2⟩
            go_wp2_with (go_at_call 151; refine (hc3 _).mono ?_)
            rintro e w3 ⟨rfl, hb3⟩
            go_wp2_with (go_at_call 152; refine (hc4 _).mono ?_)
            rintro e w4 ⟨rfl, rfl⟩
            go_wp2
            go_ret2
            exact ⟨rfl, (hb1.trans (hb2.mono hb1.size)).trans (hb3.mono (hb1.trans (hb2.mono hb1.size)).size)⟩
          | false =>
            rw [if_neg (by simp)]
            rw [hvd] at hc4
            clear hz hvd
            go_enter Tryz.func111, Tryz.ntmps111
            go_wp2_with (go_at_call 150; refine hc1.mono ?_)
            rintro e w1 ⟨rfl, hb1⟩
            go_wp2_with (go_at_call 149; refine (hc2 _ (hT.below hb1)).mono ?_)
            rintro e w2 ⟨rfl, hb2⟩
            go_wp2_with (go_at_call 151; refine (hc3 _).mono ?_)
            rintro e w3 ⟨rfl, hb3⟩
            go_wp2_with (go_at_call 152; refine (hc4 _).mono ?_)
            rintro e w4 ⟨rfl, rfl⟩
            go_wp2
            go_ret2
            exact ⟨rfl, (hb1.trans (hb2.mono hb1.size)).trans (hb3.mono (hb1.trans (hb2.mono hb1.size)).size)⟩
set_option maxHeartbeats 4000000 in
set_option maxRecDepth 100000 in
theorem number16_any (s : ByteArray) (w : World) (hs : s.size ≤ 1000000) (hT : Tabs w) :
    Calls Tryz.prog 111 #[.string s, .string hexB, .int .i64 16, .int .i64 6] w fun e w' => e = .returned (numRes (Spec.number s.data.toList Spec.hexs 16 6)) ∧ Below w.heap.size w w' := by
  have hlen : s.data.toList.length = s.size := by rw [Lib.size_eq]
  by_cases h0 : s.data.toList = []
  · have hr : Spec.number s.data.toList Spec.hexs 16 6 = none := by unfold Spec.number; rw [if_pos (.inl h0)]
    rw [hr]
    have he : s.toList.isEmpty = true := by rw [emptyB, h0]; rfl
    clear hr hlen h0
    go_enter Tryz.func111, Tryz.ntmps111
    go_wp2
    go_ret2
    exact ⟨rfl, Below.refl _ _⟩
  · have he : s.toList.isEmpty = false := by rw [emptyB]; cases h : s.data.toList with | nil => exact absurd h h0 | cons a t => rfl
    by_cases h6 : 6 < s.size
    · have hr : Spec.number s.data.toList Spec.hexs 16 6 = none := by unfold Spec.number; rw [if_pos (.inr (.inl (by omega)))]
      rw [hr]
      clear hr hlen h0
      go_enter Tryz.func111, Tryz.ntmps111
      go_wp2
      go_ret2
      exact ⟨rfl, Below.refl _ _⟩
    · cases hall : s.data.toList.all (Spec.hexs.contains ·) with
      | false =>
        have hr : Spec.number s.data.toList Spec.hexs 16 6 = none := by unfold Spec.number; rw [if_pos (.inr (.inr hall))]
        rw [hr]
        obtain ⟨u, hu⟩ : ∃ u : ByteArray, u = ⟨(Lib.trimLeftS s.data.toList hexB.data.toList).toArray⟩ := ⟨_, rfl⟩
        have hc1 := cutLeft_any s hexB hexB_ascii w hs
        rw [← hu] at hc1
        have hul : u.size ≤ 1000000 := by
          have := trimLeft_length s.data.toList hexB.data.toList
          rw [hu, Lib.size_eq]
          simp only
          omega
        obtain ⟨v, hv⟩ : ∃ v : ByteArray, v = ⟨(Lib.trimRightS u.data.toList hexB.data.toList).toArray⟩ := ⟨_, rfl⟩
        have hve : v.toList.isEmpty = false := by
          rw [emptyB, hv, hu]
          cases h : Lib.trimRightS (Lib.trimLeftS s.data.toList hexB.data.toList) hexB.data.toList with
          | nil => rw [trim_all] at h; rw [show hexB.data.toList = Spec.hexs from rfl] at h; rw [hall] at h; cases h
          | cons a t => rfl
        have hc2 : ∀ W, Tabs W → Calls Tryz.prog 149 #[.string u, .string hexB] W fun e w' => e = .returned (.string v) ∧ Below W.heap.size W w' := fun W hW => by
          rw [hv]; exact cutRight_any u hexB hexB_ascii W hul hW
        clear hr hlen h0 hu hv hall
        go_enter Tryz.func111, Tryz.ntmps111
        go_wp2_with (go_at_call 150; refine hc1.mono ?_)
        rintro e w1 ⟨rfl, hb1⟩
        go_wp2_with (go_at_call 149; refine (hc2 _ (hT.below hb1)).mono ?_)
        rintro e w2 ⟨rfl, hb2⟩
        go_wp2
        go_ret2
        exact ⟨rfl, hb1.trans (hb2.mono hb1.size)⟩
      | true =>
        obtain ⟨V, hV⟩ : ∃ V, V = Spec.numV 16 s.data.toList := ⟨_, rfl⟩
        have hr : Spec.number s.data.toList Spec.hexs 16 6 = some (Spec.runeOf V) := by
          unfold Spec.number
          rw [if_neg (fun h => h.elim h0 (fun h => h.elim (fun h => by omega) (fun h => by rw [hall] at h; cases h))), hV]
        rw [hr]
        have hdig : ∀ (j : Nat) b, s.data.toList[j]? = some b → Dig16 b := fun j b hj =>
          mem_hexs b (List.all_eq_true.1 hall b (List.mem_of_getElem? hj))
        have hle : V ≤ 16777216 := by
          have h1 := numV_lt 16 s.data.toList (fun c hc => by
            obtain ⟨j, hj, rfl⟩ := List.getElem_of_mem hc
            exact dig16_lt (hdig j _ (List.getElem?_eq_getElem hj)))
          have h2 : (16 : Nat) ^ s.data.toList.length ≤ 16 ^ 6 := Nat.pow_le_pow_right (by decide) (by omega)
          have h3 : (16 : Nat) ^ 6 ≤ 16777216 := by decide
          omega
        have hc1 := cutLeft_any s hexB hexB_ascii w hs
        rw [show Lib.trimLeftS s.data.toList hexB.data.toList = [] from (dropWhile_nil _ _).2 hall] at hc1
        have hc2 : ∀ W, Tabs W → Calls Tryz.prog 149 #[.string (⟨#[]⟩ : ByteArray), .string hexB] W fun e w' => e = .returned (.string (⟨#[]⟩ : ByteArray)) ∧ Below W.heap.size W w' := fun W hW =>
          cutRight_any ⟨#[]⟩ hexB hexB_ascii W (by decide) hW
        have hne0 : s.size ≠ 0 := fun e => h0 (List.length_eq_zero_iff.1 (by omega))
        have hc3 := fun W => parseI16 s W hne0 (by omega) hdig
        rw [← hV] at hc3
        have hvr := validRune_nat V
        obtain ⟨a, HAV⟩ : ∃ a : Int, Hid (a = (V : Int)) := ⟨_, Lib.hid rfl⟩
        have v0 : 0 ≤ a := by rw [HAV.out]; omega
        have v1 : a ≤ 16777216 := by rw [HAV.out]; omega
        rw [← HAV.out] at hc3 hvr
        have hc4 := fun W => Tryz.utf8_ValidRune a W
        rw [hvr] at hc4
        clear hr hlen h0 hall hdig hV hle hne0 hvr
        have hfin : numRes (some (Spec.runeOf V)) = if a ≠ 0 ∧ Spec.validR V = true then .tuple #[.int .i32 a, .bool true] else .tuple #[.int .i32 65533, .bool true] := by
          have h1 := HAV.out
          unfold numRes Spec.runeOf
          simp only
          by_cases hz : V = 0
          · rw [if_neg (by simp [hz]), if_neg (by intro h; exact h.1 (by omega))]; rfl
          · cases hvd : Spec.validR V with
            | true => rw [if_pos ⟨hz, rfl⟩, if_pos ⟨by omega, rfl⟩, h1]
            | false => rw [if_neg (by simp), if_neg (by simp)]; rfl
        rw [hfin]
        have HF := HAV
        clear hfin HAV
        by_cases hz : a = 0
        · subst hz
          rw [if_neg (by simp)]
          go_enter Tryz.func111, Tryz.ntmps111
          go_wp2_with (go_at_call 150; refine hc1.mono ?_)
          rintro e w1 ⟨rfl, hb1⟩
          go_wp2_with (go_at_call 149; refine (hc2 _ (hT.below hb1)).mono ?_)
          rintro e w2 ⟨rfl, hb2⟩
          go_wp2_with (go_at_call 151; refine (hc3 _).mono ?_)
          rintro e w3 ⟨rfl, hb3⟩
          go_wp2
          go_ret2
          exact ⟨rfl, (hb1.trans (hb2.mono hb1.size)).trans (hb3.mono (hb1.trans (hb2.mono hb1.size)).size)⟩
        · have hz' : (a == 0) = false := beq_eq_false_iff_ne.2 hz
          have hz2 : (a != 0) = true := bne_iff_ne.2 hz
          cases hvd : Spec.validR V with
          | true =>
            rw [if_pos ⟨hz, rfl⟩]
            rw [hvd] at hc4
            clear hz hvd
            go_enter Tryz.func111, Tryz.ntmps111
            go_wp2_with (go_at_call 150; refine hc1.mono ?_)
            rintro e w1 ⟨rfl, hb1⟩
            go_wp2_with (go_at_call 149; refine (hc2 _ (hT.below hb1)).mono ?_)
            rintro e w2 ⟨rfl, hb2⟩
            go_wp2_with (go_at_call 151; refine (hc3 _).mono ?_)
            rintro e w3 ⟨rfl, hb3⟩
            go_wp2_with (go_at_call 152; refine (hc4 _).mono ?_)
            rintro e w4 ⟨rfl, rfl⟩
            go_wp2
            go_ret2
            exact ⟨rfl, (hb1.trans (hb2.mono hb1.size)).trans (hb3.mono (hb1.trans (hb2.mono hb1.size)).size)⟩
          | false =>
            rw [if_neg (by simp)]
            rw [hvd] at hc4
            clear hz hvd
            go_enter Tryz.func111, Tryz.ntmps111
            go_wp2_with (go_at_call 150; refine hc1.mono ?_)
            rintro e w1 ⟨rfl, hb1⟩
            go_wp2_with (go_at_call 149; refine (hc2 _ (hT.below hb1)).mono ?_)
            rintro e w2 ⟨rfl, hb2⟩
            go_wp2_with (go_at_call 151; refine (hc3 _).mono ?_)
            rintro e w3 ⟨rfl, hb3⟩
            go_wp2_with (go_at_call 152; refine (hc4 _).mono ?_)
            rintro e w4 ⟨rfl, rfl⟩
            go_wp2
            go_ret2
            exact ⟨rfl, (hb1.trans (hb2.mono hb1.size)).trans (hb3.mono (hb1.trans (hb2.mono hb1.size)).size)⟩
end Go.Proofs.YtmplfiflikhpjaaGreatDoor
/-
  ent.At: what a text begins with that is spelt, at every text.
-/
namespace Go.Proofs.YtmplfiflikhpjaaGreatDoor
open Go.RowKit

theorem bytes_eq {s : ByteArray} {l : List UInt8} (h : s.data.toList = l) : s = ⟨l.toArray⟩ := by
  apply ByteArray.ext
  apply Array.toList_inj.1
  rw [h]
theorem beq_list (s : ByteArray) (l : List UInt8) (h : s.data.toList ≠ l) : (s.toList == l) = false := by
  rw [ByteArray.toList_eq]
  exact beq_eq_false_iff_ne.2 h
theorem encode_eq (r : Int) : Utf8.encode r = ⟨(Lib.encodeRune r).toArray⟩ := by
  unfold Utf8.encode Lib.encodeRune
  by_cases h : r < 0 ∨ (55296 ≤ r ∧ r ≤ 57343) ∨ 1114111 < r
  · rw [Lib.encodeRuneZ_bad h]
    have hv : Utf8.valid r = false := by
      unfold Utf8.valid
      rw [Bool.eq_false_iff]
      simp only [ne_eq, Bool.or_eq_true, Bool.and_eq_true, decide_eq_true_eq]
      omega
    rw [hv]
    simp only [Bool.false_eq_true, if_false, Utf8.runeError]
    decide
  · have hv : Utf8.valid r = true := by
      unfold Utf8.valid
      simp only [Bool.or_eq_true, Bool.and_eq_true, decide_eq_true_eq]
      omega
    rw [hv]
    simp only [if_true]
    obtain ⟨n, rfl⟩ : ∃ n : Nat, r = n := ⟨r.toNat, by omega⟩
    rw [Int.toNat_natCast]
    have hb : ∀ (z : Int) (m : Nat), z = m → z.toNat.toUInt8 = UInt8.ofNat m := fun z m e => by subst e; rfl
    by_cases h1 : n < 128
    · rw [if_pos h1, Lib.encodeRuneZ_one (by omega) (by omega)]
      simp only [List.map_cons, List.map_nil, hb n n rfl]
    · rw [if_neg h1]
      by_cases h2 : n < 2048
      · rw [if_pos h2, Lib.encodeRuneZ_two (by omega) (by omega)]
        simp only [List.map_cons, List.map_nil]
        rw [hb _ (192 + n / 64) (by omega), hb _ (128 + n % 64) (by omega)]
      · rw [if_neg h2]
        by_cases h3 : n < 65536
        · rw [if_pos h3, Lib.encodeRuneZ_three (by omega)]
          simp only [List.map_cons, List.map_nil]
          rw [hb _ (224 + n / 4096) (by omega), hb _ (128 + n / 64 % 64) (by omega), hb _ (128 + n % 64) (by omega)]
        · rw [if_neg h3, Lib.encodeRuneZ_four (by omega) (by omega)]
          simp only [List.map_cons, List.map_nil]
          rw [hb _ (240 + n / 262144) (by omega), hb _ (128 + n / 4096 % 64) (by omega), hb _ (128 + n / 64 % 64) (by omega), hb _ (128 + n % 64) (by omega)]

set_option maxHeartbeats 4000000 in
set_option maxRecDepth 100000 in
theorem named_any (s : ByteArray) (w : World) :
    Calls Tryz.prog 109 #[.string s] w fun e w' => e = .returned (.string ⟨(Spec.named s.data.toList).toArray⟩) ∧ w' = w := by
  by_cases h1 : s.data.toList = [97, 109, 112]
  · obtain rfl := bytes_eq h1
    clear h1
    go_enter Tryz.func109, Tryz.ntmps109
    go_wp2
    go_ret
    exact ⟨rfl, rfl⟩
  have e1 := beq_list s _ h1
  by_cases h2 : s.data.toList = [108, 116]
  · obtain rfl := bytes_eq h2
    clear h1 e1 h2
    go_enter Tryz.func109, Tryz.ntmps109
    go_wp2
    go_ret
    exact ⟨rfl, rfl⟩
  have e2 := beq_list s _ h2
  by_cases h3 : s.data.toList = [103, 116]
  · obtain rfl := bytes_eq h3
    clear h1 e1 h2 e2 h3
    go_enter Tryz.func109, Tryz.ntmps109
    go_wp2
    go_ret
    exact ⟨rfl, rfl⟩
  have e3 := beq_list s _ h3
  by_cases h4 : s.data.toList = [113, 117, 111, 116]
  · obtain rfl := bytes_eq h4
    clear h1 e1 h2 e2 h3 e3 h4
    go_enter Tryz.func109, Tryz.ntmps109
    go_wp2
    go_ret
    exact ⟨rfl, rfl⟩
  have e4 := beq_list s _ h4
  by_cases h5 : s.data.toList = [97, 112, 111, 115]
  · obtain rfl := bytes_eq h5
    clear h1 e1 h2 e2 h3 e3 h4 e4 h5
    go_enter Tryz.func109, Tryz.ntmps109
    go_wp2
    go_ret
    exact ⟨rfl, rfl⟩
  have e5 := beq_list s _ h5
  by_cases h6 : s.data.toList = [110, 98, 115, 112]
  · obtain rfl := bytes_eq h6
    clear h1 e1 h2 e2 h3 e3 h4 e4 h5 e5 h6
    go_enter Tryz.func109, Tryz.ntmps109
    go_wp2
    go_ret
    exact ⟨rfl, rfl⟩
  have e6 := beq_list s _ h6
  by_cases h7 : s.data.toList = [99, 111, 112, 121]
  · obtain rfl := bytes_eq h7
    clear h1 e1 h2 e2 h3 e3 h4 e4 h5 e5 h6 e6 h7
    go_enter Tryz.func109, Tryz.ntmps109
    go_wp2
    go_ret
    exact ⟨rfl, rfl⟩
  have e7 := beq_list s _ h7
  by_cases h8 : s.data.toList = [104, 101, 108, 108, 105, 112]
  · obtain rfl := bytes_eq h8
    clear h1 e1 h2 e2 h3 e3 h4 e4 h5 e5 h6 e6 h7 e7 h8
    go_enter Tryz.func109, Tryz.ntmps109
    go_wp2
    go_ret
    exact ⟨rfl, rfl⟩
  have e8 := beq_list s _ h8
  by_cases h9 : s.data.toList = [109, 100, 97, 115, 104]
  · obtain rfl := bytes_eq h9
    clear h1 e1 h2 e2 h3 e3 h4 e4 h5 e5 h6 e6 h7 e7 h8 e8 h9
    go_enter Tryz.func109, Tryz.ntmps109
    go_wp2
    go_ret
    exact ⟨rfl, rfl⟩
  have e9 := beq_list s _ h9
  have hn : Spec.named s.data.toList = [] := by
    unfold Spec.named
    rw [if_neg h1, if_neg h2, if_neg h3, if_neg h4, if_neg h5, if_neg h6, if_neg h7, if_neg h8, if_neg h9]
  rw [hn]
  clear hn h1 h2 h3 h4 h5 h6 h7 h8 h9
  go_enter Tryz.func109, Tryz.ntmps109
  go_wp2
  go_ret
  exact ⟨rfl, rfl⟩

def entRes (p : Spec.B × Nat) : Value := .tuple #[.string ⟨p.1.toArray⟩, .int .i64 (p.2 : Int)]
theorem idx_cons (c : UInt8) (t : List UInt8) (h : c ≠ 59) : Lib.indexByte (c :: t) 59 = if Lib.indexByte t 59 = -1 then -1 else Lib.indexByte t 59 + 1 := by
  rw [Lib.indexByte, beq_eq_false_iff_ne.2 h]
  by_cases e : Lib.indexByte t 59 = -1
  · rw [if_neg (by simp), if_pos (beq_iff_eq.2 e), if_pos e]
  · rw [if_neg (by simp), if_neg (fun h => e (beq_iff_eq.1 h)), if_neg e]
theorem idx_lt (t : List UInt8) : Lib.indexByte t 59 < t.length := by
  induction t with
  | nil => decide
  | cons a t ih =>
    rw [Lib.indexByte]
    simp only [List.length_cons]
    split
    · omega
    · split
      · omega
      · omega
theorem ent_no (c : UInt8) (t : List UInt8) (h : c ≠ 38 ∨ Lib.indexByte (c :: t) 59 < 0) : Spec.ent (c :: t) = ([], 0) := by
  unfold Spec.ent
  simp only
  rw [if_neg]
  rintro ⟨rfl, h2⟩
  rcases h with h | h
  · exact h rfl
  · rw [idx_cons _ _ (by decide)] at h
    split at h
    · omega
    · omega
theorem ent_yes (t : List UInt8) (h : 0 ≤ Lib.indexByte t 59) : Spec.ent (38 :: t) =
    match Spec.inner (t.take (Lib.indexByte t 59).toNat) with
    | some r => (r, (Lib.indexByte t 59).toNat + 2)
    | none => ([], 0) := by
  unfold Spec.ent
  simp only
  rw [if_pos ⟨trivial, h⟩]
  rfl

set_option maxHeartbeats 4000000 in
set_option maxRecDepth 100000 in
theorem at_no (s : ByteArray) (w : World) (_hs : s.size ≤ 1000000) (h : s.data.toList = [] ∨ ∃ c t, s.data.toList = c :: t ∧ (c ≠ 38 ∨ Lib.indexByte (c :: t) 59 < 0)) :
    Calls Tryz.prog 54 #[.string s] w fun e w' => e = .returned (entRes ([], 0)) ∧ Below w.heap.size w w' := by
  have hI := Tryz.strings_IndexByte s 59 w
  obtain ⟨i, hi⟩ : ∃ i, i = Lib.indexByte s.data.toList (59 : Int).toNat.toUInt8 := ⟨_, rfl⟩
  rw [← hi] at hI
  have hge := Lib.indexByte_ge s.data.toList (59 : Int).toNat.toUInt8
  rw [← hi] at hge
  by_cases hneg : i < 0
  · clear hi h
    go_enter Tryz.func54, Tryz.ntmps54
    go_wp2_with (go_at_call 87; refine hI.mono ?_; rintro e w1 ⟨rfl, rfl⟩)
    go_wp2
    go_ret2
    exact ⟨rfl, Below.refl _ _⟩
  · have h2 : ∃ h0 : 0 < s.size, (s[0]'h0).toNat ≠ 38 := by
      rcases h with h | ⟨c, t, h, hc⟩
      · rw [h] at hi; exact absurd (by rw [hi]; decide) hneg
      · have h0 : 0 < s.size := by rw [Lib.size_eq, h]; simp
        have hat := at_list s 0 h0
        rw [h] at hat
        simp only [List.getElem?_cons_zero, Option.some.injEq] at hat
        refine ⟨h0, fun e => ?_⟩
        rcases hc with hc | hc
        · exact hc (by rw [hat]; exact UInt8.toNat_inj.1 e)
        · rw [h] at hi; exact hneg (by rw [hi]; exact hc)
    obtain ⟨h0, h38⟩ := h2
    have hb : ((((s[0]'h0).toNat : Nat) : Int) != 38) = true := bne_iff_ne.2 (by omega)
    clear hi h h38
    go_enter Tryz.func54, Tryz.ntmps54
    go_wp2_with (go_at_call 87; refine hI.mono ?_; rintro e w1 ⟨rfl, rfl⟩)
    go_wp2
    go_ret2
    exact ⟨rfl, Below.refl _ _⟩

/-- What stands behind the number's digits is known: the call's last part. -/
theorem ref_nil : Spec.ref [] = none := rfl
theorem num_nil : Spec.number [] Spec.decs 10 7 = none := rfl
theorem num_x (c : UInt8) (t : List UInt8) (h : c = 120 ∨ c = 88) : Spec.number (c :: t) Spec.decs 10 7 = none := by
  unfold Spec.number
  rw [if_pos]
  refine .inr (.inr ?_)
  rw [List.all_cons]
  rcases h with rfl | rfl <;> simp [Spec.decs]

theorem num_cases (dg : ByteArray) (w : World) (hs : dg.size ≤ 1000000) (hT : Tabs w) (o : Option Nat) (ho : o = Spec.number dg.data.toList Spec.decs 10 7) :
    Calls Tryz.prog 111 #[.string dg, .string decB, .int .i64 10, .int .i64 7] w fun e w' => e = .returned (numRes o) ∧ Below w.heap.size w w' := by
  rw [ho]; exact number10_any dg w hs hT
theorem num_cases16 (dg : ByteArray) (w : World) (hs : dg.size ≤ 1000000) (hT : Tabs w) (o : Option Nat) (ho : o = Spec.number dg.data.toList Spec.hexs 16 6) :
    Calls Tryz.prog 111 #[.string dg, .string hexB, .int .i64 16, .int .i64 6] w fun e w' => e = .returned (numRes o) ∧ Below w.heap.size w w' := by
  rw [ho]; exact number16_any dg w hs hT

/-- ent.At behind a name that is none of the nine. -/
structure Unnamed (s nm : ByteArray) (k : Nat) (hb0 : 0 < s.size) : Prop where
  h38 : ((((s[0]'hb0).toNat : Nat) : Int) != 38) = false
  hI : ∀ w, Calls Tryz.prog 87 #[.string s, .int .u8 59] w fun e w' => e = .returned (.int .i64 ((k : Int) + 1)) ∧ w' = w
  hsl : ∀ W, (Instr.slice 9 (.string s) (some (.int .i64 1)) (some (.int .i64 ((k : Int) + 1))) none).run Tryz.prog W = .ok (.string nm) W
  hN : ∀ W, Calls Tryz.prog 109 #[.string nm] W fun e w' => e = .returned (.string (⟨#[]⟩ : ByteArray)) ∧ w' = W
  hk : (k : Int) + 1 ≤ (s.size : Int)

set_option maxHeartbeats 8000000 in
set_option maxRecDepth 100000 in
theorem at_nosign (s nm : ByteArray) (w : World) (k : Nat) (_hs : s.size ≤ 1000000) (hb0 : 0 < s.size) (U : Unnamed s nm k hb0)
    (x : ByteArray) (hC : ∀ W, Calls Tryz.prog 110 #[.string nm, .string (⟨#[35]⟩ : ByteArray)] W fun e w' => e = .returned (.tuple #[.string x, .bool false]) ∧ w' = W) :
    Calls Tryz.prog 54 #[.string s] w fun e w' => e = .returned (entRes ([], 0)) ∧ Below w.heap.size w w' := by
  obtain ⟨h38, hI, hsl, hN, hkb⟩ := U
  go_enter Tryz.func54, Tryz.ntmps54
  go_wp2_with (first | (go_at_call 87; refine (hI _).mono ?_; rintro e w1 ⟨rfl, rfl⟩) | (go_at_call 109; refine (hN _).mono ?_; rintro e w1 ⟨rfl, rfl⟩) | (go_at_call 110; refine (hC _).mono ?_; rintro e w1 ⟨rfl, rfl⟩))
  go_ret2
  exact ⟨rfl, Below.refl _ _⟩

set_option maxHeartbeats 8000000 in
set_option maxRecDepth 100000 in
theorem at_empty (s nm : ByteArray) (w : World) (k : Nat) (_hs : s.size ≤ 1000000) (hT : Tabs w) (hb0 : 0 < s.size) (U : Unnamed s nm k hb0)
    (hC : ∀ W, Calls Tryz.prog 110 #[.string nm, .string (⟨#[35]⟩ : ByteArray)] W fun e w' => e = .returned (.tuple #[.string (⟨#[]⟩ : ByteArray), .bool true]) ∧ w' = W) :
    Calls Tryz.prog 54 #[.string s] w fun e w' => e = .returned (entRes ([], 0)) ∧ Below w.heap.size w w' := by
  obtain ⟨h38, hI, hsl, hN, hkb⟩ := U
  have hM : ∀ W, Tabs W → Calls Tryz.prog 111 #[.string (⟨#[]⟩ : ByteArray), .string decB, .int .i64 10, .int .i64 7] W fun e w' => e = .returned (.tuple #[.int .i32 0, .bool false]) ∧ Below W.heap.size W w' := fun W hW => number10_any ⟨#[]⟩ W (by decide) hW
  go_enter Tryz.func54, Tryz.ntmps54
  go_wp2_with (first | (go_at_call 87; refine (hI _).mono ?_; rintro e w1 ⟨rfl, rfl⟩) | (go_at_call 109; refine (hN _).mono ?_; rintro e w1 ⟨rfl, rfl⟩) | (go_at_call 110; refine (hC _).mono ?_; rintro e w1 ⟨rfl, rfl⟩) | (go_at_call 111; refine (hM _ hT).mono ?_; rintro e w2 ⟨rfl, hb⟩))
  go_ret2
  exact ⟨rfl, hb⟩

set_option maxHeartbeats 8000000 in
set_option maxRecDepth 100000 in
/-- The number is decimal. -/
theorem at_dec (s nm dg : ByteArray) (w : World) (k : Nat) (hs : s.size ≤ 1000000) (hT : Tabs w) (hb0 : 0 < s.size) (U : Unnamed s nm k hb0) (hd : dg.size ≤ 1000000) (hd0 : 0 < dg.size)
    (n120 : ((((dg[0]'hd0).toNat : Nat) : Int) == 120) = false) (n88 : ((((dg[0]'hd0).toNat : Nat) : Int) == 88) = false)
    (hC : ∀ W, Calls Tryz.prog 110 #[.string nm, .string (⟨#[35]⟩ : ByteArray)] W fun e w' => e = .returned (.tuple #[.string dg, .bool true]) ∧ w' = W) :
    Calls Tryz.prog 54 #[.string s] w fun e w' => e = .returned (entRes (match Spec.number dg.data.toList Spec.decs 10 7 with | some r => (Lib.encodeRune r, k + 2) | none => ([], 0))) ∧ Below w.heap.size w w' := by
  obtain ⟨h38, hI, hsl, hN, hkb⟩ := U
  have hde : dg.toList.isEmpty = false := by
    rw [← decide_eq_emptyBytes]
    exact decide_eq_false (fun h => by rw [h] at hd0; exact absurd hd0 (by decide))
  cases ho : Spec.number dg.data.toList Spec.decs 10 7 with
  | none =>
    have hM : ∀ W, Tabs W → Calls Tryz.prog 111 #[.string dg, .string decB, .int .i64 10, .int .i64 7] W fun e w' => e = .returned (.tuple #[.int .i32 0, .bool false]) ∧ Below W.heap.size W w' := fun W hW => num_cases dg W hd hW none ho.symm
    clear ho
    go_enter Tryz.func54, Tryz.ntmps54
    go_wp2_with (first | (go_at_call 87; refine (hI _).mono ?_; rintro e w1 ⟨rfl, rfl⟩) | (go_at_call 109; refine (hN _).mono ?_; rintro e w1 ⟨rfl, rfl⟩) | (go_at_call 110; refine (hC _).mono ?_; rintro e w1 ⟨rfl, rfl⟩) | (go_at_call 111; refine (hM _ hT).mono ?_; rintro e w2 ⟨rfl, hb⟩))
    go_ret2
    exact ⟨rfl, hb⟩
  | some r =>
    have hM : ∀ W, Tabs W → Calls Tryz.prog 111 #[.string dg, .string decB, .int .i64 10, .int .i64 7] W fun e w' => e = .returned (.tuple #[.int .i32 (r : Int), .bool true]) ∧ Below W.heap.size W w' := fun W hW => num_cases dg W hd hW (some r) ho.symm
    clear ho
    have hres : entRes (Lib.encodeRune (r : Int), k + 2) = .tuple #[.string (Utf8.encode (r : Int)), .int .i64 ((k : Int) + 2)] := by
      unfold entRes
      rw [encode_eq]
      rfl
    simp only
    rw [hres]
    clear hres
    go_enter Tryz.func54, Tryz.ntmps54
    go_wp2_with (first | (go_at_call 87; refine (hI _).mono ?_; rintro e w1 ⟨rfl, rfl⟩) | (go_at_call 109; refine (hN _).mono ?_; rintro e w1 ⟨rfl, rfl⟩) | (go_at_call 110; refine (hC _).mono ?_; rintro e w1 ⟨rfl, rfl⟩) | (go_at_call 111; refine (hM _ hT).mono ?_; rintro e w2 ⟨rfl, hb⟩))
    go_ret2
    exact ⟨rfl, hb⟩

set_option maxHeartbeats 8000000 in
set_option maxRecDepth 100000 in
/-- The number is hexadecimal. -/
theorem at_hex (s nm dg d2 : ByteArray) (w : World) (k : Nat) (hs : s.size ≤ 1000000) (hT : Tabs w) (hb0 : 0 < s.size) (U : Unnamed s nm k hb0) (hd : dg.size ≤ 1000000) (hd2 : d2.size ≤ 1000000) (hd0 : 0 < dg.size)
    (hx : ((((dg[0]'hd0).toNat : Nat) : Int) == 120) = true ∨ (((((dg[0]'hd0).toNat : Nat) : Int) == 120) = false ∧ ((((dg[0]'hd0).toNat : Nat) : Int) == 88) = true))
    (hn : Spec.number dg.data.toList Spec.decs 10 7 = none) (hsl2 : ∀ W, (Instr.slice 9 (.string dg) (some (.int .i64 1)) none none).run Tryz.prog W = .ok (.string d2) W)
    (hC : ∀ W, Calls Tryz.prog 110 #[.string nm, .string (⟨#[35]⟩ : ByteArray)] W fun e w' => e = .returned (.tuple #[.string dg, .bool true]) ∧ w' = W) :
    Calls Tryz.prog 54 #[.string s] w fun e w' => e = .returned (entRes (match Spec.number d2.data.toList Spec.hexs 16 6 with | some r => (Lib.encodeRune r, k + 2) | none => ([], 0))) ∧ Below w.heap.size w w' := by
  obtain ⟨h38, hI, hsl, hN, hkb⟩ := U
  have hde : dg.toList.isEmpty = false := by
    rw [← decide_eq_emptyBytes]
    exact decide_eq_false (fun h => by rw [h] at hd0; exact absurd hd0 (by decide))
  have hM : ∀ W, Tabs W → Calls Tryz.prog 111 #[.string dg, .string (⟨#[48, 49, 50, 51, 52, 53, 54, 55, 56, 57]⟩ : ByteArray), .int .i64 10, .int .i64 7] W fun e w' => e = .returned (.tuple #[.int .i32 0, .bool false]) ∧ Below W.heap.size W w' := fun W hW => num_cases dg W hd hW none hn.symm
  clear hn
  cases ho : Spec.number d2.data.toList Spec.hexs 16 6 with
  | none =>
    have hH : ∀ W, Tabs W → Calls Tryz.prog 111 #[.string d2, .string (⟨#[48, 49, 50, 51, 52, 53, 54, 55, 56, 57, 97, 98, 99, 100, 101, 102, 65, 66, 67, 68, 69, 70]⟩ : ByteArray), .int .i64 16, .int .i64 6] W fun e w' => e = .returned (.tuple #[.int .i32 0, .bool false]) ∧ Below W.heap.size W w' := fun W hW => num_cases16 d2 W hd2 hW none ho.symm
    clear ho
    rcases hx with hx | ⟨hx, hx2⟩
    all_goals
      go_enter Tryz.func54, Tryz.ntmps54
      go_wp2_with (first | (go_at_call 87; refine (hI _).mono ?_; rintro e w1 ⟨rfl, rfl⟩) | (go_at_call 109; refine (hN _).mono ?_; rintro e w1 ⟨rfl, rfl⟩) | (go_at_call 110; refine (hC _).mono ?_; rintro e w1 ⟨rfl, rfl⟩) | (go_at_call 111; ((with_reducible refine (hM _ hT).mono ?_); rintro e w2 ⟨rfl, hb⟩)) | (go_at_call 111; ((with_reducible refine (hH _ (hT.below hb)).mono ?_); rintro e w3 ⟨rfl, hb3⟩)))
      go_ret2
      exact ⟨rfl, hb.trans (hb3.mono hb.size)⟩
  | some r =>
    have hH : ∀ W, Tabs W → Calls Tryz.prog 111 #[.string d2, .string (⟨#[48, 49, 50, 51, 52, 53, 54, 55, 56, 57, 97, 98, 99, 100, 101, 102, 65, 66, 67, 68, 69, 70]⟩ : ByteArray), .int .i64 16, .int .i64 6] W fun e w' => e = .returned (.tuple #[.int .i32 (r : Int), .bool true]) ∧ Below W.heap.size W w' := fun W hW => num_cases16 d2 W hd2 hW (some r) ho.symm
    clear ho
    have hres : entRes (Lib.encodeRune (r : Int), k + 2) = .tuple #[.string (Utf8.encode (r : Int)), .int .i64 ((k : Int) + 2)] := by
      unfold entRes
      rw [encode_eq]
      rfl
    simp only
    rw [hres]
    clear hres
    rcases hx with hx | ⟨hx, hx2⟩
    all_goals
      go_enter Tryz.func54, Tryz.ntmps54
      go_wp2_with (first | (go_at_call 87; refine (hI _).mono ?_; rintro e w1 ⟨rfl, rfl⟩) | (go_at_call 109; refine (hN _).mono ?_; rintro e w1 ⟨rfl, rfl⟩) | (go_at_call 110; refine (hC _).mono ?_; rintro e w1 ⟨rfl, rfl⟩) | (go_at_call 111; ((with_reducible refine (hM _ hT).mono ?_); rintro e w2 ⟨rfl, hb⟩)) | (go_at_call 111; ((with_reducible refine (hH _ (hT.below hb)).mono ?_); rintro e w3 ⟨rfl, hb3⟩)))
      go_ret2
      exact ⟨rfl, hb.trans (hb3.mono hb.size)⟩

set_option maxHeartbeats 8000000 in
set_option maxRecDepth 100000 in
theorem at_amp (s : ByteArray) (w : World) (hs : s.size ≤ 1000000) (hT : Tabs w) (t : List UInt8) (hL : s.data.toList = 38 :: t) (h0 : 0 ≤ Lib.indexByte t 59) :
    Calls Tryz.prog 54 #[.string s] w fun e w' => e = .returned (entRes (Spec.ent s.data.toList)) ∧ Below w.heap.size w w' := by
  obtain ⟨k, hk⟩ : ∃ k : Nat, k = (Lib.indexByte t 59).toNat := ⟨_, rfl⟩
  have hkI : Lib.indexByte t 59 = k := by omega
  have hlt := idx_lt t
  have hsz : s.size = t.length + 1 := by rw [Lib.size_eq, hL]; rfl
  rw [hL, ent_yes t h0, ← hk]
  have hI : Calls Tryz.prog 87 #[.string s, .int .u8 59] w fun e w' => e = .returned (.int .i64 ((k : Int) + 1)) ∧ w' = w := by
    have hI := Tryz.strings_IndexByte s 59 w
    rw [show ((59 : Int).toNat.toUInt8) = (59 : UInt8) from rfl, hL, idx_cons _ _ (by decide), if_neg (by omega), hkI] at hI
    exact hI
  have hb0 : 0 < s.size := by omega
  have h38 : ((((s[0]'hb0).toNat : Nat) : Int) != 38) = false := by
    have hat := at_list s 0 hb0
    rw [hL] at hat
    simp only [List.getElem?_cons_zero, Option.some.injEq] at hat
    rw [← hat]
    decide
  obtain ⟨nm, hnm⟩ : ∃ nm, nm = s.extract 1 (k + 1) := ⟨_, rfl⟩
  have hnl : nm.data.toList = t.take k := by rw [hnm, Lib.extract_data, hL]; simp
  have hns : nm.size ≤ 1000000 := by rw [Lib.size_eq, hnl, List.length_take]; omega
  have hkb : (k : Int) + 1 ≤ (s.size : Int) := by omega
  have hsl : ∀ W, (Instr.slice 9 (.string s) (some (.int .i64 1)) (some (.int .i64 ((k : Int) + 1))) none).run Tryz.prog W = .ok (.string nm) W := fun W => by
    rw [run_slice_string W _ s .i64 .i64 1 _ Tryz.underlying9 (by omega) (by omega) hkb, hnm]
    rfl
  rw [← hnl]
  have hN := fun W => named_any nm W
  by_cases hnn : Spec.named nm.data.toList = []
  · have hN' : ∀ W, Calls Tryz.prog 109 #[.string nm] W fun e w' => e = .returned (.string (⟨#[]⟩ : ByteArray)) ∧ w' = W := fun W => by
      have := hN W
      rw [hnn] at this
      exact this
    have hIW : ∀ W, Calls Tryz.prog 87 #[.string s, .int .u8 59] W fun e w' => e = .returned (.int .i64 ((k : Int) + 1)) ∧ w' = W := fun W => by
      have hI := Tryz.strings_IndexByte s 59 W
      rw [show ((59 : Int).toNat.toUInt8) = (59 : UInt8) from rfl, hL, idx_cons _ _ (by decide), if_neg (by omega), hkI] at hI
      exact hI
    have U : Unnamed s nm k hb0 := ⟨h38, hIW, hsl, hN', hkb⟩
    have hCP := fun W => Tryz.strings_CutPrefix nm ⟨#[35]⟩ W
    cases hm : nm.data.toList with
    | nil =>
      have hin : Spec.inner [] = none := rfl
      rw [hin]
      rw [hm] at hCP
      exact at_nosign s nm w k hs hb0 U ⟨#[]⟩ (fun W => hCP W)
    | cons a d =>
      rw [hm] at hCP hnn
      by_cases ha : a = 35
      · subst ha
        have hin : Spec.inner (35 :: d) = (Spec.ref d).map (fun (r : Nat) => Lib.encodeRune (r : Int)) := by unfold Spec.inner; rw [if_neg (by simp [hnn])]; rfl
        rw [hin]
        have hds : (⟨d.toArray⟩ : ByteArray).size ≤ 1000000 := by
          have := hns
          rw [Lib.size_eq, hm] at this
          rw [Lib.size_eq]
          simp only [List.length_cons] at this
          simp only
          omega
        cases d with
        | nil => exact at_empty s nm w k hs hT hb0 U (fun W => hCP W)
        | cons c d2 =>
          have hd0 : 0 < (⟨(c :: d2).toArray⟩ : ByteArray).size := by rw [Lib.size_eq]; simp
          have hget : ((⟨(c :: d2).toArray⟩ : ByteArray)[0]'hd0) = c := rfl
          have hC : ∀ W, Calls Tryz.prog 110 #[.string nm, .string (⟨#[35]⟩ : ByteArray)] W fun e w' => e = .returned (.tuple #[.string ⟨(c :: d2).toArray⟩, .bool true]) ∧ w' = W := fun W => hCP W
          have hsz2 : (⟨d2.toArray⟩ : ByteArray).size ≤ 1000000 := by
            rw [Lib.size_eq] at hds ⊢
            simp only [List.length_cons] at hds
            simp only
            omega
          by_cases hx : c = 120 ∨ c = 88
          · have hr : Spec.ref (c :: d2) = Spec.number d2 Spec.hexs 16 6 := by unfold Spec.ref; simp only; rw [if_pos hx]
            rw [hr]
            have hsl2 : ∀ W, (Instr.slice 9 (.string ⟨(c :: d2).toArray⟩) (some (.int .i64 1)) none none).run Tryz.prog W = .ok (.string ⟨d2.toArray⟩) W := fun W => by
              rw [run_slice_string_from_if W _ _ .i64 1 Tryz.underlying9, if_pos ⟨by omega, by omega⟩]
              rw [show ((1 : Int).toNat) = 1 from rfl, drop_text _ 1 (by omega)]
              rfl
            have h := at_hex s nm ⟨(c :: d2).toArray⟩ ⟨d2.toArray⟩ w k hs hT hb0 U hds hsz2 hd0 (by rcases hx with rfl | rfl <;> rw [hget] <;> decide) (num_x c d2 hx) hsl2 hC
            refine h.mono fun e w' ⟨he, hb⟩ => ⟨?_, hb⟩
            rw [he]
            cases Spec.number d2 Spec.hexs 16 6 <;> rfl
          · have hr : Spec.ref (c :: d2) = Spec.number (c :: d2) Spec.decs 10 7 := by unfold Spec.ref; simp only; rw [if_neg hx]
            rw [hr]
            have hne : c.toNat ≠ 120 ∧ c.toNat ≠ 88 := ⟨fun e => hx (.inl (UInt8.toNat_inj.1 e)), fun e => hx (.inr (UInt8.toNat_inj.1 e))⟩
            have h := at_dec s nm ⟨(c :: d2).toArray⟩ w k hs hT hb0 U hds hd0 (beq_eq_false_iff_ne.2 (by rw [hget]; omega)) (beq_eq_false_iff_ne.2 (by rw [hget]; omega)) hC
            refine h.mono fun e w' ⟨he, hb⟩ => ⟨?_, hb⟩
            rw [he]
            cases Spec.number (c :: d2) Spec.decs 10 7 <;> rfl
      · have hin : Spec.inner (a :: d) = none := by unfold Spec.inner; rw [if_neg (by simp [hnn])]; simp only; rw [if_neg ha]
        rw [hin]
        have hp : Lib.hasPrefix (a :: d) (⟨#[35]⟩ : ByteArray).data.toList = false := by
          unfold Lib.hasPrefix
          show ([35] : List UInt8).isPrefixOf (a :: d) = false
          simp only [List.isPrefixOf, Bool.and_true]
          exact beq_eq_false_iff_ne.2 (fun e => ha e.symm)
        rw [hp] at hCP
        exact at_nosign s nm w k hs hb0 U _ hCP
  · have hin : Spec.inner nm.data.toList = some (Spec.named nm.data.toList) := by unfold Spec.inner; rw [if_pos hnn]
    rw [hin]
    obtain ⟨u, hu⟩ : ∃ u : ByteArray, u = ⟨(Spec.named nm.data.toList).toArray⟩ := ⟨_, rfl⟩
    have hue : u.toList.isEmpty = false := by
      rw [emptyB, hu]
      cases h : Spec.named nm.data.toList with
      | nil => exact absurd h hnn
      | cons a l => rfl
    have hres : entRes (Spec.named nm.data.toList, k + 2) = .tuple #[.string u, .int .i64 ((k : Int) + 2)] := by
      unfold entRes
      rw [hu]
      rfl
    simp only
    rw [hres]
    rw [← hu] at hN
    clear hres hu hin hnn hkI h0 hk hL hnl hsz hlt
    clear hnm
    go_enter Tryz.func54, Tryz.ntmps54
    go_wp2_with (go_at_call 87; refine hI.mono ?_; rintro e w1 ⟨rfl, rfl⟩)
    go_wp2_with (go_at_call 109; refine (hN _).mono ?_; rintro e w1 ⟨rfl, rfl⟩)
    go_ret2
    exact ⟨rfl, Below.refl _ _⟩

/-- **ent.At, at every text.** -/
theorem at_any (s : ByteArray) (w : World) (hs : s.size ≤ 1000000) (hT : Tabs w) :
    Calls Tryz.prog 54 #[.string s] w fun e w' => e = .returned (entRes (Spec.ent s.data.toList)) ∧ Below w.heap.size w w' := by
  cases hL : s.data.toList with
  | nil => exact at_no s w hs (.inl hL)
  | cons c t =>
    by_cases h : c ≠ 38 ∨ Lib.indexByte (c :: t) 59 < 0
    · rw [ent_no c t h]
      exact at_no s w hs (.inr ⟨c, t, hL, h⟩)
    · have hc : c = 38 := Decidable.byContradiction fun e => h (.inl e)
      subst hc
      have h0 : 0 ≤ Lib.indexByte t 59 := by
        have h2 : ¬ Lib.indexByte (38 :: t) 59 < 0 := fun e => h (.inr e)
        rw [idx_cons _ _ (by decide)] at h2
        split at h2
        · omega
        · have := Lib.indexByte_ge t 59
          omega
      have := at_amp s w hs hT t hL h0
      rw [hL] at this
      exact this
end Go.Proofs.YtmplfiflikhpjaaGreatDoor
/-
  strings.Builder's writers in this translation: a byte and a text written to a builder that the call itself made.
-/
namespace Go.Proofs.YtmplfiflikhpjaaGreatDoor
open Go.RowKit

theorem sizeBld : (Tryz.prog.info? 100).map (·.size) = some 2 := by kernel_rfl
theorem infoByte : (Tryz.prog.info? 5).map (fun i => (i.zero, i.size, i.bytes)) = some (some (.int .u8 0), 1, 1) := by kernel_rfl

set_option maxRecDepth 100000 in
theorem check_used (b : Nat) (w : World) (h0 : w.cell? ⟨b, 0, none⟩ = some (.pointer (some ⟨b, 0, none⟩))) :
    Calls Tryz.prog 137 #[.pointer (some ⟨b, 0, none⟩)] w fun e w' => e = .returned (.tuple #[]) ∧ w' = w := by
  obtain ⟨j, hj, _⟩ := Option.map_eq_some_iff.1 sizeBld
  go_enter Tryz.func137, Tryz.ntmps137
  go_wp2
  rw [Lib.run_neq_ptr_same w _ Tryz.underlying98 hj]
  go_wp2
  go_end0
  exact ⟨rfl, rfl⟩

set_option maxRecDepth 100000 in
theorem check_fresh (b : Nat) (w : World) (h0 : w.cell? ⟨b, 0, none⟩ = some (.pointer none)) (hsh : w.shape? b = some (100, 2)) (hfz : w.frozen? ⟨b, 0, none⟩ = false) :
    Calls Tryz.prog 137 #[.pointer (some ⟨b, 0, none⟩)] w fun e w' => e = .returned (.tuple #[]) ∧ w' = w.setCell ⟨b, 0, none⟩ (.pointer (some ⟨b, 0, none⟩)) := by
  obtain ⟨j, hj, hjs⟩ := Option.map_eq_some_iff.1 sizeBld
  go_enter Tryz.func137, Tryz.ntmps137
  go_wp2
  rw [Lib.run_to_unsafe w ⟨b, 0, none⟩ Tryz.underlying98 Tryz.underlying157 hj (by rw [hjs]; decide) hsh (Nat.zero_lt_succ 1)]
  simp only [Result.andThen]
  rw [Oper.upon_value]
  go_wp2
  rw [run_callFunc_extern Tryz.func163 (by kernel_rfl) (by kernel_rfl) (by kernel_rfl) (e := Extern.AbiNoEscape.same) (by kernel_rfl)]
  rw [Lib.run_noEscape]
  simp only [Result.andThen]
  rw [Oper.upon_value]
  go_wp2
  rw [Lib.run_from_unsafe w ⟨b, 0, none⟩ Tryz.underlying157 Tryz.underlying98 hj hsh (by kernel_rfl)]
  simp only [Result.andThen]
  rw [Oper.upon_value]
  go_wp2
  go_end0
  exact ⟨rfl, rfl⟩

/-- What every writing method calls first. -/
theorem check_any (B b : Nat) (bs : List Value) (w : World) (h : Lib.IsBuilderF 100 5 B b bs w) :
    Calls Tryz.prog 137 #[.pointer (some ⟨b, 0, none⟩)] w fun e w' => e = .returned (.tuple #[]) ∧ (Lib.BuilderAtF 100 5 B b (.pointer (some ⟨b, 0, none⟩)) bs w' ∧ Below B w w' ∧ Lib.OthersKept 5 (some b) w w') := by
  rcases h with h | h
  · exact (check_fresh b w h.cell0 h.shape h.frozen0).mono fun e w' ⟨he, hw⟩ => by
      subst he; subst hw
      exact ⟨rfl, h.used _, (Below.refl B w).setCell (p := ⟨b, 0, none⟩) h.1 _, (Lib.OthersKept.refl _ _ w).setCell ⟨b, 0, none⟩ rfl _⟩
  · exact (check_used b w h.cell0).mono fun e w' ⟨he, hw⟩ => by
      subst he; subst hw
      exact ⟨rfl, h, Below.refl B _, Lib.OthersKept.refl _ _ _⟩

/-- Two cells of the builder, read off its block. -/
theorem bld_cells {b : Nat} {p v : Value} {T : TypeId} {w : World} (h : w.heap[b]? = some (.cells #[p, v] T (0, 0))) :
    w.cell? ⟨b, 0, none⟩ = some p ∧ w.cell? ⟨b, 1, none⟩ = some v ∧ w.frozen? ⟨b, 1, none⟩ = false ∧ b < w.heap.size :=
  ⟨by rw [Lib.cell_of_heap h]; rfl, by rw [Lib.cell_of_heap h]; rfl, Lib.frozen_of_heap h 1, (Array.getElem?_eq_some_iff.1 h).1⟩

set_option maxHeartbeats 2000000 in
set_option maxRecDepth 100000 in
theorem writeByte_any (B b : Nat) (bs : List Value) (c : Int) (w : World) (h : Lib.IsBuilderF 100 5 B b bs w) (hlen : bs.length + 1 ≤ 140737488355328) (hBw : B ≤ w.heap.size) :
    Calls Tryz.prog 89 #[.pointer (some ⟨b, 0, none⟩), .int .u8 c] w fun e w' => e = .returned .nilIface ∧ (Lib.IsBuilderF 100 5 B b (bs ++ [.int .u8 c]) w' ∧ Below B w w' ∧ Lib.OthersKept 5 (some b) w w') := by
  obtain ⟨i0, hi, hz0, hz1, hz2⟩ := info_parts infoByte
  go_enter Tryz.func89, Tryz.ntmps89
  go_wp2_with fail
  refine (check_any B b bs _ h).mono ?_
  rintro e w1 ⟨rfl, h1, hb1, hk1⟩
  obtain ⟨hB, v, hbk, hown, hne⟩ := h1
  obtain ⟨c0, c1, _, hlt⟩ := bld_cells hbk
  go_wp2_with (at_builtin; refine wpList_append_ownF _ rfl _ _ 38 rfl B 5 i0 (.int .u8 0) 1 1 Tryz.underlying38 hi hz0 hz1 hz2 rfl (by decide) _ _ _ rfl (hown.alloc _) ⟨w1.heap.size, 0, none⟩ 1 1 [.int .u8 c] rfl rfl ?c1 ?c2 ?c3 ?c4 ?c5 ?_)
  case c1 =>
    intro j u hj
    match j, hj with
    | 0, hj => simp at hj; subst hj; simp [Addr.add]
  case c2 => intro u hu; simp at hu; subst hu; rfl
  case c3 => unfold maxLen; omega
  case c4 => omega
  case c5 => have := hb1.size; simp; omega
  intro v' w2 hown' hgrow _
  have hb2 : w2.heap[b]? = some (.cells #[.pointer (some ⟨b, 0, none⟩), v] 100 (0, 0)) := by
    rw [hgrow.block b (by simp; omega) (fun e => hne e.symm), Lib.alloc_old w1 _ b hlt]
    exact hbk
  obtain ⟨d0, d1, f1, _⟩ := bld_cells hb2
  obtain ⟨g, cap, rfl⟩ : ∃ g cap, v' = .slice (some ⟨g, 0, none⟩) (bs.length + 1) cap := by
    rcases hown'.2 with ⟨_, h0⟩ | ⟨g, cap, cur, fz, hv, _⟩
    · omega
    · exact ⟨g, cap, hv⟩
  go_wp2
  go_ret
  refine ⟨rfl, .inr ?_, ?_, ((hk1.alloc _).grown hgrow (Lib.ownsRowF_kind (hown.alloc _))).setCell ⟨b, 1, none⟩ rfl _⟩
  · exact Lib.BuilderAtF.put (T := 100) (e := 5) hB hb2 (bs' := bs ++ [.int .u8 c]) (by simpa using hown') (by decide)
  · exact ((hb1.alloc (by have := hb1.size; omega) _).grown hgrow (by have := hb1.size; simp; omega) (fun k hk => (hown.lt k hk).1)).setCell (p := ⟨b, 1, none⟩) hB _

set_option maxHeartbeats 2000000 in
set_option maxRecDepth 100000 in
theorem writeString_any (B b : Nat) (bs : List Value) (s : ByteArray) (w : World) (h : Lib.IsBuilderF 100 5 B b bs w) (hlen : bs.length + s.size ≤ 140737488355328) (hBw : B ≤ w.heap.size) :
    Calls Tryz.prog 90 #[.pointer (some ⟨b, 0, none⟩), .string s] w fun e w' => e = .returned (.tuple #[.int .i64 s.size, .nilIface]) ∧ (Lib.IsBuilderF 100 5 B b (bs ++ Lib.strCells s) w' ∧ Below B w w' ∧ Lib.OthersKept 5 (some b) w w') := by
  obtain ⟨i0, hi, hz0, hz1, hz2⟩ := info_parts infoByte
  go_enter Tryz.func90, Tryz.ntmps90
  go_wp2_with fail
  refine (check_any B b bs _ h).mono ?_
  rintro e w1 ⟨rfl, h1, hb1, hk1⟩
  obtain ⟨hB, v, hbk, hown, hne⟩ := h1
  obtain ⟨c0, c1, _, hlt⟩ := bld_cells hbk
  go_wp2_with (at_builtin; refine Lib.wpList_append_own_stringF _ rfl _ _ 38 9 rfl B 5 i0 Tryz.underlying38 Tryz.underlying9 hi hz0 hz1 hz2 _ _ _ rfl hown s rfl ?c3 ?c4 ?c5 ?_)
  case c3 => unfold maxLen; omega
  case c4 => omega
  case c5 => have := hb1.size; omega
  intro v' w2 hown' hgrow _
  have hb2 : w2.heap[b]? = some (.cells #[.pointer (some ⟨b, 0, none⟩), v] 100 (0, 0)) := by
    rw [hgrow.block b hlt (fun e => hne e.symm)]
    exact hbk
  obtain ⟨d0, d1, f1, _⟩ := bld_cells hb2
  obtain ⟨ao, n', cap, rfl⟩ : ∃ ao n' cap, v' = .slice ao n' cap := by
    rcases hown'.2 with ⟨hv, _⟩ | ⟨g, cap, cur, fz, hv, _⟩
    · exact ⟨_, _, _, hv⟩
    · exact ⟨_, _, _, hv⟩
  go_wp2
  go_ret2
  refine ⟨rfl, .inr ?_, ?_, (hk1.grown hgrow (Lib.ownsRowF_kind hown)).setCell ⟨b, 1, none⟩ rfl _⟩
  · exact Lib.BuilderAtF.put (T := 100) (e := 5) hB hb2 (bs' := bs ++ Lib.strCells s) (by simpa [Lib.strCells_length] using hown') (by decide)
  · exact (hb1.grown hgrow (by have := hb1.size; omega) (fun k hk => (hown.lt k hk).1)).setCell (p := ⟨b, 1, none⟩) hB _
end Go.Proofs.YtmplfiflikhpjaaGreatDoor
/-
  class.Sign: whether a byte is a sign, at every byte.
-/
namespace Go.Proofs.YtmplfiflikhpjaaGreatDoor
open Go.RowKit

/-- Does a number lie within one of ranges, two numbers each? -/
def withinZ (r : Int) : List Int → Bool
  | a :: b :: t => (decide (a ≤ r) && decide (r ≤ b)) || withinZ r t
  | _ => false

set_option maxHeartbeats 4000000 in
set_option maxRecDepth 100000 in
theorem within_any (r : Int) (zs : List Int) (g n c : Nat) (w : World) (hn : zs.length = n) (hn1 : n ≤ 1000) (hc : ∀ j, j < n → w.cell? ⟨g, j, none⟩ = some (.int .i32 (zs.getD j 0))) :
    Calls Tryz.prog 138 #[.int .i32 r, .slice (some ⟨g, 0, none⟩) n c] w fun e w' => e = .returned (.bool (withinZ r zs)) ∧ w' = w := by
  go_enter Tryz.func138, Tryz.ntmps138
  go_wp2
  go_loop [5] (fun i => ∃ m : Nat, i = .int .i64 ((2 * m : Nat) : Int) ∧ 2 * m ≤ n + 1 ∧ Hid (withinZ r zs = withinZ r (zs.drop (2 * m)))) (fun i => n + 2 - (intOf i).toNat)
  case atStart => exact ⟨0, rfl, by omega, Lib.hid rfl⟩
  case round =>
    obtain ⟨m, rfl, hm, HW⟩ := hrel
    obtain ⟨k, hk⟩ : ∃ k, k = 2 * m := ⟨_, rfl⟩
    rw [← hk] at HW hm ⊢
    have HK := Lib.hid hk
    clear hk
    by_cases hlt : k + 1 < n
    · have c0 := hc k (by omega)
      have c1 := hc (k + 1) hlt
      have hd : zs.drop k = zs.getD k 0 :: zs.getD (k + 1) 0 :: zs.drop (k + 2) := by
        rw [List.drop_eq_getElem_cons (by omega), List.drop_eq_getElem_cons (by omega)]
        simp [List.getD, List.getElem?_eq_getElem (show k < zs.length by omega), List.getElem?_eq_getElem (show k + 1 < zs.length by omega)]
      obtain ⟨a, ha⟩ : ∃ a, a = zs.getD k 0 := ⟨_, rfl⟩
      obtain ⟨b, hb⟩ : ∃ b, b = zs.getD (k + 1) 0 := ⟨_, rfl⟩
      rw [← ha] at c0 hd
      rw [← hb] at c1 hd
      have HN : Hid (withinZ r zs = ((decide (a ≤ r) && decide (r ≤ b)) || withinZ r (zs.drop (k + 2)))) := Lib.hid (by rw [HW.out, hd]; rfl)
      clear hd ha hb hc HW hn
      have hki : (k : Int) + 1 < n := by omega
      by_cases h1 : a ≤ r
      · by_cases h2 : r ≤ b
        · have HF : Hid (withinZ r zs = true) := Lib.hid (by rw [HN.out, decide_eq_true h1, decide_eq_true h2]; rfl)
          go_wp2
          go_ret
          exact ⟨by rw [HF.out]; rfl, rfl⟩
        · have HF : Hid (withinZ r zs = withinZ r (zs.drop (k + 2))) := Lib.hid (by rw [HN.out, decide_eq_false h2]; simp)
          go_wp2
          go_round
          case rel => exact ⟨m + 1, by rw [HK.out]; go_num, by have := HK.out; omega, by rw [HK.out] at HF; exact HF⟩
          case measure => simp [intOf]; omega
      · have HF : Hid (withinZ r zs = withinZ r (zs.drop (k + 2))) := Lib.hid (by rw [HN.out, decide_eq_false h1]; simp)
        go_wp2
        go_round
        case rel => exact ⟨m + 1, by rw [HK.out]; go_num, by have := HK.out; omega, by rw [HK.out] at HF; exact HF⟩
        case measure => simp [intOf]; omega
    · have HF : Hid (withinZ r zs = false) := Lib.hid (by
        rw [HW.out]
        have hl : (zs.drop k).length ≤ 1 := by simp; omega
        match zs.drop k, hl with
        | [], _ => rfl
        | [_], _ => rfl)
      clear HW hn hc
      go_wp2
      go_ret
      exact ⟨by rw [HF.out]; rfl, rfl⟩

theorem sign_within (c : UInt8) : withinZ (c.toNat : Int) [33, 47, 58, 64, 91, 96, 123, 126] = Spec.sign c := by
  unfold Spec.sign
  simp only [withinZ, Bool.or_false]
  rw [Bool.eq_iff_iff]
  simp only [Bool.or_eq_true, Bool.and_eq_true, decide_eq_true_eq]
  omega
/-- A cell of a block that was just made. -/
theorem cell_fresh (w : World) (arr : Array Value) (t : TypeId) (j : Nat) (v : Value) (h : arr[j]? = some v) : (w.alloc (.cells arr t)).cell? ⟨w.heap.size, j, none⟩ = some v := by
  rw [Lib.cell_of_heap (heap_alloc_new w _)]
  exact h

set_option maxHeartbeats 4000000 in
set_option maxRecDepth 100000 in
theorem sign_any (c : UInt8) (w : World) :
    Calls Tryz.prog 92 #[.int .u8 (c.toNat : Int)] w fun e w' => e = .returned (.bool (Spec.sign c)) ∧ Below w.heap.size w w' := by
  rw [← sign_within]
  obtain ⟨x, hx⟩ : ∃ x : Int, x = (c.toNat : Int) := ⟨_, rfl⟩
  have x0 : 0 ≤ x := by omega
  have x1 : x ≤ 255 := by have := c.toNat_lt; omega
  rw [← hx]
  clear hx
  go_enter Tryz.func92, Tryz.ntmps92
  go_wp2_with fail
  refine (within_any x [33, 47, 58, 64, 91, 96, 123, 126] w.heap.size 8 8 _ rfl (by omega) (fun j hj => cell_fresh w _ _ j _ ?_)).mono ?_
  · match j, hj with
    | 0, _ | 1, _ | 2, _ | 3, _ | 4, _ | 5, _ | 6, _ | 7, _ => rfl
  rintro e w1 ⟨rfl, rfl⟩
  go_wp2
  go_ret
  exact ⟨rfl, (Below.refl _ w).alloc (Nat.le_refl _) _⟩
end Go.Proofs.YtmplfiflikhpjaaGreatDoor
/-
  ent.Unescape: a text without strokes, and with signs for those that are spelt, at every text.
-/
namespace Go.Proofs.YtmplfiflikhpjaaGreatDoor
open Go.RowKit

theorem encodeRune_le (r : Int) : (Lib.encodeRune r).length ≤ 4 := by
  unfold Lib.encodeRune; rw [List.length_map]; exact (Lib.encodeRuneZ_length r).2
theorem named_le (s : List UInt8) : (Spec.named s).length ≤ 4 := by
  unfold Spec.named; repeat' split
  all_goals simp
theorem inner_le (s r : List UInt8) (h : Spec.inner s = some r) : r.length ≤ 4 := by
  unfold Spec.inner at h
  split at h
  · cases h; exact named_le s
  · split at h
    · cases h
    · split at h
      · obtain ⟨x, _, rfl⟩ := Option.map_eq_some_iff.1 h
        exact encodeRune_le _
      · cases h
theorem ent_le (s : List UInt8) : (Spec.ent s).2 ≤ s.length ∧ (Spec.ent s).1.length ≤ 4 * (Spec.ent s).2 := by
  unfold Spec.ent
  split
  · simp
  · rename_i c t
    split
    · rename_i h
      have hl := idx_lt t
      split
      · rename_i r hr
        have := inner_le _ _ hr
        simp only [List.length_cons]
        omega
      · simp
    · simp
theorem step_le (c : UInt8) (t : List UInt8) : 1 ≤ (Spec.step (c :: t)).2 ∧ (Spec.step (c :: t)).2 ≤ (c :: t).length ∧ (Spec.step (c :: t)).1.length ≤ 4 * (Spec.step (c :: t)).2 := by
  have he := ent_le (c :: t)
  unfold Spec.step
  simp only
  by_cases h : c = 92 ∧ Spec.signed t = true
  · rw [if_pos h]
    cases t with
    | nil => have := h.2; cases this
    | cons d u => simp
  · rw [if_neg h]
    by_cases h2 : 0 < (Spec.ent (c :: t)).2
    · rw [if_pos h2]; omega
    · rw [if_neg h2]; simp
theorem unescF_more (f g : Nat) : ∀ (s : List UInt8), s.length ≤ f → s.length ≤ g → Spec.unescF f s = Spec.unescF g s := by
  induction f generalizing g with
  | zero =>
    intro s h _
    obtain rfl := List.length_eq_zero_iff.1 (Nat.le_zero.1 h)
    cases g <;> rfl
  | succ f ih =>
    intro s hf hg
    cases s with
    | nil => cases g <;> rfl
    | cons c t =>
      cases g with
      | zero => simp at hg
      | succ g =>
        have hs := step_le c t
        unfold Spec.unescF
        rw [if_neg (by simp), if_neg (by simp)]
        rw [ih g _ (by simp only [List.length_drop, List.length_cons] at hf hs ⊢; omega) (by simp only [List.length_drop, List.length_cons] at hg hs ⊢; omega)]
theorem unesc_cons (c : UInt8) (t : List UInt8) : Spec.unesc (c :: t) = (Spec.step (c :: t)).1 ++ Spec.unesc ((c :: t).drop (Spec.step (c :: t)).2) := by
  have hs := step_le c t
  show Spec.unescF (t.length + 1) (c :: t) = _
  unfold Spec.unescF
  rw [if_neg (by simp)]
  congr 1
  exact unescF_more _ _ _ (by simp only [List.length_drop, List.length_cons] at hs ⊢; omega) (Nat.le_refl _)
theorem unesc_nil : Spec.unesc [] = [] := rfl

/-- A builder stands behind a call that lets all that was there be. -/
theorem bld_below {T e : TypeId} {B b : Nat} {bs : List Value} {w w' : World} (h : Lib.IsBuilderF T e B b bs w) (hb : Below w.heap.size w w') : Lib.IsBuilderF T e B b bs w' := by
  have one : ∀ p, Lib.BuilderAtF T e B b p bs w → Lib.BuilderAtF T e B b p bs w' := fun p h => by
    obtain ⟨hB, v, hbk, hown, hne⟩ := h
    refine ⟨hB, v, ?_, hown.kept (row := none) ⟨hb.os, hb.tape, hb.output, hb.size, fun i hi _ => hb.block i hi⟩ ?_, hne⟩
    · rw [hb.block _ (Array.getElem?_eq_some_iff.1 hbk).1]; exact hbk
    · cases v.ownBlock <;> simp
  exact h.elim (fun x => .inl (one _ x)) (fun x => .inr (one _ x))
theorem byteCells_snoc (l : List UInt8) (c : UInt8) : Lib.byteCells l ++ [.int .u8 (c.toNat : Int)] = Lib.byteCells (l ++ [c]) := by rw [Lib.byteCells_append]; rfl
theorem strCells_bytes (s : ByteArray) : Lib.strCells s = Lib.byteCells s.data.toList := rfl

/-- What is carried from round to round. -/
def UnescAt (s : ByteArray) (_w _wr : World) (pos : Nat) (acc : List UInt8) : Prop :=
  acc ++ Spec.unesc (s.data.toList.drop pos) = Spec.unesc s.data.toList ∧ acc.length ≤ 4 * pos

set_option maxHeartbeats 8000000 in
set_option maxRecDepth 1000000 in
theorem unescape_any (s : ByteArray) (w : World) (hs : s.size ≤ 1000000) (hT : Tabs w) :
    Calls Tryz.prog 34 #[.string s] w fun e w' => e = .returned (.string ⟨(Spec.unesc s.data.toList).toArray⟩) ∧ Below w.heap.size w w' := by
  go_enter Tryz.func34, Tryz.ntmps34
  go_wp2
  go_loopw [4] (fun v4 wr => ∃ (pos : Nat) (acc : List UInt8), pos ≤ s.size ∧ v4 = .int .i64 pos ∧ Lib.IsBuilderF 100 5 w.heap.size w.heap.size (Lib.byteCells acc) wr ∧ Below w.heap.size w wr ∧ Hid (UnescAt s w wr pos acc)) (fun v4 _ => s.size - (intOf v4).toNat)
  case atStart =>
    exact ⟨0, [], Nat.zero_le _, rfl, Lib.IsBuilderF.of (Lib.fresh_isBuilder 100 5 w), (Below.refl _ w).alloc (Nat.le_refl _) _, Lib.hid ⟨rfl, Nat.zero_le _⟩⟩
  case round =>
    obtain ⟨pos, acc, hpl, rfl, hI, hbw, HU⟩ := hrel
    have hTw := hT.below hbw
    have hsz : w.heap.size ≤ wr.heap.size := hbw.size
    have hal : acc.length ≤ 4 * pos := HU.out.2
    by_cases hp : pos < s.size
    · have hpi : (pos : Int) < s.size := by omega
      have hdrop : s.data.toList.drop pos = (s[pos]'hp) :: s.data.toList.drop (pos + 1) := by
        rw [List.drop_eq_getElem_cons (by simpa using hp)]; rfl
      have hstep := step_le (s[pos]'hp) (s.data.toList.drop (pos + 1))
      have huc := unesc_cons (s[pos]'hp) (s.data.toList.drop (pos + 1))
      rw [← hdrop] at hstep huc
      rw [List.drop_drop] at huc
      have hlen : (s.data.toList.drop pos).length = s.size - pos := by rw [List.length_drop, ← Lib.size_eq]
      rw [hlen] at hstep
      obtain ⟨u, hu⟩ : ∃ u, u = (Spec.step (s.data.toList.drop pos)).1 := ⟨_, rfl⟩
      obtain ⟨n, hn⟩ : ∃ n, n = (Spec.step (s.data.toList.drop pos)).2 := ⟨_, rfl⟩
      rw [← hu, ← hn] at hstep huc
      -- what the round leaves
      have hnext : ∀ W, Lib.IsBuilderF 100 5 w.heap.size w.heap.size (Lib.byteCells (acc ++ u)) W → Below w.heap.size w W →
          (∃ (p2 : Nat) (acc2 : List UInt8), p2 ≤ s.size ∧ Value.int .i64 ((pos + n : Nat) : Int) = .int .i64 p2 ∧ Lib.IsBuilderF 100 5 w.heap.size w.heap.size (Lib.byteCells acc2) W ∧ Below w.heap.size w W ∧ Hid (UnescAt s w W p2 acc2)) := fun W h1 h2 =>
        ⟨pos + n, acc ++ u, by omega, rfl, h1, h2, Lib.hid ⟨by rw [List.append_assoc, ← huc]; exact HU.out.1, by rw [List.length_append]; omega⟩⟩
      have HX := Lib.hid hnext
      have hmes : 1 ≤ n := hstep.1
      clear hnext huc HU hstep
      obtain ⟨x, hx⟩ : ∃ x, x = s.extract pos s.size := ⟨_, rfl⟩
      have hxl : x.data.toList = s.data.toList.drop pos := by rw [hx, drop_text s pos (by omega)]
      have hxs : x.size ≤ 1000000 := by rw [Lib.size_eq, hxl, hlen]; omega
      by_cases hsg : s[pos]'hp = 92 ∧ Spec.signed (s.data.toList.drop (pos + 1)) = true
      · -- a stroke ahead of a sign
        have hp1 : pos + 1 < s.size := by
          apply Decidable.byContradiction
          intro h
          rw [List.drop_of_length_le (by rw [← Lib.size_eq]; omega)] at hsg
          exact absurd hsg.2 (by decide)
        have hd1 : s.data.toList.drop (pos + 1) = (s[pos + 1]'hp1) :: s.data.toList.drop (pos + 2) := by
          rw [List.drop_eq_getElem_cons (by simpa using hp1)]; rfl
        have hst : Spec.step (s.data.toList.drop pos) = ([s[pos + 1]'hp1], 2) := by
          rw [hdrop]
          unfold Spec.step
          simp only
          rw [if_pos hsg, hd1]
          rfl
        have hn2 : n = 2 := by rw [hn, hst]
        have hu2 : u = [s[pos + 1]'hp1] := by rw [hu, hst]
        subst hn2; subst hu2
        have h92 : (((s[pos]'hp).toNat : Int) == 92) = true := by rw [hsg.1]; decide
        have hS : ∀ W, Calls Tryz.prog 92 #[.int .u8 ((s[pos + 1]'hp1).toNat : Int)] W fun e w' => e = .returned (.bool true) ∧ Below W.heap.size W w' := fun W => by
          have := sign_any (s[pos + 1]'hp1) W
          rw [show Spec.sign (s[pos + 1]'hp1) = true by have := hsg.2; rw [hd1] at this; exact this] at this
          exact this
        have hpi1 : (pos : Int) + 1 < s.size := by omega
        clear hst hu hn hd1 hsg hxl hx hdrop hlen
        go_wp2_with (go_at_call 92; refine (hS _).mono ?_; rintro e w1 ⟨rfl, hb1⟩)
        refine (writeByte_any w.heap.size w.heap.size _ _ _ (bld_below hI hb1) (by rw [Lib.byteCells_length]; omega) (Nat.le_trans hsz hb1.size)).mono ?_
        rintro e w2 ⟨rfl, hI2, hb2, _⟩
        rw [byteCells_snoc] at hI2
        have hbb : Below w.heap.size w w2 := (hbw.trans (hb1.mono hsz)).trans hb2
        have HI2 := Lib.hid hI2
        clear hI2 hI hb1 hb2 hS
        go_wp2
        go_roundw
        case rel => exact HX.out w2 HI2.out hbb
        case measure => simp [intOf]; omega
      · -- no stroke ahead of a sign
        have HNS : Hid (∀ hp1 : pos + 1 < s.size, (s[pos]'hp).toNat = 92 → Spec.sign (s[pos + 1]'hp1) = false) := Lib.hid (fun hp1 h92 => by
          have hd1 : s.data.toList.drop (pos + 1) = (s[pos + 1]'hp1) :: s.data.toList.drop (pos + 2) := by
            rw [List.drop_eq_getElem_cons (by simpa using hp1)]; rfl
          cases h : Spec.sign (s[pos + 1]'hp1) with
          | false => rfl
          | true => exact absurd ⟨UInt8.toNat_inj.1 h92, by rw [hd1]; exact h⟩ hsg)
        have hst : Spec.step (s.data.toList.drop pos) = if 0 < (Spec.ent (s.data.toList.drop pos)).2 then Spec.ent (s.data.toList.drop pos) else ([s[pos]'hp], 1) := by
          rw [hdrop]
          unfold Spec.step
          simp only
          rw [if_neg hsg]
        have hA := fun W (hW : Tabs W) => at_any x W hxs hW
        rw [hxl] at hA
        have hA : ∀ W, Tabs W → Calls Tryz.prog 54 #[.string (s.extract pos s.size)] W fun e w' => e = .returned (entRes (Spec.ent (s.data.toList.drop pos))) ∧ Below W.heap.size W w' := fun W hW => by rw [← hx]; exact hA W hW
        clear hxl hxs hx hlen
        by_cases h0 : 0 < (Spec.ent (s.data.toList.drop pos)).2
        · rw [if_pos h0] at hst
          have hn2 : n = (Spec.ent (s.data.toList.drop pos)).2 := by rw [hn, hst]
          have hu2 : u = (Spec.ent (s.data.toList.drop pos)).1 := by rw [hu, hst]
          have hus : (⟨u.toArray⟩ : ByteArray).size ≤ 4000000 := by
            have h1 := ent_le (s.data.toList.drop pos)
            rw [List.length_drop, ← Lib.size_eq] at h1
            rw [Lib.size_eq, hu2]
            simp only
            omega
          have hus : (⟨u.toArray⟩ : ByteArray).size = u.length := by rw [Lib.size_eq]
          have hul : u.length ≤ 4000000 := by
            have h1 := ent_le (s.data.toList.drop pos)
            rw [List.length_drop, ← Lib.size_eq] at h1
            rw [hu2]
            omega
          have hns : n ≤ 1000000 := by
            have h1 := ent_le (s.data.toList.drop pos)
            rw [List.length_drop, ← Lib.size_eq] at h1
            omega
          have hA : ∀ W, Tabs W → Calls Tryz.prog 54 #[.string (s.extract pos s.size)] W fun e w' => e = .returned (.tuple #[.string ⟨u.toArray⟩, .int .i64 (n : Int)]) ∧ Below W.heap.size W w' := fun W hW => by rw [hn2, hu2]; exact hA W hW
          have HUS := Lib.hid hus
          clear hst hn hu hn2 hu2 h0 hsg hdrop hus
          by_cases h92 : (s[pos]'hp).toNat = 92
          · have h92b : (((s[pos]'hp).toNat : Int) == 92) = true := beq_iff_eq.2 (by omega)
            by_cases hp1 : pos + 1 < s.size
            · have hpi1 : (pos : Int) + 1 < s.size := by omega
              have hS : ∀ W, Calls Tryz.prog 92 #[.int .u8 ((s[pos + 1]'hp1).toNat : Int)] W fun e w' => e = .returned (.bool false) ∧ Below W.heap.size W w' := fun W => by
                have := sign_any (s[pos + 1]'hp1) W
                rw [HNS.out hp1 h92] at this
                exact this
              clear h92 HNS
              go_wp2_with (go_at_call 92; refine (hS _).mono ?_; rintro e w1 ⟨rfl, hb1⟩)
              have hTw1 := hTw.below hb1
              have hI1 := bld_below hI hb1
              have hbw1 := hbw.trans (hb1.mono hsz)
              have hsz1 : w.heap.size ≤ w1.heap.size := hbw1.size
              clear hS hTw hI hbw hb1
              refine (hA _ hTw1).mono ?_
              rintro e wa ⟨rfl, hba⟩
              have hIa := bld_below (hI1) hba
              have hbwa := hbw1.trans (hba.mono hsz1)
              have hsa : w.heap.size ≤ wa.heap.size := hbwa.size
              clear hA
              go_wp2_with (go_at_call 90; refine (writeString_any w.heap.size w.heap.size _ _ _ hIa (by rw [Lib.byteCells_length, HUS.out]; omega) hsa).mono ?_; rintro e w2 ⟨rfl, hI2, hb2, _⟩)
              rw [strCells_bytes, ← Lib.byteCells_append] at hI2
              have hbb : Below w.heap.size w w2 := hbwa.trans hb2
              have HI2 := Lib.hid hI2
              clear hI2 hIa hba hb2
              go_wp2
              go_roundw
              case rel => exact HX.out w2 HI2.out hbb
              case measure => simp [intOf]; omega
            · have hpi1 : ¬ (pos : Int) + 1 < s.size := by omega
              clear h92 HNS
              go_wp2_with (go_at_call 54; refine (hA _ hTw).mono ?_; rintro e wa ⟨rfl, hba⟩)
              have hIa := bld_below (hI) hba
              have hbwa := hbw.trans (hba.mono hsz)
              have hsa : w.heap.size ≤ wa.heap.size := hbwa.size
              clear hA
              go_wp2_with (go_at_call 90; refine (writeString_any w.heap.size w.heap.size _ _ _ hIa (by rw [Lib.byteCells_length, HUS.out]; omega) hsa).mono ?_; rintro e w2 ⟨rfl, hI2, hb2, _⟩)
              rw [strCells_bytes, ← Lib.byteCells_append] at hI2
              have hbb : Below w.heap.size w w2 := hbwa.trans hb2
              have HI2 := Lib.hid hI2
              clear hI2 hIa hba hb2
              go_wp2
              go_roundw
              case rel => exact HX.out w2 HI2.out hbb
              case measure => simp [intOf]; omega
          · have h92b : (((s[pos]'hp).toNat : Int) == 92) = false := beq_eq_false_iff_ne.2 (by omega)
            clear h92 HNS
            go_wp2_with (go_at_call 54; refine (hA _ hTw).mono ?_; rintro e wa ⟨rfl, hba⟩)
            have hIa := bld_below (hI) hba
            have hbwa := hbw.trans (hba.mono hsz)
            have hsa : w.heap.size ≤ wa.heap.size := hbwa.size
            clear hA
            go_wp2_with (go_at_call 90; refine (writeString_any w.heap.size w.heap.size _ _ _ hIa (by rw [Lib.byteCells_length, HUS.out]; omega) hsa).mono ?_; rintro e w2 ⟨rfl, hI2, hb2, _⟩)
            rw [strCells_bytes, ← Lib.byteCells_append] at hI2
            have hbb : Below w.heap.size w w2 := hbwa.trans hb2
            have HI2 := Lib.hid hI2
            clear hI2 hIa hba hb2
            go_wp2
            go_roundw
            case rel => exact HX.out w2 HI2.out hbb
            case measure => simp [intOf]; omega
        · rw [if_neg h0] at hst
          have hn2 : n = 1 := by rw [hn, hst]
          have hu2 : u = [s[pos]'hp] := by rw [hu, hst]
          subst hn2; subst hu2
          have hA : ∀ W, Tabs W → Calls Tryz.prog 54 #[.string (s.extract pos s.size)] W fun e w' => e = .returned (.tuple #[.string ⟨(Spec.ent (s.data.toList.drop pos)).1.toArray⟩, .int .i64 0]) ∧ Below W.heap.size W w' := fun W hW => by
            have h2 : (Spec.ent (s.data.toList.drop pos)).2 = 0 := by omega
            have := hA W hW
            unfold entRes at this
            rw [h2] at this
            exact this
          generalize (Spec.ent (s.data.toList.drop pos)).1 = junk at hA
          clear hst hn hu h0 hsg hdrop
          by_cases h92 : (s[pos]'hp).toNat = 92
          · have h92b : (((s[pos]'hp).toNat : Int) == 92) = true := beq_iff_eq.2 (by omega)
            by_cases hp1 : pos + 1 < s.size
            · have hpi1 : (pos : Int) + 1 < s.size := by omega
              have hS : ∀ W, Calls Tryz.prog 92 #[.int .u8 ((s[pos + 1]'hp1).toNat : Int)] W fun e w' => e = .returned (.bool false) ∧ Below W.heap.size W w' := fun W => by
                have := sign_any (s[pos + 1]'hp1) W
                rw [HNS.out hp1 h92] at this
                exact this
              clear h92 HNS
              go_wp2_with (go_at_call 92; refine (hS _).mono ?_; rintro e w1 ⟨rfl, hb1⟩)
              have hTw1 := hTw.below hb1
              have hI1 := bld_below hI hb1
              have hbw1 := hbw.trans (hb1.mono hsz)
              have hsz1 : w.heap.size ≤ w1.heap.size := hbw1.size
              clear hS hTw hI hbw hb1
              refine (hA _ hTw1).mono ?_
              rintro e wa ⟨rfl, hba⟩
              have hIa := bld_below (hI1) hba
              have hbwa := hbw1.trans (hba.mono hsz1)
              have hsa : w.heap.size ≤ wa.heap.size := hbwa.size
              clear hA
              go_wp2_with (go_at_call 89; refine (writeByte_any w.heap.size w.heap.size _ _ _ hIa (by rw [Lib.byteCells_length]; omega) hsa).mono ?_; rintro e w2 ⟨rfl, hI2, hb2, _⟩)
              rw [byteCells_snoc] at hI2
              have hbb : Below w.heap.size w w2 := hbwa.trans hb2
              have HI2 := Lib.hid hI2
              clear hI2 hIa hba hb2
              go_wp2
              go_roundw
              case rel => exact HX.out w2 HI2.out hbb
              case measure => simp [intOf]; omega
            · have hpi1 : ¬ (pos : Int) + 1 < s.size := by omega
              clear h92 HNS
              go_wp2_with (go_at_call 54; refine (hA _ hTw).mono ?_; rintro e wa ⟨rfl, hba⟩)
              have hIa := bld_below (hI) hba
              have hbwa := hbw.trans (hba.mono hsz)
              have hsa : w.heap.size ≤ wa.heap.size := hbwa.size
              clear hA
              go_wp2_with (go_at_call 89; refine (writeByte_any w.heap.size w.heap.size _ _ _ hIa (by rw [Lib.byteCells_length]; omega) hsa).mono ?_; rintro e w2 ⟨rfl, hI2, hb2, _⟩)
              rw [byteCells_snoc] at hI2
              have hbb : Below w.heap.size w w2 := hbwa.trans hb2
              have HI2 := Lib.hid hI2
              clear hI2 hIa hba hb2
              go_wp2
              go_roundw
              case rel => exact HX.out w2 HI2.out hbb
              case measure => simp [intOf]; omega
          · have h92b : (((s[pos]'hp).toNat : Int) == 92) = false := beq_eq_false_iff_ne.2 (by omega)
            clear h92 HNS
            go_wp2_with (go_at_call 54; refine (hA _ hTw).mono ?_; rintro e wa ⟨rfl, hba⟩)
            have hIa := bld_below (hI) hba
            have hbwa := hbw.trans (hba.mono hsz)
            have hsa : w.heap.size ≤ wa.heap.size := hbwa.size
            clear hA
            go_wp2_with (go_at_call 89; refine (writeByte_any w.heap.size w.heap.size _ _ _ hIa (by rw [Lib.byteCells_length]; omega) hsa).mono ?_; rintro e w2 ⟨rfl, hI2, hb2, _⟩)
            rw [byteCells_snoc] at hI2
            have hbb : Below w.heap.size w w2 := hbwa.trans hb2
            have HI2 := Lib.hid hI2
            clear hI2 hIa hba hb2
            go_wp2
            go_roundw
            case rel => exact HX.out w2 HI2.out hbb
            case measure => simp [intOf]; omega
    · -- the text is through
      have hpe : pos = s.size := by omega
      have hfin : acc = Spec.unesc s.data.toList := by
        have := HU.out.1
        rw [List.drop_of_length_le (by rw [← Lib.size_eq]; omega), unesc_nil, List.append_nil] at this
        exact this
      have HF := Lib.hid hfin
      have HP : Hid (pos = s.size) := Lib.hid hpe
      clear hpe hfin HU
      have hpi : ¬ (pos : Int) < s.size := by omega
      go_wp2_with (go_at_call 91; refine (Tryz.Builder_String_any_k w.heap.size w.heap.size acc _ hI (by omega)).mono ?_; rintro e w1 ⟨rfl, _, hb1, _⟩)
      go_ret
      exact ⟨ret_str (by rw [HF.out]), hbw.trans hb1⟩

end Go.Proofs.YtmplfiflikhpjaaGreatDoor
