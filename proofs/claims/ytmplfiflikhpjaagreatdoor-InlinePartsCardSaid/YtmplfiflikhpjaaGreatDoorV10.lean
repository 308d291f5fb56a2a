/-
  Texts of one proof, joined: InM.
-/
import Derived.Test.YtmplfiflikhpjaaGreatDoorV09
/-
  delim's matcher: two Marks are paired.
-/
namespace Go.Proofs.YtmplfiflikhpjaaGreatDoor
open Go.RowKit

theorem blk_ne {w : World} {g q : Nat} {t t' : TypeId} {cs cs' : Array Value} {f f' : Nat × Nat} (h : w.heap[g]? = some (.cells cs t f)) (h' : w.heap[q]? = some (.cells cs' t' f')) (hne : t ≠ t') : g ≠ q := by
  rintro rfl
  rw [h] at h'
  injection h' with h'
  injection h' with _ ht
  exact hne ht
theorem blk_lt {w : World} {g : Nat} {o : Obj} (h : w.heap[g]? = some o) : g < w.heap.size := (Array.getElem?_eq_some_iff.1 h).1
theorem intRow_set (l : List Nat) (i v : Nat) : (intRow l).setIfInBounds i (.int .i64 (v : Int)) = intRow (l.set i v) := by
  unfold intRow
  rw [← Array.toList_inj]
  simp [List.map_set]
theorem boolRow_set (l : List Bool) (i : Nat) (v : Bool) : (boolRow l).setIfInBounds i (.bool v) = boolRow (l.set i v) := by
  unfold boolRow
  rw [← Array.toList_inj]
  simp [List.map_set]
section
variable {w w' : World} {mb lb lf ou n cap : Nat} {marks : List Spec.Mark} {st : Spec.MState}
theorem MW.ne (h : MW w mb lb lf ou n cap marks st) (hl : ∃ cur, w.heap[lb]? = some (.cells cur 62 (0, 0))) : lf ≠ mb ∧ lf ≠ lb ∧ lf ≠ ou ∧ ou ≠ mb ∧ ou ≠ lb ∧ mb ≠ lb := by
  obtain ⟨cur, hl⟩ := hl
  exact ⟨blk_ne h.f h.m (by decide), blk_ne h.f hl (by decide), blk_ne h.f h.o (by decide), blk_ne h.o h.m (by decide), blk_ne h.o hl (by decide), blk_ne h.m hl (by decide)⟩
theorem MW.keep (h : MW w mb lb lf ou n cap marks st) (hb : ∀ k, k < w.heap.size → w'.heap[k]? = w.heap[k]?) (hl : lb < w.heap.size) : MW w' mb lb lf ou n cap marks st :=
  ⟨(hb _ (blk_lt h.m)).trans h.m, fun i x hx => by
    have hc : ∀ o, w'.cell? ⟨lb, o, none⟩ = w.cell? ⟨lb, o, none⟩ := fun o => World.cell?_of_block (hb lb hl)
    rw [hc, hc, hc, hc]
    exact h.l i x hx, (hb _ (blk_lt h.f)).trans h.f, (hb _ (blk_lt h.o)).trans h.o, h.nm, h.nf, h.no, h.hc, h.small⟩
theorem MW.drew (h : MW w mb lb lf ou n cap marks st) : MW w.drew mb lb lf ou n cap marks st := ⟨h.m, h.l, h.f, h.o, h.nm, h.nf, h.no, h.hc, h.small⟩
theorem MW.far (h : MW w mb lb lf ou n cap marks st) {p : Addr} (h1 : mb ≠ p.block) (h2 : lb ≠ p.block) (h3 : lf ≠ p.block) (h4 : ou ≠ p.block) (u : Value) : MW (w.setCell p u) mb lb lf ou n cap marks st :=
  ⟨(heap_setCell_other w _ _ _ h1).trans h.m, fun j x hx => by
    have hc : ∀ o, (w.setCell p u).cell? ⟨lb, o, none⟩ = w.cell? ⟨lb, o, none⟩ := fun o => World.cell?_of_block (heap_setCell_other w _ _ _ h2)
    rw [hc, hc, hc, hc]
    exact h.l j x hx, (heap_setCell_other w _ _ _ h3).trans h.f, (heap_setCell_other w _ _ _ h4).trans h.o, h.nm, h.nf, h.no, h.hc, h.small⟩
theorem MW.setLeft (h : MW w mb lb lf ou n cap marks st) (hne : lf ≠ mb ∧ lf ≠ lb ∧ lf ≠ ou) (i v : Nat) :
    MW (w.setCell ⟨lf, i, none⟩ (.int .i64 (v : Int))) mb lb lf ou n cap marks ⟨st.left.set i v, st.out⟩ :=
  ⟨(heap_setCell_other w _ _ _ (Ne.symm hne.1)).trans h.m, fun j x hx => by
    have hc : ∀ o, (w.setCell ⟨lf, i, none⟩ (.int .i64 (v : Int))).cell? ⟨lb, o, none⟩ = w.cell? ⟨lb, o, none⟩ := fun o => World.cell?_of_block (heap_setCell_other w _ _ _ (Ne.symm hne.2.1))
    rw [hc, hc, hc, hc]
    exact h.l j x hx, by rw [heap_setCell_same w lf i _ _ _ h.f, intRow_set], (heap_setCell_other w _ _ _ (Ne.symm hne.2.2)).trans h.o, h.nm, by rw [List.length_set]; exact h.nf, h.no, h.hc, h.small⟩
theorem MW.setOut (h : MW w mb lb lf ou n cap marks st) (hne : lf ≠ ou ∧ ou ≠ mb ∧ ou ≠ lb) (i : Nat) (v : Bool) :
    MW (w.setCell ⟨ou, i, none⟩ (.bool v)) mb lb lf ou n cap marks ⟨st.left, st.out.set i v⟩ :=
  ⟨(heap_setCell_other w _ _ _ (Ne.symm hne.2.1)).trans h.m, fun j x hx => by
    have hc : ∀ o, (w.setCell ⟨ou, i, none⟩ (.bool v)).cell? ⟨lb, o, none⟩ = w.cell? ⟨lb, o, none⟩ := fun o => World.cell?_of_block (heap_setCell_other w _ _ _ (Ne.symm hne.2.2))
    rw [hc, hc, hc, hc]
    exact h.l j x hx, (heap_setCell_other w _ _ _ hne.1).trans h.f, by rw [heap_setCell_same w ou i _ _ _ h.o, boolRow_set], h.nm, h.nf, by rw [List.length_set]; exact h.no, h.hc, h.small⟩
end
/-- Of two worlds: only two of the blocks that were there have turned. -/
structure Two (w w' : World) (a b : Nat) : Prop where
  os : w'.os = w.os
  tape : w'.tape = w.tape
  output : w'.output = w.output
  size : w.heap.size ≤ w'.heap.size
  block : ∀ k, k < w.heap.size → k ≠ a → k ≠ b → w'.heap[k]? = w.heap[k]?
section
variable {w w1 w2 : World} {a b : Nat}
theorem Two.refl (w : World) (a b : Nat) : Two w w a b := ⟨rfl, rfl, rfl, Nat.le_refl _, fun _ _ _ _ => rfl⟩
theorem Two.trans (h : Two w w1 a b) (k : Two w1 w2 a b) : Two w w2 a b :=
  ⟨k.os.trans h.os, k.tape.trans h.tape, k.output.trans h.output, Nat.le_trans h.size k.size, fun i hi ha hb => (k.block i (Nat.lt_of_lt_of_le hi h.size) ha hb).trans (h.block i hi ha hb)⟩
theorem Two.drew (h : Two w w1 a b) : Two w w1.drew a b := ⟨h.os, h.tape, h.output, h.size, h.block⟩
theorem Two.drewN (h : Two w w1 a b) (n : Nat) : Two w (w1.drewN n) a b := ⟨h.os, h.tape, h.output, h.size, h.block⟩
theorem Two.alloc (h : Two w w1 a b) (o : Obj) : Two w (w1.alloc o) a b :=
  ⟨h.os, h.tape, h.output, Nat.le_trans h.size (by simp), fun i hi ha hb => (Below.heap_alloc _ _ _ (Nat.lt_of_lt_of_le hi h.size)).trans (h.block i hi ha hb)⟩
theorem Two.set (h : Two w w1 a b) {p : Addr} (hp : p.block = a ∨ p.block = b ∨ w.heap.size ≤ p.block) (u : Value) : Two w (w1.setCell p u) a b :=
  ⟨h.os, h.tape, h.output, Nat.le_trans h.size (by simp [World.setCell]), fun i hi ha hb => (Below.heap_setCell _ _ _ _ (by rcases hp with hp | hp | hp <;> omega)).trans (h.block i hi ha hb)⟩
theorem Two.below (h : Two w w1 a b) {B : Nat} (ha : B ≤ a) (hb : B ≤ b) (hB : B ≤ w.heap.size) : Below B w w1 :=
  ⟨h.os, h.tape, h.output, h.size, fun k hk => h.block k (by omega) (by omega) (by omega)⟩
theorem Two.of_below (h : Below w.heap.size w w1) : Two w w1 a b := ⟨h.os, h.tape, h.output, h.size, fun k hk _ _ => h.block k hk⟩
end
/-- What stands between is out, as far as it has been gone through. -/
def outTo (l : List Bool) (i j : Nat) : List Bool := (List.range l.length).map fun x => if i < x ∧ x < j then true else l.getD x true
theorem outTo_start (l : List Bool) (i : Nat) : outTo l i (i + 1) = l := by
  unfold outTo
  apply List.ext_getElem?
  intro x
  rw [List.getElem?_map]
  by_cases hx : x < l.length
  · rw [List.getElem?_range hx]
    simp only [Option.map_some]
    rw [if_neg (by omega)]
    simp [List.getD, List.getElem?_eq_getElem hx]
  · rw [List.getElem?_eq_none (by simpa using hx), List.getElem?_eq_none (by omega)]; rfl
theorem outTo_step (l : List Bool) (i j : Nat) (h : i < j) : (outTo l i j).set j true = outTo l i (j + 1) := by
  unfold outTo
  apply List.ext_getElem?
  intro x
  rw [List.getElem?_set]
  by_cases e : j = x
  · subst e
    rw [if_pos rfl]
    by_cases hx : j < l.length
    · rw [if_pos (by simpa using hx), List.getElem?_map, List.getElem?_range hx]
      simp only [Option.map_some]
      rw [if_pos (by omega)]
    · rw [if_neg (by simpa using hx), List.getElem?_eq_none (by simpa using hx)]
  · rw [if_neg e, List.getElem?_map, List.getElem?_map]
    by_cases hx : x < l.length
    · rw [List.getElem?_range hx]
      simp only [Option.map_some]
      by_cases hy : i < x ∧ x < j
      · rw [if_pos hy, if_pos (by omega)]
      · rw [if_neg hy, if_neg (by omega)]
    · rw [List.getElem?_eq_none (by simpa using hx)]; rfl
theorem outTo_length (l : List Bool) (i j : Nat) : (outTo l i j).length = l.length := by simp [outTo]

/-- What the second loop has made of a state. -/
def stJ (st : Spec.MState) (i k a b : Nat) : Nat → Spec.MState
  | 0 => ⟨st.left, outTo st.out i k⟩
  | 1 => ⟨st.left.set i a, (outTo st.out i k).set i (a == 0)⟩
  | _ => ⟨(st.left.set i a).set k b, ((outTo st.out i k).set i (a == 0)).set k (b == 0)⟩
theorem pairUp_eq (st : Spec.MState) (i k a b t : Nat) (sg : Bool) (hsg : sg = (decide (2 ≤ st.left.getD i 0) && decide (2 ≤ st.left.getD k 0))) (ht : t = if sg = true then 2 else 1) (hik : i < k) (hk : k < st.left.length)
    (ha : a = st.left.getD i 0 - t) (hb : b = st.left.getD k 0 - t) : Spec.pairUp st i k = (⟨i, k, sg⟩, stJ st i k a b 2) := by
  unfold Spec.pairUp stJ
  simp only
  rw [← hsg, ← ht, ← ha, ← hb]
  have e1 : ((st.left.set i a).set k b).getD i 0 = a := by
    simp [List.getD, show ¬ k = i by omega, show i < st.left.length by omega]
  have e2 : ((st.left.set i a).set k b).getD k 0 = b := by
    simp [List.getD, hk]
  rw [e1, e2]
  rfl
/-- A Pair as a value. -/
def pairV (p : Spec.Pair) : Value := .agg #[.int .i64 (p.from_ : Int), .int .i64 (p.to : Int), .bool p.strong]
set_option maxHeartbeats 16000000 in
set_option maxRecDepth 100000 in
theorem pair2_any (w : World) (mb lb lf ou n cap i k : Nat) (marks : List Spec.Mark) (st : Spec.MState) (h : MW w mb lb lf ou n cap marks st) (hl : ∃ cur, w.heap[lb]? = some (.cells cur 62 (0, 0)))
    (hik : i < k) (hk : k < n) (h0 : 0 < st.left.getD i 0) (h1 : 0 < st.left.getD k 0) (hbig : ∀ j, st.left.getD j 0 ≤ 1000000) :
    Calls Tryz.prog 117 #[.pointer (some ⟨mb, 0, none⟩), .int .i64 (i : Int), .int .i64 (k : Int)] w fun e w' => e = .returned (pairV (Spec.pairUp st i k).1) ∧ MW w' mb lb lf ou n cap marks (Spec.pairUp st i k).2 ∧ Two w w' lf ou := by
  have hne := h.ne hl
  have zm := blk_lt h.m
  have zf := blk_lt h.f
  have zo := blk_lt h.o
  have zl : lb < w.heap.size := by obtain ⟨_, hl⟩ := hl; exact blk_lt hl
  have m1 : w.cell? ⟨mb, 1, none⟩ = some (.slice (some ⟨lf, 0, none⟩) n n) := cell_of_row _ _ _ _ _ _ h.m
  have fi := h.left i (by omega)
  have fk := h.left k hk
  have hn := h.small
  have hii : (i : Int) < n := by omega
  have hki : (k : Int) < n := by omega
  have b0 := hbig i
  have b1 := hbig k
  obtain ⟨li, hli⟩ : ∃ li, li = st.left.getD i 0 := ⟨_, rfl⟩
  obtain ⟨lk, hlk⟩ : ∃ lk, lk = st.left.getD k 0 := ⟨_, rfl⟩
  rw [← hli] at fi h0 b0
  rw [← hlk] at fk h1 b1
  obtain ⟨sg, hsg⟩ : ∃ sg, sg = (decide (2 ≤ li) && decide (2 ≤ lk)) := ⟨_, rfl⟩
  obtain ⟨t, ht⟩ : ∃ t : Nat, t = if sg = true then 2 else 1 := ⟨_, rfl⟩
  have HT := Lib.hid ht
  have HSG := Lib.hid hsg
  have HLI := Lib.hid hli
  have HLK := Lib.hid hlk
  clear hli hlk hsg ht
  have H := Lib.hid h
  have HNE := Lib.hid hne
  clear h hne
  go_enter Tryz.func117, Tryz.ntmps117
  go_upto_region 1 with fail
  go_cut [7] (fun s7 wc => s7 = .pointer (some ⟨w.heap.size + 1, 0, none⟩) ∧ wc = (w.alloc (.cells #[.int .i64 0, .int .i64 0, .bool false] 75)).alloc (.cells #[.int .i64 (i : Int), .int .i64 (k : Int), .bool sg] 75))
  case first =>
    by_cases c0 : 2 ≤ li
    · have c0i : (2 : Int) ≤ li := by omega
      by_cases c1 : 2 ≤ lk
      · have c1i : (2 : Int) ≤ lk := by omega
        go_wp2
        go_meet
        exact ⟨rfl, by rw [HSG.out, decide_eq_true c0, decide_eq_true c1]; rfl⟩
      · have c1i : ¬ (2 : Int) ≤ lk := by omega
        go_wp2
        go_meet
        exact ⟨rfl, by rw [HSG.out, decide_eq_false c1]; simp⟩
    · have c0i : ¬ (2 : Int) ≤ li := by omega
      go_wp2
      go_meet
      exact ⟨rfl, by rw [HSG.out, decide_eq_false c0]; simp⟩
  case rest =>
    obtain ⟨rfl, rfl⟩ := hcut
    have htw : Two w ((w.alloc (.cells #[.int .i64 0, .int .i64 0, .bool false] 75)).alloc (.cells #[.int .i64 (i : Int), .int .i64 (k : Int), .bool sg] 75)) lf ou := ((Two.refl w lf ou).alloc _).alloc _
    have hrow0 : ((w.alloc (.cells #[.int .i64 0, .int .i64 0, .bool false] 75)).alloc (.cells #[.int .i64 (i : Int), .int .i64 (k : Int), .bool sg] 75)).heap[w.heap.size]? = some (.cells #[.int .i64 0, .int .i64 0, .bool false] 75 (0, 0)) := heap_alloc2_old w _ _
    have hrow1 : ((w.alloc (.cells #[.int .i64 0, .int .i64 0, .bool false] 75)).alloc (.cells #[.int .i64 (i : Int), .int .i64 (k : Int), .bool sg] 75)).heap[w.heap.size + 1]? = some (.cells #[.int .i64 (i : Int), .int .i64 (k : Int), .bool sg] 75 (0, 0)) := heap_alloc2_new w _ _
    have hM : MW ((w.alloc (.cells #[.int .i64 0, .int .i64 0, .bool false] 75)).alloc (.cells #[.int .i64 (i : Int), .int .i64 (k : Int), .bool sg] 75)) mb lb lf ou n cap marks st := H.out.keep (fun q hq => by rw [Below.heap_alloc _ _ _ (by simp; omega), Below.heap_alloc _ _ _ hq]) zl
    generalize (w.alloc (.cells #[.int .i64 0, .int .i64 0, .bool false] 75)).alloc (.cells #[.int .i64 (i : Int), .int .i64 (k : Int), .bool sg] 75) = w1 at htw hrow0 hrow1 hM ⊢
    clear m1 fi fk H
    have p2 : w1.cell? ⟨w.heap.size + 1, 2, none⟩ = some (.bool sg) := cell_of_row _ _ _ _ _ _ hrow1
    go_upto_if 34 with fail
    go_cut [8] (fun s8 wc => s8 = .int .i64 (t : Int) ∧ w1 = wc)
    case first =>
      cases sg with
      | true =>
        go_wp2
        go_meet
        exact ⟨by rw [HT.out]; rfl, rfl⟩
      | false =>
        go_wp2
        go_meet
        exact ⟨by rw [HT.out]; rfl, rfl⟩
    case rest =>
      obtain ⟨rfl, rfl⟩ := hcut
      clear p2
      have HI : Hid (MW w1 mb lb lf ou n cap marks ⟨st.left, outTo st.out i (i + 1)⟩ ∧ Two w w1 lf ou ∧ w1.heap[w.heap.size]? = some (.cells #[.int .i64 0, .int .i64 0, .bool false] 75 (0, 0)) ∧ w1.heap[w.heap.size + 1]? = some (.cells #[.int .i64 (i : Int), .int .i64 (k : Int), .bool sg] 75 (0, 0))) :=
        Lib.hid ⟨by rw [outTo_start]; exact hM, htw, hrow0, hrow1⟩
      clear hM htw hrow0 hrow1
      go_wp2
      go_loopw [9] (fun v9 wr => ∃ j : Nat, i < j ∧ j ≤ k ∧ v9 = .int .i64 (j : Int) ∧ Hid (MW wr mb lb lf ou n cap marks ⟨st.left, outTo st.out i j⟩ ∧ Two w wr lf ou ∧ wr.heap[w.heap.size]? = some (.cells #[.int .i64 0, .int .i64 0, .bool false] 75 (0, 0)) ∧ wr.heap[w.heap.size + 1]? = some (.cells #[.int .i64 (i : Int), .int .i64 (k : Int), .bool sg] 75 (0, 0)))) (fun v9 _ => k - (intOf v9).toNat)
      case atStart => exact ⟨i + 1, by omega, by omega, by go_num, HI⟩
      case round =>
        obtain ⟨j, hj0, hjk, rfl, HJ⟩ := hrel
        have zou : ou < wr.heap.size := by have := HJ.out.2.1.size; omega
        have m2 : wr.cell? ⟨mb, 2, none⟩ = some (.slice (some ⟨ou, 0, none⟩) n n) := cell_of_row _ _ _ _ _ _ HJ.out.1.m
        by_cases hlt : j < k
        · have hlti : (j : Int) < k := by omega
          have hjn : (j : Int) < n := by omega
          have oj := HJ.out.1.out j (by omega)
          have fz : wr.frozen? ⟨ou, j, none⟩ = false := frozen_of_row _ _ _ _ _ HJ.out.1.o
          have hM2 := HJ.out.1.setOut ⟨HNE.out.2.2.1, HNE.out.2.2.2.1, HNE.out.2.2.2.2.1⟩ j true
          simp only at hM2
          rw [outTo_step _ _ _ hj0] at hM2
          have HN : Hid (MW (wr.setCell ⟨ou, j, none⟩ (.bool true)) mb lb lf ou n cap marks ⟨st.left, outTo st.out i (j + 1)⟩ ∧ Two w (wr.setCell ⟨ou, j, none⟩ (.bool true)) lf ou ∧ (wr.setCell ⟨ou, j, none⟩ (.bool true)).heap[w.heap.size]? = some (.cells #[.int .i64 0, .int .i64 0, .bool false] 75 (0, 0)) ∧ (wr.setCell ⟨ou, j, none⟩ (.bool true)).heap[w.heap.size + 1]? = some (.cells #[.int .i64 (i : Int), .int .i64 (k : Int), .bool sg] 75 (0, 0))) :=
            Lib.hid ⟨hM2, HJ.out.2.1.set (.inr (.inl rfl)) _, (heap_setCell_other _ _ _ _ (by show w.heap.size ≠ ou; omega)).trans HJ.out.2.2.1, (heap_setCell_other _ _ _ _ (by show w.heap.size + 1 ≠ ou; omega)).trans HJ.out.2.2.2⟩
          clear hM2 HJ
          go_wp2
          go_roundw
          case rel => exact ⟨j + 1, by omega, by omega, by go_num, HN⟩
          case measure => simp [intOf]; omega
        · have hlti : ¬ (j : Int) < k := by omega
          have hjk2 : j = k := by omega
          have HJ2 : Hid (MW wr mb lb lf ou n cap marks ⟨st.left, outTo st.out i k⟩ ∧ Two w wr lf ou ∧ wr.heap[w.heap.size]? = some (.cells #[.int .i64 0, .int .i64 0, .bool false] 75 (0, 0)) ∧ wr.heap[w.heap.size + 1]? = some (.cells #[.int .i64 (i : Int), .int .i64 (k : Int), .bool sg] 75 (0, 0))) := by rw [hjk2] at HJ; exact HJ
          clear HJ hjk2 m2
          obtain ⟨wo, rfl⟩ : ∃ wo : World, wo = wr := ⟨_, rfl⟩
          obtain ⟨a, ha⟩ : ∃ a, a = li - t := ⟨_, rfl⟩
          obtain ⟨b, hb⟩ : ∃ b, b = lk - t := ⟨_, rfl⟩
          have hta : a + t = li ∧ b + t = lk ∧ t ≤ 2 := by
            have e := HT.out
            have g := HSG.out
            cases sg with
            | true =>
              rw [if_pos rfl] at e
              have : 2 ≤ li ∧ 2 ≤ lk := by simpa using g.symm
              omega
            | false =>
              rw [if_neg (by decide)] at e
              omega
          have hstart : stJ st i k a b 0 = ⟨st.left, outTo st.out i k⟩ := rfl
          rw [← hstart] at HJ2
          have hnext : ∀ j, j < 2 → ∃ idx L v : Nat, idx < n ∧ (#[Value.int .i64 (i : Int), .int .i64 (k : Int)])[j]? = some (.int .i64 (idx : Int)) ∧ (stJ st i k a b j).left.getD idx 0 = L ∧ v + t = L ∧ L ≤ 1000000 ∧ stJ st i k a b (j + 1) = ⟨(stJ st i k a b j).left.set idx v, (stJ st i k a b j).out.set idx (v == 0)⟩ := by
            intro j hj
            match j, hj with
            | 0, _ => exact ⟨i, li, a, by omega, rfl, HLI.out.symm, hta.1, b0, rfl⟩
            | 1, _ =>
              refine ⟨k, lk, b, hk, rfl, ?_, hta.2.1, b1, rfl⟩
              show (st.left.set i a).getD k 0 = lk
              rw [HLK.out]
              simp [List.getD, show ¬ i = k by omega]
          have HNX := Lib.hid hnext
          have HPU : Hid (Spec.pairUp st i k = (⟨i, k, sg⟩, stJ st i k a b 2)) := Lib.hid (pairUp_eq st i k a b t sg (by rw [HSG.out, HLI.out, HLK.out]) HT.out hik (by have := HJ2.out.1.nf; simp only [stJ] at this; omega) (by rw [ha, HLI.out]) (by rw [hb, HLK.out]))
          have ht2 := hta.2.2
          have hob : li ≤ 1000000 ∧ lk ≤ 1000000 := ⟨b0, b1⟩
          clear hstart hnext ha hb hta
          go_wp2
          go_loopw [52] (fun v52 wr => ∃ j : Nat, j ≤ 2 ∧ v52 = .int .i64 (j : Int) ∧ Hid (MW wr mb lb lf ou n cap marks (stJ st i k a b j) ∧ Two w wr lf ou ∧ wr.heap[w.heap.size]? = some (.cells #[.int .i64 0, .int .i64 0, .bool false] 75 (0, 0)) ∧ wr.heap[w.heap.size + 1]? = some (.cells #[.int .i64 (i : Int), .int .i64 (k : Int), .bool sg] 75 (0, 0)) ∧ wr.heap[wo.heap.size]? = some (.cells #[.int .i64 (i : Int), .int .i64 (k : Int)] 3 (0, 0)) ∧ w.heap.size + 2 ≤ wo.heap.size)) (fun v52 _ => 2 - (intOf v52).toNat)
          case atStart =>
            have hlt1 := blk_lt HJ2.out.2.2.2
            refine ⟨0, by omega, rfl, Lib.hid ⟨HJ2.out.1.keep (fun q hq => Below.heap_alloc _ _ _ hq) (by have := HJ2.out.2.1.size; omega), HJ2.out.2.1.alloc _, (Below.heap_alloc _ _ _ (by omega)).trans HJ2.out.2.2.1, (Below.heap_alloc _ _ _ hlt1).trans HJ2.out.2.2.2, heap_alloc_new wo _, by omega⟩⟩
          case round =>
            obtain ⟨j2, hj2, rfl, HK⟩ := hrel
            by_cases hlt2 : j2 < 2
            · have hlt2i : (j2 : Int) < 2 := by omega
              obtain ⟨idx, L, v, hidx, hcl, hL, hv, hLb, hst⟩ := HNX.out j2 hlt2
              have c0 : wr.cell? ⟨wo.heap.size, j2, none⟩ = some (.int .i64 (idx : Int)) := by rw [cell_of_row _ _ _ _ _ _ HK.out.2.2.2.2.1]; exact hcl
              have m1 : wr.cell? ⟨mb, 1, none⟩ = some (.slice (some ⟨lf, 0, none⟩) n n) := cell_of_row _ _ _ _ _ _ HK.out.1.m
              have l0 := HK.out.1.left idx hidx
              rw [hL] at l0
              have fl : wr.frozen? ⟨lf, idx, none⟩ = false := frozen_of_row _ _ _ _ _ HK.out.1.f
              have hidxi : (idx : Int) < n := by omega
              have hvi : (L : Int) - (t : Int) = (v : Int) := by omega
              have hM1 := HK.out.1.setLeft ⟨HNE.out.1, HNE.out.2.1, HNE.out.2.2.1⟩ idx v
              have HM1 := Lib.hid hM1
              have HST := Lib.hid hst
              clear hcl hL hv hst hM1
              go_upto_region 13 with fail
              have hT3 : Two w (wr.setCell ⟨lf, idx, none⟩ (.int .i64 (v : Int))) lf ou := HK.out.2.1.set (.inl rfl) _
              have hR0 := (heap_setCell_other wr ⟨lf, idx, none⟩ w.heap.size (.int .i64 (v : Int)) (by show w.heap.size ≠ lf; omega)).trans HK.out.2.2.1
              have hR1 := (heap_setCell_other wr ⟨lf, idx, none⟩ (w.heap.size + 1) (.int .i64 (v : Int)) (by show w.heap.size + 1 ≠ lf; omega)).trans HK.out.2.2.2.1
              have hR2 := (heap_setCell_other wr ⟨lf, idx, none⟩ wo.heap.size (.int .i64 (v : Int)) (by show wo.heap.size ≠ lf; have := HK.out.2.2.2.2.2; omega)).trans HK.out.2.2.2.2.1
              have hM3 := HM1.out
              have hws := HK.out.2.2.2.2.2
              generalize wr.setCell ⟨lf, idx, none⟩ (.int .i64 (v : Int)) = w3 at hT3 hR0 hR1 hR2 hM3 ⊢
              clear c0 m1 l0 fl HK HM1
              have m1 : w3.cell? ⟨mb, 1, none⟩ = some (.slice (some ⟨lf, 0, none⟩) n n) := cell_of_row _ _ _ _ _ _ hM3.m
              have m2 : w3.cell? ⟨mb, 2, none⟩ = some (.slice (some ⟨ou, 0, none⟩) n n) := cell_of_row _ _ _ _ _ _ hM3.m
              have hil : idx < (stJ st i k a b j2).left.length := by have := hM3.nf; rw [List.length_set] at this; omega
              have l1 : w3.cell? ⟨lf, idx, none⟩ = some (.int .i64 (v : Int)) := by
                have := hM3.left idx hidx
                simp only at this
                rw [show ((stJ st i k a b j2).left.set idx v).getD idx 0 = v by simp [List.getD, hil]] at this
                exact this
              have o1 := hM3.out idx hidx
              have fo : w3.frozen? ⟨ou, idx, none⟩ = false := frozen_of_row _ _ _ _ _ hM3.o
              have hM4 := hM3.setOut ⟨HNE.out.2.2.1, HNE.out.2.2.2.1, HNE.out.2.2.2.2.1⟩ idx (v == 0)
              simp only at hM4
              rw [← HST.out] at hM4
              have hvb : ((v : Int) == 0) = (v == 0) := by
                by_cases e : v = 0
                · rw [e]; rfl
                · rw [beq_eq_false_iff_ne.2 e]; exact beq_eq_false_iff_ne.2 (by omega)
              have HN : Hid (MW (w3.setCell ⟨ou, idx, none⟩ (.bool (v == 0))) mb lb lf ou n cap marks (stJ st i k a b (j2 + 1)) ∧ Two w (w3.setCell ⟨ou, idx, none⟩ (.bool (v == 0))) lf ou ∧ (w3.setCell ⟨ou, idx, none⟩ (.bool (v == 0))).heap[w.heap.size]? = some (.cells #[.int .i64 0, .int .i64 0, .bool false] 75 (0, 0)) ∧ (w3.setCell ⟨ou, idx, none⟩ (.bool (v == 0))).heap[w.heap.size + 1]? = some (.cells #[.int .i64 (i : Int), .int .i64 (k : Int), .bool sg] 75 (0, 0)) ∧ (w3.setCell ⟨ou, idx, none⟩ (.bool (v == 0))).heap[wo.heap.size]? = some (.cells #[.int .i64 (i : Int), .int .i64 (k : Int)] 3 (0, 0)) ∧ w.heap.size + 2 ≤ wo.heap.size) :=
                Lib.hid ⟨hM4, hT3.set (.inr (.inl rfl)) _, (heap_setCell_other _ _ _ _ (by show w.heap.size ≠ ou; omega)).trans hR0, (heap_setCell_other _ _ _ _ (by show w.heap.size + 1 ≠ ou; omega)).trans hR1, (heap_setCell_other _ _ _ _ (by show wo.heap.size ≠ ou; omega)).trans hR2, hws⟩
              have zz3 : mb < w3.heap.size ∧ lf < w3.heap.size ∧ ou < w3.heap.size := ⟨blk_lt hM3.m, blk_lt hM3.f, blk_lt hM3.o⟩
              have hne1 : ¬ ou = mb := HNE.out.2.2.2.1
              clear hM4 hM3 hT3 hR0 hR1 hR2 hil HST
              go_region
              all_goals
                go_wp2
                go_roundw
                case rel => exact ⟨j2 + 1, by omega, by go_num, (by first | exact HN | exact Lib.hid ⟨HN.out.1.drew, HN.out.2.1.drew, HN.out.2.2⟩)⟩
                case measure => simp [intOf]; omega
            · have hlt2i : ¬ (j2 : Int) < 2 := by omega
              obtain rfl : j2 = 2 := by omega
              have p0 : wr.cell? ⟨w.heap.size + 1, 0, none⟩ = some (.int .i64 (i : Int)) := cell_of_row _ _ _ _ _ _ HK.out.2.2.2.1
              have p1 : wr.cell? ⟨w.heap.size + 1, 1, none⟩ = some (.int .i64 (k : Int)) := cell_of_row _ _ _ _ _ _ HK.out.2.2.2.1
              have p2 : wr.cell? ⟨w.heap.size + 1, 2, none⟩ = some (.bool sg) := cell_of_row _ _ _ _ _ _ HK.out.2.2.2.1
              have r0 : wr.cell? ⟨w.heap.size, 0, none⟩ = some (.int .i64 0) := cell_of_row _ _ _ _ _ _ HK.out.2.2.1
              have r1 : wr.cell? ⟨w.heap.size, 1, none⟩ = some (.int .i64 0) := cell_of_row _ _ _ _ _ _ HK.out.2.2.1
              have r2 : wr.cell? ⟨w.heap.size, 2, none⟩ = some (.bool false) := cell_of_row _ _ _ _ _ _ HK.out.2.2.1
              have fr : ∀ o, wr.frozen? ⟨w.heap.size, o, none⟩ = false := fun o => frozen_of_row _ _ _ _ _ HK.out.2.2.1
              go_wp2
              refine bodyPost_ret (v := .agg #[.int .i64 (i : Int), .int .i64 (k : Int), .bool sg]) (by simp [results, Tryz.f117, go_sem, r0, r1, r2]) rfl ⟨by rw [HPU.out]; rfl, ?_, ?_⟩
              · rw [HPU.out]
                have q1 : mb ≠ w.heap.size := by omega
                have q2 : lb ≠ w.heap.size := by omega
                have q3 : lf ≠ w.heap.size := by omega
                have q4 : ou ≠ w.heap.size := by omega
                exact ((HK.out.1.far q1 q2 q3 q4 _).far q1 q2 q3 q4 _).far q1 q2 q3 q4 _
              · exact ((HK.out.2.1.set (.inr (.inr (Nat.le_refl _))) _).set (.inr (.inr (Nat.le_refl _))) _).set (.inr (.inr (Nat.le_refl _))) _
end Go.Proofs.YtmplfiflikhpjaaGreatDoor
