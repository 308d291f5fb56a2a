/-
  strings.Replacer's build: four signs and what stands for each: the table and the list of signs.
-/
import Derived.Test.YtipbmagondoooaaGreatDoorRepA
import Derived.Test.YtipbmagondoooaaGreatDoorRow
import Derived.Deep.OwnRows
import Derived.OwnWalk
import Derived.WalkKit
import Derived.Lib.Hide
import Derived.Deep.DeepCutAuto
import Derived.Deep.WholeRow
import Derived.Lib.BufferMore
namespace Go.Proofs.YtipbmagondoooaaGreatDoor
open Go.RowKit

def amp : List UInt8 := [38, 97, 109, 112, 59]
def lt_ : List UInt8 := [38, 108, 116, 59]
def gt_ : List UInt8 := [38, 103, 116, 59]
def quot : List UInt8 := [38, 113, 117, 111, 116, 59]
/-- Signs and what stands for each, the last one first. -/
def reps : List (UInt8 × List UInt8) := [(34, quot), (62, gt_), (60, lt_), (38, amp)]
def olds : List Value := [.string ⟨#[38]⟩, .string ⟨#[38, 97, 109, 112, 59]⟩, .string ⟨#[60]⟩, .string ⟨#[38, 108, 116, 59]⟩, .string ⟨#[62]⟩, .string ⟨#[38, 103, 116, 59]⟩, .string ⟨#[34]⟩, .string ⟨#[38, 113, 117, 111, 116, 59]⟩]
def lk (l : List (UInt8 × List UInt8)) (c : UInt8) : Option (List UInt8) := (l.find? fun p => p.1 == c).map (·.2)

theorem info_str : (Tryz.prog.info? 9).map (fun i => (i.zero, i.size, i.bytes)) = some (some (.string ⟨#[]⟩), 1, 16) := by kernel_rfl

def tab0 (n : Nat) : Array Value := (Array.replicate 256 (.slice none 0 0)).push (.slice (some ⟨n, 0, none⟩) 0 4)
theorem built_tab (n : Nat) (W : World) : (Instr.build 102 #[(1, .slice (some ⟨n, 0, none⟩) 0 4)]).run Tryz.prog W = .ok (.agg (tab0 n)) W := run_build W _ _ _ (by kernel_rfl)
theorem zero_tab : Tryz.zeroCells102 = Array.replicate 257 (.slice none 0 0) := by kernel_rfl
theorem tab0_size (n : Nat) : (tab0 n).size = 257 := by simp [tab0]
theorem tab0_nil (n : Nat) (c : UInt8) : (tab0 n)[c.toNat]? = some (.slice none 0 0) := by
  have := c.toNat_lt
  have h1 : ¬ c.toNat = (Array.replicate 256 (Value.slice none 0 0)).size := by rw [Array.size_replicate]; omega
  rw [tab0, Array.getElem?_push, if_neg h1, Array.getElem?_replicate, if_pos (by omega)]
theorem tab0_last (n : Nat) : (tab0 n)[256]? = some (.slice (some ⟨n, 0, none⟩) 0 4) := by rw [tab0, Array.getElem?_push, if_pos (by rw [Array.size_replicate])]
theorem stored_tab (n : Nat) (w : World) : (storeCells ⟨w.heap.size, 0, none⟩ (Tryz.zeroCells102.toList.set 256 (.slice (some ⟨n, 0, none⟩) 0 4))).run Tryz.prog (w.alloc (.cells Tryz.zeroCells102 102)) = .ok () (w.alloc (.cells (tab0 n) 102)) := by
  have hl : (Tryz.zeroCells102.toList.set 256 (.slice (some ⟨n, 0, none⟩) 0 4)).length = 257 := by rw [List.length_set, zero_tab, Array.length_toList, Array.size_replicate]
  have h := run_storeCells_at Tryz.prog w.heap.size 0 102 (Tryz.zeroCells102.toList.set 256 (.slice (some ⟨n, 0, none⟩) 0 4)) 0 Tryz.zeroCells102 (w.alloc (.cells Tryz.zeroCells102 102)) (heap_alloc_new w _) (by rw [hl, zero_tab, Array.size_replicate]; omega) (by
    intro v hv
    rcases List.mem_or_eq_of_mem_set hv with h | rfl
    · rw [zero_tab, Array.toList_replicate] at h
      rw [List.eq_of_mem_replicate h]
      rfl
    · rfl)
  refine h.trans ?_
  rw [World.setRow_alloc_new]
  have he : (Tryz.zeroCells102.toList.take (0 + 0) ++ Tryz.zeroCells102.toList.set 256 (.slice (some ⟨n, 0, none⟩) 0 4) ++ Tryz.zeroCells102.toList.drop (0 + 0 + (Tryz.zeroCells102.toList.set 256 (.slice (some ⟨n, 0, none⟩) 0 4)).length)).toArray = tab0 n := by
    rw [hl, zero_tab, Array.toList_replicate, List.drop_of_length_le (by rw [List.length_replicate]; omega), List.append_nil, Nat.zero_add, List.take_zero, List.nil_append, ← Array.toList_inj, tab0, Array.toList_push, Array.toList_replicate]
    show (List.replicate 257 (Value.slice none 0 0)).set 256 _ = List.replicate 256 (Value.slice none 0 0) ++ [_]
    rw [List.replicate_succ' (n := 256), List.set_append_right _ _ (by rw [List.length_replicate]; exact Nat.le_refl _), List.length_replicate]
    rfl
  rw [he]

theorem conv_one (w : World) (c : UInt8) : (convert 29 9 (.slice (some ⟨w.heap.size, 0, none⟩) 1 1)).run Tryz.prog (w.alloc (.cells #[.int .u8 (c.toNat : Int)] 5)) = .ok (.string ⟨#[c]⟩) (w.alloc (.cells #[.int .u8 (c.toNat : Int)] 5)) :=
  run_convert_bytes_back (P := Tryz.prog) _ _ _ 5 ⟨w.heap.size, 0, none⟩ 1 [c] Tryz.underlying29 Tryz.underlying5 Tryz.underlying9 (by
    intro j hj
    simp at hj
    subst hj
    have h := heap_alloc_new w (.cells #[.int .u8 (c.toNat : Int)] 5)
    show World.cell? _ ⟨w.heap.size, 0, none⟩ = _
    simp only [World.cell?, h]
    rfl)
theorem blk_ne {w : World} {g q : Nat} {t t' : TypeId} {cs cs' : Array Value} {f f' : Nat × Nat} (h : w.heap[g]? = some (.cells cs t f)) (h' : w.heap[q]? = some (.cells cs' t' f')) (hne : t ≠ t') : g ≠ q := by
  rintro rfl
  rw [h] at h'
  injection h' with h'
  injection h' with _ ht
  exact hne ht
theorem blk_lt {w : World} {g : Nat} {o : Obj} (h : w.heap[g]? = some o) : g < w.heap.size := (Array.getElem?_eq_some_iff.1 h).1
theorem addr_add (g q : Nat) : (⟨g, 0, none⟩ : Addr).add q = ⟨g, q, none⟩ := by unfold Addr.add; split <;> simp_all
theorem le_alloc {B : Nat} {w : World} (h : B ≤ w.heap.size) (o : Obj) : B ≤ (w.alloc o).heap.size := by
  have : (w.alloc o).heap.size = w.heap.size + 1 := by simp
  omega
theorem cell_row {w : World} {g : Nat} {cs : Array Value} {t : TypeId} {f : Nat × Nat} (h : w.heap[g]? = some (.cells cs t f)) (j : Nat) : w.cell? ⟨g, j, none⟩ = cs[j]? := by
  simp only [World.cell?, h]
  rfl
theorem row_slice {w : World} {base : Nat} {e : TypeId} {size : Nat} {v : Value} {n : Nat} {xs : List Value} (h : w.ownsRow base e size v n xs) : ∃ A c, v = .slice A n c := by
  rcases h.2 with ⟨rfl, rfl⟩ | ⟨g, c, _, rfl, _⟩
  · exact ⟨_, _, rfl⟩
  · exact ⟨_, _, rfl⟩
/-- What the table holds at a byte. -/
def TabAt (w : World) (bb : Nat) (c : UInt8) : Option (List UInt8) → Prop
  | none => w.cell? ⟨bb, c.toNat, none⟩ = some (.slice none 0 0)
  | some t => ∃ (nb cap : Nat) (cs : Array Value) (fz : Nat × Nat), w.cell? ⟨bb, c.toNat, none⟩ = some (.slice (some ⟨nb, 0, none⟩) t.length cap) ∧ w.heap[nb]? = some (.cells cs 5 fz) ∧ ∀ (j : Nat) (v : UInt8), t[j]? = some v → cs[j]? = some (.int .u8 (v.toNat : Int))
theorem TabAt.keep {w w' : World} {bb : Nat} {c : UInt8} {o : Option (List UInt8)} (h : TabAt w bb c o) (hc : w'.cell? ⟨bb, c.toNat, none⟩ = w.cell? ⟨bb, c.toNat, none⟩) (hk : ∀ (nb : Nat) (cs : Array Value) (fz : Nat × Nat), w.heap[nb]? = some (.cells cs 5 fz) → w'.heap[nb]? = w.heap[nb]?) : TabAt w' bb c o := by
  cases o with
  | none => exact hc.trans h
  | some t =>
    obtain ⟨nb, cap, cs, fz, h1, h2, h3⟩ := h
    exact ⟨nb, cap, cs, fz, hc.trans h1, (hk nb cs fz h2).trans h2, h3⟩
/-- The table after so many signs. -/
structure BW (w0 w : World) (bb : Nat) (tv : Value) (k : Nat) : Prop where
  ge : w0.heap.size ≤ bb
  bel : Below w0.heap.size w0 w
  hold : w.cell? ⟨bb, 256, none⟩ = some tv
  own : w.ownsRow w0.heap.size 9 1 tv k ((reps.take k).map fun p => .string ⟨#[p.1]⟩)
  row : ∃ cur, w.heap[bb]? = some (.cells cur 102 (0, 0)) ∧ cur.size = 257
  tab : ∀ c : UInt8, TabAt w bb c (lk (reps.take k) c)
theorem lk_snoc (l : List (UInt8 × List UInt8)) (o : UInt8) (n : List UInt8) (c : UInt8) : lk (l ++ [(o, n)]) c = (lk l c).or (if o == c then some n else none) := by
  unfold lk
  rw [List.find?_append]
  cases l.find? fun p => p.1 == c with
  | some p => rfl
  | none => by_cases h : (o == c) = true <;> simp [h]
theorem bw_next {w0 w w2 : World} {bb : Nat} {tv tv' : Value} {k : Nat} {o : UInt8} {n : List UInt8} {A B : Obj} {cap : Nat} {cs : Array Value} {fz : Nat × Nat} (h : BW w0 w bb tv k)
    (hr : reps[k]? = some (o, n)) (hno : lk (reps.take k) o = none)
    (hown2 : w2.ownsRow w0.heap.size 9 1 tv' (k + 1) ((reps.take k).map (fun p => .string ⟨#[p.1]⟩) ++ [.string ⟨#[o]⟩])) (hg : ((w.alloc A).alloc B).grownBy w2 tv.ownBlock)
    (hcs : ∀ (j : Nat) (v : UInt8), n[j]? = some v → cs[j]? = some (.int .u8 (v.toNat : Int))) :
    BW w0 (((w2.setCell ⟨bb, 256, none⟩ tv').setCell ⟨bb, o.toNat, none⟩ (.slice (some ⟨w2.heap.size, 0, none⟩) n.length cap)).alloc (.cells cs 5 fz)).drew bb tv' (k + 1) := by
  obtain ⟨cur, hrow, hsz⟩ := h.row
  have hlt := blk_lt hrow
  have ho := o.toNat_lt
  have far : ∀ (g : Nat) (cs' : Array Value) (t : TypeId) (f : Nat × Nat), w.heap[g]? = some (.cells cs' t f) → 9 ≠ t → w2.heap[g]? = w.heap[g]? := fun g cs' t f hgr hne => by
    have hl := blk_lt hgr
    have e1 : ((w.alloc A).alloc B).heap[g]? = w.heap[g]? := (Below.heap_alloc _ _ _ (by simp; omega)).trans (Below.heap_alloc _ _ _ hl)
    refine (hg.block g (by simp; omega) (fun e => ?_)).trans e1
    rcases h.own.2 with ⟨rfl, _⟩ | ⟨q, cp, cur', rfl, _, hq, _⟩
    · simp [Value.ownBlock] at e
    · simp [Value.ownBlock] at e
      subst e
      exact blk_ne hq hgr hne rfl
  have r2 : w2.heap[bb]? = some (.cells cur 102 (0, 0)) := (far _ _ _ _ hrow (by decide)).trans hrow
  have l2 := blk_lt r2
  have r3 := heap_setCell_same w2 bb 256 cur _ tv' r2
  have r4 := heap_setCell_same (w2.setCell ⟨bb, 256, none⟩ tv') bb o.toNat _ _ (.slice (some ⟨w2.heap.size, 0, none⟩) n.length cap) r3
  have hsz4 : ((w2.setCell ⟨bb, 256, none⟩ tv').setCell ⟨bb, o.toNat, none⟩ (.slice (some ⟨w2.heap.size, 0, none⟩) n.length cap)).heap.size = w2.heap.size := by simp
  have hB2 : Below w0.heap.size w0 w2 := ((h.bel.alloc h.bel.size _).alloc (le_alloc h.bel.size _) _).grown hg (le_alloc (le_alloc h.bel.size _) _) (fun q hq => (h.own.lt q hq).1)
  have hB4 : Below w0.heap.size w0 ((w2.setCell ⟨bb, 256, none⟩ tv').setCell ⟨bb, o.toNat, none⟩ (.slice (some ⟨w2.heap.size, 0, none⟩) n.length cap)) := (hB2.setCell (p := ⟨bb, 256, none⟩) h.ge _).setCell (p := ⟨bb, o.toNat, none⟩) h.ge _
  have oth4 : ∀ g, g ≠ bb → ((w2.setCell ⟨bb, 256, none⟩ tv').setCell ⟨bb, o.toNat, none⟩ (.slice (some ⟨w2.heap.size, 0, none⟩) n.length cap)).heap[g]? = w2.heap[g]? := fun g hne =>
    (heap_setCell_other _ ⟨bb, o.toNat, none⟩ g _ hne).trans (heap_setCell_other w2 ⟨bb, 256, none⟩ g tv' hne)
  generalize (w2.setCell ⟨bb, 256, none⟩ tv').setCell ⟨bb, o.toNat, none⟩ (.slice (some ⟨w2.heap.size, 0, none⟩) n.length cap) = w4 at r4 hsz4 hB4 oth4 ⊢
  have r5 : (w4.alloc (.cells cs 5 fz)).drew.heap[bb]? = some (.cells ((cur.setIfInBounds 256 tv').setIfInBounds o.toNat (.slice (some ⟨w2.heap.size, 0, none⟩) n.length cap)) 102 (0, 0)) := (Below.heap_alloc _ _ _ (blk_lt r4)).trans r4
  have htk : reps.take (k + 1) = reps.take k ++ [(o, n)] := by rw [List.take_add_one, hr]; rfl
  have oth : ∀ g, g ≠ bb → g < w2.heap.size → (w4.alloc (.cells cs 5 fz)).drew.heap[g]? = w2.heap[g]? := fun g hne hl =>
    (Below.heap_alloc _ _ _ (by rw [hsz4]; exact hl)).trans (oth4 g hne)
  refine ⟨h.ge, (hB4.alloc hB4.size _).drew, ?_, ?_, ⟨_, r5, by simp [hsz]⟩, fun c => ?_⟩
  · rw [cell_row r5, Array.getElem?_setIfInBounds_ne (by omega), Array.getElem?_setIfInBounds_self_of_lt (by omega)]
  · rw [htk, List.map_append]
    refine ⟨hown2.1, ?_⟩
    rcases hown2.2 with hn | ⟨g, cp, cu, rfl, hbg, hgg, rest⟩
    · exact .inl hn
    · exact .inr ⟨g, cp, cu, rfl, hbg, (oth g (blk_ne hgg r2 (by decide)) (blk_lt hgg)).trans hgg, rest⟩
  · rw [htk, lk_snoc]
    by_cases hc : o = c
    · subst hc
      rw [hno]
      simp only [beq_self_eq_true, if_true, Option.none_or]
      refine ⟨w2.heap.size, cap, cs, fz, ?_, ?_, hcs⟩
      · rw [cell_row r5, Array.getElem?_setIfInBounds_self_of_lt (by simp; omega)]
      · have := heap_alloc_new w4 (.cells cs 5 fz)
        rw [hsz4] at this
        exact this
    · have hcn : (o == c) = false := beq_eq_false_iff_ne.2 hc
      have hnn : o.toNat ≠ c.toNat := fun e => hc (UInt8.toNat_inj.1 e)
      have := c.toNat_lt
      rw [hcn]
      simp only [Bool.false_eq_true, if_false, Option.or_none]
      refine (h.tab c).keep ?_ fun nb cs' fz' hnb => ?_
      · rw [cell_row r5, cell_row hrow, Array.getElem?_setIfInBounds_ne hnn, Array.getElem?_setIfInBounds_ne (by omega)]
      · exact (oth nb (blk_ne hnb hrow (by decide)) (by have e := (far _ _ _ _ hnb (by decide)).trans hnb; exact blk_lt e)).trans (far _ _ _ _ hnb (by decide))
theorem bytes_at (s : ByteArray) (cap : Nat) (j : Nat) (v : UInt8) (h : s.data.toList[j]? = some v) : (bytesRow s cap)[j]? = some (.int .u8 (v.toNat : Int)) := by
  obtain ⟨hj, rfl⟩ := List.getElem?_eq_some_iff.1 h
  have hj' : j < s.data.size := by simpa using hj
  rw [bytesRow_at s cap j hj']
  simp
theorem bw_mid {w0 w w2 : World} {bb : Nat} {tv : Value} {k : Nat} {A B : Obj} (h : BW w0 w bb tv k) (hg : ((w.alloc A).alloc B).grownBy w2 tv.ownBlock) :
    w2.cell? ⟨bb, 256, none⟩ = some tv ∧ (∀ j, w2.frozen? ⟨bb, j, none⟩ = false) ∧ (∀ j, w2.cell? ⟨bb, j, none⟩ = w.cell? ⟨bb, j, none⟩) ∧ bb < w2.heap.size := by
  obtain ⟨cur, hrow, hsz⟩ := h.row
  have hl := blk_lt hrow
  have r2 : w2.heap[bb]? = some (.cells cur 102 (0, 0)) := by
    have e1 : ((w.alloc A).alloc B).heap[bb]? = w.heap[bb]? := (Below.heap_alloc _ _ _ (by simp; omega)).trans (Below.heap_alloc _ _ _ hl)
    refine ((hg.block bb (by simp; omega) (fun e => ?_)).trans e1).trans hrow
    rcases h.own.2 with ⟨rfl, _⟩ | ⟨q, cp, cur', rfl, _, hq, _⟩
    · simp [Value.ownBlock] at e
    · simp [Value.ownBlock] at e
      subst e
      exact blk_ne hq hrow (by decide) rfl
  have hc : ∀ j, w2.cell? ⟨bb, j, none⟩ = w.cell? ⟨bb, j, none⟩ := fun j => by rw [cell_row r2, cell_row hrow]
  exact ⟨(hc 256).trans h.hold, fun j => by simp [World.frozen?, r2], hc, blk_lt r2⟩

set_option maxHeartbeats 4000000 in
set_option maxRecDepth 100000 in
theorem build_any (w : World) (rb ob cap : Nat) (hr : w.cell? ⟨rb, 4, none⟩ = some (.slice (some ⟨ob, 0, none⟩) 8 cap))
    (hs : ∀ (i : Nat) (v : Value), olds[i]? = some v → w.cell? ⟨ob, i, none⟩ = some v) :
    Calls Tryz.prog 43 #[.pointer (some ⟨rb, 0, none⟩)] w fun e w' => ∃ (bb : Nat) (tv : Value), e = .returned (.iface 103 (.pointer (some ⟨bb, 0, none⟩))) ∧ BW w w' bb tv 4 := by
  obtain ⟨i0, hi0, hq⟩ := Option.map_eq_some_iff.1 info_str
  obtain ⟨hz0, hz1, hz2⟩ : i0.zero = some (.string ⟨#[]⟩) ∧ i0.size = 1 ∧ i0.bytes = 16 := by simpa [Prod.ext_iff] using hq
  obtain ⟨w1, hms0, hown, hgrow⟩ := run_makeSlice_owned (P := Tryz.prog) (w := w) w.heap.size 49 9 i0 _ 1 Tryz.underlying49 hi0 hz0 hz1 .i64 .i64 4 (by omega) (by omega) (by unfold maxLen; omega) (Nat.le_refl _)
  have hms : (Instr.makeSlice 49 (.int .i64 0) (.int .i64 4)).run Tryz.prog w = .ok (.slice (some ⟨w.heap.size, 0, none⟩) 0 4) w1 := hms0
  have hbd := built_tab w.heap.size
  have hst := stored_tab w.heap.size w1
  clear hms0
  go_enter Tryz.func43, Tryz.ntmps43
  have c0 := hs 0 _ rfl
  have c1 := hs 1 _ rfl
  have c2 := hs 2 _ rfl
  have c3 := hs 3 _ rfl
  have c4 := hs 4 _ rfl
  have c5 := hs 5 _ rfl
  have c6 := hs 6 _ rfl
  have c7 := hs 7 _ rfl
  clear hs
  go_wp2
  go_loopw [5, 4] (fun v5 v4 wr => w = wr ∧ ((v5 = .int .i64 0 ∧ v4 = .bool true) ∨ (v5 = .int .i64 2 ∧ v4 = .bool false) ∨ (v5 = .int .i64 4 ∧ v4 = .bool false) ∨ (v5 = .int .i64 6 ∧ v4 = .bool false) ∨ (v5 = .int .i64 8 ∧ v4 = .bool false))) (fun v5 _ _ => 8 - (intOf v5).toNat)
  case atStart => exact ⟨rfl, .inl ⟨rfl, rfl⟩⟩
  case round =>
    obtain ⟨rfl, ⟨rfl, rfl⟩ | ⟨rfl, rfl⟩ | ⟨rfl, rfl⟩ | ⟨rfl, rfl⟩ | ⟨rfl, rfl⟩⟩ := hrel
    · go_wp2
      exact ⟨⟨trivial, .inr (.inl ⟨rfl, rfl⟩)⟩, by decide⟩
    · go_wp2
      exact ⟨⟨trivial, .inr (.inr (.inl ⟨rfl, rfl⟩))⟩, by decide⟩
    · go_wp2
      exact ⟨⟨trivial, .inr (.inr (.inr (.inl ⟨rfl, rfl⟩)))⟩, by decide⟩
    · go_wp2
      exact ⟨⟨trivial, .inr (.inr (.inr (.inr ⟨rfl, rfl⟩)))⟩, by decide⟩
    · go_upto_region 27 with fail
      have HW0 : BW w (w1.alloc (.cells (tab0 w.heap.size) 102)) w1.heap.size (.slice (some ⟨w.heap.size, 0, none⟩) 0 4) 0 := by
        have hB1 : Below w.heap.size w w1 := ⟨hgrow.os, hgrow.tape, hgrow.output, hgrow.size, fun k hk => hgrow.block k hk (by simp)⟩
        have hr := heap_alloc_new w1 (.cells (tab0 w.heap.size) 102)
        refine ⟨hB1.size, hB1.alloc hB1.size _, ?_, hown.alloc _, ⟨_, hr, tab0_size _⟩, fun c => ?_⟩
        · rw [cell_row hr]; exact tab0_last _
        · show World.cell? _ _ = _
          rw [cell_row hr]; exact tab0_nil _ c
      have HB := Lib.hid HW0
      have hol : ob < w.heap.size := World.block_lt_of_cell? w _ c0
      clear HW0 hms hbd hst hgrow hown
      generalize w1.alloc (.cells (tab0 w.heap.size) 102) = w2 at HB ⊢
      generalize w1.heap.size = bb at HB ⊢
      go_wp2
      go_loopw [12] (fun v12 wr => ∃ (k : Nat) (tv : Value), Hid (BW w wr bb tv k) ∧ ((k = 0 ∧ v12 = .int .i64 6) ∨ (k = 1 ∧ v12 = .int .i64 4) ∨ (k = 2 ∧ v12 = .int .i64 2) ∨ (k = 3 ∧ v12 = .int .i64 0) ∨ (k = 4 ∧ v12 = .int .i64 (-2)))) (fun v12 _ => (intOf v12 + 2).toNat)
      case atStart => exact ⟨0, _, HB, .inl ⟨rfl, rfl⟩⟩
      case round =>
        obtain ⟨k, tv, HJ, hkk⟩ := hrel
        have d0 := (HJ.out.bel.cell (p := ⟨ob, 0, none⟩) hol).trans c0
        have d1 := (HJ.out.bel.cell (p := ⟨ob, 1, none⟩) hol).trans c1
        have d2 := (HJ.out.bel.cell (p := ⟨ob, 2, none⟩) hol).trans c2
        have d3 := (HJ.out.bel.cell (p := ⟨ob, 3, none⟩) hol).trans c3
        have d4 := (HJ.out.bel.cell (p := ⟨ob, 4, none⟩) hol).trans c4
        have d5 := (HJ.out.bel.cell (p := ⟨ob, 5, none⟩) hol).trans c5
        have d6 := (HJ.out.bel.cell (p := ⟨ob, 6, none⟩) hol).trans c6
        have d7 := (HJ.out.bel.cell (p := ⟨ob, 7, none⟩) hol).trans c7
        have hnil : ∀ W, (binOp .eql 29 (.slice none 0 0) (.slice none 0 0)).run Tryz.prog W = .ok (.bool true) W := fun W => Lib.run_eql_slice_nil_nil W _ _ Tryz.underlying29
        have dt := HJ.out.hold
        have hown := HJ.out.own
        have hle := HJ.out.bel.size
        rcases hkk with ⟨rfl, rfl⟩ | ⟨rfl, rfl⟩ | ⟨rfl, rfl⟩ | ⟨rfl, rfl⟩ | ⟨rfl, rfl⟩
        · have ht : wr.cell? ⟨bb, 34, none⟩ = some (.slice none 0 0) := HJ.out.tab 34
          have hcv : (convert 29 9 (.slice (some ⟨wr.heap.size, 0, none⟩) 1 1)).run Tryz.prog (wr.alloc (.cells #[.int .u8 34] 5)) = .ok (.string ⟨#[34]⟩) (wr.alloc (.cells #[.int .u8 34] 5)) := conv_one wr 34
          have e34 : (⟨#[34]⟩ : ByteArray)[0].toNat = 34 := rfl
          go_wp2_with (at_builtin; refine wpList_append_own _ rfl (.tmp 119) (.tmp 123) 49 rfl w.heap.size 9 i0 (.string ⟨#[]⟩) 1 16 Tryz.underlying49 hi0 hz0 hz1 hz2 rfl (by decide) tv _ _ rfl ((hown.alloc _).alloc _) ⟨wr.heap.size + 1, 0, none⟩ 1 1 [.string ⟨#[34]⟩] rfl rfl ?c1 ?c2 ?c3 ?c4 ?c5 ?_)
          case c1 =>
            intro q u hq
            rw [addr_add]
            have h := heap_alloc_new (wr.alloc (.cells #[.int .u8 34] 5)) (.cells #[.string ⟨#[34]⟩] 9)
            have e : (wr.alloc (.cells #[.int .u8 34] 5)).heap.size = wr.heap.size + 1 := by simp
            rw [e] at h
            rw [cell_row h]
            simpa using hq
          case c2 => intro u hu; simp at hu; subst hu; rfl
          case c3 => unfold maxLen; omega
          case c4 => omega
          case c5 => exact le_alloc (le_alloc hle _) _
          intro v' w3 hown3 hgrow3 _
          obtain ⟨z0, z1, z2, z3⟩ := bw_mid HJ.out hgrow3
          have z4 := (z2 34).trans ht
          have z5 := z1 34
          have z6 := z1 256
          have hcb : ∀ W : World, (convert 9 29 (.string ⟨#[38, 113, 117, 111, 116, 59]⟩)).run Tryz.prog W = .ok (.slice (some ⟨W.heap.size, 0, none⟩) 6 (grownCap W 6 0 5)) (W.drew.alloc (.cells (bytesRow ⟨#[38, 113, 117, 111, 116, 59]⟩ (grownCap W 6 0 5)) 5 ((bytesRow ⟨#[38, 113, 117, 111, 116, 59]⟩ (grownCap W 6 0 5)).size, (bytesRow ⟨#[38, 113, 117, 111, 116, 59]⟩ (grownCap W 6 0 5)).size + 1))) := fun W => run_bytes_of_string (P := Tryz.prog) W _ _ _ ⟨#[38, 113, 117, 111, 116, 59]⟩ Tryz.underlying9 Tryz.underlying29 Tryz.underlying5
          obtain ⟨A', cp', rfl⟩ := row_slice hown3
          clear z1 z2
          go_wp2
          go_roundw
          case rel => exact ⟨1, _, Lib.hid (bw_next HJ.out (o := 34) rfl rfl hown3 hgrow3 (bytes_at ⟨#[38, 113, 117, 111, 116, 59]⟩ _)), .inr (.inl ⟨rfl, rfl⟩)⟩
          case measure => decide
        · have ht : wr.cell? ⟨bb, 62, none⟩ = some (.slice none 0 0) := HJ.out.tab 62
          have hcv : (convert 29 9 (.slice (some ⟨wr.heap.size, 0, none⟩) 1 1)).run Tryz.prog (wr.alloc (.cells #[.int .u8 62] 5)) = .ok (.string ⟨#[62]⟩) (wr.alloc (.cells #[.int .u8 62] 5)) := conv_one wr 62
          have e34 : (⟨#[62]⟩ : ByteArray)[0].toNat = 62 := rfl
          go_wp2_with (at_builtin; refine wpList_append_own _ rfl (.tmp 119) (.tmp 123) 49 rfl w.heap.size 9 i0 (.string ⟨#[]⟩) 1 16 Tryz.underlying49 hi0 hz0 hz1 hz2 rfl (by decide) tv _ _ rfl ((hown.alloc _).alloc _) ⟨wr.heap.size + 1, 0, none⟩ 1 1 [.string ⟨#[62]⟩] rfl rfl ?c1 ?c2 ?c3 ?c4 ?c5 ?_)
          case c1 =>
            intro q u hq
            rw [addr_add]
            have h := heap_alloc_new (wr.alloc (.cells #[.int .u8 62] 5)) (.cells #[.string ⟨#[62]⟩] 9)
            have e : (wr.alloc (.cells #[.int .u8 62] 5)).heap.size = wr.heap.size + 1 := by simp
            rw [e] at h
            rw [cell_row h]
            simpa using hq
          case c2 => intro u hu; simp at hu; subst hu; rfl
          case c3 => unfold maxLen; omega
          case c4 => omega
          case c5 => exact le_alloc (le_alloc hle _) _
          intro v' w3 hown3 hgrow3 _
          obtain ⟨z0, z1, z2, z3⟩ := bw_mid HJ.out hgrow3
          have z4 := (z2 62).trans ht
          have z5 := z1 62
          have z6 := z1 256
          have hcb : ∀ W : World, (convert 9 29 (.string ⟨#[38, 103, 116, 59]⟩)).run Tryz.prog W = .ok (.slice (some ⟨W.heap.size, 0, none⟩) 4 (grownCap W 4 0 5)) (W.drew.alloc (.cells (bytesRow ⟨#[38, 103, 116, 59]⟩ (grownCap W 4 0 5)) 5 ((bytesRow ⟨#[38, 103, 116, 59]⟩ (grownCap W 4 0 5)).size, (bytesRow ⟨#[38, 103, 116, 59]⟩ (grownCap W 4 0 5)).size + 1))) := fun W => run_bytes_of_string (P := Tryz.prog) W _ _ _ ⟨#[38, 103, 116, 59]⟩ Tryz.underlying9 Tryz.underlying29 Tryz.underlying5
          obtain ⟨A', cp', rfl⟩ := row_slice hown3
          clear z1 z2
          go_wp2
          go_roundw
          case rel => exact ⟨2, _, Lib.hid (bw_next HJ.out (o := 62) rfl rfl hown3 hgrow3 (bytes_at ⟨#[38, 103, 116, 59]⟩ _)), .inr (.inr (.inl ⟨rfl, rfl⟩))⟩
          case measure => decide
        · have ht : wr.cell? ⟨bb, 60, none⟩ = some (.slice none 0 0) := HJ.out.tab 60
          have hcv : (convert 29 9 (.slice (some ⟨wr.heap.size, 0, none⟩) 1 1)).run Tryz.prog (wr.alloc (.cells #[.int .u8 60] 5)) = .ok (.string ⟨#[60]⟩) (wr.alloc (.cells #[.int .u8 60] 5)) := conv_one wr 60
          have e34 : (⟨#[60]⟩ : ByteArray)[0].toNat = 60 := rfl
          go_wp2_with (at_builtin; refine wpList_append_own _ rfl (.tmp 119) (.tmp 123) 49 rfl w.heap.size 9 i0 (.string ⟨#[]⟩) 1 16 Tryz.underlying49 hi0 hz0 hz1 hz2 rfl (by decide) tv _ _ rfl ((hown.alloc _).alloc _) ⟨wr.heap.size + 1, 0, none⟩ 1 1 [.string ⟨#[60]⟩] rfl rfl ?c1 ?c2 ?c3 ?c4 ?c5 ?_)
          case c1 =>
            intro q u hq
            rw [addr_add]
            have h := heap_alloc_new (wr.alloc (.cells #[.int .u8 60] 5)) (.cells #[.string ⟨#[60]⟩] 9)
            have e : (wr.alloc (.cells #[.int .u8 60] 5)).heap.size = wr.heap.size + 1 := by simp
            rw [e] at h
            rw [cell_row h]
            simpa using hq
          case c2 => intro u hu; simp at hu; subst hu; rfl
          case c3 => unfold maxLen; omega
          case c4 => omega
          case c5 => exact le_alloc (le_alloc hle _) _
          intro v' w3 hown3 hgrow3 _
          obtain ⟨z0, z1, z2, z3⟩ := bw_mid HJ.out hgrow3
          have z4 := (z2 60).trans ht
          have z5 := z1 60
          have z6 := z1 256
          have hcb : ∀ W : World, (convert 9 29 (.string ⟨#[38, 108, 116, 59]⟩)).run Tryz.prog W = .ok (.slice (some ⟨W.heap.size, 0, none⟩) 4 (grownCap W 4 0 5)) (W.drew.alloc (.cells (bytesRow ⟨#[38, 108, 116, 59]⟩ (grownCap W 4 0 5)) 5 ((bytesRow ⟨#[38, 108, 116, 59]⟩ (grownCap W 4 0 5)).size, (bytesRow ⟨#[38, 108, 116, 59]⟩ (grownCap W 4 0 5)).size + 1))) := fun W => run_bytes_of_string (P := Tryz.prog) W _ _ _ ⟨#[38, 108, 116, 59]⟩ Tryz.underlying9 Tryz.underlying29 Tryz.underlying5
          obtain ⟨A', cp', rfl⟩ := row_slice hown3
          clear z1 z2
          go_wp2
          go_roundw
          case rel => exact ⟨3, _, Lib.hid (bw_next HJ.out (o := 60) rfl rfl hown3 hgrow3 (bytes_at ⟨#[38, 108, 116, 59]⟩ _)), .inr (.inr (.inr (.inl ⟨rfl, rfl⟩)))⟩
          case measure => decide
        · have ht : wr.cell? ⟨bb, 38, none⟩ = some (.slice none 0 0) := HJ.out.tab 38
          have hcv : (convert 29 9 (.slice (some ⟨wr.heap.size, 0, none⟩) 1 1)).run Tryz.prog (wr.alloc (.cells #[.int .u8 38] 5)) = .ok (.string ⟨#[38]⟩) (wr.alloc (.cells #[.int .u8 38] 5)) := conv_one wr 38
          have e34 : (⟨#[38]⟩ : ByteArray)[0].toNat = 38 := rfl
          go_wp2_with (at_builtin; refine wpList_append_own _ rfl (.tmp 119) (.tmp 123) 49 rfl w.heap.size 9 i0 (.string ⟨#[]⟩) 1 16 Tryz.underlying49 hi0 hz0 hz1 hz2 rfl (by decide) tv _ _ rfl ((hown.alloc _).alloc _) ⟨wr.heap.size + 1, 0, none⟩ 1 1 [.string ⟨#[38]⟩] rfl rfl ?c1 ?c2 ?c3 ?c4 ?c5 ?_)
          case c1 =>
            intro q u hq
            rw [addr_add]
            have h := heap_alloc_new (wr.alloc (.cells #[.int .u8 38] 5)) (.cells #[.string ⟨#[38]⟩] 9)
            have e : (wr.alloc (.cells #[.int .u8 38] 5)).heap.size = wr.heap.size + 1 := by simp
            rw [e] at h
            rw [cell_row h]
            simpa using hq
          case c2 => intro u hu; simp at hu; subst hu; rfl
          case c3 => unfold maxLen; omega
          case c4 => omega
          case c5 => exact le_alloc (le_alloc hle _) _
          intro v' w3 hown3 hgrow3 _
          obtain ⟨z0, z1, z2, z3⟩ := bw_mid HJ.out hgrow3
          have z4 := (z2 38).trans ht
          have z5 := z1 38
          have z6 := z1 256
          have hcb : ∀ W : World, (convert 9 29 (.string ⟨#[38, 97, 109, 112, 59]⟩)).run Tryz.prog W = .ok (.slice (some ⟨W.heap.size, 0, none⟩) 5 (grownCap W 5 0 5)) (W.drew.alloc (.cells (bytesRow ⟨#[38, 97, 109, 112, 59]⟩ (grownCap W 5 0 5)) 5 ((bytesRow ⟨#[38, 97, 109, 112, 59]⟩ (grownCap W 5 0 5)).size, (bytesRow ⟨#[38, 97, 109, 112, 59]⟩ (grownCap W 5 0 5)).size + 1))) := fun W => run_bytes_of_string (P := Tryz.prog) W _ _ _ ⟨#[38, 97, 109, 112, 59]⟩ Tryz.underlying9 Tryz.underlying29 Tryz.underlying5
          obtain ⟨A', cp', rfl⟩ := row_slice hown3
          clear z1 z2
          go_wp2
          go_roundw
          case rel => exact ⟨4, _, Lib.hid (bw_next HJ.out (o := 38) rfl rfl hown3 hgrow3 (bytes_at ⟨#[38, 97, 109, 112, 59]⟩ _)), .inr (.inr (.inr (.inr ⟨rfl, rfl⟩)))⟩
          case measure => decide
        · go_wp2
          go_ret
          exact ⟨bb, tv, rfl, HJ.out⟩
end Go.Proofs.YtipbmagondoooaaGreatDoor
