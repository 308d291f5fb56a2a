/-
  strings.Replacer as ent.HTML makes and uses it.
-/
import Derived.Test.YtipbmagondoooaaGreatDoorRepD
namespace Go.Proofs.YtipbmagondoooaaGreatDoor
open Go.RowKit Go.MuLone

def nilI : Value := .nilIface
def repRow (done lock : Int) (sema : Value) (r old : Value) : Array Value := #[.int .u32 done, .int .i32 lock, sema, r, old]
theorem repRow_at (w : World) (rb : Nat) (d l : Int) (s r o : Value) (h : w.heap[rb]? = some (.cells (repRow d l s r o) 65 (0, 0))) :
    w.cell? ⟨rb, 0, none⟩ = some (.int .u32 d) ∧ w.cell? ⟨rb, 1, none⟩ = some (.int .i32 l) ∧ w.cell? ⟨rb, 3, none⟩ = some r ∧ w.cell? ⟨rb, 4, none⟩ = some o ∧ (∀ j, w.frozen? ⟨rb, j, none⟩ = false) ∧ rb < w.heap.size :=
  ⟨cell_of_row _ _ _ _ _ _ h, cell_of_row _ _ _ _ _ _ h, cell_of_row _ _ _ _ _ _ h, cell_of_row _ _ _ _ _ _ h, fun j => frozen_of_row _ _ _ _ _ h, blk_lt h⟩
/-- A table of signs stands beside a store into another block. -/
theorem RepW.set {w : World} {bb rb : Nat} (h : RepW w bb) {d l : Int} {s r o : Value} (hr : w.heap[rb]? = some (.cells (repRow d l s r o) 65 (0, 0))) (j : Nat) (u : Value) : RepW (w.setCell ⟨rb, j, none⟩ u) bb := by
  obtain ⟨tb, cap, h1, h2, h3⟩ := h.list
  have hb : bb ≠ rb := by
    rintro rfl
    rw [cell_of_row _ _ _ _ _ _ hr] at h2
    cases h2
  have ht : tb ≠ rb := by
    rintro rfl
    have := h3 0 _ rfl
    rw [cell_of_row _ _ _ _ _ _ hr] at this
    cases this
  have oth : ∀ k, k ≠ rb → (w.setCell ⟨rb, j, none⟩ u).heap[k]? = w.heap[k]? := fun k hk => heap_setCell_other w _ _ _ hk
  have hc : ∀ k x, k ≠ rb → (w.setCell ⟨rb, j, none⟩ u).cell? ⟨k, x, none⟩ = w.cell? ⟨k, x, none⟩ := fun k x hk => World.cell?_of_block (oth k hk)
  exact ⟨by have := h.lt; simpa [World.setCell] using this, ⟨tb, cap, by simpa [World.setCell] using h1, (hc _ _ hb).trans h2, fun q p hp => (hc _ _ ht).trans (h3 q p hp)⟩,
    fun c => (h.tab c).keep (hc _ _ hb) (fun nb cs fz hn => oth nb (blk_ne hn hr (by decide)))⟩
theorem RepW.drew {w : World} {bb : Nat} (h : RepW w bb) : RepW w.drew bb := ⟨h.lt, h.list, h.tab⟩
def Made (w : World) (rb : Nat) (d l : Int) (s : Value) (w' : World) : Prop :=
  ∃ bb, w'.heap[rb]? = some (.cells (repRow d l s (.iface 103 (.pointer (some ⟨bb, 0, none⟩))) (.slice none 0 0)) 65 (0, 0)) ∧ RepW w' bb ∧ ∀ B, B ≤ rb → B ≤ w.heap.size → Below B w w'
set_option maxHeartbeats 4000000 in
set_option maxRecDepth 100000 in
theorem buildOnce_any (w : World) (rb ob cap : Nat) (d l : Int) (s r : Value) (hrow : w.heap[rb]? = some (.cells (repRow d l s r (.slice (some ⟨ob, 0, none⟩) 8 cap)) 65 (0, 0)))
    (hs : ∀ (i : Nat) (v : Value), olds[i]? = some v → w.cell? ⟨ob, i, none⟩ = some v) :
    Calls Tryz.prog 32 #[.pointer (some ⟨rb, 0, none⟩)] w fun e w' => e = .returned (.tuple #[]) ∧ Made w rb d l s w' := by
  obtain ⟨c0, c1, c3, c4, cf, zr⟩ := repRow_at _ _ _ _ _ _ _ hrow
  have hB := build_any w rb ob cap c4 hs
  have HROW := Lib.hid hrow
  clear hrow hs c0 c1 c3 c4 cf
  go_enter Tryz.func32, Tryz.ntmps32
  go_wp2_with fail
  refine hB.mono ?_
  rintro e w1 ⟨bb, tv, rfl, hw1⟩
  have hr1 := (hw1.bel.block rb zr).trans HROW.out
  have HW1 := Lib.hid hw1
  obtain ⟨c0, c1, c3, c4, cf, zr1⟩ := repRow_at _ _ _ _ _ _ _ hr1
  have c3' : (w1.setCell ⟨rb, 3, none⟩ (.iface 103 (.pointer (some ⟨bb, 0, none⟩)))).cell? ⟨rb, 4, none⟩ = some (.slice (some ⟨ob, 0, none⟩) 8 cap) := (World.cell?_setCell_other _ ⟨rb, 3, none⟩ ⟨rb, 4, none⟩ _ (by simp)).trans c4
  have HR1 := Lib.hid hr1
  clear hr1 hw1 hB
  go_wp2
  go_end0
  refine ⟨rfl, bb, ?_, ?_, fun B h1 h2 => ((HW1.out.bel.mono h2).setCell (p := ⟨rb, 3, none⟩) h1 _).setCell (p := ⟨rb, 4, none⟩) h1 _⟩
  · have h1 := heap_setCell_same w1 rb 3 _ _ (.iface 103 (.pointer (some ⟨bb, 0, none⟩))) HR1.out
    have h2 := heap_setCell_same _ rb 4 _ _ (.slice none 0 0) h1
    exact h2
  · have h1 := heap_setCell_same w1 rb 3 _ _ (.iface 103 (.pointer (some ⟨bb, 0, none⟩))) HR1.out
    exact (HW1.out.rep.set HR1.out 3 _).set (d := d) (l := l) (s := s) (r := .iface 103 (.pointer (some ⟨bb, 0, none⟩))) (o := .slice (some ⟨ob, 0, none⟩) 8 cap) h1 4 _
theorem method_rep (bb : Nat) (w : World) : (method 300 103 (.pointer (some ⟨bb, 0, none⟩)) "Replace").run Tryz.prog w = .ok (148, .pointer (some ⟨bb, 0, none⟩)) w := by kernel_rfl
theorem Made.once {w w' : World} {rb : Nat} {d l : Int} {s : Value} (h : Made w rb d l s w') (d' l' : Int) : Made w rb d' l' s ((w'.drew.setCell ⟨rb, 0, none⟩ (.int .u32 d')).setCell ⟨rb, 1, none⟩ (.int .i32 l')) := by
  obtain ⟨bb, h1, h2, h3⟩ := h
  have e1 := heap_setCell_same w'.drew rb 0 _ _ (.int .u32 d') h1
  have e2 := heap_setCell_same _ rb 1 _ _ (.int .i32 l') e1
  exact ⟨bb, e2, (h2.drew.set (w := w'.drew) h1 0 _).set (d := d') (l := l) (s := s) (r := .iface 103 (.pointer (some ⟨bb, 0, none⟩))) (o := .slice none 0 0) e1 1 _,
    fun B b1 b2 => (((h3 B b1 b2).drew).setCell (p := ⟨rb, 0, none⟩) b1 _).setCell (p := ⟨rb, 1, none⟩) b1 _⟩
set_option maxHeartbeats 4000000 in
set_option maxRecDepth 100000 in
theorem repReplace_any (w : World) (rb ob cap : Nat) (s : ByteArray) (hs1 : s.size ≤ 1000000) (se r : Value) (hrow : w.heap[rb]? = some (.cells (repRow 0 0 se r (.slice (some ⟨ob, 0, none⟩) 8 cap)) 65 (0, 0)))
    (hs : ∀ (i : Nat) (v : Value), olds[i]? = some v → w.cell? ⟨ob, i, none⟩ = some v) (hob : ob ≠ rb) :
    Calls Tryz.prog 16 #[.pointer (some ⟨rb, 0, none⟩), .string s] w fun e w' => e = .returned (.string ⟨(html s.data.toList).toArray⟩) ∧ ∀ B, B ≤ rb → B ≤ w.heap.size → Below B w w' := by
  obtain ⟨c0, c1, c3, c4, cf, zr⟩ := repRow_at _ _ _ _ _ _ _ hrow
  have e1 := heap_setCell_same w rb 1 _ _ (.int .i32 1) hrow
  have hbo := buildOnce_any (w.setCell ⟨rb, 1, none⟩ (.int .i32 1)) rb ob cap 0 1 se r e1 (fun i v hv => (World.cell?_of_block (heap_setCell_other w _ _ _ hob)).trans (hs i v hv))
  have hd := do_first rb (.pointer (some ⟨rb, 0, none⟩)) (Made (w.setCell ⟨rb, 1, none⟩ (.int .i32 1)) rb 0 1 se) w c0 c1 (cf 1) (fun w1 h => by
    obtain ⟨bb, h1, _⟩ := h
    obtain ⟨c0, c1, _, _, cf, _⟩ := repRow_at _ _ _ _ _ _ _ h1
    exact ⟨c0, c1, cf 0, cf 1⟩) hbo
  clear hbo e1 hs hrow c0 c1 c3 c4 cf
  go_enter Tryz.func16, Tryz.ntmps16
  go_wp2_with fail
  refine hd.mono ?_
  rintro e w2 ⟨rfl, w1, hM, rfl⟩
  have hM2 := hM.once 1 0
  clear hM hd
  generalize (w1.drew.setCell ⟨rb, 0, none⟩ (.int .u32 1)).setCell ⟨rb, 1, none⟩ (.int .i32 0) = w2 at hM2 ⊢
  obtain ⟨bb, h1, h2, h3⟩ := hM2
  obtain ⟨c0, c1, c3, c4, cf, zr2⟩ := repRow_at _ _ _ _ _ _ _ h1
  have hR := replace_any w2 bb s hs1 h2
  have H3 : Hid (∀ B, B ≤ rb → B ≤ w.heap.size → Below B w w2) := Lib.hid (fun B b1 b2 => ((Below.refl B w).setCell (p := ⟨rb, 1, none⟩) b1 _).trans (h3 B b1 (by simpa [World.setCell] using b2)))
  clear h1 h2 h3 c0 c1 c4
  have hmt := method_rep bb
  go_wp2_with (go_at_call 148; refine hR.mono ?_; rintro e w3 ⟨rfl, hb3⟩)
  go_ret
  exact ⟨rfl, fun B b1 b2 => (H3.out B b1 b2).trans (hb3.mono (Nat.le_trans b2 (H3.out B b1 b2).size))⟩

theorem nil_own (w : World) : w.ownsRow w.heap.size 9 1 (.slice none 0 0) 0 [] := World.ownsRow_nil _ _ _ _
def NewRes (w : World) (e : Ending) (w' : World) : Prop :=
  ∃ rb ob cap se r, e = .returned (.pointer (some ⟨rb, 0, none⟩)) ∧ w.heap.size ≤ rb ∧ w'.heap[rb]? = some (.cells (repRow 0 0 se r (.slice (some ⟨ob, 0, none⟩) 8 cap)) 65 (0, 0)) ∧ ob ≠ rb ∧ (∀ (i : Nat) (v : Value), olds[i]? = some v → w'.cell? ⟨ob, i, none⟩ = some v) ∧ Below w.heap.size w w'
set_option maxHeartbeats 4000000 in
set_option maxRecDepth 100000 in
theorem newReplacer_any (w : World) (sb : Nat) (hs : ∀ (i : Nat) (v : Value), olds[i]? = some v → w.cell? ⟨sb, i, none⟩ = some v) :
    Calls Tryz.prog 15 #[.slice (some ⟨sb, 0, none⟩) 8 8] w (NewRes w) := by
  obtain ⟨i0, hi0, hq⟩ := Option.map_eq_some_iff.1 info_str
  obtain ⟨hz0, hz1, hz2⟩ : i0.zero = some (.string ⟨#[]⟩) ∧ i0.size = 1 ∧ i0.bytes = 16 := by simpa [Prod.ext_iff] using hq
  have HS := Lib.hid hs
  clear hs hq
  go_enter Tryz.func15, Tryz.ntmps15
  go_wp2_with (at_builtin; refine wpList_append_own _ rfl _ _ 49 rfl w.heap.size 9 i0 (.string ⟨#[]⟩) 1 16 Tryz.underlying49 hi0 hz0 hz1 hz2 rfl (by decide) (.slice none 0 0) 0 [] rfl (nil_own w) ⟨sb, 0, none⟩ 8 8 olds rfl rfl ?c1 ?c2 ?c3 ?c4 ?c5 ?_)
  case c1 => intro j u hu; rw [addr_add]; exact HS.out j u hu
  case c2 => decide
  case c3 => decide
  case c4 => decide
  case c5 => exact Nat.le_refl _
  intro v' w7 hown7 hgrow7 _
  have hb7 : Below w.heap.size w w7 := (Below.refl _ _).grown hgrow7 (Nat.le_refl _) (by simp [Value.ownBlock])
  obtain ⟨ob, cap, rfl, hlt⟩ : ∃ ob cap, v' = .slice (some ⟨ob, 0, none⟩) 8 cap ∧ ob < w7.heap.size := by
    rcases hown7.2 with ⟨_, h0⟩ | ⟨g, cap, cur, rfl, _, hg, _⟩
    · cases h0
    · exact ⟨g, cap, rfl, blk_lt hg⟩
  have hat : ∀ (i : Nat) (v : Value), olds[i]? = some v → w7.cell? ⟨ob, i, none⟩ = some v := fun i v hv => by
    have h := hown7.cells rfl i v hv
    rwa [addr_add] at h
  have HAT := Lib.hid hat
  have HB := Lib.hid hb7
  clear hown7 hgrow7 hat hb7
  go_wp2
  go_ret
  refine ⟨w7.heap.size, ob, cap, _, _, rfl, HB.out.size, heap_alloc_new w7 _, by omega, fun i v hv => (World.cell?_alloc_lt w7 _ ⟨ob, i, none⟩ hlt).trans (HAT.out i v hv), HB.out.alloc HB.out.size _⟩

set_option maxHeartbeats 4000000 in
set_option maxRecDepth 100000 in
theorem html_any (s : ByteArray) (w : World) (hs : s.size ≤ 1000000) : Calls Tryz.prog 6 #[.string s] w fun e w' => e = .returned (.string ⟨(html s.data.toList).toArray⟩) ∧ Below w.heap.size w w' := by
  go_enter Tryz.func6, Tryz.ntmps6
  go_wp2_with fail
  refine (newReplacer_any _ w.heap.size ?_).mono ?_
  · intro i v hv
    rw [cell_of_row _ _ _ _ _ _ (heap_alloc_new w _), ← Array.getElem?_toList]
    exact hv
  rintro e w2 ⟨rb, ob, cap, se, r, rfl, h1, h2, h3, h4, h5⟩
  have hR := repReplace_any w2 rb ob cap s hs se r h2 h4 h3
  have hge : w.heap.size ≤ rb := by simp at h1; omega
  have H5 : Hid (Below w.heap.size w w2) := Lib.hid (((Below.refl w.heap.size w).alloc (Nat.le_refl _) _).trans (h5.mono (by simp)))
  clear h1 h2 h3 h4 h5
  go_wp2_with fail
  refine hR.mono ?_
  rintro e w3 ⟨rfl, h6⟩
  have H6 := Lib.hid (h6 w.heap.size hge H5.out.size)
  clear hR h6
  go_wp2
  go_ret
  exact ⟨rfl, H5.out.trans H6.out⟩
end Go.Proofs.YtipbmagondoooaaGreatDoor
