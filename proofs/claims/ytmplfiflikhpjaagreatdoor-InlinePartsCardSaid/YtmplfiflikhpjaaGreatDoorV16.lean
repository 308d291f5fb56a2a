/-
  Texts of one proof, joined: MeH.
-/
import Derived.Test.YtmplfiflikhpjaaGreatDoorV02
import Derived.Test.YtmplfiflikhpjaaGreatDoorV15
import Derived.BigQuiet
/-
  inline's parser: step.
-/
namespace Go.Proofs.YtmplfiflikhpjaaGreatDoor
open Go.RowKit

/-- What one step makes. -/
def StepTo (w0 : World) (pb : Nat) (s : ByteArray) (k : Nat) (r : Nat × List Spec.Piece) (v3 : Value) (wc : World) : Prop := v3 = .int .i64 (r.1 : Int) ∧ ∃ v' ps', PSt w0 wc pb s k v' ps' r.2
theorem u8_of {c d : UInt8} (h : (c.toNat : Int) = (d.toNat : Int)) : c = d := UInt8.toNat_inj.1 (by omega)
theorem alloc_swap {w : World} {o : Obj} {p : Addr} {x : Option Value} (h : (w.alloc o).cell? p = x) (hp : p.block < w.heap.size) (o' : Obj) : (w.alloc o').cell? p = x := by
  rw [World.cell?_alloc_lt w o' p hp, ← World.cell?_alloc_lt w o p hp, h]
theorem below_swap {B : Nat} {a w : World} {o : Obj} (h : Below B a (w.alloc o)) (hB : B ≤ w.heap.size) (o' : Obj) (ha : a.heap.size ≤ w.heap.size) : Below B a (w.alloc o') :=
  ⟨h.os, h.tape, h.output, Nat.le_trans ha (by simp), fun k hk => (Below.heap_alloc w o' k (by omega)).trans ((Below.heap_alloc w o k (by omega)).symm.trans (h.block k hk))⟩
theorem new_in {w w5 : World} {o : Obj} (hb5 : Below (w.alloc o).heap.size (w.alloc o) w5) : w5.heap[w.heap.size]? = some o := (hb5.block _ (by simp)).trans (heap_alloc_new _ _)
theorem new_in2 {w w5 : World} {o : Obj} (hb5 : Below (w.alloc o).drew.heap.size (w.alloc o).drew w5) : w5.heap[w.heap.size]? = some o := (hb5.block _ (show w.heap.size < (w.alloc o).heap.size by simp)).trans (heap_alloc_new _ _)
theorem store4_row {w : World} {q : Nat} {a0 a1 a2 a3 : Value} {t : TypeId} (v0 v1 v2 v3 : Value) (hq : w.heap[q]? = some (.cells #[a0, a1, a2, a3] t (0, 0))) :
    ((((w.setCell ⟨q, 0, none⟩ v0).setCell ⟨q, 1, none⟩ v1).setCell ⟨q, 2, none⟩ v2).setCell ⟨q, 3, none⟩ v3).heap[q]? = some (.cells #[v0, v1, v2, v3] t (0, 0)) := by
  have h0 : (w.setCell ⟨q, 0, none⟩ v0).heap[q]? = some (.cells #[v0, a1, a2, a3] t (0, 0)) := (heap_setCell_same _ q 0 _ t v0 hq).trans (by simp)
  have h1 : ((w.setCell ⟨q, 0, none⟩ v0).setCell ⟨q, 1, none⟩ v1).heap[q]? = some (.cells #[v0, v1, a2, a3] t (0, 0)) := (heap_setCell_same _ q 1 _ t v1 h0).trans (by simp)
  have h2 : (((w.setCell ⟨q, 0, none⟩ v0).setCell ⟨q, 1, none⟩ v1).setCell ⟨q, 2, none⟩ v2).heap[q]? = some (.cells #[v0, v1, v2, a3] t (0, 0)) := (heap_setCell_same _ q 2 _ t v2 h1).trans (by simp)
  exact (heap_setCell_same _ q 3 _ t v3 h2).trans (by simp)
theorem store4_keep {w : World} {nb pb j : Nat} {x : Option Value} (v0 v1 v2 v3 : Value) (hc : w.cell? ⟨pb, j, none⟩ = x) (hne : pb ≠ nb) : ((((w.setCell ⟨nb, 0, none⟩ v0).setCell ⟨nb, 1, none⟩ v1).setCell ⟨nb, 2, none⟩ v2).setCell ⟨nb, 3, none⟩ v3).cell? ⟨pb, j, none⟩ = x := by
  have hh : ((((w.setCell ⟨nb, 0, none⟩ v0).setCell ⟨nb, 1, none⟩ v1).setCell ⟨nb, 2, none⟩ v2).setCell ⟨nb, 3, none⟩ v3).heap[pb]? = w.heap[pb]? :=
    (heap_setCell_other _ ⟨nb, 3, none⟩ pb v3 hne).trans ((heap_setCell_other _ ⟨nb, 2, none⟩ pb v2 hne).trans ((heap_setCell_other _ ⟨nb, 1, none⟩ pb v1 hne).trans (heap_setCell_other _ ⟨nb, 0, none⟩ pb v0 hne)))
  exact (World.cell?_of_block (a := ⟨pb, j, none⟩) hh).trans hc
theorem store4_below {B : Nat} {a w : World} {nb : Nat} (v0 v1 v2 v3 : Value) (h : Below B a w) (hB : B ≤ nb) : Below B a ((((w.setCell ⟨nb, 0, none⟩ v0).setCell ⟨nb, 1, none⟩ v1).setCell ⟨nb, 2, none⟩ v2).setCell ⟨nb, 3, none⟩ v3) :=
  below_set (below_set (below_set (below_set h _ _ _ hB) _ _ _ hB) _ _ _ hB) _ _ _ hB
theorem mark_lt {w : World} {B : Nat} {ps : List PV} {ss : List Spec.Piece} (h : Fit (PRep w B) ps ss) : ∀ q ∈ ps, ∀ m, q.mark = some m → m < B := by
  intro q hq m hm
  obtain ⟨i, hi⟩ := List.mem_iff_getElem?.1 hq
  obtain ⟨z, _, hr⟩ := h.at_ hi
  have := hr.mark
  cases hz : z.mark with
  | none => rw [hz] at this; rw [hm] at this; cases this
  | some x =>
    rw [hz] at this
    obtain ⟨mb, h1, h2, _⟩ := this
    rw [hm] at h1
    obtain rfl := Option.some.inj h1
    exact h2
theorem trimS_run (l : List UInt8) (c : UInt8) : (Lib.trimLeftS l [c]).length + Spec.run l c = l.length := by
  unfold Lib.trimLeftS Spec.run
  have e : (fun b => [c].contains b) = (fun b => b == c) := by funext b; rw [Bool.eq_iff_iff]; simp
  rw [e]
  have := congrArg List.length (List.takeWhile_append_dropWhile (p := (· == c)) (l := l))
  rw [List.length_append] at this
  omega

set_option maxHeartbeats 32000000 in
set_option maxRecDepth 100000 in
theorem stepN_any (w0 w : World) (pb : Nat) (s : ByteArray) (k : Nat) (v : Value) (ps : List PV) (ss : List Spec.Piece) (h : PSt w0 w pb s k v ps ss) (hk : k < s.size) (hs : s.size ≤ 20000) (hT : TabsM w0) (hG : Pl.PG s.data.toList k ss) (hR : Pl.RawK ss) (r : Nat × List Spec.Piece) (hr : r = Pl.stepAt s.data.toList k ss) (hn42 : s.data.toList[k]? ≠ some 42) (hn95 : s.data.toList[k]? ≠ some 95) :
    Calls Tryz.prog 26 #[.pointer (some ⟨pb, 0, none⟩)] w (fun e w' => e = .returned (.tuple #[]) ∧ ∃ v' ps', PSt w0 w' pb s (k + r.1) v' ps' r.2) := by
  have H := Lib.hid h
  have p0 := h.p0
  have p1 := h.p1
  have zpb := h.lt
  have hki : (k : Int) < s.size := by omega
  have hks : (k : Int) ≤ s.size := by omega
  have hk0 : (0 : Int) ≤ k := by omega
  obtain ⟨u, hu⟩ : ∃ u, u = s.extract k s.size := ⟨_, rfl⟩
  have hu0 : 0 < u.size := by rw [hu, ByteArray.size_extract]; omega
  have hul : u.size ≤ 20000 := by rw [hu, ByteArray.size_extract]; omega
  have hud : u.data.toList = s.data.toList.drop k := by rw [hu, drop_text s k (by omega)]
  obtain ⟨t, hut⟩ : ∃ t, u.data.toList = u[0] :: t := by
    have := head_cons u hu0
    exact ⟨_, this⟩
  have hlen : ps.length ≤ 20000 := by have := h.fit.1; have := hG.lenk; omega
  have hX : Short ss := fun p hp hr hk => by
    have hm : p ∈ ss := List.mem_of_getLast? hp
    have h1 := wt_mem ss p hm
    have h2 := hG.wtk
    have h3 : Pl.wt p = p.node.text.length := by
      unfold Pl.wt
      rw [Pl.raw_unmarked hG p hm hr, if_pos hk]
    omega
  have HP := Lib.hid (And.intro hT (And.intro hG (And.intro hR (And.intro hX hlen))))
  have HR := Lib.hid hr
  have HU := Lib.hid (And.intro hud hu)
  clear h hT hG hR hX hr hud
  go_enter Tryz.func26, Tryz.ntmps26
  go_wp2_with fail
  go_quiet (fail)
  rw [← hu]
  have h1 : PSt w0 (w.drewN nq) pb s k v ps ss := H.out.below (below_drewN2 (Below.refl _ _) nq)
  generalize w.drewN nq = w1 at h1 ⊢
  obtain ⟨i0, hi0, hz0, hz1, hz2⟩ := info_parts info_piece
  obtain ⟨vA, vc, rfl⟩ := row_slice h1.own
  have H1 := Lib.hid h1
  have p1 := h1.p1
  have f1 := h1.fz 1
  have zpb := h1.lt
  clear hu H p0 h1
  go_upto_block 0 with fail
  go_cut [3, 4, 5, 6, 17] (fun v3 v4 v5 v6 v17 wc => StepTo w0 pb s k r v3 wc)
  case first =>
    go_upto_region 5 with fail
    generalize hx : ((u[0]).toNat : Int) = x
    by_cases e92 : x = 92
    · subst e92
      have hc : u[0] = 92 := u8_of hx
      rw [hc] at hut
      have hS := strokeM_any w0 w1 pb s k _ ps ss u t H1.out (by have := HP.out.2.2.2.2; omega) (by omega) hut HP.out.2.2.2.1
      have hrr : r = strokeP t ss := by rw [HR.out]; unfold Pl.stepAt; rw [← HU.out.1, hut]; rfl
      have HRR := Lib.hid hrr
      clear hc hut hx hrr p1 f1
      go_wp2_with fail
      refine hS.mono ?_
      rintro e w2 ⟨rfl, hp⟩
      have HQ := Lib.hid hp
      clear hp hS
      go_wp2_with fail
      go_meet
      unfold StepTo
      rw [HRR.out]
      exact ⟨rfl, HQ.out⟩
    by_cases e96 : x = 96
    · subst e96
      have hc : u[0] = 96 := u8_of hx
      rw [hc] at hut
      have hS := codeM_any w0 w1 pb s k _ ps ss u H1.out (by have := HP.out.2.2.2.2; omega) (by omega) HP.out.1 HP.out.2.2.2.1
      rw [hut] at hS
      have hrr : r = codeP (96 :: t) ss := by rw [HR.out]; unfold Pl.stepAt; rw [← HU.out.1, hut]; rfl
      have HRR := Lib.hid hrr
      clear hc hut hx hrr p1 f1
      go_wp2_with fail
      refine hS.mono ?_
      rintro e w2 ⟨rfl, hp⟩
      have HQ := Lib.hid hp
      clear hp hS
      go_wp2_with fail
      go_meet
      unfold StepTo
      rw [HRR.out]
      exact ⟨rfl, HQ.out⟩
    by_cases e60 : x = 60
    · subst e60
      have hc : u[0] = 60 := u8_of hx
      rw [hc] at hut
      have hS := autoM_any w0 w1 pb s k _ ps ss u H1.out (by have := HP.out.2.2.2.2; omega) (by omega) HP.out.1 HP.out.2.2.2.1
      rw [hut] at hS
      have hrr : r = autoP (60 :: t) ss := by rw [HR.out]; unfold Pl.stepAt; rw [← HU.out.1, hut]; rfl
      have HRR := Lib.hid hrr
      clear hc hut hx hrr p1 f1
      go_wp2_with fail
      refine hS.mono ?_
      rintro e w2 ⟨rfl, hp⟩
      have HQ := Lib.hid hp
      clear hp hS
      go_wp2_with fail
      go_meet
      unfold StepTo
      rw [HRR.out]
      exact ⟨rfl, HQ.out⟩
    by_cases e38 : x = 38
    · subst e38
      have hc : u[0] = 38 := u8_of hx
      rw [hc] at hut
      have hS := at_any u w1 (by omega) (HP.out.1.old H1.out.bel).tabs
      obtain ⟨ct, hct⟩ : ∃ ct : List UInt8, ct = (Spec.ent u.data.toList).1 := ⟨_, rfl⟩
      obtain ⟨cn, hcn⟩ : ∃ cn : Nat, cn = (Spec.ent u.data.toList).2 := ⟨_, rfl⟩
      have hres : entRes (Spec.ent u.data.toList) = .tuple #[.string ⟨ct.toArray⟩, .int .i64 (cn : Int)] := by unfold entRes; rw [hct, hcn]
      rw [hres] at hS
      have hcs : ct.length ≤ 1000000 := by
        have h1 := Pl.ent_small u.data.toList
        have h2 := Pl.ent_le u.data.toList
        rw [← Lib.size_eq] at h2
        rw [hct]
        omega
      have hrr : r = if 0 < cn then (cn, Spec.addText ss ct false) else (1, Spec.addText ss [38] true) := by rw [HR.out, hct, hcn]; unfold Pl.stepAt; rw [← HU.out.1, hut]; rfl
      have HRR := Lib.hid hrr
      clear hc hut hx hrr p1 f1 hct hcn hres
      by_cases h0 : 0 < cn
      · have h0i : (0 : Int) < cn := by omega
        go_wp2_with fail
        refine hS.mono ?_
        rintro e w2 ⟨rfl, hb⟩
        have hL := text_any w0 w2 pb s k _ ps ss ⟨ct.toArray⟩ false (H1.out.below hb) (by have := HP.out.2.2.2.2; omega) (by rw [Lib.size_eq]; exact hcs) HP.out.2.2.2.1
        clear hS hb hcs
        go_wp2_with fail
        refine hL.mono ?_
        rintro e w3 ⟨rfl, hp⟩
        have HQ := Lib.hid hp
        clear hp hL
        go_wp2_with fail
        go_meet
        unfold StepTo
        rw [HRR.out, if_pos h0]
        exact ⟨rfl, HQ.out⟩
      · have h0i : ¬ (0 : Int) < cn := by omega
        go_wp2_with fail
        refine hS.mono ?_
        rintro e w2 ⟨rfl, hb⟩
        have hL := text_any w0 w2 pb s k _ ps ss ⟨#[38]⟩ true (H1.out.below hb) (by have := HP.out.2.2.2.2; omega) (by decide) HP.out.2.2.2.1
        clear hS hb hcs
        go_wp2_with fail
        refine hL.mono ?_
        rintro e w3 ⟨rfl, hp⟩
        have HQ := Lib.hid hp
        clear hp hL
        go_wp2_with fail
        go_meet
        unfold StepTo
        rw [HRR.out, if_neg h0]
        exact ⟨rfl, HQ.out⟩
    by_cases e93 : x = 93
    · subst e93
      have hc : u[0] = 93 := u8_of hx
      rw [hc] at hut
      have hS := bracketM_any w0 w1 pb s k _ ps ss u t H1.out (by have := HP.out.2.2.2.2; omega) (by omega) hut HP.out.1 HP.out.2.2.2.1 HP.out.2.1.apt HP.out.2.1.fresh (by have := HP.out.2.1.wtk; omega)
      have hrr : r = Spec.bracket t ss := by rw [HR.out]; unfold Pl.stepAt; rw [← HU.out.1, hut]; rfl
      have HRR := Lib.hid hrr
      clear hc hut hx hrr p1 f1
      go_wp2_with fail
      refine hS.mono ?_
      rintro e w2 ⟨rfl, hp⟩
      have HQ := Lib.hid hp
      clear hp hS
      go_wp2_with fail
      go_meet
      unfold StepTo
      rw [HRR.out]
      exact ⟨rfl, HQ.out⟩
    by_cases e10 : x = 10
    · subst e10
      have hc : u[0] = 10 := u8_of hx
      rw [hc] at hut
      have hS := endM_any w0 w1 pb s k _ ps ss u t H1.out (by have := HP.out.2.2.2.2; omega) (by omega) hut HP.out.2.2.2.1 HP.out.2.2.1
      have hrr : r = Spec.newline t ss := by rw [HR.out]; unfold Pl.stepAt; rw [← HU.out.1, hut]; rfl
      have HRR := Lib.hid hrr
      clear hc hut hx hrr p1 f1
      go_wp2_with fail
      refine hS.mono ?_
      rintro e w2 ⟨rfl, hp⟩
      have HQ := Lib.hid hp
      clear hp hS
      go_wp2_with fail
      go_meet
      unfold StepTo
      rw [HRR.out]
      exact ⟨rfl, HQ.out⟩
    by_cases e33 : x = 33
    · subst e33
      have hc : u[0] = 33 := u8_of hx
      rw [hc] at hut
      have hP := fun W => Tryz.strings_HasPrefix u ⟨#[33, 91]⟩ W
      have hrr : r = if t.head? = some 91 then (2, ss ++ [⟨Spec.txt [33, 91], false, none, 0, true, true, false⟩]) else (1, Spec.addText ss [33] true) := by rw [HR.out]; unfold Pl.stepAt; rw [← HU.out.1, hut]; rfl
      have HRR := Lib.hid hrr
      have hoc := H1.out.own
      have zb := H1.out.bel.size
      have p2 := H1.out.p2
      by_cases h0 : t.head? = some 91
      · have hp : Lib.hasPrefix u.data.toList [33, 91] = true := by
          rw [hut]
          cases t with
          | nil => cases h0
          | cons c t => obtain rfl := Option.some.inj h0; rfl
        have hP : Calls Tryz.prog 60 #[.string u, .string ⟨#[33, 91]⟩] w1 fun e w' => e = .returned (.bool true) ∧ w1 = w' := (hP w1).mono fun e w' h => ⟨by rw [h.1]; show Ending.returned (.bool (Lib.hasPrefix u.data.toList [33, 91])) = _; rw [hp], h.2.symm⟩
        clear hp hc hut hx hrr p1 f1
        go_wp2_with fail
        refine hP.mono ?_
        rintro e w2 ⟨rfl, rfl⟩
        clear hP
        go_wp2_with (at_builtin; refine wpList_append_own _ rfl (.tmp 103) (.tmp 106) 44 rfl w0.heap.size 67 i0 zeroPiece 14 128 Tryz.underlying44 hi0 hz0 hz1 hz2 rfl (by decide) (.slice vA ps.length vc) ps.length (pvRow ps) rfl (hoc.alloc _) ⟨w1.heap.size, 0, none⟩ 1 1 (PV.mk 10 ⟨#[33, 91]⟩ ⟨#[]⟩ ⟨#[]⟩ (.slice none 0 0) false none 0 true true false).cells rfl rfl ?a1 ?a2 ?a3 ?a4 ?a5 ?_)
        case a1 => exact cells_new _ _ _
        case a2 => exact one_pv _ ⟨_, _, _, rfl⟩
        case a3 => have := HP.out.2.2.2.2; unfold maxLen; omega
        case a4 => have := HP.out.2.2.2.2; omega
        case a5 => exact le_alloc zb _
        intro v2 w2 hI2 hgrow _
        have hbel : Below w1.heap.size w1 (w1.alloc (.cells (PV.mk 10 ⟨#[33, 91]⟩ ⟨#[]⟩ ⟨#[]⟩ (.slice none 0 0) false none 0 true true false).cells.toArray 67)) := (Below.refl _ _).alloc (Nat.le_refl _) _
        have hcc := H1.out.below hbel
        have hb7 := grown_far (hoc.alloc _) hgrow hcc.blk (by decide)
        have q2 : w2.cell? ⟨pb, 2, none⟩ = some (.slice vA ps.length vc) := cell_of_row _ _ _ _ _ _ hb7
        have qz : w2.frozen? ⟨pb, 2, none⟩ = false := frozen_of_row _ _ _ _ _ hb7
        have hs := hcc.snoc (p := PV.mk 10 ⟨#[33, 91]⟩ ⟨#[]⟩ ⟨#[]⟩ (.slice none 0 0) false none 0 true true false) (sp := ⟨Spec.txt [33, 91], false, none, 0, true, true, false⟩) ⟨rfl, rfl, rfl, rfl, .empty _ _, rfl, rfl, rfl, rfl, rfl, rfl⟩ (fun m hm => by cases hm) hI2 hgrow
        have HS := Lib.hid hs
        obtain ⟨v2A, v2c, rfl⟩ := row_slice hI2
        clear hI2 hgrow hb7 hcc hbel hs hoc
        go_wp2_with fail
        go_meet
        unfold StepTo
        rw [HRR.out, if_pos h0]
        exact ⟨rfl, _, _, HS.out⟩
      · have hp : Lib.hasPrefix u.data.toList [33, 91] = false := by
          rw [hut]
          cases t with
          | nil => rfl
          | cons c t =>
            have hc : c ≠ 91 := fun e => h0 (by rw [e]; rfl)
            simp [Lib.hasPrefix, List.isPrefixOf, Ne.symm hc]
        have hP : Calls Tryz.prog 60 #[.string u, .string ⟨#[33, 91]⟩] w1 fun e w' => e = .returned (.bool false) ∧ w1 = w' := (hP w1).mono fun e w' h => ⟨by rw [h.1]; show Ending.returned (.bool (Lib.hasPrefix u.data.toList [33, 91])) = _; rw [hp], h.2.symm⟩
        have hL := text_any w0 w1 pb s k _ ps ss ⟨#[33]⟩ true H1.out (by have := HP.out.2.2.2.2; omega) (by decide) HP.out.2.2.2.1
        clear hp hc hut hx hrr p1 f1 hoc zb p2
        go_wp2_with fail
        refine hP.mono ?_
        rintro e w2 ⟨rfl, rfl⟩
        clear hP
        go_wp2_with fail
        refine hL.mono ?_
        rintro e w3 ⟨rfl, hp⟩
        have HQ := Lib.hid hp
        clear hp hL
        go_wp2_with fail
        go_meet
        unfold StepTo
        rw [HRR.out, if_neg h0]
        exact ⟨rfl, HQ.out⟩
    by_cases e91 : x = 91
    · subst e91
      have hc : u[0] = 91 := u8_of hx
      rw [hc] at hut
      have hrr : r = (1, ss ++ [⟨Spec.txt [91], false, none, 0, false, true, false⟩]) := by rw [HR.out]; unfold Pl.stepAt; rw [← HU.out.1, hut]; rfl
      have HRR := Lib.hid hrr
      have hoc := H1.out.own
      have zb := H1.out.bel.size
      have p2 := H1.out.p2
      clear hc hut hx hrr p1 f1
      go_wp2_with (at_builtin; refine wpList_append_own _ rfl (.tmp 118) (.tmp 121) 44 rfl w0.heap.size 67 i0 zeroPiece 14 128 Tryz.underlying44 hi0 hz0 hz1 hz2 rfl (by decide) (.slice vA ps.length vc) ps.length (pvRow ps) rfl (hoc.alloc _) ⟨w1.heap.size, 0, none⟩ 1 1 (PV.mk 10 ⟨#[91]⟩ ⟨#[]⟩ ⟨#[]⟩ (.slice none 0 0) false none 0 false true false).cells rfl rfl ?b1 ?b2 ?b3 ?b4 ?b5 ?_)
      case b1 => exact cells_new _ _ _
      case b2 => exact one_pv _ ⟨_, _, _, rfl⟩
      case b3 => have := HP.out.2.2.2.2; unfold maxLen; omega
      case b4 => have := HP.out.2.2.2.2; omega
      case b5 => exact le_alloc zb _
      intro v2 w2 hI2 hgrow _
      have hbel : Below w1.heap.size w1 (w1.alloc (.cells (PV.mk 10 ⟨#[91]⟩ ⟨#[]⟩ ⟨#[]⟩ (.slice none 0 0) false none 0 false true false).cells.toArray 67)) := (Below.refl _ _).alloc (Nat.le_refl _) _
      have hcc := H1.out.below hbel
      have hb7 := grown_far (hoc.alloc _) hgrow hcc.blk (by decide)
      have q2 : w2.cell? ⟨pb, 2, none⟩ = some (.slice vA ps.length vc) := cell_of_row _ _ _ _ _ _ hb7
      have qz : w2.frozen? ⟨pb, 2, none⟩ = false := frozen_of_row _ _ _ _ _ hb7
      have hs := hcc.snoc (p := PV.mk 10 ⟨#[91]⟩ ⟨#[]⟩ ⟨#[]⟩ (.slice none 0 0) false none 0 false true false) (sp := ⟨Spec.txt [91], false, none, 0, false, true, false⟩) ⟨rfl, rfl, rfl, rfl, .empty _ _, rfl, rfl, rfl, rfl, rfl, rfl⟩ (fun m hm => by cases hm) hI2 hgrow
      have HS := Lib.hid hs
      obtain ⟨v2A, v2c, rfl⟩ := row_slice hI2
      clear hI2 hgrow hb7 hcc hbel hs hoc
      go_wp2_with fail
      go_meet
      unfold StepTo
      rw [HRR.out]
      exact ⟨rfl, _, _, HS.out⟩
    have n1 : ((x == 92) = false) := beq_eq_false_iff_ne.2 e92
    have n2 : ((x == 96) = false) := beq_eq_false_iff_ne.2 e96
    have n3 : ((x == 60) = false) := beq_eq_false_iff_ne.2 e60
    have n4 : ((x == 38) = false) := beq_eq_false_iff_ne.2 e38
    have n5 : ((x == 33) = false) := beq_eq_false_iff_ne.2 e33
    have n6 : ((x == 91) = false) := beq_eq_false_iff_ne.2 e91
    have n7 : ((x == 93) = false) := beq_eq_false_iff_ne.2 e93
    have n8 : ((x == 10) = false) := beq_eq_false_iff_ne.2 e10
    have hu1 : (s.data.toList)[k]? = some (u[0]'hu0) := by
      have h1 : u.data.toList[0]? = some (u[0]'hu0) := by rw [hut]; rfl
      rw [HU.out.1, List.getElem?_drop, Nat.add_zero] at h1
      exact h1
    have e42 : x ≠ 42 := fun e => hn42 (by rw [hu1, u8_of (d := 42) (hx.trans e)])
    have e95 : x ≠ 95 := fun e => hn95 (by rw [hu1, u8_of (d := 95) (hx.trans e)])
    have n9 : ((x == 42) = false) := beq_eq_false_iff_ne.2 e42
    have n10 : ((x == 95) = false) := beq_eq_false_iff_ne.2 e95
    obtain ⟨n, hn⟩ : ∃ n, n = 1 + (t.takeWhile fun d => !Spec.meant.contains d).length := ⟨_, rfl⟩
    have hPl := plain_any u w1 (by omega) hu0
    rw [hut, List.drop_one, List.tail_cons, ← hn] at hPl
    have hnu : n ≤ u.size := by
      have h1 := (List.takeWhile_sublist (fun d => !Spec.meant.contains d) (l := t)).length_le
      rw [Lib.size_eq, hut, hn, List.length_cons]
      omega
    have hni : (n : Int) ≤ u.size := by omega
    have hn0 : (0 : Int) ≤ n := by omega
    have hL := text_any w0 w1 pb s k _ ps ss (u.extract 0 n) true H1.out (by have := HP.out.2.2.2.2; omega) (by rw [ByteArray.size_extract]; omega) HP.out.2.2.2.1
    rw [show (u.extract 0 n).data.toList = u.data.toList.take n by rw [pre_text]] at hL
    have ne : ∀ c : UInt8, ((x == (c.toNat : Int)) = false) → ¬ u[0] = c := fun c h e => by rw [← hx, e] at h; simp at h
    have hrr : r = (n, Spec.addText ss (u.data.toList.take n) true) := by
      have m1 := ne 92 n1
      have m2 := ne 96 n2
      have m3 := ne 60 n3
      have m4 := ne 38 n4
      have m5 := ne 33 n5
      have m6 := ne 91 n6
      have m7 := ne 93 n7
      have m8 := ne 10 n8
      have m9 := ne 42 n9
      have m10 := ne 95 n10
      rw [HR.out, hn]
      unfold Pl.stepAt
      rw [← HU.out.1, hut]
      unfold Spec.stepP
      simp only [m1, m2, m3, m4, m5, m6, m7, m8, m9, m10, if_false, or_self]
    have HRR := Lib.hid hrr
    clear ne hrr hut hx hu1 hn42 hn95 e92 e96 e60 e38 e33 e91 e93 e10 e42 e95 p1 f1 hn
    go_wp2_with fail
    refine hPl.mono ?_
    rintro e w2 ⟨rfl, rfl⟩
    clear hPl
    go_wp2_with fail
    refine hL.mono ?_
    rintro e w3 ⟨rfl, hp⟩
    have HQ := Lib.hid hp
    clear hp hL
    go_wp2_with fail
    go_meet
    unfold StepTo
    rw [HRR.out]
    exact ⟨rfl, HQ.out⟩
  obtain ⟨hv3, v', ps', hq⟩ := hcut
  subst hv3
  have HQ := Lib.hid hq
  have p1 := hq.p1
  have f1 := hq.fz 1
  have hst := Pl.stepAt_pos s.data.toList k ss (by rw [← Lib.size_eq]; exact hk)
  rw [← HR.out, ← Lib.size_eq] at hst
  have s1 : IntKind.i64.wrap ((k : Int) + (r.1 : Int)) = (k : Int) + (r.1 : Int) := IntWalk.i64_in _ (by omega)
  clear hq
  go_wp2
  have hself := HQ.out.self (k + r.1)
  rw [show ((k + r.1 : Nat) : Int) = (k : Int) + (r.1 : Int) by omega] at hself
  go_end0
  exact ⟨rfl, _, _, hself⟩
end Go.Proofs.YtmplfiflikhpjaaGreatDoor
