/-
  Texts of one proof, joined: InQ, Sl, InS, InT, InU.
-/
import Derived.Test.YtmplfiflikhpjaaGreatDoorV11
import Derived.Deep.RegionHeld
import Derived.Deep.RegionHeld3
import Derived.LaidEqlPtr
import Derived.Laws.CopyRow
import Derived.Laws.Rows
import Derived.Lib.SliceRun
import Derived.WalkKit
/-
  inline.flat, walked.
-/
namespace Go.Proofs.YtmplfiflikhpjaaGreatDoor
open Go.RowKit

theorem info_node : (Tryz.prog.info? 27).map (fun i => (i.zero, i.size, i.bytes)) = some (some (.agg #[.int .i64 0, .int .i64 0, .bool false, .bool false, .string ⟨#[]⟩, .string ⟨#[]⟩, .string ⟨#[]⟩, .slice none 0 0]), 8, 96) := by kernel_rfl
def FlatPost (B0 : Nat) (ks : List Spec.Node) (w : World) (e : Ending) (w' : World) : Prop := ∃ kv ns, e = .returned kv ∧ FlatRel w B0 ks kv ns w'
theorem conv_one (w : World) (c : UInt8) : (convert 38 9 (.slice (some ⟨w.heap.size, 0, none⟩) 1 1)).run Tryz.prog (w.alloc (.cells #[.int .u8 (c.toNat : Int)] 5)) = .ok (.string ⟨#[c]⟩) (w.alloc (.cells #[.int .u8 (c.toNat : Int)] 5)) :=
  run_convert_bytes_back (P := Tryz.prog) _ _ _ 5 ⟨w.heap.size, 0, none⟩ 1 [c] Tryz.underlying38 Tryz.underlying5 Tryz.underlying9 (by
    intro j hj
    simp at hj
    subst hj
    have h := heap_alloc_new w (.cells #[.int .u8 (c.toNat : Int)] 5)
    show World.cell? _ ⟨w.heap.size, 0, none⟩ = _
    simp only [World.cell?, h]
    rfl)
set_option maxHeartbeats 16000000 in
set_option maxRecDepth 100000 in
theorem flat_any (w : World) (B0 : Nat) (hB0 : B0 ≤ w.heap.size) (v : Value) (ps : List PV) (ss : List Spec.Piece) (hv : PRead w v ps) (hf : Fit (PRep w B0) ps ss) (hlen : ps.length ≤ 100000) (hw : Pl.wtL ss ≤ 1000000) :
    Calls Tryz.prog 67 #[v] w (FlatPost B0 (Spec.flat ss) w) := by
  obtain ⟨A, cap, rfl, hc⟩ := hv
  have HC := Lib.hid hc
  have HF := Lib.hid hf
  clear hc hf
  obtain ⟨i0, hi0, hz0, hz1, hz2⟩ := info_parts info_node
  go_enter Tryz.func67, Tryz.ntmps67
  go_wp2
  go_loopw [3, 10] (fun v3 v10 wr => ∃ (i : Nat) (ns : List NV), i ≤ ps.length ∧ v10 = .int .i64 (i : Int) ∧ Hid (FlatRel w B0 (flatTo ss i) v3 ns wr)) (fun _ v10 _ => ps.length - (intOf v10).toNat)
  case atStart => exact ⟨0, [], Nat.zero_le _, rfl, Lib.hid ⟨World.ownsRow_nil w _ _ 8, fit_nil _, Below.refl _ _⟩⟩
  case round =>
    obtain ⟨i, ns, hi, rfl, HJ⟩ := hrel
    by_cases hp : i < ps.length
    · have hpi : (i : Int) < ps.length := by omega
      obtain ⟨p, hpp⟩ : ∃ p, ps[i]? = some p := ⟨_, List.getElem?_eq_getElem hp⟩
      obtain ⟨sp, hss, hrep⟩ := HF.out.at_ hpp
      obtain ⟨b, off, rfl, hlt, hcell⟩ := HC.out (by omega)
      obtain ⟨kd, tx, ur, ti, kv, ra, mk, lf, im, no, de⟩ := p
      obtain ⟨kA, kcap, hkv⟩ := hrep.kids.len
      simp only at hkv
      subst hkv
      obtain ⟨kn, hkn⟩ : ∃ kn, kn = sp.node.kids.length := ⟨_, rfl⟩
      rw [← hkn] at hpp hrep
      clear hkn
      have hcw : ∀ (j : Nat) (u : Value), (PV.mk kd tx ur ti (.slice kA kn kcap) ra mk lf im no de).cells[j]? = some u → wr.cell? ⟨b, off + i * 14 + j, none⟩ = some u := fun j u hu => (HJ.out.bel.cell (p := ⟨b, off + i * 14 + j, none⟩) hlt).trans (hcell i _ hpp j u hu)
      have c0 := hcw 0 _ rfl
      have c1 := hcw 1 _ rfl
      have c2 := hcw 2 _ rfl
      have c3 := hcw 3 _ rfl
      have c4 := hcw 4 _ rfl
      have c5 := hcw 5 _ rfl
      have c6 := hcw 6 _ rfl
      have c7 := hcw 7 _ rfl
      have c8 := hcw 8 _ rfl
      have c9 := hcw 9 _ rfl
      have c10 := hcw 10 _ rfl
      have c11 := hcw 11 _ rfl
      have c12 := hcw 12 _ rfl
      have c13 := hcw 13 _ rfl
      rw [Nat.add_zero] at c0
      simp only at c0 c1 c2 c3 c4 c5 c6 c7 c8 c9 c10 c11 c12 c13
      unfold markPtr at c9
      obtain ⟨mo, hmo⟩ : ∃ mo : Option Addr, mo = mk.map fun b => ⟨b, 0, none⟩ := ⟨_, rfl⟩
      rw [← hmo] at c9
      have HMO := Lib.hid hmo
      clear hmo
      have HREP := Lib.hid hrep
      have HSS := Lib.hid hss
      have HPP := Lib.hid hpp
      have HMK := Lib.hid hrep.mark
      clear hcw hcell hrep hss hpp
      obtain ⟨wo, rfl⟩ : ∃ wo : World, wo = wr := ⟨_, rfl⟩
      go_upto_if 18 with fail
      go_cut [6] (fun v6 wc => ∃ (q : Nat) (nv : NV) (k2 : Option Addr) (n2 d2 : Nat), v6 = .pointer (some ⟨q, 0, none⟩) ∧ nv.kids = .slice k2 n2 d2 ∧ Hid (wo.heap.size ≤ q ∧ wc.heap[q]? = some (.cells nv.cells.toArray 27 (0, 0)) ∧ NRep w B0 nv sp.asNode ∧ Below wo.heap.size wo wc))
      case first =>
        cases hm : sp.mark with
        | none =>
          have hmk := HMK.out
          rw [hm] at hmk
          simp only at hmk
          have hmo := HMO.out
          rw [hmk] at hmo
          obtain rfl : mo = none := hmo
          have HM := Lib.hid hm
          clear hm hmk
          go_wp2
          go_meet
          refine ⟨wo.heap.size + 1, ⟨kd, tx, ur, ti, .slice kA kn kcap⟩, kA, kn, kcap, rfl, rfl, ?_⟩
          have hb : Below wo.heap.size wo ((wo.alloc (.cells #[.int .i64 (kd : Int), .int .i64 0, .bool false, .bool false, .string tx, .string ur, .string ti, .slice kA kn kcap, .bool ra, .pointer none, .int .i64 (lf : Int), .bool im, .bool no, .bool de] 67)).alloc (.cells #[.int .i64 (kd : Int), .int .i64 0, .bool false, .bool false, .string tx, .string ur, .string ti, .slice kA kn kcap] 27)) := ((Below.refl _ _).alloc (Nat.le_refl _) _).alloc (by simp) _
          refine Lib.hid ⟨by omega, heap_alloc2_new wo _ _, ?_, hb⟩
          have e : sp.asNode = sp.node := by unfold Spec.Piece.asNode; rw [HM.out]
          rw [e]
          exact HREP.out.nrep
        | some m =>
          have hmk := HMK.out
          rw [hm] at hmk
          simp only at hmk
          obtain ⟨mb, hmk, hmlt, hmrow⟩ := hmk
          have hmo := HMO.out
          rw [hmk] at hmo
          obtain rfl : mo = some ⟨mb, 0, none⟩ := hmo
          have HM := Lib.hid hm
          have hs0 : wo.cell? ⟨mb, 0, none⟩ = some (.int .u8 (m.sign.toNat : Int)) := (HJ.out.bel.cell (p := ⟨mb, 0, none⟩) (Nat.lt_of_lt_of_le hmlt hB0)).trans (cell_of_row _ _ _ _ _ _ hmrow)
          have zmb : mb < wo.heap.size := Nat.lt_of_lt_of_le hmlt (Nat.le_trans hB0 HJ.out.bel.size)
          clear hm hmk hmrow
          have hlf6 : lf ≤ 1000000 := by
            have h1 := wt_mem ss sp (List.mem_of_getElem? HSS.out)
            have h2 : Pl.wt sp = sp.left := by unfold Pl.wt; rw [HM.out]
            have h3 : lf = sp.left := HREP.out.left
            omega
          go_upto_region 7 with fail
          have hT := two_blocks wo #[.int .i64 (kd : Int), .int .i64 0, .bool false, .bool false, .string tx, .string ur, .string ti, .slice kA kn kcap, .bool ra, .pointer (some ⟨mb, 0, none⟩), .int .i64 (lf : Int), .bool im, .bool no, .bool de] #[.int .i64 (kd : Int), .int .i64 0, .bool false, .bool false, .string tx, .string ur, .string ti, .slice kA kn kcap] 67 27
          generalize (wo.alloc (.cells #[.int .i64 (kd : Int), .int .i64 0, .bool false, .bool false, .string tx, .string ur, .string ti, .slice kA kn kcap, .bool ra, .pointer (some ⟨mb, 0, none⟩), .int .i64 (lf : Int), .bool im, .bool no, .bool de] 67)).alloc (.cells #[.int .i64 (kd : Int), .int .i64 0, .bool false, .bool false, .string tx, .string ur, .string ti, .slice kA kn kcap] 27) = w3 at hT ⊢
          obtain ⟨hX, hN, hB3, hS3⟩ := hT
          have x9 : w3.cell? ⟨wo.heap.size, 9, none⟩ = some (.pointer (some ⟨mb, 0, none⟩)) := hX 9
          have x10 : w3.cell? ⟨wo.heap.size, 10, none⟩ = some (.int .i64 (lf : Int)) := hX 10
          have s0 : w3.cell? ⟨mb, 0, none⟩ = some (.int .u8 (m.sign.toNat : Int)) := (hB3.cell (p := ⟨mb, 0, none⟩) zmb).trans hs0
          have hcv : (convert 38 9 (.slice (some ⟨wo.heap.size + 1 + 1, 0, none⟩) 1 1)).run Tryz.prog (w3.alloc (.cells #[.int .u8 (m.sign.toNat : Int)] 5)).drew = .ok (.string ⟨#[m.sign]⟩) (w3.alloc (.cells #[.int .u8 (m.sign.toNat : Int)] 5)).drew := by
            have h := conv_one w3.drew m.sign
            rw [show w3.drew.heap.size = wo.heap.size + 1 + 1 from hS3] at h
            exact h
          have hrp := fun W => Tryz.strings_Repeat ⟨#[m.sign]⟩ lf W (by omega) (by show 1 * lf ≤ _; omega)
          have hN2 : ∀ o, ((w3.alloc o).drew).heap[wo.heap.size + 1]? = some (.cells #[.int .i64 (kd : Int), .int .i64 0, .bool false, .bool false, .string tx, .string ur, .string ti, .slice kA kn kcap] 27 (0, 0)) := fun o => (Below.heap_alloc w3 o _ (by omega)).trans hN
          clear hX hs0 hN
          have HN2 := Lib.hid hN2
          have hne1 : ¬ mb = wo.heap.size + 1 := by omega
          have hne2 : ¬ wo.heap.size + 1 = mb := by omega
          clear hN2
          go_region_held (fun w' => w'.cell? ⟨wo.heap.size, 9, none⟩ = some (.pointer (some ⟨mb, 0, none⟩)) ∧ w'.cell? ⟨wo.heap.size, 10, none⟩ = some (.int .i64 (lf : Int)) ∧ w'.cell? ⟨mb, 0, none⟩ = some (.int .u8 (m.sign.toNat : Int))) (first | go_keep | (refine ⟨?_, ?_, ?_⟩ <;> go_keep) | (go_split_ands; refine ⟨?_, ?_, ?_⟩ <;> go_keep) | (refine ⟨(hb5.cell (p := ⟨wo.heap.size, 9, none⟩) (by simp; omega)).trans (by go_simp), (hb5.cell (p := ⟨wo.heap.size, 10, none⟩) (by simp; omega)).trans (by go_simp), (hb5.cell (p := ⟨mb, 0, none⟩) (by simp; omega)).trans (by go_simp)⟩)) ((go_at_call 122; refine (hrp _).mono ?_; rintro e w5 ⟨rfl, hb5⟩; have hq5 := (hb5.block (wo.heap.size + 1) (by simp; omega)).trans (HN2.out _); have z0 := cell_of_row _ _ 0 _ _ _ hq5; have z1 := cell_of_row _ _ 1 _ _ _ hq5; have z2 := cell_of_row _ _ 2 _ _ _ hq5; have z3 := cell_of_row _ _ 3 _ _ _ hq5; have z4 := cell_of_row _ _ 4 _ _ _ hq5; have z5 := cell_of_row _ _ 5 _ _ _ hq5; have z6 := cell_of_row _ _ 6 _ _ _ hq5; have z7 := cell_of_row _ _ 7 _ _ _ hq5; have zf := fun j => frozen_of_row _ _ j _ _ hq5; have HQ5 := Lib.hid hq5; clear hq5))
          go_wp2_with fail
          go_meet
          have h8 := store8 w5 (wo.heap.size + 1) _ _ _ _ _ _ _ _ (.int .i64 10) (.int .i64 0) (.bool false) (.bool false) (.string ⟨(Lib.repeatL [m.sign] lf).toArray⟩) (.string ⟨#[]⟩) (.string ⟨#[]⟩) (.slice none 0 0) _ HQ5.out
          refine ⟨wo.heap.size + 1, ⟨10, ⟨(Lib.repeatL [m.sign] lf).toArray⟩, ⟨#[]⟩, ⟨#[]⟩, .slice none 0 0⟩, none, 0, 0, rfl, rfl, Lib.hid ⟨by omega, h8.1, ?_, ?_⟩⟩
          · have e : sp.asNode = Spec.txt (List.replicate sp.left m.sign) := by unfold Spec.Piece.asNode; rw [HM.out]
            rw [e]
            have h3 : lf = sp.left := HREP.out.left
            exact ⟨rfl, by rw [← h3, ← repeat_one]; rfl, rfl, rfl, .empty none 0⟩
          · have hb4 : Below wo.heap.size wo (w3.alloc (.cells #[.int .u8 (m.sign.toNat : Int)] 5)).drew := (hB3.alloc (by omega) _).drew
            exact (hb4.trans (hb5.mono (by simp; omega))).trans (h8.2 _ (by omega))
      case rest =>
        obtain ⟨q, nv, k2, n2, d2, rfl, hk2, HN⟩ := hcut
        obtain ⟨nk, nt, nu, nti, nkv⟩ := nv
        simp only at hk2
        subst hk2
        have hR := HJ.out.below HN.out.2.2.2
        have hstep := flatTo_step ss i sp HSS.out
        have hq := HN.out.2.1
        have y0 : wc.cell? ⟨q, 0, none⟩ = some (.int .i64 (nk : Int)) := cell_of_row _ _ _ _ _ _ hq
        have y1 : wc.cell? ⟨q, 1, none⟩ = some (.int .i64 0) := cell_of_row _ _ _ _ _ _ hq
        have y2 : wc.cell? ⟨q, 2, none⟩ = some (.bool false) := cell_of_row _ _ _ _ _ _ hq
        have y3 : wc.cell? ⟨q, 3, none⟩ = some (.bool false) := cell_of_row _ _ _ _ _ _ hq
        have y4 : wc.cell? ⟨q, 4, none⟩ = some (.string nt) := cell_of_row _ _ _ _ _ _ hq
        have y5 : wc.cell? ⟨q, 5, none⟩ = some (.string nu) := cell_of_row _ _ _ _ _ _ hq
        have y6 : wc.cell? ⟨q, 6, none⟩ = some (.string nti) := cell_of_row _ _ _ _ _ _ hq
        have y7 : wc.cell? ⟨q, 7, none⟩ = some (.slice k2 n2 d2) := cell_of_row _ _ _ _ _ _ hq
        have zq : wo.heap.size ≤ q := HN.out.1
        have zq2 := blk_lt hq
        have HNR := Lib.hid HN.out.2.2.1
        have hlen2 : ns.length ≤ 100000 := by
          have h1 := HJ.out.fit.1
          have h2 := flatTo_len ss i
          omega
        have hWT0 : txtW (flatTo ss i) ≤ 1000000 := Nat.le_trans (flatTo_wt ss i) (Nat.le_trans (Pl.wtL_take _ _) hw)
        have HWT := Lib.hid hWT0
        clear hWT0
        clear hq c0 c1 c2 c3 c4 c5 c6 c7 c8 c9 c10 c11 c12 c13
        rcases Nat.eq_zero_or_pos ns.length with hn0 | hn0
        · -- the first one
          obtain rfl : ns = [] := List.eq_nil_of_length_eq_zero hn0
          have hA0 : flatTo ss i = [] := List.eq_nil_of_length_eq_zero (by rw [← HJ.out.fit.1]; rfl)
          rw [hA0] at hR hstep
          rw [addNode_nil] at hstep
          obtain ⟨A3, c3, rfl⟩ := row_slice hR.own
          have HSTEP := Lib.hid hstep
          have HR := Lib.hid hR
          clear hA0 hstep hR hn0 hlen2
          try rw [List.length_nil]
          by_cases hk10 : nk = 10
          · subst hk10
            by_cases htx : 0 < nt.size
            · have hte : nt.toList.isEmpty = false := isEmpty_false htx
              have hne : nt.data.toList ≠ [] := by rw [head_cons nt htx]; simp
              have HEND : Hid (flatTo ss (i + 1) = [] ++ [sp.asNode]) := Lib.hid (by
                rw [HSTEP.out, if_pos (Or.inr (by rw [← HNR.out.text]; exact hne))]
                rfl)
              clear htx hne
              go_wp2_with (at_builtin; refine wpList_append_own _ rfl (.tmp 66) (.tmp 68) 25 rfl w.heap.size 27 i0 (.agg #[.int .i64 0, .int .i64 0, .bool false, .bool false, .string ⟨#[]⟩, .string ⟨#[]⟩, .string ⟨#[]⟩, .slice none 0 0]) 8 96 Tryz.underlying25 hi0 hz0 hz1 hz2 rfl (by decide) ((.slice A3 0 c3)) (0) ([]) rfl (HR.out.own.alloc _) ⟨wc.heap.size, 0, none⟩ 1 1 (NV.cells ⟨10, nt, nu, nti, .slice k2 n2 d2⟩) rfl rfl ?k11 ?k12 ?k13 ?k14 ?k15 ?_)
              case k11 =>
                intro j u hu
                first | (rw [addr_add, cell_of_row _ _ _ _ _ _ (heap_alloc_new wc _)]; simpa [NV.cells] using hu) | (simpa [NV.cells] using hu) | exact hu
              case k12 =>
                intro u hu
                simp only [NV.cells, List.mem_cons, List.not_mem_nil, or_false] at hu
                rcases hu with rfl | rfl | rfl | rfl | rfl | rfl | rfl | rfl <;> rfl
              try (case k13 => unfold maxLen; omega)
              try (case k14 => omega)
              case k15 =>
                have h5 := HR.out.bel.size
                first | exact le_alloc h5 _ | omega
              intro v' w7 hown7 hgrow7 _
              have HF7 : Hid (FlatRel w B0 (flatTo ss (i + 1)) v' ([] ++ [⟨10, nt, nu, nti, .slice k2 n2 d2⟩]) w7) := Lib.hid (by rw [HEND.out]; exact HR.out.app HNR.out hown7 hgrow7)
              clear hown7 hgrow7
              go_wp2
              go_roundw
              case rel => exact ⟨i + 1, _, by omega, by go_num, HF7⟩
              case measure => simp [intOf]; omega
            · have hte : nt.toList.isEmpty = true := isEmpty_true htx
              have HEND : Hid (flatTo ss (i + 1) = []) := Lib.hid (by
                rw [HSTEP.out, if_neg]
                rintro (h | h)
                · exact h HNR.out.kind.symm
                · exact h (by rw [← HNR.out.text]; exact text_empty htx))
              clear htx
              go_wp2
              go_roundw
              case rel => exact ⟨i + 1, [], by omega, by go_num, Lib.hid (by rw [HEND.out]; exact HR.out)⟩
              case measure => simp [intOf]; omega
          · have hkb : ((nk : Int) == 10) = false := beq_eq_false_iff_ne.2 (by omega)
            have hkn : ((nk : Int) != 10) = true := by rw [bne_iff_ne]; omega
            have HEND : Hid (flatTo ss (i + 1) = [] ++ [sp.asNode]) := Lib.hid (by
              rw [HSTEP.out, if_pos (Or.inl (fun h => hk10 (HNR.out.kind.trans h)))]
              rfl)
            clear hk10
            go_wp2_with (at_builtin; refine wpList_append_own _ rfl (.tmp 66) (.tmp 68) 25 rfl w.heap.size 27 i0 (.agg #[.int .i64 0, .int .i64 0, .bool false, .bool false, .string ⟨#[]⟩, .string ⟨#[]⟩, .string ⟨#[]⟩, .slice none 0 0]) 8 96 Tryz.underlying25 hi0 hz0 hz1 hz2 rfl (by decide) ((.slice A3 0 c3)) (0) ([]) rfl (HR.out.own.alloc _) ⟨wc.heap.size, 0, none⟩ 1 1 (NV.cells ⟨nk, nt, nu, nti, .slice k2 n2 d2⟩) rfl rfl ?k21 ?k22 ?k23 ?k24 ?k25 ?_)
            case k21 =>
              intro j u hu
              first | (rw [addr_add, cell_of_row _ _ _ _ _ _ (heap_alloc_new wc _)]; simpa [NV.cells] using hu) | (simpa [NV.cells] using hu) | exact hu
            case k22 =>
              intro u hu
              simp only [NV.cells, List.mem_cons, List.not_mem_nil, or_false] at hu
              rcases hu with rfl | rfl | rfl | rfl | rfl | rfl | rfl | rfl <;> rfl
            try (case k23 => unfold maxLen; omega)
            try (case k24 => omega)
            case k25 =>
              have h5 := HR.out.bel.size
              first | exact le_alloc h5 _ | omega
            intro v' w7 hown7 hgrow7 _
            have HF7 : Hid (FlatRel w B0 (flatTo ss (i + 1)) v' ([] ++ [⟨nk, nt, nu, nti, .slice k2 n2 d2⟩]) w7) := Lib.hid (by rw [HEND.out]; exact HR.out.app HNR.out hown7 hgrow7)
            clear hown7 hgrow7
            go_wp2
            go_roundw
            case rel => exact ⟨i + 1, _, by omega, by go_num, HF7⟩
            case measure => simp [intOf]; omega
        · obtain ⟨ns0, ln, rfl⟩ := snoc_of ns hn0
          have hAl : 0 < (flatTo ss i).length := by rw [← HJ.out.fit.1]; exact hn0
          obtain ⟨A0, lk, hA⟩ := snoc_of (flatTo ss i) hAl
          have hWL := fun hk => last_wt (flatTo ss i) lk (by rw [hA, List.getLast?_concat]) hk
          rw [hA] at hR hstep
          rw [addNode_snoc] at hstep
          obtain ⟨m, hm⟩ : ∃ m, ns0.length = m := ⟨_, rfl⟩
          have hl : (ns0 ++ [ln]).length = m + 1 := by simp [hm]
          obtain ⟨g, cap3, rfl, hg3⟩ : ∃ g cap3, u3 = .slice (some ⟨g, 0, none⟩) (m + 1) cap3 ∧ ∃ cur, wc.heap[g]? = some (.cells cur NodeT (0, 0)) := by
            rcases hR.own.2 with ⟨_, h0⟩ | ⟨g, cap3, cur3, hu3, _, hg3, _⟩
            · omega
            · exact ⟨g, cap3, by rw [hu3, hl], cur3, hg3⟩
          have hln : NRep w B0 ln lk := hR.fit.2 m ln lk (by rw [← hm]; simp) (by
            have h1 := hR.fit.1
            have h2 : A0.length = m := by simp at h1; omega
            rw [← h2]; simp)
          obtain ⟨lkd, lt, lu, lti, lkv⟩ := ln
          have hat : ∀ (j : Nat) (u : Value), (NV.cells ⟨lkd, lt, lu, lti, lkv⟩)[j]? = some u → wc.cell? ⟨g, m * 8 + j, none⟩ = some u := fun j u hu => by
            have h1 := hR.own.cells rfl (m * 8 + j) u (by rw [nvRow_at _ m j ⟨lkd, lt, lu, lti, lkv⟩ (by rw [← hm]; simp) (List.getElem?_eq_some_iff.1 hu).1]; exact hu)
            rwa [addr_add] at h1
          have e0 : wc.cell? ⟨g, m * 8, none⟩ = some (.int .i64 (lkd : Int)) := hat 0 _ rfl
          have e4 : wc.cell? ⟨g, m * 8 + 4, none⟩ = some (.string lt) := hat 4 _ rfl
          have ef : wc.frozen? ⟨g, m * 8 + 4, none⟩ = false := by obtain ⟨cur, h⟩ := hg3; exact frozen_of_row _ _ _ _ _ h
          have zg : g < wo.heap.size := (HJ.out.own.lt g rfl).2
          have zgq : ¬ g = q := by omega
          have zqg : ¬ q = g := by omega
          have hm0 : (0 : Int) ≤ (m : Int) := by omega
          have hm1 : (m : Int) < (m : Int) + 1 := by omega
          have hm5 : m ≤ 100000 := by omega
          have HSTEP := Lib.hid hstep
          have HR := Lib.hid hR
          have HLN := Lib.hid hln
          have HWL := Lib.hid hWL
          have HOWN : Hid (wc.ownsRow w.heap.size 27 8 (.slice (some ⟨g, 0, none⟩) (m + 1) cap3) (m + 1) (nvRow (ns0 ++ [⟨lkd, lt, lu, lti, lkv⟩]))) := Lib.hid (by have := HR.out.own; rwa [hl] at this)
          have HM := Lib.hid hm
          have HL := Lib.hid hl
          clear hAl hA hstep hR hn0 hlen2 hat hg3 hln hWL hm hl HJ
          by_cases hk10 : nk = 10
          · subst hk10
            have hnt : nt.size ≤ 1000000 := by
              have h1 := wt_mem ss sp (List.mem_of_getElem? HSS.out)
              have h2 : nt.size = Pl.wt sp := by rw [← wt_asNode, txtW_one, if_pos HNR.out.kind.symm, ← HNR.out.text]; exact Lib.size_eq nt
              omega
            by_cases hl10 : lkd = 10
            · subst hl10
              have hlt2 : lt.size ≤ 1000000 := by
                have h1 := HWL.out HLN.out.kind.symm
                have h2 : lt.size = lk.text.length := by rw [← HLN.out.text]; exact Lib.size_eq lt
                have h3 := HWT.out
                omega
              have hsum : ¬ 9223372036854775807 < lt.size + nt.size := by omega
              have HCAT : Hid (FlatRel w B0 (flatTo ss (i + 1)) (.slice (some ⟨g, 0, none⟩) (m + 1) cap3) (ns0 ++ [⟨10, lt ++ nt, lu, lti, lkv⟩]) (wc.setCell ⟨g, m * 8 + 4, none⟩ (.string (lt ++ nt))).drew) := Lib.hid (by
                rw [HSTEP.out, if_pos ⟨HNR.out.kind.symm, HLN.out.kind.symm⟩]
                exact HR.out.cat HM.out (lt ++ nt) sp.asNode.text (by rw [← HNR.out.text]; simp))
              go_upto_region 10 with fail
              go_region
              all_goals
                go_wp2
                go_roundw
                case rel => exact ⟨i + 1, _, by omega, by go_num, HCAT⟩
                case measure => simp [intOf]; omega
            · have hlb : ((lkd : Int) == 10) = false := beq_eq_false_iff_ne.2 (by omega)
              have hl10' : lk.kind ≠ 10 := fun h => hl10 (HLN.out.kind.trans h)
              by_cases htx : 0 < nt.size
              · have hte : nt.toList.isEmpty = false := isEmpty_false htx
                have hne : nt.data.toList ≠ [] := by rw [head_cons nt htx]; simp
                have HEND : Hid (flatTo ss (i + 1) = (A0 ++ [lk]) ++ [sp.asNode]) := Lib.hid (by
                  rw [HSTEP.out, if_neg (fun h => hl10' h.2), if_pos (Or.inr (by rw [← HNR.out.text]; exact hne))])
                clear htx hne hl10 hl10'
                go_wp2_with (at_builtin; refine wpList_append_own _ rfl (.tmp 66) (.tmp 68) 25 rfl w.heap.size 27 i0 (.agg #[.int .i64 0, .int .i64 0, .bool false, .bool false, .string ⟨#[]⟩, .string ⟨#[]⟩, .string ⟨#[]⟩, .slice none 0 0]) 8 96 Tryz.underlying25 hi0 hz0 hz1 hz2 rfl (by decide) ((.slice (some ⟨g, 0, none⟩) (m + 1) cap3)) (m + 1) (nvRow (ns0 ++ [⟨lkd, lt, lu, lti, lkv⟩])) rfl (HOWN.out.alloc _) ⟨wc.heap.size, 0, none⟩ 1 1 (NV.cells ⟨10, nt, nu, nti, .slice k2 n2 d2⟩) rfl rfl ?k31 ?k32 ?k33 ?k34 ?k35 ?_)
                case k31 =>
                  intro j u hu
                  first | (rw [addr_add, cell_of_row _ _ _ _ _ _ (heap_alloc_new wc _)]; simpa [NV.cells] using hu) | (simpa [NV.cells] using hu) | exact hu
                case k32 =>
                  intro u hu
                  simp only [NV.cells, List.mem_cons, List.not_mem_nil, or_false] at hu
                  rcases hu with rfl | rfl | rfl | rfl | rfl | rfl | rfl | rfl <;> rfl
                try (case k33 => unfold maxLen; omega)
                try (case k34 => omega)
                case k35 =>
                  have h5 := HR.out.bel.size
                  first | exact le_alloc h5 _ | omega
                intro v' w7 hown7 hgrow7 _
                have HF7 : Hid (FlatRel w B0 (flatTo ss (i + 1)) v' ((ns0 ++ [⟨lkd, lt, lu, lti, lkv⟩]) ++ [⟨10, nt, nu, nti, .slice k2 n2 d2⟩]) w7) := Lib.hid (by rw [HEND.out]; exact HR.out.app HNR.out (by rw [HL.out]; exact hown7) hgrow7)
                clear hown7 hgrow7
                go_wp2
                go_roundw
                case rel => exact ⟨i + 1, _, by omega, by go_num, HF7⟩
                case measure => simp [intOf]; omega
              · have hte : nt.toList.isEmpty = true := isEmpty_true htx
                have HEND : Hid (flatTo ss (i + 1) = A0 ++ [lk]) := Lib.hid (by
                  rw [HSTEP.out, if_neg (fun h => hl10' h.2), if_neg]
                  rintro (h | h)
                  · exact h HNR.out.kind.symm
                  · exact h (by rw [← HNR.out.text]; exact text_empty htx))
                clear htx hl10 hl10'
                go_wp2
                go_roundw
                case rel => exact ⟨i + 1, (ns0 ++ [⟨lkd, lt, lu, lti, lkv⟩]), by omega, by go_num, Lib.hid (by rw [HEND.out]; exact HR.out)⟩
                case measure => simp [intOf]; omega
          · have hkb : ((nk : Int) == 10) = false := beq_eq_false_iff_ne.2 (by omega)
            have hkn : ((nk : Int) != 10) = true := by rw [bne_iff_ne]; omega
            have HEND : Hid (flatTo ss (i + 1) = (A0 ++ [lk]) ++ [sp.asNode]) := Lib.hid (by
              have hx : sp.asNode.kind ≠ 10 := fun h => hk10 (HNR.out.kind.trans h)
              rw [HSTEP.out, if_neg (fun h => hx h.1), if_pos (Or.inl hx)])
            clear hk10
            go_wp2_with (at_builtin; refine wpList_append_own _ rfl (.tmp 66) (.tmp 68) 25 rfl w.heap.size 27 i0 (.agg #[.int .i64 0, .int .i64 0, .bool false, .bool false, .string ⟨#[]⟩, .string ⟨#[]⟩, .string ⟨#[]⟩, .slice none 0 0]) 8 96 Tryz.underlying25 hi0 hz0 hz1 hz2 rfl (by decide) ((.slice (some ⟨g, 0, none⟩) (m + 1) cap3)) (m + 1) (nvRow (ns0 ++ [⟨lkd, lt, lu, lti, lkv⟩])) rfl (HOWN.out.alloc _) ⟨wc.heap.size, 0, none⟩ 1 1 (NV.cells ⟨nk, nt, nu, nti, .slice k2 n2 d2⟩) rfl rfl ?k41 ?k42 ?k43 ?k44 ?k45 ?_)
            case k41 =>
              intro j u hu
              first | (rw [addr_add, cell_of_row _ _ _ _ _ _ (heap_alloc_new wc _)]; simpa [NV.cells] using hu) | (simpa [NV.cells] using hu) | exact hu
            case k42 =>
              intro u hu
              simp only [NV.cells, List.mem_cons, List.not_mem_nil, or_false] at hu
              rcases hu with rfl | rfl | rfl | rfl | rfl | rfl | rfl | rfl <;> rfl
            try (case k43 => unfold maxLen; omega)
            try (case k44 => omega)
            case k45 =>
              have h5 := HR.out.bel.size
              first | exact le_alloc h5 _ | omega
            intro v' w7 hown7 hgrow7 _
            have HF7 : Hid (FlatRel w B0 (flatTo ss (i + 1)) v' ((ns0 ++ [⟨lkd, lt, lu, lti, lkv⟩]) ++ [⟨nk, nt, nu, nti, .slice k2 n2 d2⟩]) w7) := Lib.hid (by rw [HEND.out]; exact HR.out.app HNR.out (by rw [HL.out]; exact hown7) hgrow7)
            clear hown7 hgrow7
            go_wp2
            go_roundw
            case rel => exact ⟨i + 1, _, by omega, by go_num, HF7⟩
            case measure => simp [intOf]; omega
    · have hpi : ¬ (i : Int) < ps.length := by omega
      obtain rfl : i = ps.length := by omega
      have HK : Hid (FlatRel w B0 (Spec.flat ss) u3 ns wr) := Lib.hid (by
        have := HJ.out
        rw [HF.out.1, flatTo_all] at this
        exact this)
      go_wp2
      go_ret
      exact ⟨_, ns, rfl, HK.out⟩
end Go.Proofs.YtmplfiflikhpjaaGreatDoor
/-
  Cuts of slices, and copies and clears of rows of wider elements: the runs' equations, over any program.
-/
namespace Go.Proofs.YtmplfiflikhpjaaGreatDoor
open Go.RowKit

section
variable {P : Program} {t e : TypeId} {size : Nat}
theorem run_slice_bounds (ht : P.underlying t = some (.slice e)) (hs : ∀ w, (Go.sizeOf e).run P w = .ok size w) (A : Option Addr) (n cap lo hi : Nat) (x y : Int) (hx : x = (lo : Int)) (hy : y = (hi : Int)) (h1 : lo ≤ hi) (h2 : hi ≤ cap) (W : World) :
    (Instr.slice t (.slice A n cap) (some (.int .i64 x)) (some (.int .i64 y)) none).run P W = .ok (.slice (if cap = lo then A else A.map (·.add (lo * size))) (hi - lo) (cap - lo)) W := by
  subst hx hy
  simp [Instr.slice, Instr.sliceBounds, Instr.sliceBound, asIntOf, run_underlying ht, hs, h1, h2]
theorem run_slice_low (ht : P.underlying t = some (.slice e)) (hs : ∀ w, (Go.sizeOf e).run P w = .ok size w) (A : Option Addr) (n cap lo : Nat) (x : Int) (hx : x = (lo : Int)) (h1 : lo ≤ n) (_h2 : n ≤ cap) (W : World) :
    (Instr.slice t (.slice A n cap) (some (.int .i64 x)) none none).run P W = .ok (.slice (if cap = lo then A else A.map (·.add (lo * size))) (n - lo) (cap - lo)) W := by
  subst hx
  simp [Instr.slice, Instr.sliceBounds, Instr.sliceBound, asIntOf, run_underlying ht, hs, h1]
theorem run_slice_high (ht : P.underlying t = some (.slice e)) (hs : ∀ w, (Go.sizeOf e).run P w = .ok size w) (A : Option Addr) (n cap hi : Nat) (y : Int) (hy : y = (hi : Int)) (h2 : hi ≤ cap) (W : World) :
    (Instr.slice t (.slice A n cap) none (some (.int .i64 y)) none).run P W = .ok (.slice A hi cap) W := by
  subst hy
  cases A <;> simp [Instr.slice, Instr.sliceBounds, Instr.sliceBound, asIntOf, run_underlying ht, hs, h2, Addr.add]
theorem run_copy_rows (w : World) (dT sT ty elem : TypeId) (k : Nat) (g o dLen dCap m : Nat) (a : Addr) (sLen sCap : Nat) (cur : Array Value) (t : TypeId) (cs : List Value)
    (hu : P.underlying dT = some (.slice elem)) (hs : (P.info? elem).map (·.size) = some k)
    (hg : w.heap[g]? = some (.cells cur t (0, 0))) (hm : m = Nat.min sLen dLen) (hn : cs.length = m * k)
    (hsrc : ∀ j v, cs[j]? = some v → w.cell? (a.add j) = some v) (hfit : o + cs.length ≤ cur.size) (h1 : ∀ v ∈ cs, v.oneCell' = true) :
    (Builtin.copy_ #[dT, sT] ty #[.slice (some ⟨g, o, none⟩) dLen dCap, .slice (some a) sLen sCap]).run P w =
      .ok (goInt m) (w.setRow g (cur.toList.take o ++ cs ++ cur.toList.drop (o + cs.length)).toArray) := by
  have hl := run_loadCells_list (P := P) w a cs hsrc
  have hst := run_storeCells_at P g o t cs 0 cur w hg (by simpa using hfit) h1
  cases hq : P.info? elem with
  | none => simp [hq] at hs
  | some i =>
    have hi : i.size = k := by simpa [hq] using hs
    rw [hn] at hl
    simp [Builtin.copy_, run_underlying hu, Builtin.lenOf, Builtin.firstCells, sizeOf, typeInfo, hq, hi, ← hm, hl, hst]
theorem run_clear_rows (w : World) (T ty elem : TypeId) (z : Value) (g o n c : Nat) (cur : Array Value) (t : TypeId) (hu : P.underlying T = some (.slice elem)) (hz : ∀ w, (zeroValue elem).run P w = .ok z w) (hn : 0 < n)
    (hg : w.heap[g]? = some (.cells cur t (0, 0))) (hfit : o + (Builtin.zeroCells z.cells n).toList.length ≤ cur.size) (h1 : ∀ v ∈ (Builtin.zeroCells z.cells n).toList, v.oneCell' = true) :
    (Builtin.clear_ #[T] ty #[.slice (some ⟨g, o, none⟩) n c]).run P w = .ok (.tuple #[]) (w.setRow g (cur.toList.take o ++ (Builtin.zeroCells z.cells n).toList ++ cur.toList.drop (o + (Builtin.zeroCells z.cells n).toList.length)).toArray) := by
  have hst := run_storeCells_at P g o t (Builtin.zeroCells z.cells n).toList 0 cur w hg (by simpa using hfit) h1
  obtain ⟨q, rfl⟩ : ∃ q, n = q + 1 := ⟨n - 1, by omega⟩
  simp only [Nat.add_zero] at hst
  simp [Builtin.clear_, run_underlying hu, hz, hst]
theorem run_clear_none (w : World) (T ty elem : TypeId) (A : Option Addr) (c : Nat) (hu : P.underlying T = some (.slice elem)) : (Builtin.clear_ #[T] ty #[.slice A 0 c]).run P w = .ok (.tuple #[]) w := by
  cases A <;> simp [Builtin.clear_, run_underlying hu]
end
end Go.Proofs.YtmplfiflikhpjaaGreatDoor
/-
  slices.Clone and slices.Replace at pieces: pieces that a call owns.
-/
namespace Go.Proofs.YtmplfiflikhpjaaGreatDoor
open Go.RowKit

def zeroPiece : Value := .agg #[.int .i64 0, .int .i64 0, .bool false, .bool false, .string ⟨#[]⟩, .string ⟨#[]⟩, .string ⟨#[]⟩, .slice none 0 0, .bool false, .pointer none, .int .i64 0, .bool false, .bool false, .bool false]
theorem info_piece : (Tryz.prog.info? 67).map (fun i => (i.zero, i.size, i.bytes)) = some (some zeroPiece, 14, 128) := by kernel_rfl
theorem pv_one (ps : List PV) (h : ∀ p ∈ ps, p.kids.oneCell' = true) : ∀ u ∈ pvRow ps, u.oneCell' = true := by
  intro u hu
  unfold pvRow at hu
  obtain ⟨p, hp, hu⟩ := List.mem_flatMap.1 hu
  have hk := h p hp
  simp only [PV.cells, List.mem_cons, List.not_mem_nil, or_false] at hu
  rcases hu with rfl | rfl | rfl | rfl | rfl | rfl | rfl | rfl | rfl | rfl | rfl | rfl | rfl | rfl <;> first | exact hk | rfl
def CloneRes (w : World) (ps : List PV) (e : Ending) (w' : World) : Prop := ∃ v', e = .returned v' ∧ w'.ownsRow w.heap.size 67 14 v' ps.length (pvRow ps) ∧ Below w.heap.size w w'
theorem pread_cells {w : World} {A : Option Addr} {cap : Nat} {ps : List PV} (hv : PRead w (.slice A ps.length cap) ps) : ∀ (a : Addr), A = some a → ∀ j u, (pvRow ps)[j]? = some u → w.cell? (a.add j) = some u := by
  intro a ha j u hu
  obtain ⟨A2, cap2, he, hc⟩ := hv
  injection he with e1 e2 e3
  subst e1
  have hj : j < (pvRow ps).length := (List.getElem?_eq_some_iff.1 hu).1
  rw [pvRow_len] at hj
  obtain ⟨b, off, hA, _, hcell⟩ := hc (by omega)
  rw [ha] at hA
  obtain rfl := Option.some.inj hA
  have hi : j / 14 < ps.length := by omega
  have hjj : j = j / 14 * 14 + j % 14 := by omega
  rw [hjj, pvRow_at ps (j / 14) (j % 14) _ (List.getElem?_eq_getElem hi) (by omega)] at hu
  have h1 := hcell (j / 14) _ (List.getElem?_eq_getElem hi) (j % 14) u hu
  rw [Addr.add_lit]
  have e : off + j = off + j / 14 * 14 + j % 14 := by omega
  rw [e]
  exact h1

set_option maxHeartbeats 4000000 in
set_option maxRecDepth 100000 in
theorem clone_any (w : World) (v : Value) (ps : List PV) (hv : PRead w v ps) (h1 : ∀ p ∈ ps, p.kids.oneCell' = true) (hlen : ps.length ≤ 100000) :
    Calls Tryz.prog 64 #[v] w (CloneRes w ps) := by
  obtain ⟨A, cap, rfl, hc⟩ := hv
  have hpc := pread_cells ⟨A, cap, rfl, hc⟩
  obtain ⟨i0, hi0, hz0, hz1, hz2⟩ := info_parts info_piece
  have H1 := Lib.hid (pv_one ps h1)
  have HPC := Lib.hid hpc
  clear hpc h1
  cases A with
  | none =>
    have h0 : ps.length = 0 := by
      apply Decidable.byContradiction
      intro h
      obtain ⟨b, off, h2, _⟩ := hc (by omega)
      cases h2
    obtain rfl : ps = [] := List.eq_nil_of_length_eq_zero h0
    have heq : ∀ W, (binOp .eql 44 (.slice none 0 cap) (.slice none 0 0)).run Tryz.prog W = .ok (.bool true) W := fun W => Lib.run_eql_slice_nil W _ _ none _ _ _ _ Tryz.underlying44
    clear hc h0
    rw [List.length_nil]
    go_enter Tryz.func64, Tryz.ntmps64
    go_wp2
    go_ret
    exact ⟨_, rfl, World.ownsRow_nil _ _ _ 14, Below.refl _ _⟩
  | some a =>
    have heq : ∀ W, (binOp .eql 44 (.slice (some a) ps.length cap) (.slice none 0 0)).run Tryz.prog W = .ok (.bool false) W := fun W => Lib.run_eql_slice_nil W _ _ (some a) _ _ _ _ Tryz.underlying44
    have hown0 := World.ownsRow_made (base := w.heap.size) (e := 67) (size := 14) w #[] 0 (Nat.le_refl _) (by unfold maxLen; omega) rfl
    have HC := Lib.hid hc
    clear hc
    go_enter Tryz.func64, Tryz.ntmps64
    go_wp2_with (at_builtin; refine wpList_append_own _ rfl (.tmp 5) (.tmp 6) 44 rfl w.heap.size 67 i0 zeroPiece 14 128 Tryz.underlying44 hi0 hz0 hz1 hz2 rfl (by decide) (.slice (some ⟨w.heap.size, 0, none⟩) 0 0) 0 [] rfl hown0 a ps.length cap (pvRow ps) rfl (pvRow_len ps) ?c1 H1.out ?c3 ?c4 ?c5 ?_)
    case c1 =>
      intro j u hu
      have h := HPC.out a rfl j u hu
      have hj : j < (pvRow ps).length := (List.getElem?_eq_some_iff.1 hu).1
      rw [pvRow_len] at hj
      obtain ⟨b, off, hA, hb, _⟩ := HC.out (by omega)
      obtain rfl := Option.some.inj hA
      rw [Addr.add_lit] at h ⊢
      exact (World.cell?_alloc_lt w _ ⟨b, off + j, none⟩ hb).trans h
    case c3 => unfold maxLen; omega
    case c4 => omega
    case c5 => simp
    intro v' w7 hown7 hgrow7 _
    have HO : Hid (w7.ownsRow w.heap.size 67 14 v' ps.length (pvRow ps) ∧ Below w.heap.size w w7) := Lib.hid ⟨by simpa using hown7, (((Below.refl _ _).alloc (Nat.le_refl _) _).grown hgrow7 (by simp) (fun q hq => (hown0.lt q hq).1))⟩
    clear hown7 hgrow7
    go_wp2
    go_ret
    exact ⟨_, rfl, HO.out.1, HO.out.2⟩
end Go.Proofs.YtmplfiflikhpjaaGreatDoor
/-
  slices.Replace at pieces, where the new one fits in: in place.
-/
namespace Go.Proofs.YtmplfiflikhpjaaGreatDoor
open Go.RowKit

theorem pvRow_app (a b : List PV) : pvRow (a ++ b) = pvRow a ++ pvRow b := by simp [pvRow]
theorem pvRow_take (ps : List PV) (i : Nat) : pvRow (ps.take i) = (pvRow ps).take (i * 14) := by
  by_cases hi : i ≤ ps.length
  · have h := congrArg pvRow (List.take_append_drop i ps)
    rw [pvRow_app] at h
    rw [← h, List.take_left' (by rw [pvRow_len, List.length_take, Nat.min_eq_left hi])]
  · rw [List.take_of_length_le (by omega), List.take_of_length_le (by rw [pvRow_len]; omega)]
theorem pvRow_drop (ps : List PV) (i : Nat) : pvRow (ps.drop i) = (pvRow ps).drop (i * 14) := by
  by_cases hi : i ≤ ps.length
  · have h := congrArg pvRow (List.take_append_drop i ps)
    rw [pvRow_app] at h
    rw [← h, List.drop_left' (by rw [pvRow_len, List.length_take, Nat.min_eq_left hi])]
  · rw [List.drop_of_length_le (by omega), List.drop_of_length_le (by rw [pvRow_len]; omega)]
    rfl
theorem pvRow_cons (p : PV) (b : List PV) : pvRow (p :: b) = p.cells ++ pvRow b := by simp [pvRow]
theorem sizeP (w : World) : (Go.sizeOf 67).run Tryz.prog w = .ok 14 w := Tryz.sizeOf67 w
theorem zeroP (w : World) : (zeroValue 67).run Tryz.prog w = .ok zeroPiece w := by
  have h := Tryz.zeroValue67 w
  exact h
/-- The row behind the two copies and the clear. -/
theorem replace_row (cur : List Value) (xs : List Value) (cs seg _zs : List Value) (i r d : Nat) (hx : cur.take ((i + 1 + r + d) * 14) = xs) (hc : cs.length = 14) (hs : seg = xs.drop ((i + 1 + r) * 14)) (hl : xs.length = (i + 1 + r + d) * 14) :
    let L1 := cur.take (i * 14) ++ cs ++ cur.drop (i * 14 + cs.length)
    let L2 := L1.take ((i + 1) * 14) ++ seg ++ L1.drop ((i + 1) * 14 + seg.length)
    (∀ k v, seg[k]? = some v → L1[(i + 1 + r) * 14 + k]? = some v) ∧ seg.length = d * 14 ∧ L1.length = cur.length ∧ L2.length = cur.length ∧ L2.take ((i + 1 + d) * 14) = xs.take (i * 14) ++ cs ++ seg := by
  intro L1 L2
  have hcl : (i + 1 + r + d) * 14 ≤ cur.length := by
    have := congrArg List.length hx
    rw [List.length_take, hl] at this
    omega
  have hsl : seg.length = d * 14 := by rw [hs, List.length_drop, hl]; omega
  have h1 : L1.length = cur.length := by
    show (cur.take (i * 14) ++ cs ++ cur.drop (i * 14 + cs.length)).length = _
    rw [List.length_append, List.length_append, List.length_take, List.length_drop, hc]; omega
  have ht1 : L1.take ((i + 1) * 14) = cur.take (i * 14) ++ cs := by
    show (cur.take (i * 14) ++ cs ++ cur.drop (i * 14 + cs.length)).take _ = _
    exact List.take_left' (by rw [List.length_append, List.length_take, hc]; omega)
  have h2 : L2.length = cur.length := by
    show (L1.take ((i + 1) * 14) ++ seg ++ L1.drop ((i + 1) * 14 + seg.length)).length = _
    rw [List.length_append, List.length_append, List.length_take, List.length_drop, hsl, h1]; omega
  refine ⟨fun k v hk => ?_, hsl, h1, h2, ?_⟩
  · have hkl : k < seg.length := (List.getElem?_eq_some_iff.1 hk).1
    show (cur.take (i * 14) ++ cs ++ cur.drop (i * 14 + cs.length))[(i + 1 + r) * 14 + k]? = _
    rw [List.getElem?_append_right (by rw [List.length_append, List.length_take, hc]; omega), List.length_append, List.length_take, hc, List.getElem?_drop]
    rw [show i * 14 + 14 + ((i + 1 + r) * 14 + k - (min (i * 14) cur.length + 14)) = (i + 1 + r) * 14 + k by omega]
    rw [← hk, hs, List.getElem?_drop, ← hx, List.getElem?_take_of_lt (by omega)]
  · show (L1.take ((i + 1) * 14) ++ seg ++ L1.drop ((i + 1) * 14 + seg.length)).take _ = _
    rw [List.take_left' (by rw [List.length_append, List.length_take, h1, hsl]; omega), ht1, ← hx, List.take_take, Nat.min_eq_left (by omega)]
def zerosP (n : Nat) : List Value := (Builtin.zeroCells zeroPiece.cells n).toList
theorem zerosP_len (n : Nat) : (zerosP n).length = n * 14 := by
  unfold zerosP
  rw [Array.length_toList, size_zeroCells]
  rfl
theorem zerosP_one (n : Nat) : ∀ v ∈ zerosP n, v.oneCell' = true := by
  intro v hv
  unfold zerosP Builtin.zeroCells at hv
  rw [Array.toList_map] at hv
  obtain ⟨k, _, rfl⟩ := List.mem_map.1 hv
  have h : ∀ m, m < 14 → (zeroPiece.cells[m]!).oneCell' = true := by decide
  exact h (k % zeroPiece.cells.size) (Nat.mod_lt _ (by decide))
def ReplRes (w : World) (base g cap i r d : Nat) (ps : List PV) (p : PV) (e : Ending) (w' : World) : Prop :=
  e = .returned (.slice (some ⟨g, 0, none⟩) (i + 1 + d) cap) ∧ w'.ownsRow base 67 14 (.slice (some ⟨g, 0, none⟩) (i + 1 + d) cap) (i + 1 + d) (pvRow (ps.take i ++ p :: ps.drop (i + 1 + r))) ∧ w.grownBy w' (some g)
theorem grownBy_setRow (w : World) (g : Nat) (a : Array Value) : w.grownBy (w.setRow g a) (some g) :=
  ⟨rfl, rfl, rfl, by rw [setRow_size]; exact Nat.le_refl _, fun k hk hne => setRow_other _ _ _ _ (fun e => hne (by rw [e]))⟩

set_option maxHeartbeats 16000000 in
set_option maxRecDepth 100000 in
theorem replace_any (w : World) (base g cap q i r d : Nat) (ps : List PV) (p : PV) (hown : w.ownsRow base 67 14 (.slice (some ⟨g, 0, none⟩) (i + 1 + r + d) cap) (i + 1 + r + d) (pvRow ps)) (hd : 0 < d)
    (hq : w.heap[q]? = some (.cells p.cells.toArray 67 (0, 0))) (_hqg : q ≠ g) (h1 : ∀ p ∈ ps, p.kids.oneCell' = true) (hp1 : p.kids.oneCell' = true) (hlen : i + 1 + r + d ≤ 100000) (hps : ps.length = i + 1 + r + d) :
    Calls Tryz.prog 121 #[.slice (some ⟨g, 0, none⟩) (i + 1 + r + d) cap, .int .i64 (i : Int), .int .i64 ((i + 1 + r : Nat) : Int), .slice (some ⟨q, 0, none⟩) 1 1] w (ReplRes w base g cap i r d ps p) := by
  obtain ⟨cur, hbase, hg, hcap, hmax, hsz, hxs⟩ : ∃ cur, base ≤ g ∧ w.heap[g]? = some (.cells cur 67 (0, 0)) ∧ i + 1 + r + d ≤ cap ∧ cap ≤ maxLen ∧ cur.size = cap * 14 ∧ cur.toList.take ((i + 1 + r + d) * 14) = pvRow ps := by
    rcases hown.2 with ⟨h, _⟩ | ⟨g', cap', cur, hv, h1, h2, h3, h4, h5, h6⟩
    · cases h
    · injection hv with e1 e2 e3
      injection e1 with e1
      injection e1 with e1
      subst e1 e3
      exact ⟨cur, h1, h2, h3, h4, h5, h6⟩
  have hlx := hown.1
  unfold maxLen at hmax
  have hone := pv_one ps h1
  have honep : ∀ u ∈ p.cells, u.oneCell' = true := fun u hu => pv_one [p] (fun x hx => by simp only [List.mem_singleton] at hx; subst hx; exact hp1) u (by simpa [pvRow] using hu)
  obtain ⟨n, hn⟩ : ∃ n, n = i + 1 + r + d := ⟨_, rfl⟩
  obtain ⟨j, hj⟩ : ∃ j, j = i + 1 + r := ⟨_, rfl⟩
  -- the rows
  obtain ⟨R1, R2, R3, R4, R5⟩ := replace_row cur.toList (pvRow ps) p.cells ((pvRow ps).drop ((i + 1 + r) * 14)) (zerosP r) i r d hxs rfl rfl hlx
  obtain ⟨L1, hL1⟩ : ∃ L1, L1 = (cur.toList.take (i * 14) ++ p.cells ++ cur.toList.drop (i * 14 + p.cells.length)).toArray := ⟨_, rfl⟩
  obtain ⟨L2, hL2⟩ : ∃ L2, L2 = (L1.toList.take ((i + 1) * 14) ++ (pvRow ps).drop ((i + 1 + r) * 14) ++ L1.toList.drop ((i + 1) * 14 + ((pvRow ps).drop ((i + 1 + r) * 14)).length)).toArray := ⟨_, rfl⟩
  have e1 : L1.toList = cur.toList.take (i * 14) ++ p.cells ++ cur.toList.drop (i * 14 + p.cells.length) := by rw [hL1]
  have e2 : L2.toList = L1.toList.take ((i + 1) * 14) ++ (pvRow ps).drop ((i + 1 + r) * 14) ++ L1.toList.drop ((i + 1) * 14 + ((pvRow ps).drop ((i + 1 + r) * 14)).length) := by rw [hL2]
  rw [← e1] at R1 R3 R4 R5
  rw [← e2] at R4 R5
  have s1 : L1.size = cap * 14 := by rw [← Array.length_toList, R3, Array.length_toList, hsz]
  have s2 : L2.size = cap * 14 := by rw [← Array.length_toList, R4, Array.length_toList, hsz]
  -- the cuts
  have und := Tryz.underlying44
  have nc : ∀ x : Nat, x < cap → ∀ A : Option Addr, (if cap = x then A else A.map (·.add (x * 14))) = A.map (·.add (x * 14)) := fun x hx A => if_neg (by omega)
  have am : ∀ x : Nat, (some (⟨g, 0, none⟩ : Addr)).map (·.add x) = some ⟨g, x, none⟩ := fun x => by rw [Option.map_some, addr_add]
  have hs1 : ∀ W, (Instr.slice 44 (.slice (some ⟨g, 0, none⟩) n cap) (some (.int .i64 (i : Int))) (some (.int .i64 (j : Int))) none).run Tryz.prog W = .ok (.slice (some ⟨g, i * 14, none⟩) (1 + r) (cap - i)) W := fun W => by
    rw [run_slice_bounds (P := Tryz.prog) (size := 14) und sizeP (some ⟨g, 0, none⟩) n cap i j _ _ rfl rfl (by omega) (by omega) W, nc i (by omega), am, show j - i = 1 + r by omega]
  have hs2 : ∀ W, (Instr.slice 44 (.slice (some ⟨g, 0, none⟩) n cap) none (some (.int .i64 (i : Int))) none).run Tryz.prog W = .ok (.slice (some ⟨g, 0, none⟩) i cap) W := fun W => run_slice_high (P := Tryz.prog) (size := 14) und sizeP (some ⟨g, 0, none⟩) n cap i _ rfl (by omega) W
  have hs3 : ∀ W, (Instr.slice 44 (.slice (some ⟨g, 0, none⟩) n cap) (some (.int .i64 (j : Int))) none none).run Tryz.prog W = .ok (.slice (some ⟨g, j * 14, none⟩) d (cap - j)) W := fun W => by
    rw [run_slice_low (P := Tryz.prog) (size := 14) und sizeP (some ⟨g, 0, none⟩) n cap j _ rfl (by omega) (by omega) W, nc j (by omega), am, show n - j = d by omega]
  have hs4 : ∀ W, (Instr.slice 44 (.slice (some ⟨g, 0, none⟩) n cap) none (some (.int .i64 ((i : Int) + 1 + (d : Int)))) none).run Tryz.prog W = .ok (.slice (some ⟨g, 0, none⟩) (i + 1 + d) cap) W := fun W => run_slice_high (P := Tryz.prog) (size := 14) und sizeP (some ⟨g, 0, none⟩) n cap (i + 1 + d) _ (by omega) (by omega) W
  have hs5 : ∀ W, (Instr.slice 44 (.slice (some ⟨g, 0, none⟩) (i + 1 + d) cap) (some (.int .i64 (i : Int))) none none).run Tryz.prog W = .ok (.slice (some ⟨g, i * 14, none⟩) (1 + d) (cap - i)) W := fun W => by
    rw [run_slice_low (P := Tryz.prog) (size := 14) und sizeP (some ⟨g, 0, none⟩) (i + 1 + d) cap i _ rfl (by omega) (by omega) W, nc i (by omega), am, show i + 1 + d - i = 1 + d by omega]
  have hs6 : ∀ W, (Instr.slice 44 (.slice (some ⟨g, 0, none⟩) (i + 1 + d) cap) (some (.int .i64 ((i : Int) + 1))) none none).run Tryz.prog W = .ok (.slice (some ⟨g, (i + 1) * 14, none⟩) d (cap - (i + 1))) W := fun W => by
    rw [run_slice_low (P := Tryz.prog) (size := 14) und sizeP (some ⟨g, 0, none⟩) (i + 1 + d) cap (i + 1) _ (by omega) (by omega) (by omega) W, nc (i + 1) (by omega), am, show i + 1 + d - (i + 1) = d by omega]
  obtain ⟨A7, hA7⟩ : ∃ A7, A7 = (if cap = i + 1 + d then (some (⟨g, 0, none⟩ : Addr)) else (some (⟨g, 0, none⟩ : Addr)).map (·.add ((i + 1 + d) * 14))) := ⟨_, rfl⟩
  have hs7 : ∀ W, (Instr.slice 44 (.slice (some ⟨g, 0, none⟩) n cap) (some (.int .i64 ((i : Int) + 1 + (d : Int)))) none none).run Tryz.prog W = .ok (.slice A7 r (cap - (i + 1 + d))) W := fun W => by
    rw [run_slice_low (P := Tryz.prog) (size := 14) und sizeP (some ⟨g, 0, none⟩) n cap (i + 1 + d) _ (by omega) (by omega) (by omega) W, hA7, show n - (i + 1 + d) = r by omega]
  have hcp1 : ∀ a, (Builtin.copy_ #[44, 44] 3 #[.slice (some ⟨g, i * 14, none⟩) (1 + d) (cap - i), .slice (some ⟨q, 0, none⟩) 1 1]).run Tryz.prog (w.drewN a) = .ok (goInt 1) ((w.drewN a).setRow g L1) := fun a => by
    rw [hL1]
    exact run_copy_rows (P := Tryz.prog) (w.drewN a) 44 44 3 67 14 g (i * 14) (1 + d) (cap - i) 1 ⟨q, 0, none⟩ 1 1 cur 67 p.cells und (by kernel_rfl) hg (Nat.min_eq_left (by omega)).symm rfl
      (fun k v hk => by rw [addr_add]; exact (cell_of_row _ _ _ _ _ _ (show (w.drewN a).heap[q]? = _ from hq)).trans (by rw [← Array.getElem?_toList]; exact hk)) (by rw [PV.cells_len]; omega) honep
  have HL : Hid (n = i + 1 + r + d ∧ j = i + 1 + r) := Lib.hid ⟨hn, hj⟩
  have HA7 : Hid (0 < r → A7 = some ⟨g, (i + 1 + d) * 14, none⟩) := Lib.hid (fun hr => by rw [hA7, nc (i + 1 + d) (by omega), am])
  have HPS : Hid (pvRow (ps.take i ++ p :: ps.drop (i + 1 + r)) = (pvRow ps).take (i * 14) ++ p.cells ++ (pvRow ps).drop ((i + 1 + r) * 14) ∧ (pvRow (ps.take i ++ p :: ps.drop (i + 1 + r))).length = (i + 1 + d) * 14) := Lib.hid ⟨by
    rw [pvRow_app, pvRow_cons, pvRow_take, pvRow_drop, List.append_assoc], by
    rw [pvRow_len, List.length_append, List.length_cons, List.length_take, List.length_drop, hps]; omega⟩
  have HR5 := Lib.hid R5
  have HR1 := Lib.hid R1
  have HR2 := Lib.hid R2
  have HG := Lib.hid hg
  have HS := Lib.hid (And.intro s1 s2)
  have HL2 := Lib.hid hL2
  have HONE := Lib.hid hone
  have i1 : ((i : Int) == (j : Int)) = false := beq_eq_false_iff_ne.2 (by omega)
  have i2 : ((j : Int) == (n : Int)) = false := beq_eq_false_iff_ne.2 (by omega)
  have i3 : ¬ ((cap : Int) < (i : Int) + 1 + (d : Int)) := by omega
  have i4 : (i : Int) + 1 ≤ (j : Int) := by omega
  have i5 : i ≤ 100000 := by omega
  have i6 : d ≤ 100000 := by omega
  have i7 : j ≤ 100000 := by omega
  have i8 : n ≤ 100000 := by omega
  rw [← hn, ← hj]
  clear hown hlx hxs hsz hq R1 R2 R3 R4 R5 e1 e2 s1 s2 hL1 hL2 nc am hA7 hone honep h1 hps hg hj hn
  go_enter Tryz.func121, Tryz.ntmps121
  go_upto_region 9 with fail
  go_quiet (fail)
  go_upto_region 18 with fail
  have hW2 : ((w.drewN nq).setRow g L1).heap[g]? = some (.cells L1 67 (0, 0)) := setRow_heap (w.drewN nq) g cur _ _ _ HG.out
  have hg2 : w.grownBy ((w.drewN nq).setRow g L1) (some g) := ⟨rfl, rfl, rfl, by rw [setRow_size]; exact Nat.le_refl _, fun k hk hne => setRow_other (w.drewN nq) _ _ _ (fun e => hne (by rw [e]))⟩
  have HG2 := Lib.hid hg2
  clear hcp1 hg2
  generalize (w.drewN nq).setRow g L1 = w2 at hW2 HG2 ⊢
  have hcp2 : (Builtin.copy_ #[44, 44] 3 #[.slice (some ⟨g, (i + 1) * 14, none⟩) d (cap - (i + 1)), .slice (some ⟨g, j * 14, none⟩) d (cap - j)]).run Tryz.prog w2.drew = .ok (goInt d) (w2.drew.setRow g L2) := by
    rw [HL2.out]
    exact run_copy_rows (P := Tryz.prog) w2.drew 44 44 3 67 14 g ((i + 1) * 14) d (cap - (i + 1)) d ⟨g, j * 14, none⟩ d (cap - j) L1 67 ((pvRow ps).drop ((i + 1 + r) * 14)) und (by kernel_rfl) hW2 (Nat.min_self d).symm HR2.out
      (fun k v hk => by
        rw [Addr.add_lit, HL.out.2]
        exact (cell_of_row _ _ _ _ _ _ (show w2.drew.heap[g]? = _ from hW2)).trans (by rw [← Array.getElem?_toList]; exact HR1.out k v hk)) (by rw [HR2.out, HS.out.1]; omega) (fun u hu => HONE.out u (List.mem_of_mem_drop hu))
  have hW3 : (w2.drew.setRow g L2).heap[g]? = some (.cells L2 67 (0, 0)) := setRow_heap w2.drew g L1 _ _ _ hW2
  have HG3 : Hid (w.grownBy (w2.drew.setRow g L2) (some g)) := Lib.hid ⟨HG2.out.os, HG2.out.tape, HG2.out.output, by rw [setRow_size]; exact HG2.out.size, fun k hk hne => (setRow_other w2.drew _ _ _ (fun e => hne (by rw [e]))).trans (HG2.out.block k hk hne)⟩
  clear hW2
  generalize w2.drew.setRow g L2 = w3 at hcp2 hW3 HG3
  go_region
  all_goals
    clear hcp2
    rcases Nat.eq_zero_or_pos r with hr | hr
    · subst hr
      have hcl : ∀ ty, (Builtin.clear_ #[44] ty #[.slice A7 0 (cap - (i + 1 + d))]).run Tryz.prog w3 = .ok (.tuple #[]) w3 := fun ty => run_clear_none (P := Tryz.prog) w3 _ ty _ A7 _ und
      have HOWN : Hid (w3.ownsRow base 67 14 (.slice (some ⟨g, 0, none⟩) (i + 1 + d) cap) (i + 1 + d) (pvRow (ps.take i ++ p :: ps.drop (i + 1 + 0)))) := Lib.hid ⟨HPS.out.2, .inr ⟨g, cap, L2, rfl, hbase, hW3, by omega, by unfold maxLen; omega, HS.out.2, by rw [HR5.out, HPS.out.1]⟩⟩
      clear hW3
      go_wp2
      go_ret
      exact ⟨rfl, HOWN.out, HG3.out⟩
    · have hA := HA7.out hr
      subst hA
      have hlz := zerosP_len r
      have hcl : ∀ ty, (Builtin.clear_ #[44] ty #[.slice (some ⟨g, (i + 1 + d) * 14, none⟩) r (cap - (i + 1 + d))]).run Tryz.prog w3 = .ok (.tuple #[]) (w3.setRow g (L2.toList.take ((i + 1 + d) * 14) ++ zerosP r ++ L2.toList.drop ((i + 1 + d) * 14 + (zerosP r).length)).toArray) := fun ty =>
        run_clear_rows (P := Tryz.prog) w3 _ ty _ zeroPiece g ((i + 1 + d) * 14) r _ L2 67 und zeroP hr hW3 (by show _ + (zerosP r).length ≤ _; rw [hlz, HS.out.2]; omega) (zerosP_one r)
      have HOWN : Hid ((w3.setRow g (L2.toList.take ((i + 1 + d) * 14) ++ zerosP r ++ L2.toList.drop ((i + 1 + d) * 14 + (zerosP r).length)).toArray).ownsRow base 67 14 (.slice (some ⟨g, 0, none⟩) (i + 1 + d) cap) (i + 1 + d) (pvRow (ps.take i ++ p :: ps.drop (i + 1 + r)))) := Lib.hid ⟨HPS.out.2, .inr ⟨g, cap, _, rfl, hbase, setRow_heap w3 g L2 _ _ _ hW3, by omega, by unfold maxLen; omega, by
        have := HS.out.2
        rw [List.size_toArray, List.length_append, List.length_append, List.length_take, List.length_drop, Array.length_toList (xs := L2), hlz]
        omega, by
        have := HS.out.2
        show (L2.toList.take ((i + 1 + d) * 14) ++ zerosP r ++ L2.toList.drop ((i + 1 + d) * 14 + (zerosP r).length)).take ((i + 1 + d) * 14) = _
        rw [List.append_assoc, List.take_left' (by rw [List.length_take, Array.length_toList (xs := L2)]; omega), HR5.out, HPS.out.1]⟩⟩
      have HG4 : Hid (w.grownBy (w3.setRow g (L2.toList.take ((i + 1 + d) * 14) ++ zerosP r ++ L2.toList.drop ((i + 1 + d) * 14 + (zerosP r).length)).toArray) (some g)) := Lib.hid ⟨HG3.out.os, HG3.out.tape, HG3.out.output, by rw [setRow_size]; exact HG3.out.size, fun k hk hne => (setRow_other w3 _ _ _ (fun e => hne (by rw [e]))).trans (HG3.out.block k hk hne)⟩
      clear hW3 hlz
      generalize w3.setRow g (L2.toList.take ((i + 1 + d) * 14) ++ zerosP r ++ L2.toList.drop ((i + 1 + d) * 14 + (zerosP r).length)).toArray = w4 at hcl HOWN HG4
      go_wp2
      go_ret
      exact ⟨rfl, HOWN.out, HG4.out⟩
end Go.Proofs.YtmplfiflikhpjaaGreatDoor
/-
  slices.IndexFunc at pieces, by a mark: the first piece with that mark.
-/
namespace Go.Proofs.YtmplfiflikhpjaaGreatDoor
open Go.RowKit

/-- The mark of a piece as its pointer. -/
def PV.mp (p : PV) : Option Addr := p.mark.map fun b => ⟨b, 0, none⟩
theorem info_mark : (Tryz.prog.info? 62).isSome = true := by kernel_rfl
theorem eql_mark (W : World) (a : Nat) (ha : ∃ cs t, W.heap[a]? = some (.cells cs t (0, 0))) (mo : Option Addr) (hm : ∀ x, mo = some x → ∃ cs t, W.heap[x.block]? = some (.cells cs t (0, 0))) :
    (binOp .eql 65 (.pointer mo) (.pointer (some ⟨a, 0, none⟩))).run Tryz.prog W = .ok (.bool (mo == some ⟨a, 0, none⟩)) W := by
  obtain ⟨j, hj⟩ := Option.isSome_iff_exists.1 info_mark
  obtain ⟨ca, ta, ha⟩ := ha
  cases mo with
  | none =>
    have h : ∀ d : Nat, (Op.equalIn (d + 1) 65 (.pointer none) (.pointer (some ⟨a, 0, none⟩))).run Tryz.prog W = .ok false W := fun d => by
      simp [Op.equalIn, run_underlying Tryz.underlying65]
    simp only [binOp]
    simp [Op.equal, Op.maxDepth, h 9999]
  | some x =>
    obtain ⟨cb, tb, hb⟩ := hm x rfl
    by_cases e : x = ⟨a, 0, none⟩
    · subst e
      rw [run_eql_ptr_same W _ Tryz.underlying65 hj]
      simp
    · have hsz : j.size ≠ 0 := by
        have h2 : (Tryz.prog.info? 62).map (·.size) = some 4 := by kernel_rfl
        rw [hj] at h2
        have h3 : j.size = 4 := by simpa using h2
        omega
      rw [run_eql_ptr_other W Tryz.underlying65 hj hsz e hb ha]
      have : (some x == some (⟨a, 0, none⟩ : Addr)) = false := beq_eq_false_iff_ne.2 (fun h => e (Option.some.inj h))
      rw [this]
def ByMark (w : World) (p : PV) : Prop := ∀ b, p.mark = some b → ∃ cs t, w.heap[b]? = some (.cells cs t (0, 0))
set_option maxHeartbeats 4000000 in
set_option maxRecDepth 100000 in
theorem byA_any (w : World) (c a : Nat) (p : PV) (hk : ∃ A n k, p.kids = .slice A n k) (hc : w.cell? ⟨c, 0, none⟩ = some (.pointer (some ⟨a, 0, none⟩))) (ha : ∃ cs t, w.heap[a]? = some (.cells cs t (0, 0))) (hp : ByMark w p) :
    Calls Tryz.prog 119 #[.agg p.cells.toArray, .pointer (some ⟨c, 0, none⟩)] w fun e w' => e = .returned (.bool (p.mp == some ⟨a, 0, none⟩)) ∧ Below w.heap.size w w' := by
  obtain ⟨kd, tx, ur, ti, kv, ra, mk, lf, im, no, de⟩ := p
  obtain ⟨kA, kn, kcap, hkv⟩ := hk
  simp only at hkv
  subst hkv
  have zc := World.block_lt_of_cell? _ _ hc
  simp only at zc
  show Calls Tryz.prog 119 #[.agg #[.int .i64 (kd : Int), .int .i64 0, .bool false, .bool false, .string tx, .string ur, .string ti, .slice kA kn kcap, .bool ra, .pointer (mk.map fun b => ⟨b, 0, none⟩), .int .i64 (lf : Int), .bool im, .bool no, .bool de], .pointer (some ⟨c, 0, none⟩)] w fun e w' => e = .returned (.bool ((mk.map fun b => (⟨b, 0, none⟩ : Addr)) == some ⟨a, 0, none⟩)) ∧ Below w.heap.size w w'
  have hE : ∀ o, (binOp .eql 65 (.pointer (mk.map fun b => (⟨b, 0, none⟩ : Addr))) (.pointer (some ⟨a, 0, none⟩))).run Tryz.prog (w.alloc o) = .ok (.bool ((mk.map fun b => (⟨b, 0, none⟩ : Addr)) == some ⟨a, 0, none⟩)) (w.alloc o) := fun o => by
    refine eql_mark _ a ?_ _ (fun x hx => ?_)
    · obtain ⟨cs, t, h⟩ := ha
      exact ⟨cs, t, (Below.heap_alloc w o a (blk_lt h)).trans h⟩
    · obtain ⟨b, hb, rfl⟩ := Option.map_eq_some_iff.1 hx
      obtain ⟨cs, t, h⟩ := hp b hb
      exact ⟨cs, t, (Below.heap_alloc w o b (blk_lt h)).trans h⟩
  generalize (mk.map fun b => (⟨b, 0, none⟩ : Addr)) = mo at hE ⊢
  obtain ⟨r, hr⟩ : ∃ r, r = (mo == some (⟨a, 0, none⟩ : Addr)) := ⟨_, rfl⟩
  rw [← hr] at hE ⊢
  clear hr ha hp
  go_enter Tryz.func119, Tryz.ntmps119
  go_wp2
  go_ret
  exact ⟨rfl, (Below.refl _ _).alloc (Nat.le_refl _) _⟩
set_option maxHeartbeats 4000000 in
set_option maxRecDepth 100000 in
theorem byB_any (w : World) (c a : Nat) (p : PV) (hk : ∃ A n k, p.kids = .slice A n k) (hc : w.cell? ⟨c, 0, none⟩ = some (.pointer (some ⟨a, 0, none⟩))) (ha : ∃ cs t, w.heap[a]? = some (.cells cs t (0, 0))) (hp : ByMark w p) :
    Calls Tryz.prog 120 #[.agg p.cells.toArray, .pointer (some ⟨c, 0, none⟩)] w fun e w' => e = .returned (.bool (p.mp == some ⟨a, 0, none⟩)) ∧ Below w.heap.size w w' := by
  obtain ⟨kd, tx, ur, ti, kv, ra, mk, lf, im, no, de⟩ := p
  obtain ⟨kA, kn, kcap, hkv⟩ := hk
  simp only at hkv
  subst hkv
  have zc := World.block_lt_of_cell? _ _ hc
  simp only at zc
  show Calls Tryz.prog 120 #[.agg #[.int .i64 (kd : Int), .int .i64 0, .bool false, .bool false, .string tx, .string ur, .string ti, .slice kA kn kcap, .bool ra, .pointer (mk.map fun b => ⟨b, 0, none⟩), .int .i64 (lf : Int), .bool im, .bool no, .bool de], .pointer (some ⟨c, 0, none⟩)] w fun e w' => e = .returned (.bool ((mk.map fun b => (⟨b, 0, none⟩ : Addr)) == some ⟨a, 0, none⟩)) ∧ Below w.heap.size w w'
  have hE : ∀ o, (binOp .eql 65 (.pointer (mk.map fun b => (⟨b, 0, none⟩ : Addr))) (.pointer (some ⟨a, 0, none⟩))).run Tryz.prog (w.alloc o) = .ok (.bool ((mk.map fun b => (⟨b, 0, none⟩ : Addr)) == some ⟨a, 0, none⟩)) (w.alloc o) := fun o => by
    refine eql_mark _ a ?_ _ (fun x hx => ?_)
    · obtain ⟨cs, t, h⟩ := ha
      exact ⟨cs, t, (Below.heap_alloc w o a (blk_lt h)).trans h⟩
    · obtain ⟨b, hb, rfl⟩ := Option.map_eq_some_iff.1 hx
      obtain ⟨cs, t, h⟩ := hp b hb
      exact ⟨cs, t, (Below.heap_alloc w o b (blk_lt h)).trans h⟩
  generalize (mk.map fun b => (⟨b, 0, none⟩ : Addr)) = mo at hE ⊢
  obtain ⟨r, hr⟩ : ∃ r, r = (mo == some (⟨a, 0, none⟩ : Addr)) := ⟨_, rfl⟩
  rw [← hr] at hE ⊢
  clear hr ha hp
  go_enter Tryz.func120, Tryz.ntmps120
  go_wp2
  go_ret
  exact ⟨rfl, (Below.refl _ _).alloc (Nat.le_refl _) _⟩

/-- A function value that tells of each piece whether it has a mark. -/
def Tells (w : World) (g c a : Nat) (ps : List PV) : Prop :=
  ∀ (W : World) (p : PV), p ∈ ps → Below w.heap.size w W → Calls Tryz.prog g #[.agg p.cells.toArray, .pointer (some ⟨c, 0, none⟩)] W fun e w' => e = .returned (.bool (p.mp == some ⟨a, 0, none⟩)) ∧ Below W.heap.size W w'
theorem findIdx_lt_not {α : Type} (P : α → Bool) (l : List α) (i : Nat) (h : i < l.findIdx P) (x : α) (hx : l[i]? = some x) : P x = false := by
  have hl : i < l.length := (List.getElem?_eq_some_iff.1 hx).1
  have := List.not_of_lt_findIdx h
  obtain ⟨_, rfl⟩ := List.getElem?_eq_some_iff.1 hx
  simpa using this
set_option maxHeartbeats 8000000 in
set_option maxRecDepth 100000 in
theorem indexFunc_any (w : World) (v : Value) (ps : List PV) (g c a : Nat) (hv : PRead w v ps) (eg : ∀ args w, (callFunc g args).run Tryz.prog w = .ok (.enter g args) w) (hT : Tells w g c a ps) (hk : ∀ p ∈ ps, ∃ A n k, p.kids = .slice A n k)
    (hlen : ps.length ≤ 100000) (hfound : ps.findIdx (fun p => p.mp == some ⟨a, 0, none⟩) < ps.length) :
    Calls Tryz.prog 118 #[v, .func (.func g) #[] #[.pointer (some ⟨c, 0, none⟩)]] w fun e w' => e = .returned (.int .i64 ((ps.findIdx (fun p => p.mp == some ⟨a, 0, none⟩) : Nat) : Int)) ∧ Below w.heap.size w w' := by
  obtain ⟨A, cap, rfl, hc⟩ := hv
  obtain ⟨m, hm⟩ : ∃ m, m = ps.findIdx (fun p => p.mp == some ⟨a, 0, none⟩) := ⟨_, rfl⟩
  rw [← hm] at hfound ⊢
  obtain ⟨b, off, rfl, hlt, hcell⟩ := hc (by omega)
  have HC := Lib.hid hcell
  have HT := Lib.hid hT
  have HK := Lib.hid hk
  have HM := Lib.hid hm
  clear hcell hc hT hk hm
  go_enter Tryz.func118, Tryz.ntmps118
  go_wp2
  go_loopw [8] (fun v8 wr => ∃ i : Nat, i ≤ m ∧ v8 = .int .i64 (i : Int) ∧ Hid (Below w.heap.size w wr)) (fun v8 _ => m - (intOf v8).toNat)
  case atStart => exact ⟨0, Nat.zero_le _, rfl, Lib.hid (Below.refl _ _)⟩
  case round =>
    obtain ⟨i, hi, rfl, HB⟩ := hrel
    have hpi : (i : Int) < ps.length := by omega
    have hp : i < ps.length := by omega
    obtain ⟨p, hpp⟩ : ∃ p, ps[i]? = some p := ⟨_, List.getElem?_eq_getElem hp⟩
    obtain ⟨kA, kn, kcap, hkv⟩ := HK.out p (List.mem_of_getElem? hpp)
    have hCall := HT.out wr p (List.mem_of_getElem? hpp) HB.out
    have hres : (p.mp == some ⟨a, 0, none⟩) = decide (i = m) := by
      by_cases e : i = m
      · have h1 := List.findIdx_getElem (p := fun (p : PV) => p.mp == some ⟨a, 0, none⟩) (xs := ps) (w := by rw [← HM.out]; exact hfound)
        have h2 : ps[ps.findIdx fun p => p.mp == some ⟨a, 0, none⟩]? = some p := by rw [← HM.out, ← e]; exact hpp
        obtain ⟨_, rfl⟩ := List.getElem?_eq_some_iff.1 h2
        rw [h1, decide_eq_true e]
      · rw [decide_eq_false e]
        exact findIdx_lt_not _ ps i (by rw [← HM.out]; omega) p hpp
    rw [hres] at hCall
    obtain ⟨kd, tx, ur, ti, kv, ra, mk, lf, im, no, de⟩ := p
    simp only at hkv
    subst hkv
    have hcw : ∀ (j : Nat) (u : Value), (PV.mk kd tx ur ti (.slice kA kn kcap) ra mk lf im no de).cells[j]? = some u → wr.cell? ⟨b, off + i * 14 + j, none⟩ = some u := fun j u hu => (HB.out.cell (p := ⟨b, off + i * 14 + j, none⟩) hlt).trans (HC.out i _ hpp j u hu)
    have c0 := hcw 0 _ rfl
    have c1 := hcw 1 _ rfl
    have c2 := hcw 2 _ rfl
    have c3 := hcw 3 _ rfl
    have c4 := hcw 4 _ rfl
    have c5 := hcw 5 _ rfl
    have c6 := hcw 6 _ rfl
    have c7 := hcw 7 _ rfl
    have c8 := hcw 8 _ rfl
    have c9 := hcw 9 _ rfl
    have c10 := hcw 10 _ rfl
    have c11 := hcw 11 _ rfl
    have c12 := hcw 12 _ rfl
    have c13 := hcw 13 _ rfl
    rw [Nat.add_zero] at c0
    simp only at c0 c1 c2 c3 c4 c5 c6 c7 c8 c9 c10 c11 c12 c13
    have hCall2 : Calls Tryz.prog g #[.agg #[.int .i64 (kd : Int), .int .i64 0, .bool false, .bool false, .string tx, .string ur, .string ti, .slice kA kn kcap, .bool ra, markPtr mk, .int .i64 (lf : Int), .bool im, .bool no, .bool de], .pointer (some ⟨c, 0, none⟩)] wr fun e w' => e = .returned (.bool (decide (i = m))) ∧ Below wr.heap.size wr w' := hCall
    clear hcw hpp hCall hres
    by_cases e : i = m
    · rw [decide_eq_true e] at hCall2
      have HEM := Lib.hid e
      clear e
      go_wp2_with (go_at_fn g; refine hCall2.mono ?_; rintro e w' ⟨rfl, hb'⟩)
      go_ret
      exact ⟨ret_int (by rw [HEM.out]), HB.out.trans (hb'.mono HB.out.size)⟩
    · rw [decide_eq_false e] at hCall2
      go_wp2_with (go_at_fn g; refine hCall2.mono ?_; rintro e w' ⟨rfl, hb'⟩)
      go_roundw
      case rel => exact ⟨i + 1, by omega, by go_num, Lib.hid (HB.out.trans (hb'.mono HB.out.size))⟩
      case measure => simp [intOf]; omega
end Go.Proofs.YtmplfiflikhpjaaGreatDoor
