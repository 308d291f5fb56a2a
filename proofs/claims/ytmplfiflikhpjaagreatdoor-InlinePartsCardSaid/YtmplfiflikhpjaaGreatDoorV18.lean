/-
  Texts of one proof, joined: MeJ.
-/
import Derived.Test.YtmplfiflikhpjaaGreatDoorV16
/-
  inline's parser: step at underscores.
-/
namespace Go.Proofs.YtmplfiflikhpjaaGreatDoor
open Go.RowKit

set_option maxHeartbeats 32000000 in
set_option maxRecDepth 100000 in
theorem step95_any (w0 w : World) (pb : Nat) (s : ByteArray) (k : Nat) (v : Value) (ps : List PV) (ss : List Spec.Piece) (h : PSt w0 w pb s k v ps ss) (hk : k < s.size) (hs : s.size ≤ 20000) (hT : TabsM w0) (hG : Pl.PG s.data.toList k ss) (hR : Pl.RawK ss) (r : Nat × List Spec.Piece) (hr : r = Pl.stepAt s.data.toList k ss) (h95 : s.data.toList[k]? = some 95) :
    Calls Tryz.prog 26 #[.pointer (some ⟨pb, 0, none⟩)] w (fun e w' => e = .returned (.tuple #[]) ∧ ∃ v' ps', PSt w0 w' pb s (k + r.1) v' ps' r.2) := by
  have H := Lib.hid h
  have p0 := h.p0
  have p1 := h.p1
  have zpb := h.lt
  have hki : (k : Int) < s.size := by omega
  have hks : (k : Int) ≤ s.size := by omega
  have hk0 : (0 : Int) ≤ k := by omega
  obtain ⟨u, hu⟩ : ∃ u, u = s.extract k s.size := ⟨_, rfl⟩
  have hu0 : 0 < u.size := by rw [hu, ByteArray.size_extract]; omega
  have hul : u.size ≤ 20000 := by rw [hu, ByteArray.size_extract]; omega
  have hud : u.data.toList = s.data.toList.drop k := by rw [hu, drop_text s k (by omega)]
  obtain ⟨t, hut⟩ : ∃ t, u.data.toList = u[0] :: t := by
    have := head_cons u hu0
    exact ⟨_, this⟩
  have hlen : ps.length ≤ 20000 := by have := h.fit.1; have := hG.lenk; omega
  have hX : Short ss := fun p hp hr hk => by
    have hm : p ∈ ss := List.mem_of_getLast? hp
    have h1 := wt_mem ss p hm
    have h2 := hG.wtk
    have h3 : Pl.wt p = p.node.text.length := by
      unfold Pl.wt
      rw [Pl.raw_unmarked hG p hm hr, if_pos hk]
    omega
  have HP := Lib.hid (And.intro hT (And.intro hG (And.intro hR (And.intro hX hlen))))
  have HR := Lib.hid hr
  have HU := Lib.hid (And.intro hud hu)
  clear h hT hG hR hX hr hud
  go_enter Tryz.func26, Tryz.ntmps26
  go_wp2_with fail
  go_quiet (fail)
  rw [← hu]
  have h1 : PSt w0 (w.drewN nq) pb s k v ps ss := H.out.below (below_drewN2 (Below.refl _ _) nq)
  generalize w.drewN nq = w1 at h1 ⊢
  obtain ⟨i0, hi0, hz0, hz1, hz2⟩ := info_parts info_piece
  obtain ⟨vA, vc, rfl⟩ := row_slice h1.own
  have H1 := Lib.hid h1
  have p1 := h1.p1
  have f1 := h1.fz 1
  have zpb := h1.lt
  clear hu H p0 h1
  go_upto_block 0 with fail
  go_cut [3, 4, 5, 6, 17] (fun v3 v4 v5 v6 v17 wc => StepTo w0 pb s k r v3 wc)
  case first =>
    go_upto_region 5 with fail
    have hc : u[0] = 95 := by
      have h1 : u.data.toList[0]? = some 95 := by rw [HU.out.1, List.getElem?_drop, Nat.add_zero]; exact h95
      rw [hut] at h1
      exact Option.some.inj h1
    have hx : ((u[0]).toNat : Int) = 95 := by rw [hc]; rfl
    rw [hx]
    rw [hc] at hut
    obtain ⟨n, hn⟩ : ∃ n, n = Spec.run u.data.toList 95 := ⟨_, rfl⟩
    have hnu : n ≤ u.size := by rw [hn, Lib.size_eq]; exact Pl.run_le _ _
    have hset : (u.extract 0 1).data.toList = [95] := by rw [pre_text, hut]; rfl
    obtain ⟨C, hC⟩ : ∃ C : ByteArray, C = ⟨(Lib.trimLeftS u.data.toList [95]).toArray⟩ := ⟨_, rfl⟩
    have hCs : C.size + n = u.size := by rw [hC, hn, Lib.size_eq, Lib.size_eq]; exact trimS_run _ _
    have hCut : ∀ W, Calls Tryz.prog 56 #[.string u, .string (u.extract 0 1)] W fun e w' => e = .returned (.string C) ∧ Below W.heap.size W w' := fun W => by
      have hAs : Ascii (u.extract 0 1) := by
        rw [show u.extract 0 1 = ⟨#[95]⟩ by rw [pre_text, hut]; rfl]
        intro j h
        obtain rfl : j = 0 := by have : j < 1 := h; omega
        exact (by decide : (95 : UInt8).toNat < 128)
      have := inCutLeft_any u (u.extract 0 1) hAs W (by omega)
      rw [hset, ← hC] at this
      exact this
    have hu1 : (1 : Int) ≤ u.size := by omega
    have hsub : (u.size : Int) - (C.size : Int) = (n : Int) := by omega
    have hni : (n : Int) ≤ u.size := by omega
    have hn0 : (0 : Int) ≤ n := by omega
    obtain ⟨lb, hlb⟩ : ∃ lb, lb = lastR (last16 ⟨(s.data.toList.take k).toArray⟩) := ⟨_, rfl⟩
    obtain ⟨fa, hfa⟩ : ∃ fa, fa = firstR ⟨(u.data.toList.drop n).toArray⟩ := ⟨_, rfl⟩
    have hLast : ∀ W, Calls Tryz.prog 58 #[.string (s.extract 0 k)] W fun e w' => e = .returned (.int .i32 (lb : Int)) ∧ Below W.heap.size W w' := fun W => by
      have := last_any (s.extract 0 k) W (by rw [ByteArray.size_extract]; omega)
      rw [show lastR (last16 (s.extract 0 k)) = lb by rw [hlb, pre_text]] at this
      exact this
    have hFirst : ∀ W, Calls Tryz.prog 59 #[.string (u.extract n u.size)] W fun e w' => e = .returned (.int .i32 (fa : Int)) ∧ Below W.heap.size W w' := fun W => by
      have := first_any (u.extract n u.size) W (by rw [ByteArray.size_extract]; omega)
      rw [show firstR (u.extract n u.size) = fa by rw [hfa, drop_text u n hnu]] at this
      exact this
    obtain ⟨M, hM⟩ : ∃ M, M = Spec.look 95 n lb fa := ⟨_, rfl⟩
    have hLook : ∀ W, Calls Tryz.prog 57 #[.int .u8 95, .int .i64 (n : Int), .int .i32 (lb : Int), .int .i32 (fa : Int)] W fun e w' => e = .returned (.agg #[.int .u8 (M.sign.toNat : Int), .int .i64 (M.n : Int), .bool M.opn, .bool M.cls]) ∧ Below W.heap.size W w' := fun W => by
      have := look_any 95 n lb fa W
      unfold markV at this
      rw [← hM] at this
      exact this
    have hrr : r = (n, ss ++ [⟨.mk 0 [] [] [] [], false, some M, n, false, false, false⟩]) := by rw [HR.out, hM, hlb, hfa, hn]; unfold Pl.stepAt; rw [← HU.out.1, hut]; rfl
    have HRR := Lib.hid hrr
    have hI : ∀ W, (Instr.index 9 (.string u) (.int .i64 0)).run Tryz.prog W = .ok (.int .u8 95) W := fun W => by
      rw [run_index_string W _ u .i64 0 Tryz.underlying9, dif_pos ⟨by omega, by omega⟩]
      exact congrArg (fun z : UInt8 => Result.ok (Value.int .u8 (z.toNat : Int)) W) hc
    clear hc hut hrr p1 f1 hlb hfa hM hset hC hCs hn
    go_wp2_with fail
    refine (hCut _).mono ?_
    rintro e w2 ⟨rfl, hb2⟩
    have h2 := H1.out.below hb2
    have H2 := Lib.hid h2
    have p0 := h2.p0
    have p1 := h2.p1
    have p2 := h2.p2
    have zpb2 := h2.lt
    clear hb2 h2 hCut hx
    go_upto_region 20 with fail
    go_cut [6] (fun v6 wc => ∃ mb, v6 = .pointer (some ⟨mb, 0, none⟩) ∧ w2.heap.size ≤ mb ∧ wc.heap[mb]? = some (.cells #[.int .u8 (M.sign.toNat : Int), .int .i64 (M.n : Int), .bool M.opn, .bool M.cls] 62 (0, 0)) ∧ Below w2.heap.size w2 wc)
    case first =>
      go_region_held3 (fun w' => w'.cell? ⟨pb, 0, none⟩ = some (.string s) ∧ w'.cell? ⟨pb, 1, none⟩ = some (.int .i64 (k : Int)) ∧ Below w2.heap.size w2 w') (first | (go_split_ands; with_reducible exact ⟨by assumption, by assumption, by assumption⟩) | (go_split_ands; with_reducible exact ⟨(hb5.cell (p := ⟨pb, 0, none⟩) (Nat.lt_of_lt_of_le zpb2 (Below.size (by assumption)))).trans (by assumption), (hb5.cell (p := ⟨pb, 1, none⟩) (Nat.lt_of_lt_of_le zpb2 (Below.size (by assumption)))).trans (by assumption), Below.trans (by assumption) (hb5.mono (Below.size (by assumption)))⟩) | (go_split_ands; with_reducible exact ⟨(World.cell?_alloc_lt _ _ ⟨pb, 0, none⟩ (Nat.lt_of_lt_of_le zpb2 (Below.size (by assumption)))).trans (by assumption), (World.cell?_alloc_lt _ _ ⟨pb, 1, none⟩ (Nat.lt_of_lt_of_le zpb2 (Below.size (by assumption)))).trans (by assumption), Below.alloc (by assumption) (Below.size (by assumption)) _⟩) | (go_split_ands; with_reducible exact ⟨alloc_swap (p := ⟨pb, 0, none⟩) (by assumption) (Nat.lt_of_lt_of_le zpb2 zz) _, alloc_swap (p := ⟨pb, 1, none⟩) (by assumption) (Nat.lt_of_lt_of_le zpb2 zz) _, below_swap (by assumption) zz _ zz⟩) | (go_split_ands; with_reducible exact ⟨store4_keep _ _ _ _ (by assumption) (by omega), store4_keep _ _ _ _ (by assumption) (by omega), store4_below _ _ _ _ (by assumption) (by omega)⟩) | (exact ⟨p0, p1, below_drew2 (Below.refl _ _)⟩) | (exact ⟨(World.cell?_alloc_lt w2 _ ⟨pb, 0, none⟩ zpb2).trans p0, (World.cell?_alloc_lt w2 _ ⟨pb, 1, none⟩ zpb2).trans p1, Below.drew ((Below.refl _ _).alloc (Nat.le_refl _) _)⟩)) (first | (go_at_call 58; refine (hLast _).mono ?_; rintro e w5 ⟨rfl, hb5⟩; have zz : w2.heap.size ≤ w5.heap.size := Nat.le_trans (‹(_ : Prop) ∧ (_ : Prop) ∧ Below w2.heap.size w2 _›).2.2.size hb5.size; first | (have hy5 := (hb5.block _ (blk_lt hy5)).trans hy5; have y0 := cell_of_row _ _ 0 _ _ _ hy5; have y1 := cell_of_row _ _ 1 _ _ _ hy5; have y2 := cell_of_row _ _ 2 _ _ _ hy5; have y3 := cell_of_row _ _ 3 _ _ _ hy5; have yf := fun j => frozen_of_row _ _ j _ _ hy5) | ((with_reducible have hy5 := new_in hb5); have y0 := cell_of_row _ _ 0 _ _ _ hy5; have y1 := cell_of_row _ _ 1 _ _ _ hy5; have y2 := cell_of_row _ _ 2 _ _ _ hy5; have y3 := cell_of_row _ _ 3 _ _ _ hy5; have yf := fun j => frozen_of_row _ _ j _ _ hy5) | ((with_reducible have hy5 := new_in2 hb5); have y0 := cell_of_row _ _ 0 _ _ _ hy5; have y1 := cell_of_row _ _ 1 _ _ _ hy5; have y2 := cell_of_row _ _ 2 _ _ _ hy5; have y3 := cell_of_row _ _ 3 _ _ _ hy5; have yf := fun j => frozen_of_row _ _ j _ _ hy5) | skip) | (go_at_call 59; refine (hFirst _).mono ?_; rintro e w5 ⟨rfl, hb5⟩; have zz : w2.heap.size ≤ w5.heap.size := Nat.le_trans (‹(_ : Prop) ∧ (_ : Prop) ∧ Below w2.heap.size w2 _›).2.2.size hb5.size; first | (have hy5 := (hb5.block _ (blk_lt hy5)).trans hy5; have y0 := cell_of_row _ _ 0 _ _ _ hy5; have y1 := cell_of_row _ _ 1 _ _ _ hy5; have y2 := cell_of_row _ _ 2 _ _ _ hy5; have y3 := cell_of_row _ _ 3 _ _ _ hy5; have yf := fun j => frozen_of_row _ _ j _ _ hy5) | ((with_reducible have hy5 := new_in hb5); have y0 := cell_of_row _ _ 0 _ _ _ hy5; have y1 := cell_of_row _ _ 1 _ _ _ hy5; have y2 := cell_of_row _ _ 2 _ _ _ hy5; have y3 := cell_of_row _ _ 3 _ _ _ hy5; have yf := fun j => frozen_of_row _ _ j _ _ hy5) | ((with_reducible have hy5 := new_in2 hb5); have y0 := cell_of_row _ _ 0 _ _ _ hy5; have y1 := cell_of_row _ _ 1 _ _ _ hy5; have y2 := cell_of_row _ _ 2 _ _ _ hy5; have y3 := cell_of_row _ _ 3 _ _ _ hy5; have yf := fun j => frozen_of_row _ _ j _ _ hy5) | skip) | (go_at_call 57; refine (hLook _).mono ?_; rintro e w5 ⟨rfl, hb5⟩; have zz : w2.heap.size ≤ w5.heap.size := Nat.le_trans (‹(_ : Prop) ∧ (_ : Prop) ∧ Below w2.heap.size w2 _›).2.2.size hb5.size; first | (have hy5 := (hb5.block _ (blk_lt hy5)).trans hy5; have y0 := cell_of_row _ _ 0 _ _ _ hy5; have y1 := cell_of_row _ _ 1 _ _ _ hy5; have y2 := cell_of_row _ _ 2 _ _ _ hy5; have y3 := cell_of_row _ _ 3 _ _ _ hy5; have yf := fun j => frozen_of_row _ _ j _ _ hy5) | ((with_reducible have hy5 := new_in hb5); have y0 := cell_of_row _ _ 0 _ _ _ hy5; have y1 := cell_of_row _ _ 1 _ _ _ hy5; have y2 := cell_of_row _ _ 2 _ _ _ hy5; have y3 := cell_of_row _ _ 3 _ _ _ hy5; have yf := fun j => frozen_of_row _ _ j _ _ hy5) | ((with_reducible have hy5 := new_in2 hb5); have y0 := cell_of_row _ _ 0 _ _ _ hy5; have y1 := cell_of_row _ _ 1 _ _ _ hy5; have y2 := cell_of_row _ _ 2 _ _ _ hy5; have y3 := cell_of_row _ _ 3 _ _ _ hy5; have yf := fun j => frozen_of_row _ _ j _ _ hy5) | skip))
      all_goals
        have hB := (‹(_ : Prop) ∧ (_ : Prop) ∧ Below w2.heap.size w2 _›).2.2
        go_wp2_with fail
        go_meet
        first
          | exact ⟨_, rfl, zz, heap_alloc_new _ _, hB⟩
          | exact ⟨_, rfl, by omega, store4_row _ _ _ _ hy5, hB⟩
    obtain ⟨mb, rfl, hmb, hrow, hbc⟩ := hcut
    have hc2 := H2.out.below hbc
    have hoc := hc2.own
    have zb := hc2.bel.size
    have p2 := hc2.p2
    have HC := Lib.hid (And.intro hc2 (And.intro hrow hmb))
    clear hc2 hmb hrow hbc p0 p1 zpb2
    go_wp2_with (at_builtin; refine wpList_append_own _ rfl (.tmp 88) (.tmp 91) 44 rfl w0.heap.size 67 i0 zeroPiece 14 128 Tryz.underlying44 hi0 hz0 hz1 hz2 rfl (by decide) (.slice vA ps.length vc) ps.length (pvRow ps) rfl (hoc.alloc _) ⟨wc.heap.size, 0, none⟩ 1 1 (PV.mk 0 ⟨#[]⟩ ⟨#[]⟩ ⟨#[]⟩ (.slice none 0 0) false (some mb) n false false false).cells rfl rfl ?c1 ?c2 ?c3 ?c4 ?c5 ?_)
    case c1 => exact cells_new _ _ _
    case c2 => exact one_pv _ ⟨_, _, _, rfl⟩
    case c3 => have := HP.out.2.2.2.2; unfold maxLen; omega
    case c4 => have := HP.out.2.2.2.2; omega
    case c5 => exact le_alloc zb _
    intro v2 w6 hI2 hgrow _
    have hbel : Below wc.heap.size wc (wc.alloc (.cells (PV.mk 0 ⟨#[]⟩ ⟨#[]⟩ ⟨#[]⟩ (.slice none 0 0) false (some mb) n false false false).cells.toArray 67)) := (Below.refl _ _).alloc (Nat.le_refl _) _
    have hcc := HC.out.1.below hbel
    have hmb7 := (hbel.block mb (blk_lt HC.out.2.1)).trans HC.out.2.1
    have hb7 := grown_far (hoc.alloc _) hgrow hcc.blk (by decide)
    have q2 : w6.cell? ⟨pb, 2, none⟩ = some (.slice vA ps.length vc) := cell_of_row _ _ _ _ _ _ hb7
    have qz : w6.frozen? ⟨pb, 2, none⟩ = false := frozen_of_row _ _ _ _ _ hb7
    have hs := hcc.snoc (p := PV.mk 0 ⟨#[]⟩ ⟨#[]⟩ ⟨#[]⟩ (.slice none 0 0) false (some mb) n false false false) (sp := ⟨.mk 0 [] [] [] [], false, some M, n, false, false, false⟩) ⟨rfl, rfl, rfl, rfl, .empty _ _, rfl, rfl, rfl, rfl, rfl, ⟨mb, rfl, blk_lt hmb7, hmb7⟩⟩ (fun m hm q hq e => by
      have h1 := mark_lt H2.out.fit q hq m e
      have h2 : mb = m := Option.some.inj hm
      have h3 := HC.out.2.2
      omega) hI2 hgrow
    have HS := Lib.hid hs
    obtain ⟨v2A, v2c, rfl⟩ := row_slice hI2
    clear hI2 hgrow hb7 hcc hbel hs hoc hmb7
    go_wp2_with fail
    go_meet
    unfold StepTo
    rw [HRR.out]
    exact ⟨rfl, _, _, HS.out⟩
  obtain ⟨hv3, v', ps', hq⟩ := hcut
  subst hv3
  have HQ := Lib.hid hq
  have p1 := hq.p1
  have f1 := hq.fz 1
  have hst := Pl.stepAt_pos s.data.toList k ss (by rw [← Lib.size_eq]; exact hk)
  rw [← HR.out, ← Lib.size_eq] at hst
  have s1 : IntKind.i64.wrap ((k : Int) + (r.1 : Int)) = (k : Int) + (r.1 : Int) := IntWalk.i64_in _ (by omega)
  clear hq
  go_wp2
  have hself := HQ.out.self (k + r.1)
  rw [show ((k + r.1 : Nat) : Int) = (k : Int) + (r.1 : Int) by omega] at hself
  go_end0
  exact ⟨rfl, _, _, hself⟩
end Go.Proofs.YtmplfiflikhpjaaGreatDoor
