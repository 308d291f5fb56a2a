/-
  Texts of one proof, joined: MeG.
-/
import Derived.Test.YtmplfiflikhpjaaGreatDoorV14
/-
  inline's parser: bracket.
-/
namespace Go.Proofs.YtmplfiflikhpjaaGreatDoor
open Go.RowKit

theorem size_piece (W : World) : (Go.sizeOf 67).run Tryz.prog W = .ok 14 W := by kernel_rfl

set_option maxHeartbeats 32000000 in
set_option maxRecDepth 100000 in
theorem bracketM_any (w0 w : World) (pb : Nat) (s : ByteArray) (k : Nat) (v : Value) (ps : List PV) (ss : List Spec.Piece) (u : ByteArray) (t : List UInt8) (h : PSt w0 w pb s k v ps ss) (hlen : ps.length ≤ 90000) (hu : u.size ≤ 100000) (hut : u.data.toList = 93 :: t) (hT : TabsM w0) (hX : Short ss)
    (hA : Pl.Apt ss) (hF : Pl.Fresh ss) (hwt : Pl.wtL ss ≤ 1000000) :
    Calls Tryz.prog 61 #[.pointer (some ⟨pb, 0, none⟩), .string u] w (PPost w0 pb s k (Spec.bracket t ss).2 (.int .i64 ((Spec.bracket t ss).1 : Int))) := by
  obtain ⟨i0, hi0, hz0, hz1, hz2⟩ := info_parts info_piece
  obtain ⟨BR, hBR⟩ : ∃ BR, BR = Spec.bracket t ss := ⟨_, rfl⟩
  rw [← hBR]
  have HBR := Lib.hid hBR
  have hsz : u.size = t.length + 1 := by rw [Lib.size_eq, hut]; rfl
  have hex : (u.extract 1 u.size).data.toList = t := by rw [drop_text u 1 (by omega), hut]; rfl
  have hu1 : (1 : Int) ≤ u.size := by omega
  have hD := fun W (hTW : Tabs W) => dest_any (u.extract 1 u.size) W (by rw [ByteArray.size_extract]; omega) hTW
  rw [hex] at hD
  obtain ⟨du, hdu⟩ : ∃ du : List UInt8, du = (Spec.dest t).1 := ⟨_, rfl⟩
  obtain ⟨dt, hdt⟩ : ∃ dt : List UInt8, dt = (Spec.dest t).2.1 := ⟨_, rfl⟩
  obtain ⟨dn, hdn⟩ : ∃ dn : Nat, dn = (Spec.dest t).2.2 := ⟨_, rfl⟩
  have hres : destRes (Spec.dest t) = .tuple #[.string ⟨du.toArray⟩, .string ⟨dt.toArray⟩, .int .i64 (dn : Int)] := by unfold destRes; rw [hdu, hdt, hdn]
  rw [hres] at hD
  have hdl : dn ≤ 200000 := by
    have := Pl.dest_le t
    omega
  have H := Lib.hid h
  have zpb := h.lt
  have p2 := h.p2
  have HG := Lib.hid (And.intro hA (And.intro hF hwt))
  have HT := Lib.hid hT
  have HX := Lib.hid hX
  have hfl := h.fit.1
  obtain ⟨vA, vc, rfl⟩ := row_slice h.own
  obtain ⟨m, hm⟩ : ∃ m, m = ps.length := ⟨_, rfl⟩
  rw [← hm] at H p2 hlen hfl
  have HM := Lib.hid (And.intro hm hfl)
  have HDD := Lib.hid (And.intro hdu (And.intro hdt hdn))
  have HDL := Lib.hid hdl
  clear hBR hres hsz hex hut h hT hX hA hF hwt hm hfl hdu hdt hdn hdl
  go_enter Tryz.func61, Tryz.ntmps61
  go_wp2
  go_loopw [5] (fun v5 wr => ∃ (q : Nat) (x : Int), q ≤ m ∧ v5 = .int .i64 x ∧ x = (q : Int) - 1 ∧ w = wr ∧ Hid (∀ j, q ≤ j → j < m → Pl.notedAt ss j = false)) (fun v5 _ => (intOf v5 + 1).toNat)
  case atStart => exact ⟨m, _, Nat.le_refl _, rfl, rfl, rfl, Lib.hid (fun j h1 h2 => absurd h1 (by omega))⟩
  case round =>
    obtain ⟨q, x, hq, rfl, hx, rfl, HN⟩ := hrel
    rcases Nat.eq_zero_or_pos q with rfl | hq0
    · obtain rfl : x = -1 := by omega
      have hb := Pl.bracket_off t ss (Pl.lastNoted_none ss (fun j hj => HN.out j (Nat.zero_le _) (by have := HM.out; omega)))
      have hL := text_any w0 w pb s k _ ps ss ⟨#[93]⟩ true H.out (by have := HM.out.1; omega) (by decide) HX.out
      have HBB := Lib.hid (HBR.out.trans hb)
      clear hb hx
      go_wp2_with fail
      refine hL.mono ?_
      rintro e w2 ⟨rfl, hp⟩
      have HP := Lib.hid hp
      clear hp hL
      go_wp2
      go_ret
      rw [HBB.out]
      exact ⟨rfl, HP.out⟩
    · obtain ⟨n, rfl⟩ : ∃ n, q = n + 1 := ⟨q - 1, by omega⟩
      obtain rfl : x = (n : Int) := by omega
      clear hx hq0
      have hnm : n < m := by omega
      have hn0 : (0 : Int) ≤ (n : Int) := by omega
      have hnmi : (n : Int) < (m : Int) := by omega
      obtain ⟨p, hpp⟩ : ∃ p, ps[n]? = some p := ⟨_, List.getElem?_eq_getElem (by have := HM.out.1; omega)⟩
      obtain ⟨sp, hss, hrep⟩ := H.out.fit.at_ hpp
      obtain ⟨g, cap, he, hg, hc⟩ := H.out.cells n p hpp
      injection he with e1 e2 e3
      subst e1
      obtain ⟨kd, tx, ur, ti, kv, ra, mk, lf, im, no, de⟩ := p
      obtain ⟨kA, kcap, hkv⟩ := hrep.kids.len
      simp only at hkv
      subst hkv
      obtain ⟨kn, hkn⟩ : ∃ kn, kn = sp.node.kids.length := ⟨_, rfl⟩
      rw [← hkn] at hpp hrep hc
      have c12 := (hc 12 _ rfl).1
      simp only at c12
      have hna : Pl.notedAt ss n = no := by unfold Pl.notedAt; rw [hss]; exact hrep.noted.symm
      cases no with
      | false =>
        have HN2 := Lib.hid (show ∀ j, n ≤ j → j < m → Pl.notedAt ss j = false from fun j h1 h2 => by
          by_cases e : j = n
          · subst e; exact hna
          · exact HN.out j (by omega) h2)
        clear hna hrep hss hpp hc hkn e2 e3 HN
        go_wp2
        go_roundw
        case rel => exact ⟨n, _, by omega, rfl, rfl, by trivial, HN2⟩
        case measure => simp [intOf]
      | true =>
        have hln := Pl.lastNoted_some ss n (by have := HM.out; omega) hna (fun j h1 h2 => HN.out j (by omega) (by have := HM.out; omega))
        have HLN := Lib.hid (And.intro hln (And.intro hss (And.intro hpp hrep)))
        have c0 := (hc 0 _ rfl).1
        have c1 := (hc 1 _ rfl).1
        have c2 := (hc 2 _ rfl).1
        have c3 := (hc 3 _ rfl).1
        have c4 := (hc 4 _ rfl).1
        have c5 := (hc 5 _ rfl).1
        have c6 := (hc 6 _ rfl).1
        have c7 := (hc 7 _ rfl).1
        have c8 := (hc 8 _ rfl).1
        have c9 := (hc 9 _ rfl).1
        have c10 := (hc 10 _ rfl).1
        have c11 := (hc 11 _ rfl).1
        have c13 := (hc 13 _ rfl).1
        rw [Nat.add_zero] at c0
        simp only at c0 c1 c2 c3 c4 c5 c6 c7 c8 c9 c10 c11 c13
        unfold markPtr at c9
        clear hna hrep hss hpp hc hkn e2 e3 HN hln
        go_upto_region 8 with fail
        have hX := heap_alloc_new w (.cells #[.int .i64 (kd : Int), .int .i64 0, .bool false, .bool false, .string tx, .string ur, .string ti, .slice kA kn kcap, .bool ra, .pointer (mk.map fun b => ⟨b, 0, none⟩), .int .i64 (lf : Int), .bool im, .bool true, .bool de] 67)
        have hb1 : Below w.heap.size w (w.alloc (.cells #[.int .i64 (kd : Int), .int .i64 0, .bool false, .bool false, .string tx, .string ur, .string ti, .slice kA kn kcap, .bool ra, .pointer (mk.map fun b => ⟨b, 0, none⟩), .int .i64 (lf : Int), .bool im, .bool true, .bool de] 67)) := (Below.refl _ _).alloc (Nat.le_refl _) _
        have h1 := H.out.below hb1
        have zg1 : w.heap.size ≠ g := by have := hg; omega
        generalize w.alloc (.cells #[.int .i64 (kd : Int), .int .i64 0, .bool false, .bool false, .string tx, .string ur, .string ti, .slice kA kn kcap, .bool ra, .pointer (mk.map fun b => ⟨b, 0, none⟩), .int .i64 (lf : Int), .bool im, .bool true, .bool de] 67) = w1 at hX hb1 h1 ⊢
        obtain ⟨tb, htb⟩ : ∃ tb, tb = w.heap.size := ⟨_, rfl⟩
        rw [← htb] at hX zg1
        simp only [← htb]
        have hTab := (HT.out.below h1.bel).tabs
        have HX1 := Lib.hid (And.intro hX (And.intro h1 hb1))
        clear hX h1 hb1 htb c0 c1 c2 c3 c4 c5 c6 c7 c8 c9 c10 c11 c12 c13
        have hDD := hD w1 hTab
        clear hD hTab
        go_wp2_with fail
        refine hDD.mono ?_
        rintro e w2 ⟨rfl, hb2⟩
        have hX2 := (hb2.block tb (blk_lt HX1.out.1)).trans HX1.out.1
        have h2 := HX1.out.2.1.below hb2
        have hb02 : Below w.heap.size w w2 := HX1.out.2.2.trans (hb2.mono HX1.out.2.2.size)
        have p2 := h2.p2
        have zpb := h2.lt
        have x11 : w2.cell? ⟨tb, 11, none⟩ = some (.bool im) := cell_of_row _ _ _ _ _ _ hX2
        have x13 : w2.cell? ⟨tb, 13, none⟩ = some (.bool de) := cell_of_row _ _ _ _ _ _ hX2
        have HX2 := Lib.hid (And.intro hX2 (And.intro h2 hb02))
        clear hX2 h2 hb02 hb2 HX1 hDD
        by_cases hdd : de = true ∨ dn = 0
        · have hb := Pl.bracket_no t ss n sp HLN.out.1 HLN.out.2.1 (hdd.imp (fun h => by rw [← HLN.out.2.2.2.dead]; exact h) (fun h => by rw [← HDD.out.2.2]; exact h))
          have HBB := Lib.hid (HBR.out.trans hb)
          clear hb
          have hrep2 := HLN.out.2.2.2.keep (keepT_below HX2.out.2.2) (keepT_below HX2.out.2.2) HX2.out.2.2.size
          have hput := HX2.out.2.1.put2 n _ sp HLN.out.2.2.1 hrep2
          obtain ⟨g2, cap2, he, hg2, hc⟩ := HX2.out.2.1.cells n _ HLN.out.2.2.1
          injection he with e1 e2 e3
          injection e1 with e1
          injection e1 with e1
          subst e1
          obtain ⟨c12, f12⟩ := hc 12 _ rfl
          obtain ⟨c8, f8⟩ := hc 8 _ rfl
          have hgp : g ≠ pb := fun e => own_block HX2.out.2.1.own HX2.out.2.1.blk (by decide) (by rw [e]; rfl)
          have hpg : pb ≠ g := Ne.symm hgp
          have hbel := HX2.out.2.1.below (below_drew2 (Below.refl w2.heap.size w2))
          have HPT := Lib.hid hput
          clear hrep2 hput hc e2 e3 hbel
          simp only at c12 c8
          rcases (show de = true ∨ (de = false ∧ dn = 0) by cases de with | true => exact .inl rfl | false => exact .inr ⟨rfl, hdd.resolve_left (by decide)⟩) with rfl | ⟨rfl, rfl⟩
          all_goals
            clear hdd
            go_upto_region 10 with fail
            go_region
            all_goals
              have hLT := text_any w0 _ pb s k _ _ _ ⟨#[93]⟩ true (HPT.out.1.below (below_drew2 (Below.refl _ _))) (by rw [List.length_set]; have := HM.out.1; omega) (by decide) (HX.out.set n _ rfl)
              go_wp2_with fail
              refine hLT.mono ?_
              rintro e w3 ⟨rfl, hp⟩
              have HP := Lib.hid hp
              clear hp hLT
              go_wp2
              go_ret
              rw [HBB.out]
              exact ⟨rfl, HP.out⟩
        · have hb := Pl.bracket_yes t ss n sp HLN.out.1 HLN.out.2.1 (fun h => hdd (h.imp (fun h => (show de = sp.dead from HLN.out.2.2.2.dead).trans h) (fun h => by rw [HDD.out.2.2]; exact h)))
          have HBB := Lib.hid (HBR.out.trans hb)
          obtain rfl : de = false := by cases de with | true => exact absurd (.inl rfl) hdd | false => rfl
          have hdn : 0 < dn := Nat.pos_of_ne_zero (fun h => hdd (.inr h))
          have hdni : ((dn : Int) == 0) = false := beq_eq_false_iff_ne.2 (by omega)
          have hmc : m ≤ vc := by have := own_cap HX2.out.2.1.own; have := HM.out.1; omega
          obtain ⟨TA, TL, TC, hT1, hT2⟩ : ∃ TA TL TC, (∀ W, (Instr.slice 44 (.slice (some ⟨g, 0, none⟩) m vc) (some (.int .i64 ((n : Int) + 1))) none none).run Tryz.prog W = .ok (.slice TA TL TC) W) ∧ PRead w2 (.slice TA TL TC) (ps.drop (n + 1)) := by
            have hm := HM.out.1
            have hrd := pread_own (ps := ps) (v := .slice (some ⟨g, 0, none⟩) m vc) HX2.out.2.1.own
            exact ⟨_, _, _, fun W => run_slice_low (P := Tryz.prog) (size := 14) Tryz.underlying44 size_piece (some ⟨g, 0, none⟩) m vc (n + 1) _ (by omega) (by omega) hmc W, pread_rest hrd hm hmc (n + 1) (by omega)⟩
          have hNo := nodes_any w2 _ (ps.drop (n + 1)) (ss.drop (n + 1)) hT2 (HX2.out.2.1.fit.drop _) (Pl.apt_drop HG.out.1 _) (fun p hp => HG.out.2.1 p (List.mem_of_mem_drop hp)) (HX2.out.2.1.nd.sublist ((List.drop_sublist _ ps).filterMap _)) (by rw [List.length_drop]; have := HM.out.1; omega) (Nat.le_trans (Pl.wtL_drop _ _) HG.out.2.2)
          obtain ⟨ks3, hks⟩ : ∃ ks3, ks3 = Spec.nodes (ss.drop (n + 1)) := ⟨_, rfl⟩
          rw [← hks] at hNo
          have HKS := Lib.hid hks
          clear hb hdd hT2 hks
          go_wp2_with fail
          refine hNo.mono ?_
          rintro e w3 ⟨kv3, rfl, hk3, hb3⟩
          obtain ⟨k3A, k3c, hk3v⟩ := hk3.len
          subst hk3v
          obtain ⟨k3n, hk3n⟩ : ∃ k3n, k3n = ks3.length := ⟨_, rfl⟩
          rw [← hk3n] at hk3 ⊢
          have h3 := HX2.out.2.1.below hb3
          have hX3 := (hb3.block tb (blk_lt HX2.out.1)).trans HX2.out.1
          have hb03 := HX2.out.2.2.trans (hb3.mono HX2.out.2.2.size)
          have HX3 := Lib.hid (And.intro hX3 (And.intro h3 (And.intro hk3 hb03)))
          clear hX3 h3 hk3 hb3 hb03 HX2 hNo hT1 x11 x13 p2 hk3n
          go_upto_region 14 with fail
          have hX4 := heap_alloc_new w3 (.cells #[.int .i64 16, .int .i64 0, .bool false, .bool false, .string ⟨#[]⟩, .string ⟨du.toArray⟩, .string ⟨dt.toArray⟩, .slice k3A k3n k3c] 27)
          have hb4 : Below w3.heap.size w3 (w3.alloc (.cells #[.int .i64 16, .int .i64 0, .bool false, .bool false, .string ⟨#[]⟩, .string ⟨du.toArray⟩, .string ⟨dt.toArray⟩, .slice k3A k3n k3c] 27)) := (Below.refl _ _).alloc (Nat.le_refl _) _
          have hT4 := (hb4.block tb (blk_lt HX3.out.1)).trans HX3.out.1
          have hbs : pb < w3.heap.size := HX3.out.2.1.lt
          have hgs : g < w3.heap.size := Nat.lt_of_lt_of_le hg HX3.out.2.2.2.size
          have hts : tb < w3.heap.size := blk_lt HX3.out.1
          have htp : tb ≠ pb := blk_ne HX3.out.1 HX3.out.2.1.blk (by decide)
          generalize w3.alloc (.cells #[.int .i64 16, .int .i64 0, .bool false, .bool false, .string ⟨#[]⟩, .string ⟨du.toArray⟩, .string ⟨dt.toArray⟩, .slice k3A k3n k3c] 27) = w4 at hX4 hb4 hT4 ⊢
          have hn4 : w3.heap.size < w4.heap.size := blk_lt hX4
          have x11 : w4.cell? ⟨tb, 11, none⟩ = some (.bool im) := cell_of_row _ _ _ _ _ _ hT4
          have y0 : w4.cell? ⟨w3.heap.size, 0, none⟩ = some (.int .i64 16) := cell_of_row _ _ _ _ _ _ hX4
          have yf : w4.frozen? ⟨w3.heap.size, 0, none⟩ = false := frozen_of_row _ _ _ _ _ hX4
          have HX4 := Lib.hid (And.intro hX4 hb4)
          clear hX4 hb4 hT4
          go_upto_if 85 with fail
          go_cut [] (fun wc => wc.heap[w3.heap.size]? = some (.cells #[.int .i64 ((if im = true then 17 else 16 : Nat) : Int), .int .i64 0, .bool false, .bool false, .string ⟨#[]⟩, .string ⟨du.toArray⟩, .string ⟨dt.toArray⟩, .slice k3A k3n k3c] 27 (0, 0)) ∧ Below w3.heap.size w3 wc)
          case first =>
            cases im with
            | true =>
              go_wp2
              go_meet
              exact ⟨heap_setCell_same _ _ _ _ _ _ HX4.out.1, below_set HX4.out.2 _ _ _ (Nat.le_refl _)⟩
            | false =>
              go_wp2
              go_meet
              exact HX4.out
          obtain ⟨hX5, hb5⟩ := hcut
          obtain ⟨kz, hkz⟩ : ∃ kz : Nat, kz = if im = true then 17 else 16 := ⟨_, rfl⟩
          rw [← hkz] at hX5
          have z0 : wc.cell? ⟨w3.heap.size, 0, none⟩ = some (.int .i64 (kz : Int)) := cell_of_row _ _ _ _ _ _ hX5
          have z1 : wc.cell? ⟨w3.heap.size, 1, none⟩ = some (.int .i64 0) := cell_of_row _ _ _ _ _ _ hX5
          have z2 : wc.cell? ⟨w3.heap.size, 2, none⟩ = some (.bool false) := cell_of_row _ _ _ _ _ _ hX5
          have z3 : wc.cell? ⟨w3.heap.size, 3, none⟩ = some (.bool false) := cell_of_row _ _ _ _ _ _ hX5
          have z4 : wc.cell? ⟨w3.heap.size, 4, none⟩ = some (.string ⟨#[]⟩) := cell_of_row _ _ _ _ _ _ hX5
          have z5 : wc.cell? ⟨w3.heap.size, 5, none⟩ = some (.string ⟨du.toArray⟩) := cell_of_row _ _ _ _ _ _ hX5
          have z6 : wc.cell? ⟨w3.heap.size, 6, none⟩ = some (.string ⟨dt.toArray⟩) := cell_of_row _ _ _ _ _ _ hX5
          have z7 : wc.cell? ⟨w3.heap.size, 7, none⟩ = some (.slice k3A k3n k3c) := cell_of_row _ _ _ _ _ _ hX5
          have hwz : w3.heap.size < wc.heap.size := blk_lt hX5
          have h5 := HX3.out.2.1.below hb5
          have hT5 := (hb5.block tb hts).trans HX3.out.1
          have hk5 := HX3.out.2.2.1.keep (keepT_below hb5) hb5.size
          have p2 := h5.p2
          have hd := h5.below (below_drew2 (Below.refl _ wc))
          have hnd : NRep wc.drew wc.drew.heap.size ⟨kz, ⟨#[]⟩, ⟨du.toArray⟩, ⟨dt.toArray⟩, .slice k3A k3n k3c⟩ (.mk kz [] du dt ks3) := ⟨rfl, rfl, rfl, rfl, hk5.keep (keepT_below (below_drew2 (Below.refl _ _))) (Nat.le_refl _)⟩
          have zd : w0.heap.size ≤ wc.drew.heap.size := hd.bel.size
          have zd2 : w0.heap.size ≤ wc.heap.size := hd.bel.size
          have zp2 : pb < wc.heap.size := h5.lt
          have hoc := own_take (n := m) (by have := hd.own; rw [← HM.out.1] at this; exact this) n (by omega)
          rw [← pvRow_take] at hoc
          have hsl : ∀ W, (Instr.slice 44 (.slice (some ⟨g, 0, none⟩) m vc) none (some (.int .i64 (n : Int))) none).run Tryz.prog W = .ok (.slice (some ⟨g, 0, none⟩) n vc) W := fun W => run_slice_high (P := Tryz.prog) (size := 14) Tryz.underlying44 size_piece (some ⟨g, 0, none⟩) m vc n _ rfl (by omega) W
          have hmtk : (ps.take n).length = n := by rw [List.length_take]; have := HM.out.1; omega
          have HD5 := Lib.hid (And.intro hd (And.intro hnd (And.intro hT5 hmtk)))
          have HKZ := Lib.hid hkz
          clear hX5 hb5 h5 hT5 hk5 hd hnd x11 y0 yf HX4 hmtk hkz
          go_upto_region 16 with fail
          go_cut [] (fun wd => ∃ (v2A : Option Addr) (v2c : Nat) (ps' : List PV), PSt w0 wd pb s k (.slice v2A (n + 1) v2c) ps' (ss.take n ++ [Spec.plainP (.mk kz [] du dt ks3)]) ∧ wd.cell? ⟨tb, 11, none⟩ = some (.bool im) ∧ ∀ g2, v2A = some ⟨g2, 0, none⟩ → tb ≠ g2)
          case first =>
            go_region_law (refine step_append_own5 rfl _ _ 44 rfl w0.heap.size 67 i0 zeroPiece 14 128 Tryz.underlying44 hi0 hz0 hz1 hz2 rfl (by decide) _ _ _ rfl (hoc.alloc _) ⟨wc.heap.size, 0, none⟩ 1 1 (PV.mk kz ⟨#[]⟩ ⟨du.toArray⟩ ⟨dt.toArray⟩ (.slice k3A k3n k3c) false none 0 false false false).cells rfl rfl (cells_new _ _ _) (one_pv _ ⟨_, _, _, rfl⟩) (by unfold maxLen; omega) (by omega) (by simp; omega) ?_; intro v2 w6 hI2 hgrow hblk; obtain ⟨v2A, v2c, rfl⟩ := row_slice hI2; have hb7 := grown_far (hoc.alloc _) hgrow (HD5.out.1.below ((Below.refl _ _).alloc (Nat.le_refl _) _)).blk (by decide); have q2 : w6.cell? ⟨pb, 2, none⟩ = some (.slice (some ⟨g, 0, none⟩) m vc) := cell_of_row _ _ _ _ _ _ hb7; have qz : w6.frozen? ⟨pb, 2, none⟩ = false := frozen_of_row _ _ _ _ _ hb7)
            all_goals
              have hst := (HD5.out.1.below ((Below.refl _ _).alloc (Nat.le_refl _) _)).resnoc (n := n) (by have := HM.out.1; omega) ((HD5.out.2.1.keep (keepT_below ((Below.refl wc.drew.heap.size wc.drew).alloc (Nat.le_refl _) (.cells (PV.mk kz ⟨#[]⟩ ⟨du.toArray⟩ ⟨dt.toArray⟩ (.slice k3A k3n k3c) false none 0 false false false).cells.toArray 67))) (Nat.le_of_lt (by simp [World.alloc]))).prep) rfl hI2 hgrow
              have htg : ∀ g2, v2A = some ⟨g2, 0, none⟩ → tb ≠ g2 := fun g2 e => by
                subst e
                rcases hblk with hblk | hblk
                · have h3 : some g2 = some g := hblk
                  obtain rfl := Option.some.inj h3
                  exact zg1
                · have h3 : some g2 = some (wc.drew.alloc (.cells (PV.mk kz ⟨#[]⟩ ⟨du.toArray⟩ ⟨dt.toArray⟩ (.slice k3A k3n k3c) false none 0 false false false).cells.toArray 67)).heap.size := hblk
                  have h3 := Option.some.inj h3
                  have h2 : (wc.drew.alloc (.cells (PV.mk kz ⟨#[]⟩ ⟨du.toArray⟩ ⟨dt.toArray⟩ (.slice k3A k3n k3c) false none 0 false false false).cells.toArray 67)).heap.size = wc.heap.size + 1 := by simp [World.alloc]
                  omega
              have htc : (w6.setCell ⟨pb, 2, none⟩ (.slice v2A (n + 1) v2c)).cell? ⟨tb, 11, none⟩ = some (.bool im) := by
                have zt : tb < wc.heap.size := by omega
                have zt : tb < wc.heap.size := by omega
                have zt2 : tb < (wc.drew.alloc (.cells (PV.mk kz ⟨#[]⟩ ⟨du.toArray⟩ ⟨dt.toArray⟩ (.slice k3A k3n k3c) false none 0 false false false).cells.toArray 67)).heap.size := by
                  have h2 : (wc.drew.alloc (.cells (PV.mk kz ⟨#[]⟩ ⟨du.toArray⟩ ⟨dt.toArray⟩ (.slice k3A k3n k3c) false none 0 false false false).cells.toArray 67)).heap.size = wc.heap.size + 1 := by simp [World.alloc]
                  omega
                have e1 : w6.heap[tb]? = wc.heap[tb]? := (hgrow.block tb zt2 (fun e => zg1 (Option.some.inj e))).trans (heap_alloc_old _ _ zt)
                exact cell_of_row _ _ _ _ _ _ ((heap_setCell_other w6 ⟨pb, 2, none⟩ tb _ htp).trans (e1.trans HD5.out.2.2.1))
              have HS := Lib.hid (And.intro hst (And.intro htc htg))
              clear hst htc htg hI2 hgrow hblk hb7
              go_wp2_with fail
              go_meet
              exact ⟨_, _, _, HS.out⟩
          obtain ⟨v2A, v2c, ps2, h6, t11, htg⟩ := hcut
          have H6 := Lib.hid h6
          have p2 := h6.p2
          have hcap := own_cap h6.own
          have hln6 : ps2.length = n + 1 := by rw [h6.fit.1, List.length_append, List.length_take]; have := HM.out.2; simp; omega
          have zp := h6.lt
          rw [hln6] at hcap
          have hsl : ∀ W, (Instr.slice 44 (.slice v2A (n + 1) v2c) none (some (.int .i64 (n : Int))) none).run Tryz.prog W = .ok (.slice v2A n v2c) W := fun W => run_slice_high (P := Tryz.prog) (size := 14) Tryz.underlying44 size_piece v2A (n + 1) v2c n _ rfl (by omega) W
          have HTG := Lib.hid htg
          clear h6 htg HD5 z0 z1 z2 z3 z4 z5 z6 z7 hoc zd zd2 zp2 hwz
          go_wp2_with fail
          obtain ⟨fd, hfd⟩ : ∃ fd, fd = Pl.deadP sp := ⟨_, rfl⟩
          obtain ⟨XN, hXN⟩ : ∃ XN, XN = Spec.plainP (.mk kz [] du dt ks3) := ⟨_, rfl⟩
          have HFX := Lib.hid (And.intro hfd (And.intro hXN hln6))
          rw [← hXN] at H6
          clear hfd hXN hln6
          have hst0 : Hid (PSt w0 wc pb s k (.slice v2A (n + 1) v2c) ps2 (Pl.mapTo fd (ss.take n) XN 0)) := by rw [Pl.mapTo_zero]; exact H6
          go_loopw [107, 11] (fun v107 v11 wr => ∃ (q : Nat) (pq : List PV), q ≤ n ∧ v107 = .int .i64 (q : Int) ∧ wr.cell? ⟨tb, 11, none⟩ = some (.bool im) ∧ Hid (PSt w0 wr pb s k (.slice v2A (n + 1) v2c) pq (Pl.mapTo fd (ss.take n) XN q))) (fun v107 _ _ => n - (intOf v107).toNat)
          case atStart => exact ⟨0, ps2, Nat.zero_le _, rfl, t11, hst0⟩
          case round =>
            obtain ⟨q, pq, hqn, rfl, t11, HQ⟩ := hrel
            have p2 := HQ.out.p2
            have zp := HQ.out.lt
            by_cases hqq : q < n
            · have hqi : (q : Int) < (n : Int) := by omega
              obtain ⟨a, ha⟩ : ∃ a, (ss.take n)[q]? = some a := ⟨_, List.getElem?_eq_getElem (by rw [List.length_take]; have := HM.out.2; omega)⟩
              have hat := Pl.mapTo_at fd (ss.take n) XN a q ha
              obtain ⟨p', hp'⟩ : ∃ p', pq[q]? = some p' := ⟨_, List.getElem?_eq_getElem (by rw [HQ.out.fit.1]; exact (List.getElem?_eq_some_iff.1 hat).1)⟩
              have hrep := HQ.out.fit.2 q p' a hp' hat
              obtain ⟨g2, cap2, he, hg2, hc⟩ := HQ.out.cells q p' hp'
              injection he with e1 e2 e3
              subst e1
              have htg := HTG.out g2 rfl
              have c11 := (hc 11 _ rfl).1
              have c12 := (hc 12 _ rfl).1
              obtain ⟨c13, f13⟩ := hc 13 _ rfl
              obtain ⟨kd', tx', ur', ti', kv', ra', mk', lf', im', no', de'⟩ := p'
              simp only at c11 c12 c13
              have hno : no' = a.noted := hrep.noted
              have him : im' = a.image := hrep.image
              have hsi : im = sp.image := HLN.out.2.2.2.image
              have hset := Pl.mapTo_set fd (ss.take n) XN a q ha
              have hput := HQ.out.put q _ { (PV.mk kd' tx' ur' ti' kv' ra' mk' lf' im' no' de') with dead := true } { a with dead := true } 13 (.bool true) hp' (by omega) rfl rfl ⟨hrep.kind, hrep.text, hrep.url, hrep.title, hrep.kids, hrep.raw, hrep.left, hrep.image, hrep.noted, rfl, hrep.mark⟩
              have hsame := Pl.mapTo_same fd (ss.take n) XN a q ha
              have t112 : (wr.setCell ⟨g2, q * 14 + 13, none⟩ (.bool true)).cell? ⟨tb, 11, none⟩ = some (.bool im) := (World.cell?_of_block (a := ⟨tb, 11, none⟩) (heap_setCell_other wr ⟨g2, q * 14 + 13, none⟩ tb _ htg)).trans t11
              have HB := Lib.hid (And.intro hno (And.intro him (And.intro hsi (And.intro hset (And.intro hput (And.intro hsame t112))))))
              clear hno him hsi hset hput hsame t112 hat hrep hc e2 e3 hp' ha htg
              cases im with
              | true =>
                have hN : Hid (PSt w0 wr pb s k (.slice (some ⟨g2, 0, none⟩) (n + 1) v2c) pq (Pl.mapTo fd (ss.take n) XN (q + 1))) := Lib.hid (by
                  rw [← HB.out.2.2.2.2.2.1 (by rw [HFX.out.1]; unfold Pl.deadP; rw [if_neg (by rw [← HB.out.2.2.1]; simp)])]
                  exact HQ.out)
                clear HB HQ c11 c12 c13 f13
                go_wp2
                go_roundw
                case rel => exact ⟨q + 1, pq, by omega, by go_num, t11, hN⟩
                case measure => simp [intOf]; omega
              | false =>
                cases hn' : no' with
                | false =>
                  subst hn'
                  have hN : Hid (PSt w0 wr pb s k (.slice (some ⟨g2, 0, none⟩) (n + 1) v2c) pq (Pl.mapTo fd (ss.take n) XN (q + 1))) := Lib.hid (by
                    rw [← HB.out.2.2.2.2.2.1 (by rw [HFX.out.1]; unfold Pl.deadP; rw [if_neg (by rw [← HB.out.1]; simp)])]
                    exact HQ.out)
                  clear HB HQ c11 c13 f13
                  go_wp2
                  go_roundw
                  case rel => exact ⟨q + 1, pq, by omega, by go_num, t11, hN⟩
                  case measure => simp [intOf]; omega
                | true =>
                  subst hn'
                  cases hi' : im' with
                  | true =>
                    subst hi'
                    have hN : Hid (PSt w0 wr pb s k (.slice (some ⟨g2, 0, none⟩) (n + 1) v2c) pq (Pl.mapTo fd (ss.take n) XN (q + 1))) := Lib.hid (by
                      rw [← HB.out.2.2.2.2.2.1 (by rw [HFX.out.1]; unfold Pl.deadP; rw [if_neg (by rw [← HB.out.2.1]; simp)])]
                      exact HQ.out)
                    clear HB HQ c13 f13
                    go_wp2
                    go_roundw
                    case rel => exact ⟨q + 1, pq, by omega, by go_num, t11, hN⟩
                    case measure => simp [intOf]; omega
                  | false =>
                    subst hi'
                    have hN : Hid (PSt w0 (wr.setCell ⟨g2, q * 14 + 13, none⟩ (.bool true)) pb s k (.slice (some ⟨g2, 0, none⟩) (n + 1) v2c) (pq.set q { (PV.mk kd' tx' ur' ti' kv' ra' mk' lf' false true de') with dead := true }) (Pl.mapTo fd (ss.take n) XN (q + 1))) := Lib.hid (by
                      have e : fd a = { a with dead := true } := by rw [HFX.out.1]; unfold Pl.deadP; rw [if_pos ⟨HB.out.2.2.1.symm, HB.out.1.symm, HB.out.2.1.symm⟩]
                      rw [← HB.out.2.2.2.1, e]
                      exact HB.out.2.2.2.2.1)
                    have t112 := Lib.hid HB.out.2.2.2.2.2.2
                    clear HB HQ
                    go_wp2
                    go_roundw
                    case rel => exact ⟨q + 1, _, by omega, by go_num, t112.out, hN⟩
                    case measure => simp [intOf]; omega
            · have hqi : ¬ (q : Int) < (n : Int) := by omega
              obtain rfl : q = n := by omega
              have s1 : IntKind.i64.wrap ((dn : Int) + 1) = (dn : Int) + 1 := by
                have := HDL.out
                exact IntWalk.i64_in _ (by omega)
              have hq := HQ.out
              rw [Pl.mapTo_end _ _ _ _ (by rw [List.length_take]; omega), HFX.out.1, HFX.out.2.1, HKZ.out, HDD.out.1, HDD.out.2.1, HKS.out, show im = sp.image from HLN.out.2.2.2.image] at hq
              have HQ2 := Lib.hid hq
              clear hq
              go_wp2
              go_ret
              rw [HBB.out]
              exact ⟨by rw [← HDD.out.2.2]; rfl, _, _, HQ2.out⟩
end Go.Proofs.YtmplfiflikhpjaaGreatDoor
