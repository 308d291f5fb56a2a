/-
  Texts of one proof, joined: InN, InO, InP.
-/
import Derived.Test.YtmplfiflikhpjaaGreatDoorV01
import Derived.Test.YtmplfiflikhpjaaGreatDoorV02
import Derived.Test.YtmplfiflikhpjaaGreatDoorV10
import Derived.ArgAppend
import Derived.Deep.OwnRows
import Derived.OwnWalk
/-
  delim.Match: the Pairs of Marks.
-/
namespace Go.Proofs.YtmplfiflikhpjaaGreatDoor
open Go.RowKit

theorem made_ints (n : Nat) : madeCells #[Value.int .i64 0] n = intRow (List.replicate n 0) := by
  rw [← Array.toList_inj, toList_madeCells_one]
  simp [intRow]
theorem made_bools (n : Nat) : madeCells #[Value.bool false] n = boolRow (List.replicate n false) := by
  rw [← Array.toList_inj, toList_madeCells_one]
  simp [boolRow]
theorem info_int : (Tryz.prog.info? 3).map (fun i => (i.zero, i.size, i.bytes)) = some (some (.int .i64 0), 1, 8) := by kernel_rfl
theorem info_bool : (Tryz.prog.info? 4).map (fun i => (i.zero, i.size, i.bytes)) = some (some (.bool false), 1, 1) := by kernel_rfl
theorem info_pair : (Tryz.prog.info? 75).map (fun i => (i.zero, i.size, i.bytes)) = some (some (.agg #[.int .i64 0, .int .i64 0, .bool false]), 3, 24) := by kernel_rfl
def pairCells (p : Spec.Pair) : List Value := [.int .i64 (p.from_ : Int), .int .i64 (p.to : Int), .bool p.strong]
def pairsRow (ps : List Spec.Pair) : List Value := ps.flatMap pairCells
def MatchPost (ps : List Spec.Pair) (w : World) (e : Ending) (w' : World) : Prop :=
  ∃ v, e = .returned v ∧ w'.ownsRow w.heap.size 75 3 v ps.length (pairsRow ps) ∧ Below w.heap.size w w'

theorem le_alloc {B : Nat} {w : World} (h : B ≤ w.heap.size) (o : Obj) : B ≤ (w.alloc o).heap.size := by
  have : (w.alloc o).heap.size = w.heap.size + 1 := by simp
  omega
theorem addr_add (g q : Nat) : (⟨g, 0, none⟩ : Addr).add q = ⟨g, q, none⟩ := by unfold Addr.add; split <;> simp_all
theorem ownsRow_two {w w' : World} {base : Nat} {e : TypeId} {size : Nat} {v : Value} {n : Nat} {xs : List Value} {a b : Nat} (h : w.ownsRow base e size v n xs) (ht : Two w w' a b)
    (ha : ∃ cs t f, w.heap[a]? = some (.cells cs t f) ∧ e ≠ t) (hb : ∃ cs t f, w.heap[b]? = some (.cells cs t f) ∧ e ≠ t) : w'.ownsRow base e size v n xs := by
  refine ⟨h.1, ?_⟩
  rcases h.2 with hn | ⟨g, cap, cur, rfl, hbg, hgg, rest⟩
  · exact .inl hn
  · obtain ⟨_, _, _, ha, ea⟩ := ha
    obtain ⟨_, _, _, hb, eb⟩ := hb
    exact .inr ⟨g, cap, cur, rfl, hbg, (ht.block g (blk_lt hgg) (blk_ne hgg ha ea) (blk_ne hgg hb eb)).trans hgg, rest⟩
/-- All that is carried through the matching: the matcher, the Pairs so far, old memory. -/
structure MatchC (w wr : World) (mb lb lf ou n cap : Nat) (marks : List Spec.Mark) (st : Spec.MState) (acc : List Spec.Pair) (pv : Value) : Prop where
  mw : MW wr mb lb lf ou n cap marks st
  own : wr.ownsRow w.heap.size 75 3 pv acc.length (pairsRow acc)
  bel : Below w.heap.size w wr
  cnt : acc.length + st.left.sum ≤ Spec.most marks
theorem MatchC.below {w wr w2 : World} {mb lb lf ou n cap : Nat} {marks : List Spec.Mark} {st : Spec.MState} {acc : List Spec.Pair} {pv : Value} (h : MatchC w wr mb lb lf ou n cap marks st acc pv) (hb : Below wr.heap.size wr w2) (hl : lb < wr.heap.size) : MatchC w w2 mb lb lf ou n cap marks st acc pv :=
  ⟨h.mw.keep (fun k hk => hb.block k hk) hl, h.own.kept (row := none) ⟨hb.os, hb.tape, hb.output, hb.size, fun i hi _ => hb.block i hi⟩ (by cases pv.ownBlock <;> simp), h.bel.trans (hb.mono h.bel.size), h.cnt⟩
theorem MW.grown {w w' : World} {mb lb lf ou n cap : Nat} {marks : List Spec.Mark} {st : Spec.MState} (h : MW w mb lb lf ou n cap marks st) (hl : ∃ cur, w.heap[lb]? = some (.cells cur 62 (0, 0)))
    {base : Nat} {v : Value} {m : Nat} {xs : List Value} (ho : w.ownsRow base 75 3 v m xs) (hg : w.grownBy w' v.ownBlock) : MW w' mb lb lf ou n cap marks st := by
  have far : ∀ (g : Nat) cs t f, w.heap[g]? = some (.cells cs t f) → 75 ≠ t → w'.heap[g]? = w.heap[g]? := fun g cs t f hgr hne => hg.block g (blk_lt hgr) (fun e => by
    rcases ho.2 with ⟨rfl, _⟩ | ⟨q, cp, cur, rfl, _, hq, _⟩
    · simp [Value.ownBlock] at e
    · simp [Value.ownBlock] at e
      subst e
      exact blk_ne hq hgr hne rfl)
  obtain ⟨cur, hl⟩ := hl
  refine ⟨(far _ _ _ _ h.m (by decide)).trans h.m, fun i x hx => ?_, (far _ _ _ _ h.f (by decide)).trans h.f, (far _ _ _ _ h.o (by decide)).trans h.o, h.nm, h.nf, h.no, h.hc, h.small⟩
  have hc : ∀ o, w'.cell? ⟨lb, o, none⟩ = w.cell? ⟨lb, o, none⟩ := fun o => World.cell?_of_block (far _ _ _ _ hl (by decide))
  rw [hc, hc, hc, hc]
  exact h.l i x hx
theorem pairsRow_snoc (ps : List Spec.Pair) (p : Spec.Pair) : pairsRow (ps ++ [p]) = pairsRow ps ++ pairCells p := by simp [pairsRow]
theorem al3_0 (w : World) (A B C : Obj) : (((w.alloc A).alloc B).alloc C).heap[w.heap.size]? = some A := by
  rw [Below.heap_alloc _ _ _ (by simp; omega), Below.heap_alloc _ _ _ (by simp)]; exact heap_alloc_new w A
theorem al3_1 (w : World) (A B C : Obj) : (((w.alloc A).alloc B).alloc C).heap[w.heap.size + 1]? = some B := by
  rw [Below.heap_alloc _ _ _ (by simp)]; exact heap_alloc2_new w A B
theorem al3_2 (w : World) (A B C : Obj) : (((w.alloc A).alloc B).alloc C).heap[w.heap.size + 1 + 1]? = some C := by
  have := heap_alloc_new ((w.alloc A).alloc B) C
  have e : ((w.alloc A).alloc B).heap.size = w.heap.size + 1 + 1 := by simp
  rwa [e] at this
theorem al3_b (w : World) (A B C : Obj) : Below w.heap.size w (((w.alloc A).alloc B).alloc C) := (((Below.refl _ _).alloc (Nat.le_refl _) _).alloc (by simp) _).alloc (by simp; omega) _

set_option maxHeartbeats 16000000 in
set_option maxRecDepth 100000 in
theorem match_any (w : World) (lb n cap : Nat) (marks : List Spec.Mark) (hn : marks.length = n) (hn0 : 0 < n) (hcap : n ≤ cap) (hs : n ≤ 100000) (hm : Spec.most marks ≤ 1000000)
    (hl : ∀ (i : Nat) (x : Spec.Mark), marks[i]? = some x → w.cell? ⟨lb, i * 4, none⟩ = some (.int .u8 (x.sign.toNat : Int)) ∧ w.cell? ⟨lb, i * 4 + 1, none⟩ = some (.int .i64 (x.n : Int)) ∧ w.cell? ⟨lb, i * 4 + 2, none⟩ = some (.bool x.opn) ∧ w.cell? ⟨lb, i * 4 + 3, none⟩ = some (.bool x.cls))
    (hrow : ∃ cur, w.heap[lb]? = some (.cells cur 62 (0, 0))) :
    Calls Tryz.prog 65 #[.slice (some ⟨lb, 0, none⟩) n cap] w (MatchPost (Spec.matches_ marks) w) := by
  have hmi := run_make_row' (P := Tryz.prog) 22 3 (.int .i64 0) 8 Tryz.underlying22 info_int rfl .i64 .i64 n (by omega) (by omega)
  have hmb := run_make_row' (P := Tryz.prog) 119 4 (.bool false) 1 Tryz.underlying119 info_bool rfl .i64 .i64 n (by omega) (by omega)
  rw [made_ints] at hmi
  rw [made_bools] at hmb
  have zl : lb < w.heap.size := by obtain ⟨_, h⟩ := hrow; exact blk_lt h
  have hnpos : (0 : Int) ≤ n := by omega
  have HROW := Lib.hid hrow
  have HL := Lib.hid hl
  clear hrow hl
  go_enter Tryz.func65, Tryz.ntmps65
  go_upto_region 1 with fail
  go_cut [3] (fun s3 wc => ∃ mb lf ou : Nat, s3 = .pointer (some ⟨mb, 0, none⟩) ∧ w.heap.size ≤ mb ∧ w.heap.size ≤ lf ∧ w.heap.size ≤ ou ∧ Below w.heap.size w wc ∧
    wc.heap[mb]? = some (.cells #[.slice (some ⟨lb, 0, none⟩) n cap, .slice (some ⟨lf, 0, none⟩) n n, .slice (some ⟨ou, 0, none⟩) n n] 121 (0, 0)) ∧ wc.heap[lf]? = some (.cells (intRow (List.replicate n 0)) 3 (0, 0)) ∧ wc.heap[ou]? = some (.cells (boolRow (List.replicate n false)) 4 (0, 0)))
  case first =>
    go_region
    all_goals
      go_wp2_with fail
      go_meet
      first
        | exact ⟨_, _, _, rfl, by omega, Nat.le_refl _, by omega, (al3_b w _ _ _).drew, al3_2 w _ _ _, al3_0 w _ _ _, al3_1 w _ _ _⟩
        | exact ⟨_, _, _, rfl, by omega, by omega, Nat.le_refl _, (al3_b w _ _ _).drew, al3_2 w _ _ _, al3_1 w _ _ _, al3_0 w _ _ _⟩
        | exact ⟨_, _, _, rfl, by omega, Nat.le_refl _, by omega, al3_b w _ _ _, al3_2 w _ _ _, al3_0 w _ _ _, al3_1 w _ _ _⟩
        | exact ⟨_, _, _, rfl, by omega, by omega, Nat.le_refl _, al3_b w _ _ _, al3_2 w _ _ _, al3_1 w _ _ _, al3_0 w _ _ _⟩
  case rest =>
    obtain ⟨mb, lf, ou, rfl, gm, gf, go, hbw, hm0, hf0, ho0⟩ := hcut
    have hM : MW wc mb lb lf ou n cap marks ⟨leftTo marks 0, outIn marks 0⟩ := by
      refine ⟨hm0, fun i x hx => ?_, ?_, ?_, hn, by rw [leftTo_length]; exact hn, by rw [outIn_length]; exact hn, hcap, hs⟩
      · have hc : ∀ o, wc.cell? ⟨lb, o, none⟩ = w.cell? ⟨lb, o, none⟩ := fun o => hbw.cell (p := ⟨lb, o, none⟩) zl
        rw [hc, hc, hc, hc]
        exact HL.out i x hx
      · rw [leftTo_zero, hn]; exact hf0
      · rw [outIn_zero, hn]; exact ho0
    have HI : Hid (MW wc mb lb lf ou n cap marks ⟨leftTo marks 0, outIn marks 0⟩ ∧ Below w.heap.size w wc) := Lib.hid ⟨hM, hbw⟩
    have HNE : Hid (lf ≠ mb ∧ lf ≠ lb ∧ lf ≠ ou ∧ ou ≠ mb ∧ ou ≠ lb ∧ mb ≠ lb) := Lib.hid (hM.ne (by obtain ⟨cur, h⟩ := HROW.out; exact ⟨cur, (hbw.block lb zl).trans h⟩))
    clear hM hm0 hf0 ho0 hbw hmi hmb
    go_wp2
    go_loopw [20] (fun v20 wr => ∃ i : Nat, i ≤ n ∧ v20 = .int .i64 (i : Int) ∧ Hid (MW wr mb lb lf ou n cap marks ⟨leftTo marks i, outIn marks i⟩ ∧ Below w.heap.size w wr)) (fun v20 _ => n - (intOf v20).toNat)
    case atStart => exact ⟨0, Nat.zero_le _, rfl, HI⟩
    case round =>
      obtain ⟨i, hi, rfl, HJ⟩ := hrel
      by_cases hlt : i < n
      · have hlti : (i : Int) < n := by omega
        obtain ⟨x, hx⟩ := HJ.out.1.mark i hlt
        obtain ⟨a0, a1, a2, a3⟩ := HJ.out.1.l i x hx
        have HX := Lib.hid hx
        clear hx
        go_upto_region 5 with fail
        have hM2 : MW (wr.alloc (.cells #[.int .u8 (x.sign.toNat : Int), .int .i64 (x.n : Int), .bool x.opn, .bool x.cls] 62)) mb lb lf ou n cap marks ⟨leftTo marks i, outIn marks i⟩ := HJ.out.1.keep (fun q hq => Below.heap_alloc _ _ _ hq) (by have := HJ.out.2.size; omega)
        have hB2 : Below w.heap.size w (wr.alloc (.cells #[.int .u8 (x.sign.toNat : Int), .int .i64 (x.n : Int), .bool x.opn, .bool x.cls] 62)) := HJ.out.2.alloc HJ.out.2.size _
        have hX2 : (wr.alloc (.cells #[.int .u8 (x.sign.toNat : Int), .int .i64 (x.n : Int), .bool x.opn, .bool x.cls] 62)).cell? ⟨wr.heap.size, 1, none⟩ = some (.int .i64 (x.n : Int)) := by go_simp
        have hz0 : wr.heap.size < (wr.alloc (.cells #[.int .u8 (x.sign.toNat : Int), .int .i64 (x.n : Int), .bool x.opn, .bool x.cls] 62)).heap.size := by simp
        have hzl := blk_lt HJ.out.1.f
        have hzo := blk_lt HJ.out.1.o
        clear a0 a1 a2 a3 HJ
        generalize wr.alloc (.cells #[.int .u8 (x.sign.toNat : Int), .int .i64 (x.n : Int), .bool x.opn, .bool x.cls] 62) = w3 at hM2 hB2 hX2 hz0 ⊢
        have m1 : w3.cell? ⟨mb, 1, none⟩ = some (.slice (some ⟨lf, 0, none⟩) n n) := cell_of_row _ _ _ _ _ _ hM2.m
        have l0 := hM2.left i hlt
        have fl : w3.frozen? ⟨lf, i, none⟩ = false := frozen_of_row _ _ _ _ _ hM2.f
        have hx0 : (0 : Int) ≤ (x.n : Int) := by omega
        have zm3 := blk_lt hM2.m
        have hM4 := (hM2.setLeft ⟨HNE.out.1, HNE.out.2.1, HNE.out.2.2.1⟩ i x.n).drew
        simp only at hM4
        rw [leftTo_step marks i x HX.out] at hM4
        have hB4 : Below w.heap.size w (w3.setCell ⟨lf, i, none⟩ (.int .i64 (x.n : Int))).drew := (hB2.setCell (p := ⟨lf, i, none⟩) gf _).drew
        have hX4 : (w3.setCell ⟨lf, i, none⟩ (.int .i64 (x.n : Int))).drew.cell? ⟨wr.heap.size, 1, none⟩ = some (.int .i64 (x.n : Int)) := (World.cell?_of_block (heap_setCell_other w3 ⟨lf, i, none⟩ wr.heap.size (.int .i64 (x.n : Int)) (by show wr.heap.size ≠ lf; omega))).trans hX2
        have H4 : Hid (MW (w3.setCell ⟨lf, i, none⟩ (.int .i64 (x.n : Int))).drew mb lb lf ou n cap marks ⟨leftTo marks (i + 1), outIn marks i⟩ ∧ Below w.heap.size w (w3.setCell ⟨lf, i, none⟩ (.int .i64 (x.n : Int))).drew ∧ (w3.setCell ⟨lf, i, none⟩ (.int .i64 (x.n : Int))).drew.cell? ⟨wr.heap.size, 1, none⟩ = some (.int .i64 (x.n : Int))) := Lib.hid ⟨hM4, hB4, hX4⟩
        clear hM4 hB4 hX4 hM2 hB2
        have hne1 : ¬ lf = mb := HNE.out.1
        go_region
        all_goals
          go_upto_region 6 with fail
          have H4 := H4.out
          generalize (w3.setCell ⟨lf, i, none⟩ (.int .i64 (x.n : Int))).drew = w4 at H4 ⊢
          obtain ⟨hM4, hB4, hX4⟩ := H4
          clear m1 l0 fl hX2 zm3
          have m2 : w4.cell? ⟨mb, 2, none⟩ = some (.slice (some ⟨ou, 0, none⟩) n n) := cell_of_row _ _ _ _ _ _ hM4.m
          have o0 := hM4.out i hlt
          have fo : w4.frozen? ⟨ou, i, none⟩ = false := frozen_of_row _ _ _ _ _ hM4.o
          have hM5 := (hM4.setOut ⟨HNE.out.2.2.1, HNE.out.2.2.2.1, HNE.out.2.2.2.2.1⟩ i (x.n == 0)).drew
          simp only at hM5
          rw [outIn_step marks i x HX.out] at hM5
          have HN : Hid (MW (w4.setCell ⟨ou, i, none⟩ (.bool (x.n == 0))).drew mb lb lf ou n cap marks ⟨leftTo marks (i + 1), outIn marks (i + 1)⟩ ∧ Below w.heap.size w (w4.setCell ⟨ou, i, none⟩ (.bool (x.n == 0))).drew) := Lib.hid ⟨hM5, (hB4.setCell (p := ⟨ou, i, none⟩) go _).drew⟩
          clear hM5 hM4 hB4
          by_cases hx00 : x.n = 0
          · have hxi : (x.n : Int) ≤ 0 := by omega
            rw [hx00] at HN
            have hne2 : ¬ ou = mb := HNE.out.2.2.2.1
            go_region
            all_goals
              go_wp2
              go_roundw
              case rel => exact ⟨i + 1, by omega, by go_num, HN⟩
              case measure => simp [intOf]; omega
          · have hxi : ¬ (x.n : Int) ≤ 0 := by omega
            rw [beq_eq_false_iff_ne.2 hx00] at HN
            have hne2 : ¬ ou = mb := HNE.out.2.2.2.1
            go_region
            all_goals
              go_wp2
              go_roundw
              case rel => exact ⟨i + 1, by omega, by go_num, HN⟩
              case measure => simp [intOf]; omega
      · have hlti : ¬ (i : Int) < n := by omega
        obtain rfl : i = n := by omega
        have hM2 : MW wr mb lb lf ou i cap marks ⟨marks.map (·.n), marks.map (·.n == 0)⟩ := by
          have := HJ.out.1
          rw [← hn, leftTo_all, outIn_all, hn] at this
          exact this
        have hB2 := HJ.out.2
        clear HJ
        obtain ⟨wo, rfl⟩ : ∃ wo : World, wo = wr := ⟨_, rfl⟩
        have hC0 : MatchC w wo mb lb lf ou i cap marks ⟨marks.map (·.n), marks.map (·.n == 0)⟩ [] (.slice none 0 0) := ⟨hM2, World.ownsRow_nil _ _ _ _, hB2, by rw [most_sum]; simp⟩
        have HT : Hid ((Spec.matchFrom marks (Spec.most marks + 1) i 0 ⟨marks.map (·.n), marks.map (·.n == 0)⟩).1 = Spec.matches_ marks) := Lib.hid (by unfold Spec.matches_; rw [hn])
        have HC0 := Lib.hid hC0
        clear hC0 hM2 hB2
        go_wp2
        go_loopg [46, 6] i (fun gg v46 v6 wr => ∃ (k : Nat) (st : Spec.MState) (acc : List Spec.Pair), k ≤ i ∧ i - k ≤ gg ∧ v46 = .int .i64 (k : Int) ∧ Hid (MatchC w wr mb lb lf ou i cap marks st acc v6 ∧ acc ++ (Spec.matchFrom marks (Spec.most marks + 1) (i - k) k st).1 = Spec.matches_ marks))
        case atStart => exact ⟨0, _, [], Nat.zero_le _, Nat.le_refl _, rfl, Lib.hid ⟨HC0.out, HT.out⟩⟩
        case round =>
          obtain ⟨k, st, acc, hk, hgk, rfl, HK⟩ := hrel
          clear HC0 HT
          by_cases hkn : k < i
          · have hkni : (k : Int) < i := by omega
            obtain ⟨x, hx⟩ := HK.out.1.mw.mark k hkn
            have HX := Lib.hid hx
            have HS : Hid (acc ++ ((Spec.matchAt marks k (Spec.most marks + 1) st).1 ++ (Spec.matchFrom marks (Spec.most marks + 1) (i - k - 1) (k + 1) (Spec.matchAt marks k (Spec.most marks + 1) st).2).1) = Spec.matches_ marks) := Lib.hid (by
              have := HK.out.2
              rw [show i - k = (i - k - 1) + 1 by omega, matchFrom_succ] at this
              exact this)
            have HC := Lib.hid HK.out.1
            clear hx HK
            obtain ⟨wk, rfl⟩ : ∃ wk : World, wk = wr := ⟨_, rfl⟩
            go_upto_block 3 with fail
            go_cut [6] (fun s6 wc => ∃ (st2 : Spec.MState) (acc2 : List Spec.Pair), Hid (MatchC w wc mb lb lf ou i cap marks st2 acc2 s6 ∧ acc2 ++ (Spec.matchFrom marks (Spec.most marks + 1) (i - k - 1) (k + 1) st2).1 = Spec.matches_ marks))
            case first =>
              go_wp2
              go_loopg [6] (Spec.most marks + 1) (fun gg v6 wr => ∃ (st : Spec.MState) (acc : List Spec.Pair), st.left.getD k 0 < gg ∧ Hid (MatchC w wr mb lb lf ou i cap marks st acc v6 ∧ acc ++ ((Spec.matchAt marks k gg st).1 ++ (Spec.matchFrom marks (Spec.most marks + 1) (i - k - 1) (k + 1) (Spec.matchAt marks k gg st).2).1) = Spec.matches_ marks))
              case atStart => exact ⟨st, acc, by have := HC.out.cnt; have := le_sum st.left k; omega, Lib.hid ⟨HC.out, HS.out⟩⟩
              case round =>
                clear HC HS
                obtain ⟨st, acc, hg3, HP⟩ := hrel
                obtain ⟨g, hgg⟩ : ∃ g, gk = g + 1 := ⟨gk - 1, by omega⟩
                have HG := Lib.hid hgg
                have hM := HP.out.1.mw
                have m1 : wr.cell? ⟨mb, 1, none⟩ = some (.slice (some ⟨lf, 0, none⟩) i i) := cell_of_row _ _ _ _ _ _ hM.m
                have m2 : wr.cell? ⟨mb, 2, none⟩ = some (.slice (some ⟨ou, 0, none⟩) i i) := cell_of_row _ _ _ _ _ _ hM.m
                have l0 := hM.left k hkn
                have o0 := hM.out k hkn
                obtain ⟨a0, a1, a2, a3⟩ := hM.l k x HX.out
                have zlr : lb < wr.heap.size := by have := HP.out.1.bel.size; omega
                clear hM hgg a0 a1
                have stop : ¬ (st.out.getD k true = false ∧ x.cls = true ∧ 0 < st.left.getD k 0) → ∃ (st2 : Spec.MState) (acc2 : List Spec.Pair), Hid (MatchC w wr mb lb lf ou i cap marks st2 acc2 _ ∧ acc2 ++ (Spec.matchFrom marks (Spec.most marks + 1) (i - k - 1) (k + 1) st2).1 = Spec.matches_ marks) := fun h => ⟨st, acc, Lib.hid ⟨HP.out.1, by have := HP.out.2; rw [HG.out, matchAt_stop marks k g st x HX.out h] at this; exact this⟩⟩
                have STOP := Lib.hid stop
                clear stop
                cases ho : st.out.getD k true with
                | true =>
                  rw [ho] at o0
                  have HO := Lib.hid ho
                  clear ho
                  go_wp2
                  go_meet
                  exact STOP.out (fun h => by rw [HO.out] at h; cases h.1)
                | false =>
                  rw [ho] at o0
                  have HO := Lib.hid ho
                  clear ho
                  cases hc : x.cls with
                  | false =>
                    rw [hc] at a3
                    have HCL := Lib.hid hc
                    clear hc
                    go_wp2
                    go_meet
                    exact STOP.out (fun h => by rw [HCL.out] at h; cases h.2.1)
                  | true =>
                    rw [hc] at a3
                    have HCL := Lib.hid hc
                    clear hc
                    by_cases hl0 : 0 < st.left.getD k 0
                    · have hl0i : (0 : Int) < (st.left.getD k 0 : Nat) := by omega
                      obtain ⟨lk, hlk⟩ : ∃ lk, lk = st.left.getD k 0 := ⟨_, rfl⟩
                      rw [← hlk] at l0 hl0i
                      have hl0n : 0 < lk := by omega
                      have HLK := Lib.hid hlk
                      have HL0 := Lib.hid hl0
                      have HG3 := Lib.hid hg3
                      clear hlk hl0 hg3
                      go_upto_block 6 with fail
                      obtain ⟨wq, rfl⟩ : ∃ wq : World, wq = wr := ⟨_, rfl⟩
                      go_cut [8] (fun s8 wc => ∃ (o : Option Nat) (e : Int), s8 = .int .i64 e ∧ Hid (e = optI o ∧ Spec.opener marks st k k = o ∧ Below wq.heap.size wq wc))
                      case first =>
                        go_wp2
                        go_loopg [8] k (fun gg v8 wr => ∃ (j : Nat) (e : Int), j ≤ k ∧ j ≤ gg ∧ v8 = .int .i64 e ∧ Hid (e = (j : Int) - 1 ∧ Spec.opener marks st k k = Spec.opener marks st k j ∧ Below wq.heap.size wq wr))
                        case atStart => exact ⟨k, (k : Int) - 1, Nat.le_refl _, Nat.le_refl _, rfl, Lib.hid ⟨rfl, rfl, Below.refl _ _⟩⟩
                        case round =>
                          obtain ⟨j, e, hjk, hjg, rfl, HE⟩ := hrel
                          by_cases hj0 : j = 0
                          · subst hj0
                            obtain ⟨he, ho2, hb2⟩ := HE.out
                            have hei : e = -1 := by omega
                            subst hei
                            have HO2 := Lib.hid ho2
                            have HB2 := Lib.hid hb2
                            clear ho2 hb2 HE he
                            go_wp2
                            go_meet
                            exact ⟨none, -1, rfl, Lib.hid ⟨rfl, by rw [HO2.out]; rfl, HB2.out⟩⟩
                          · obtain ⟨q, rfl⟩ : ∃ q, j = q + 1 := ⟨j - 1, by omega⟩
                            obtain ⟨he, ho2, hb2⟩ := HE.out
                            have hei : e = (q : Int) := by omega
                            subst hei
                            have hMw : MW wr mb lb lf ou i cap marks st := HP.out.1.mw.keep (fun r hr => hb2.block r hr) zlr
                            have hF := fits_any wr mb lb lf ou i cap q k marks st hMw (by omega) hkn
                            have hstep : Spec.opener marks st k (q + 1) = if Spec.fits marks st q k = true then some q else Spec.opener marks st k q := rfl
                            rw [hstep] at ho2
                            have hq0 : (0 : Int) ≤ (q : Int) := by omega
                            cases hfq : Spec.fits marks st q k with
                            | true =>
                              rw [hfq] at hF
                              rw [if_pos hfq] at ho2
                              have HO2 := Lib.hid ho2
                              have HB2 := Lib.hid hb2
                              clear ho2 hb2 HE he hstep hfq hMw
                              go_wp2_with (go_at_call 116; refine hF.mono ?_; rintro r w5 ⟨rfl, hb5⟩)
                              go_meet
                              exact ⟨some q, (q : Int), rfl, Lib.hid ⟨rfl, HO2.out, HB2.out.trans (hb5.mono HB2.out.size)⟩⟩
                            | false =>
                              rw [hfq] at hF
                              rw [if_neg (by rw [hfq]; decide)] at ho2
                              have HO2 := Lib.hid ho2
                              have HB2 := Lib.hid hb2
                              clear ho2 hb2 HE he hstep hfq hMw
                              go_wp2_with (go_at_call 116; refine hF.mono ?_; rintro r w5 ⟨rfl, hb5⟩)
                              go_roundg q
                              case measure => omega
                              case rel => exact ⟨q, (q : Int) - 1, by omega, Nat.le_refl _, rfl, Lib.hid ⟨rfl, HO2.out, HB2.out.trans (hb5.mono HB2.out.size)⟩⟩
                      case rest =>
                        obtain ⟨o, e, rfl, HO2⟩ := hcut
                        have hCo := HP.out.1.below HO2.out.2.2 zlr
                        have hHS := HP.out.2
                        rw [HG.out] at hHS
                        have HHS := Lib.hid hHS
                        have zlc : lb < wc.heap.size := by have := HO2.out.2.2.size; omega
                        have HOP := Lib.hid HO2.out.2.1
                        have heo := HO2.out.1
                        have hlkp : 0 < st.left.getD k 0 := by have := HLK.out; omega
                        have hrowc : ∃ cur, wc.heap[lb]? = some (.cells cur 62 (0, 0)) := by obtain ⟨cur, hr⟩ := HROW.out; exact ⟨cur, (hCo.bel.block lb zl).trans hr⟩
                        clear hHS HP HO2 m1 m2 l0 o0 a2 a3
                        cases o with
                        | none =>
                          have hei : e = -1 := heo
                          subst hei
                          have hMc := hCo.mw
                          have m2 : wc.cell? ⟨mb, 2, none⟩ = some (.slice (some ⟨ou, 0, none⟩) i i) := cell_of_row _ _ _ _ _ _ hMc.m
                          have o0 := hMc.out k hkn
                          obtain ⟨_, _, a2, _⟩ := hMc.l k x HX.out
                          have fo : wc.frozen? ⟨ou, k, none⟩ = false := frozen_of_row _ _ _ _ _ hMc.o
                          have hM5 := (hMc.setOut ⟨HNE.out.2.2.1, HNE.out.2.2.2.1, HNE.out.2.2.2.2.1⟩ k (!x.opn)).drew
                          have hst := matchAt_none marks k g st x HX.out ⟨HO.out, HCL.out, hlkp⟩ HOP.out
                          have hT5 : Two wc (wc.setCell ⟨ou, k, none⟩ (.bool (!x.opn))).drew ou ou := ((Two.refl wc ou ou).set (.inl rfl) _).drew
                          have hC5 : MatchC w (wc.setCell ⟨ou, k, none⟩ (.bool (!x.opn))).drew mb lb lf ou i cap marks ⟨st.left, st.out.set k (!x.opn)⟩ acc u6 :=
                            ⟨hM5, ownsRow_two hCo.own hT5 ⟨_, _, _, hMc.o, by decide⟩ ⟨_, _, _, hMc.o, by decide⟩, (hCo.bel.setCell (p := ⟨ou, k, none⟩) go _).drew, hCo.cnt⟩
                          have HEND : Hid (MatchC w (wc.setCell ⟨ou, k, none⟩ (.bool (!x.opn))).drew mb lb lf ou i cap marks ⟨st.left, st.out.set k (!x.opn)⟩ acc u6 ∧ acc ++ (Spec.matchFrom marks (Spec.most marks + 1) (i - k - 1) (k + 1) ⟨st.left, st.out.set k (!x.opn)⟩).1 = Spec.matches_ marks) := Lib.hid ⟨hC5, by have := HHS.out; rw [hst] at this; exact this⟩
                          have hzz := blk_lt hMc.m
                          have hne2 : ¬ ou = mb := HNE.out.2.2.2.1
                          have hne3 : ¬ ou = lb := HNE.out.2.2.2.2.1
                          clear hC5 hT5 hst hM5 hMc hCo heo hlkp HOP HHS hrowc
                          go_wp2
                          go_region
                          all_goals
                            go_wp2
                            go_meet
                            exact ⟨_, acc, HEND⟩
                        | some j =>
                          have hei : e = (j : Int) := heo
                          subst hei
                          obtain ⟨hjk, hfj⟩ := opener_some marks st k k j HOP.out
                          have hlj := fits_left marks st j k hfj
                          have hMc := hCo.mw
                          have hj0 : ¬ (j : Int) < 0 := by omega
                          have hsumk := pairUp_sum st j k hjk (by rw [hMc.nf]; exact hkn) hlj hlkp
                          have hlek := pairUp_leftk st j k hjk (by rw [hMc.nf]; exact hkn) hlj hlkp
                          have hst := matchAt_some marks k g st x HX.out ⟨HO.out, HCL.out, hlkp⟩ j HOP.out
                          have hP := pair2_any wc mb lb lf ou i cap j k marks st hMc hrowc hjk hkn hlj hlkp (fun q => by have := le_sum st.left q; have := hCo.cnt; omega)
                          obtain ⟨p, hp⟩ : ∃ p, p = (Spec.pairUp st j k).1 := ⟨_, rfl⟩
                          obtain ⟨st6, hst6⟩ : ∃ s, s = (Spec.pairUp st j k).2 := ⟨_, rfl⟩
                          rw [← hp, ← hst6] at hP hst
                          rw [← hst6] at hsumk hlek
                          unfold pairV at hP
                          have HSUM := Lib.hid hsumk
                          have HLEK := Lib.hid hlek
                          have HST := Lib.hid hst
                          have HCo := Lib.hid hCo
                          have HGO : Hid (∃ cs t f, wc.heap[lf]? = some (.cells cs t f) ∧ 75 ≠ t) := Lib.hid ⟨_, _, _, hMc.f, by decide⟩
                          have HGP : Hid (∃ cs t f, wc.heap[ou]? = some (.cells cs t f) ∧ 75 ≠ t) := Lib.hid ⟨_, _, _, hMc.o, by decide⟩
                          clear hp hst6 hsumk hlek hst hCo hMc heo hfj hlj hlkp HOP
                          go_wp2_with fail
                          refine hP.mono ?_
                          rintro e w6 ⟨rfl, hM6, hT6⟩
                          have hown6 := ownsRow_two HCo.out.own hT6 HGO.out HGP.out
                          clear hP
                          obtain ⟨i0, hi0, hz0, hz1, hz2⟩ := info_parts info_pair
                          have hlen : acc.length + 1 ≤ 1000001 := by have := HCo.out.cnt; omega
                          go_wp2_with (at_builtin; refine wpList_append_own _ rfl (.tmp 101) (.tmp 106) 72 rfl w.heap.size 75 i0 (.agg #[.int .i64 0, .int .i64 0, .bool false]) 3 24 Tryz.underlying72 hi0 hz0 hz1 hz2 rfl (by decide) u6 acc.length (pairsRow acc) rfl (hown6.alloc _) ⟨w6.heap.size, 0, none⟩ 1 1 (pairCells p) rfl rfl ?c1 ?c2 ?c3 ?c4 ?c5 ?_)
                          case c1 =>
                            intro q u hq
                            rw [addr_add, cell_of_row _ _ _ _ _ _ (heap_alloc_new w6 _)]
                            simpa [pairCells] using hq
                          case c2 =>
                            intro u hu
                            simp only [pairCells, List.mem_cons, List.not_mem_nil, or_false] at hu
                            rcases hu with rfl | rfl | rfl <;> rfl
                          case c3 => unfold maxLen; omega
                          case c4 => omega
                          case c5 => have h1 := HCo.out.bel.size; have h2 := hT6.size; exact le_alloc (by omega) _
                          intro v' w7 hown7 hgrow7 _
                          have hrow6 : ∃ cur, w6.heap[lb]? = some (.cells cur 62 (0, 0)) := by
                            obtain ⟨cur, hr⟩ := hrowc
                            exact ⟨cur, (hT6.block lb zlc (Ne.symm HNE.out.2.1) (Ne.symm HNE.out.2.2.2.2.1)).trans hr⟩
                          have zl6 : lb < w6.heap.size := by have := hT6.size; omega
                          have hM6a : MW (w6.alloc (.cells #[.int .i64 (p.from_ : Int), .int .i64 (p.to : Int), .bool p.strong] 75)) mb lb lf ou i cap marks st6 := hM6.keep (fun q hq => Below.heap_alloc _ _ _ hq) zl6
                          have hM7 := hM6a.grown (by obtain ⟨cur, hr⟩ := hrow6; exact ⟨cur, (Below.heap_alloc _ _ _ zl6).trans hr⟩) (hown6.alloc _) hgrow7
                          have hB6 : Below w.heap.size w w6 := HCo.out.bel.trans (hT6.below gf go HCo.out.bel.size)
                          have hB7 : Below w.heap.size w w7 := (hB6.alloc hB6.size _).grown hgrow7 (le_alloc hB6.size _) (fun q hq => (hown6.lt q hq).1)
                          have hC7 : MatchC w w7 mb lb lf ou i cap marks st6 (acc ++ [p]) v' := ⟨hM7, by rw [List.length_append, pairsRow_snoc]; exact hown7, hB7, by rw [List.length_append]; have h1 := HCo.out.cnt; have h2 := HSUM.out; simp only [List.length_cons, List.length_nil]; omega⟩
                          have HC7 := Lib.hid hC7
                          clear hC7 hB7 hB6 hM7 hM6a hrow6 hown7 hgrow7 hown6 hM6 hT6
                          go_wp2
                          go_roundg g
                          case measure => have := HG.out; omega
                          case rel => exact ⟨st6, acc ++ [p], by have h1 := HLEK.out; have h2 := HG3.out; have h3 := HG.out; have h4 := HLK.out; omega, Lib.hid ⟨HC7.out, by have h1 := HHS.out; rw [HST.out] at h1; simpa using h1⟩⟩
                    · have hl0i : ¬ (0 : Int) < (st.left.getD k 0 : Nat) := by omega
                      obtain ⟨lk, hlk⟩ : ∃ lk, lk = st.left.getD k 0 := ⟨_, rfl⟩
                      rw [← hlk] at l0 hl0i
                      have HL0 := Lib.hid hl0
                      clear hlk hl0 hg3
                      go_wp2
                      go_meet
                      exact STOP.out (fun h => HL0.out h.2.2)
            case rest =>
              obtain ⟨st2, acc2, HR⟩ := hcut
              go_wp2
              go_roundg (i - (k + 1))
              case measure => omega
              case rel => exact ⟨k + 1, st2, acc2, by omega, Nat.le_refl _, by go_num, Lib.hid ⟨HR.out.1, by rw [show i - (k + 1) = i - k - 1 by omega]; exact HR.out.2⟩⟩
          · have hkni : ¬ (k : Int) < i := by omega
            obtain rfl : k = i := by omega
            have HR : Hid (acc = Spec.matches_ marks) := Lib.hid (by have := HK.out.2; rw [Nat.sub_self] at this; simpa [Spec.matchFrom] using this)
            go_wp2
            go_ret
            exact ⟨_, rfl, by rw [← HR.out]; exact HK.out.1.own, HK.out.1.bel⟩
end Go.Proofs.YtmplfiflikhpjaaGreatDoor
/-
  Words for the memory of inline: nodes with their kids, pieces.
-/
namespace Go.Proofs.YtmplfiflikhpjaaGreatDoor
open Go.RowKit

def Spec.Node.url : Spec.Node → List UInt8
  | .mk _ _ u _ _ => u
def Spec.Node.title : Spec.Node → List UInt8
  | .mk _ _ _ t _ => t
def Spec.Node.kids : Spec.Node → List Spec.Node
  | .mk _ _ _ _ k => k
def NodeT : TypeId := 27
def nodeCells (k : Spec.Node) (v : Value) : List Value :=
  [.int .i64 (k.kind : Int), .int .i64 0, .bool false, .bool false, .string ⟨k.text.toArray⟩, .string ⟨k.url.toArray⟩, .string ⟨k.title.toArray⟩, v]
/-- A slice of nodes in memory, below block B: its nodes, and theirs. -/
inductive KRep (w : World) (B : Nat) : Value → List Spec.Node → Prop
  | empty (A : Option Addr) (cap : Nat) : KRep w B (.slice A 0 cap) []
  | row (b cap : Nat) (ks : List Spec.Node) (kv : Nat → Value) (cur : Array Value) (hb : b < B) (hrow : w.heap[b]? = some (.cells cur NodeT (0, 0)))
      (hc : ∀ (i : Nat) (k : Spec.Node), ks[i]? = some k → ∀ (j : Nat) (u : Value), (nodeCells k (kv i))[j]? = some u → cur[i * 8 + j]? = some u)
      (hk : ∀ (i : Nat) (k : Spec.Node), ks[i]? = some k → KRep w B (kv i) k.kids) : KRep w B (.slice (some ⟨b, 0, none⟩) ks.length cap) ks
/-- Blocks of nodes stay. -/
def KeepT (t : TypeId) (B : Nat) (w w' : World) : Prop := ∀ (b : Nat) (cur : Array Value), b < B → w.heap[b]? = some (.cells cur t (0, 0)) → w'.heap[b]? = some (.cells cur t (0, 0))
theorem KRep.keep {w w' : World} {B B' : Nat} {v : Value} {ks : List Spec.Node} (h : KRep w B v ks) (hk : KeepT NodeT B w w') (hB : B ≤ B') : KRep w' B' v ks := by
  induction h with
  | empty A cap => exact .empty A cap
  | row b cap ks kv cur hb hrow hc _ ih => exact .row b cap ks kv cur (by omega) (hk b cur hb hrow) hc ih
theorem KRep.len {w : World} {B : Nat} {v : Value} {ks : List Spec.Node} (h : KRep w B v ks) : ∃ A cap, v = .slice A ks.length cap := by
  cases h with
  | empty A cap => exact ⟨A, cap, rfl⟩
  | row b cap ks kv cur hb hrow hc hk => exact ⟨_, _, rfl⟩
theorem keepT_below {t : TypeId} {w w' : World} {B : Nat} (h : Below B w w') : KeepT t B w w' := fun b _ hb hr => (h.block b hb).trans hr
theorem KeepT.trans {t : TypeId} {a b c : World} {B B' : Nat} (h : KeepT t B a b) (k : KeepT t B' b c) (hB : B ≤ B') : KeepT t B a c := fun q cur hq hr => k q cur (by omega) (h q cur hq hr)

/-- A piece as its fourteen cells hold it. -/
structure PV where
  kind : Nat
  text : ByteArray
  url : ByteArray
  title : ByteArray
  kids : Value
  raw : Bool
  mark : Option Nat
  left : Nat
  image : Bool
  noted : Bool
  dead : Bool
def markPtr (m : Option Nat) : Value := .pointer (m.map fun b => ⟨b, 0, none⟩)
def PV.cells (p : PV) : List Value :=
  [.int .i64 (p.kind : Int), .int .i64 0, .bool false, .bool false, .string p.text, .string p.url, .string p.title, p.kids, .bool p.raw, markPtr p.mark, .int .i64 (p.left : Int), .bool p.image, .bool p.noted, .bool p.dead]
theorem PV.cells_len (p : PV) : p.cells.length = 14 := rfl
def pvRow (ps : List PV) : List Value := ps.flatMap PV.cells
theorem flatMap_at {α : Type} (f : α → List Value) (n : Nat) (hf : ∀ a, (f a).length = n) : ∀ (l : List α) (i j : Nat) (a : α), l[i]? = some a → j < n → (l.flatMap f)[i * n + j]? = (f a)[j]?
  | [], i, j, a, h, _ => by cases h
  | x :: t, 0, j, a, h, hj => by
    obtain rfl := Option.some.inj h
    rw [List.flatMap_cons, Nat.zero_mul, Nat.zero_add, List.getElem?_append_left (by rw [hf]; exact hj)]
  | x :: t, i + 1, j, a, h, hj => by
    have ih := flatMap_at f n hf t i j a h hj
    rw [List.flatMap_cons, List.getElem?_append_right (by rw [hf, Nat.succ_mul]; omega), hf, ← ih]
    congr 1
    rw [Nat.succ_mul]; omega
theorem flatMap_len {α : Type} (f : α → List Value) (n : Nat) (hf : ∀ a, (f a).length = n) : ∀ l : List α, (l.flatMap f).length = l.length * n
  | [] => by simp
  | x :: t => by rw [List.flatMap_cons, List.length_append, hf, flatMap_len f n hf t, List.length_cons, Nat.succ_mul]; omega
theorem pvRow_at (ps : List PV) (i j : Nat) (p : PV) (h : ps[i]? = some p) (hj : j < 14) : (pvRow ps)[i * 14 + j]? = p.cells[j]? := flatMap_at PV.cells 14 (fun _ => rfl) ps i j p h hj
theorem pvRow_len (ps : List PV) : (pvRow ps).length = ps.length * 14 := flatMap_len PV.cells 14 (fun _ => rfl) ps
/-- A piece in memory, below block B. -/
structure PRep (w : World) (B : Nat) (p : PV) (s : Spec.Piece) : Prop where
  kind : p.kind = s.node.kind
  text : p.text.data.toList = s.node.text
  url : p.url.data.toList = s.node.url
  title : p.title.data.toList = s.node.title
  kids : KRep w B p.kids s.node.kids
  raw : p.raw = s.raw
  left : p.left = s.left
  image : p.image = s.image
  noted : p.noted = s.noted
  dead : p.dead = s.dead
  mark : match s.mark with
    | none => p.mark = none
    | some m => ∃ mb, p.mark = some mb ∧ mb < B ∧ w.heap[mb]? = some (.cells #[.int .u8 (m.sign.toNat : Int), .int .i64 (m.n : Int), .bool m.opn, .bool m.cls] 62 (0, 0))
theorem PRep.keep {w w' : World} {B B' : Nat} {p : PV} {s : Spec.Piece} (h : PRep w B p s) (hk : KeepT NodeT B w w') (hm : KeepT 62 B w w') (hB : B ≤ B') : PRep w' B' p s := by
  refine ⟨h.kind, h.text, h.url, h.title, h.kids.keep hk hB, h.raw, h.left, h.image, h.noted, h.dead, ?_⟩
  have := h.mark
  cases hs : s.mark with
  | none => rw [hs] at this; exact this
  | some m =>
    rw [hs] at this
    obtain ⟨mb, h1, h2, h3⟩ := this
    exact ⟨mb, h1, by omega, hm mb _ h2 h3⟩
/-- A slice of pieces that is read. -/
def PRead (w : World) (v : Value) (ps : List PV) : Prop :=
  ∃ (A : Option Addr) (cap : Nat), v = .slice A ps.length cap ∧ (0 < ps.length → ∃ b off, A = some ⟨b, off, none⟩ ∧ b < w.heap.size ∧ ∀ (i : Nat) (p : PV), ps[i]? = some p → ∀ (j : Nat) (u : Value), p.cells[j]? = some u → w.cell? ⟨b, off + i * 14 + j, none⟩ = some u)
theorem PRead.below {w w' : World} {v : Value} {ps : List PV} (h : PRead w v ps) (hb : Below w.heap.size w w') : PRead w' v ps := by
  obtain ⟨A, cap, rfl, hc⟩ := h
  refine ⟨A, cap, rfl, fun h0 => ?_⟩
  obtain ⟨b, off, rfl, hlt, hcell⟩ := hc h0
  exact ⟨b, off, rfl, Nat.lt_of_lt_of_le hlt hb.size, fun i p hp j u hu => (hb.cell (p := ⟨b, off + i * 14 + j, none⟩) hlt).trans (hcell i p hp j u hu)⟩
/-- Two lists of one length whose parts fit. -/
def Fit {α β : Type} (R : α → β → Prop) (l : List α) (m : List β) : Prop := l.length = m.length ∧ ∀ (i : Nat) a b, l[i]? = some a → m[i]? = some b → R a b
end Go.Proofs.YtmplfiflikhpjaaGreatDoor
/-
  inline.flat: pieces as nodes, marks as text.
-/
namespace Go.Proofs.YtmplfiflikhpjaaGreatDoor
open Go.RowKit

/-- A node as its eight cells hold it. -/
structure NV where
  kind : Nat
  text : ByteArray
  url : ByteArray
  title : ByteArray
  kids : Value
def NV.cells (n : NV) : List Value := [.int .i64 (n.kind : Int), .int .i64 0, .bool false, .bool false, .string n.text, .string n.url, .string n.title, n.kids]
def PV.nv (p : PV) : NV := ⟨p.kind, p.text, p.url, p.title, p.kids⟩
def nvRow (l : List NV) : List Value := l.flatMap NV.cells
theorem nvRow_at (ns : List NV) (i j : Nat) (p : NV) (h : ns[i]? = some p) (hj : j < 8) : (nvRow ns)[i * 8 + j]? = p.cells[j]? := flatMap_at NV.cells 8 (fun _ => rfl) ns i j p h hj
theorem nvRow_len (ns : List NV) : (nvRow ns).length = ns.length * 8 := flatMap_len NV.cells 8 (fun _ => rfl) ns
theorem nvRow_snoc (ns : List NV) (n : NV) : nvRow (ns ++ [n]) = nvRow ns ++ n.cells := by simp [nvRow]
/-- A node in memory, below block B. -/
structure NRep (w : World) (B : Nat) (n : NV) (s : Spec.Node) : Prop where
  kind : n.kind = s.kind
  text : n.text.data.toList = s.text
  url : n.url.data.toList = s.url
  title : n.title.data.toList = s.title
  kids : KRep w B n.kids s.kids
theorem NRep.keep {w w' : World} {B B' : Nat} {n : NV} {s : Spec.Node} (h : NRep w B n s) (hk : KeepT NodeT B w w') (hB : B ≤ B') : NRep w' B' n s := ⟨h.kind, h.text, h.url, h.title, h.kids.keep hk hB⟩
theorem PRep.nrep {w : World} {B : Nat} {p : PV} {s : Spec.Piece} (h : PRep w B p s) : NRep w B p.nv s.node := ⟨h.kind, h.text, h.url, h.title, h.kids⟩
theorem str_eq {t : ByteArray} {l : List UInt8} (h : t.data.toList = l) : (⟨l.toArray⟩ : ByteArray) = t := by subst h; rfl
/-- Nodes that a call has laid, as a slice that is read. -/
theorem krep_own {w : World} {base : Nat} {v : Value} {ns : List NV} {ks : List Spec.Node} (h : w.ownsRow base NodeT 8 v ns.length (nvRow ns)) (hf : Fit (NRep w w.heap.size) ns ks) : KRep w w.heap.size v ks := by
  rcases h.2 with ⟨rfl, h0⟩ | ⟨g, cap, cur, rfl, _, hg, _, _, _, hx⟩
  · have : ks = [] := List.eq_nil_of_length_eq_zero (by rw [← hf.1, h0])
    subst this
    exact .empty none 0
  · rw [hf.1]
    have hat : ∀ (i : Nat) (k : Spec.Node), ks[i]? = some k → ∃ n, ns[i]? = some n ∧ NRep w w.heap.size n k := fun i k hk => by
      have hi : i < ns.length := by rw [hf.1]; exact (List.getElem?_eq_some_iff.1 hk).1
      exact ⟨_, List.getElem?_eq_getElem hi, hf.2 i _ k (List.getElem?_eq_getElem hi) hk⟩
    refine .row g cap ks (fun i => (ns[i]?.map (·.kids)).getD (.bool false)) cur (blk_lt hg) hg (fun i k hk j u hu => ?_) (fun i k hk => ?_)
    · obtain ⟨n, hn, hr⟩ := hat i k hk
      have hi : i < ns.length := (List.getElem?_eq_some_iff.1 hn).1
      have hj : j < 8 := (List.getElem?_eq_some_iff.1 hu).1
      rw [← Array.getElem?_toList]
      have e : (cur.toList.take (ns.length * 8))[i * 8 + j]? = (nvRow ns)[i * 8 + j]? := by rw [hx]
      rw [List.getElem?_take_of_lt (by omega)] at e
      rw [e, nvRow_at ns i j n hn hj, ← hu]
      have e2 : nodeCells k ((ns[i]?.map (·.kids)).getD (.bool false)) = n.cells := by
        unfold nodeCells NV.cells
        rw [hn, hr.kind, str_eq hr.text, str_eq hr.url, str_eq hr.title]
        rfl
      rw [e2]
    · obtain ⟨n, hn, hr⟩ := hat i k hk
      rw [hn]
      exact hr.kids
theorem two_blocks (w : World) (A B : Array Value) (a b : TypeId) : (∀ j, ((w.alloc (.cells A a)).alloc (.cells B b)).cell? ⟨w.heap.size, j, none⟩ = A[j]?) ∧ ((w.alloc (.cells A a)).alloc (.cells B b)).heap[w.heap.size + 1]? = some (.cells B b (0, 0)) ∧
    Below w.heap.size w ((w.alloc (.cells A a)).alloc (.cells B b)) ∧ ((w.alloc (.cells A a)).alloc (.cells B b)).heap.size = w.heap.size + 1 + 1 :=
  ⟨fun j => cell_of_row _ _ _ _ _ _ ((Below.heap_alloc _ _ _ (by simp)).trans (heap_alloc_new w _)), heap_alloc2_new w _ _, ((Below.refl _ _).alloc (Nat.le_refl _) _).alloc (by simp) _, by simp⟩
theorem store8 (w : World) (q : Nat) (a0 a1 a2 a3 a4 a5 a6 a7 v0 v1 v2 v3 v4 v5 v6 v7 : Value) (t : TypeId) (hq : w.heap[q]? = some (.cells #[a0, a1, a2, a3, a4, a5, a6, a7] t (0, 0))) :
    ((((((((w.setCell ⟨q, 0, none⟩ v0).setCell ⟨q, 1, none⟩ v1).setCell ⟨q, 2, none⟩ v2).setCell ⟨q, 3, none⟩ v3).setCell ⟨q, 4, none⟩ v4).setCell ⟨q, 5, none⟩ v5).setCell ⟨q, 6, none⟩ v6).setCell ⟨q, 7, none⟩ v7).heap[q]? = some (.cells #[v0, v1, v2, v3, v4, v5, v6, v7] t (0, 0)) ∧ ∀ B, B ≤ q → Below B w ((((((((w.setCell ⟨q, 0, none⟩ v0).setCell ⟨q, 1, none⟩ v1).setCell ⟨q, 2, none⟩ v2).setCell ⟨q, 3, none⟩ v3).setCell ⟨q, 4, none⟩ v4).setCell ⟨q, 5, none⟩ v5).setCell ⟨q, 6, none⟩ v6).setCell ⟨q, 7, none⟩ v7) := by
  have h0 : (w.setCell ⟨q, 0, none⟩ v0).heap[q]? = some (.cells #[v0, a1, a2, a3, a4, a5, a6, a7] t (0, 0)) := (heap_setCell_same _ q 0 _ t v0 hq).trans (by simp)
  have h1 : ((w.setCell ⟨q, 0, none⟩ v0).setCell ⟨q, 1, none⟩ v1).heap[q]? = some (.cells #[v0, v1, a2, a3, a4, a5, a6, a7] t (0, 0)) := (heap_setCell_same _ q 1 _ t v1 h0).trans (by simp)
  have h2 : (((w.setCell ⟨q, 0, none⟩ v0).setCell ⟨q, 1, none⟩ v1).setCell ⟨q, 2, none⟩ v2).heap[q]? = some (.cells #[v0, v1, v2, a3, a4, a5, a6, a7] t (0, 0)) := (heap_setCell_same _ q 2 _ t v2 h1).trans (by simp)
  have h3 : ((((w.setCell ⟨q, 0, none⟩ v0).setCell ⟨q, 1, none⟩ v1).setCell ⟨q, 2, none⟩ v2).setCell ⟨q, 3, none⟩ v3).heap[q]? = some (.cells #[v0, v1, v2, v3, a4, a5, a6, a7] t (0, 0)) := (heap_setCell_same _ q 3 _ t v3 h2).trans (by simp)
  have h4 : (((((w.setCell ⟨q, 0, none⟩ v0).setCell ⟨q, 1, none⟩ v1).setCell ⟨q, 2, none⟩ v2).setCell ⟨q, 3, none⟩ v3).setCell ⟨q, 4, none⟩ v4).heap[q]? = some (.cells #[v0, v1, v2, v3, v4, a5, a6, a7] t (0, 0)) := (heap_setCell_same _ q 4 _ t v4 h3).trans (by simp)
  have h5 : ((((((w.setCell ⟨q, 0, none⟩ v0).setCell ⟨q, 1, none⟩ v1).setCell ⟨q, 2, none⟩ v2).setCell ⟨q, 3, none⟩ v3).setCell ⟨q, 4, none⟩ v4).setCell ⟨q, 5, none⟩ v5).heap[q]? = some (.cells #[v0, v1, v2, v3, v4, v5, a6, a7] t (0, 0)) := (heap_setCell_same _ q 5 _ t v5 h4).trans (by simp)
  have h6 : (((((((w.setCell ⟨q, 0, none⟩ v0).setCell ⟨q, 1, none⟩ v1).setCell ⟨q, 2, none⟩ v2).setCell ⟨q, 3, none⟩ v3).setCell ⟨q, 4, none⟩ v4).setCell ⟨q, 5, none⟩ v5).setCell ⟨q, 6, none⟩ v6).heap[q]? = some (.cells #[v0, v1, v2, v3, v4, v5, v6, a7] t (0, 0)) := (heap_setCell_same _ q 6 _ t v6 h5).trans (by simp)
  have h7 : ((((((((w.setCell ⟨q, 0, none⟩ v0).setCell ⟨q, 1, none⟩ v1).setCell ⟨q, 2, none⟩ v2).setCell ⟨q, 3, none⟩ v3).setCell ⟨q, 4, none⟩ v4).setCell ⟨q, 5, none⟩ v5).setCell ⟨q, 6, none⟩ v6).setCell ⟨q, 7, none⟩ v7).heap[q]? = some (.cells #[v0, v1, v2, v3, v4, v5, v6, v7] t (0, 0)) := (heap_setCell_same _ q 7 _ t v7 h6).trans (by simp)
  exact ⟨h7, fun B hB => (((((((((Below.refl B w).setCell (p := ⟨q, 0, none⟩) hB _).setCell (p := ⟨q, 1, none⟩) hB _).setCell (p := ⟨q, 2, none⟩) hB _).setCell (p := ⟨q, 3, none⟩) hB _).setCell (p := ⟨q, 4, none⟩) hB _).setCell (p := ⟨q, 5, none⟩) hB _).setCell (p := ⟨q, 6, none⟩) hB _).setCell (p := ⟨q, 7, none⟩) hB _)⟩
theorem wt_mem (l : List Spec.Piece) (p : Spec.Piece) (h : p ∈ l) : Pl.wt p ≤ Pl.wtL l := by
  obtain ⟨a, b, rfl⟩ := List.append_of_mem h
  rw [Pl.wtL_app, ← List.singleton_append, Pl.wtL_app, Pl.wtL_one]
  omega
theorem repeat_one (c : UInt8) (n : Nat) : Lib.repeatL [c] n = List.replicate n c := by
  induction n with
  | zero => rfl
  | succ n ih => rw [List.replicate_succ, ← ih]; rfl
theorem row_slice {w : World} {base : Nat} {e : TypeId} {size : Nat} {v : Value} {n : Nat} {xs : List Value} (h : w.ownsRow base e size v n xs) : ∃ A c, v = .slice A n c := by
  rcases h.2 with ⟨rfl, rfl⟩ | ⟨g, c, _, rfl, _⟩
  · exact ⟨_, _, rfl⟩
  · exact ⟨_, _, rfl⟩
theorem own_below {w w' : World} {base : Nat} {e : TypeId} {size : Nat} {v : Value} {n : Nat} {xs : List Value} (h : w.ownsRow base e size v n xs) (hb : Below w.heap.size w w') : w'.ownsRow base e size v n xs :=
  h.kept (row := none) ⟨hb.os, hb.tape, hb.output, hb.size, fun i hi _ => hb.block i hi⟩ (by cases v.ownBlock <;> simp)
theorem Fit.keep {w w' : World} {B B' : Nat} {ns : List NV} {ks : List Spec.Node} (h : Fit (NRep w B) ns ks) (hk : KeepT NodeT B w w') (hB : B ≤ B') : Fit (NRep w' B') ns ks := ⟨h.1, fun i a b ha hb => (h.2 i a b ha hb).keep hk hB⟩
theorem fit_nil {α β : Type} (R : α → β → Prop) : Fit R [] [] := ⟨rfl, fun i a b h => by cases h⟩
theorem Fit.snoc {α β : Type} {R : α → β → Prop} {l : List α} {m : List β} {a : α} {b : β} (h : Fit R l m) (hr : R a b) : Fit R (l ++ [a]) (m ++ [b]) := by
  refine ⟨by simp [h.1], fun i x y hx hy => ?_⟩
  by_cases hi : i < l.length
  · rw [List.getElem?_append_left hi] at hx
    rw [List.getElem?_append_left (by rw [← h.1]; exact hi)] at hy
    exact h.2 i x y hx hy
  · rw [List.getElem?_append_right (by omega)] at hx
    rw [List.getElem?_append_right (by rw [← h.1]; omega), ← h.1] at hy
    cases hk : i - l.length with
    | zero =>
      rw [hk] at hx hy
      obtain rfl := Option.some.inj hx
      obtain rfl := Option.some.inj hy
      exact hr
    | succ q => rw [hk] at hx; cases hx
theorem Fit.at_ {α β : Type} {R : α → β → Prop} {l : List α} {m : List β} (h : Fit R l m) {i : Nat} {a : α} (ha : l[i]? = some a) : ∃ b, m[i]? = some b ∧ R a b := by
  have hi : i < m.length := by rw [← h.1]; exact (List.getElem?_eq_some_iff.1 ha).1
  exact ⟨_, List.getElem?_eq_getElem hi, h.2 i _ _ ha (List.getElem?_eq_getElem hi)⟩

/-! ### plain: how much text there is -/
def txtW (l : List Spec.Node) : Nat := (l.map fun n => if n.kind = 10 then n.text.length else 0).sum
theorem txtW_app (a b : List Spec.Node) : txtW (a ++ b) = txtW a + txtW b := by simp [txtW]
theorem txtW_one (n : Spec.Node) : txtW [n] = if n.kind = 10 then n.text.length else 0 := by simp [txtW]
theorem txtW_add (out : List Spec.Node) (n : Spec.Node) : txtW (Spec.addNode out n) ≤ txtW out + txtW [n] := by
  unfold Spec.addNode
  cases h : out.getLast? with
  | none =>
    rw [List.getLast?_eq_none_iff] at h
    subst h
    simp only
    split <;> simp [txtW]
  | some k =>
    obtain ⟨a, rfl⟩ := List.getLast?_eq_some_iff.1 h
    simp only
    split
    · rename_i hc
      rw [List.dropLast_concat, txtW_app, txtW_app, txtW_one, txtW_one, txtW_one]
      have h1 : (k.addText n.text).kind = k.kind := by cases k; rfl
      have h2 : (k.addText n.text).text = k.text ++ n.text := by cases k; rfl
      rw [h1, h2, if_pos hc.2, if_pos hc.2, if_pos hc.1, List.length_append]
      omega
    · split
      · rw [txtW_app]
        omega
      · omega
def flatTo (ps : List Spec.Piece) (i : Nat) : List Spec.Node := (ps.take i).foldl (fun out p => Spec.addNode out p.asNode) []
theorem flatTo_step (ps : List Spec.Piece) (i : Nat) (p : Spec.Piece) (h : ps[i]? = some p) : flatTo ps (i + 1) = Spec.addNode (flatTo ps i) p.asNode := by
  unfold flatTo
  rw [List.take_add_one, h, Option.toList_some, List.foldl_append]
  rfl
theorem flatTo_all (ps : List Spec.Piece) : flatTo ps ps.length = Spec.flat ps := by
  unfold flatTo
  rw [List.take_length]
  rfl
theorem wt_asNode (p : Spec.Piece) : txtW [p.asNode] = Pl.wt p := by
  rw [txtW_one]
  unfold Spec.Piece.asNode Pl.wt
  cases p.mark with
  | none => rfl
  | some m => simp [Spec.txt, Spec.Node.kind, Spec.Node.text]
theorem flatTo_wt (ps : List Spec.Piece) : ∀ i, txtW (flatTo ps i) ≤ Pl.wtL (ps.take i)
  | 0 => by simp [flatTo, txtW]
  | i + 1 => by
    have ih := flatTo_wt ps i
    cases h : ps[i]? with
    | none =>
      have : ps.length ≤ i := by simpa using h
      have e1 : ps.take (i + 1) = ps.take i := by rw [List.take_of_length_le (by omega), List.take_of_length_le this]
      have e2 : flatTo ps (i + 1) = flatTo ps i := by unfold flatTo; rw [e1]
      rw [e1, e2]
      exact ih
    | some p =>
      have h1 := txtW_add (flatTo ps i) p.asNode
      rw [wt_asNode] at h1
      rw [flatTo_step ps i p h, List.take_add_one, h, Option.toList_some, Pl.wtL_app, Pl.wtL_one]
      omega
theorem last_wt (l : List Spec.Node) (k : Spec.Node) (h : l.getLast? = some k) (hk : k.kind = 10) : k.text.length ≤ txtW l := by
  obtain ⟨a, rfl⟩ := List.getLast?_eq_some_iff.1 h
  rw [txtW_app, txtW_one, if_pos hk]
  omega
theorem flatTo_len (ps : List Spec.Piece) : ∀ i, (flatTo ps i).length ≤ i
  | 0 => by simp [flatTo]
  | i + 1 => by
    have ih := flatTo_len ps i
    have hadd : ∀ (out : List Spec.Node) n, (Spec.addNode out n).length ≤ out.length + 1 := fun out n => by
      unfold Spec.addNode
      cases h : out.getLast? with
      | none => simp only; split <;> simp
      | some k =>
        obtain ⟨a, rfl⟩ := List.getLast?_eq_some_iff.1 h
        simp only
        split
        · simp
        · split <;> simp
    cases h : ps[i]? with
    | none =>
      have : ps.length ≤ i := by simpa using h
      have e1 : ps.take (i + 1) = ps.take i := by rw [List.take_of_length_le (by omega), List.take_of_length_le this]
      have e2 : flatTo ps (i + 1) = flatTo ps i := by unfold flatTo; rw [e1]
      rw [e2]
      omega
    | some p =>
      rw [flatTo_step ps i p h]
      have := hadd (flatTo ps i) p.asNode
      omega
/-! ### the ends of a round -/
/-- The nodes so far. -/
structure FlatRel (w : World) (B0 : Nat) (A : List Spec.Node) (v : Value) (ns : List NV) (wr : World) : Prop where
  own : wr.ownsRow w.heap.size NodeT 8 v ns.length (nvRow ns)
  fit : Fit (NRep w B0) ns A
  bel : Below w.heap.size w wr
theorem FlatRel.below {w wr wc : World} {B0 : Nat} {A : List Spec.Node} {v : Value} {ns : List NV} (h : FlatRel w B0 A v ns wr) (hb : Below wr.heap.size wr wc) : FlatRel w B0 A v ns wc := ⟨own_below h.own hb, h.fit, h.bel.trans (hb.mono h.bel.size)⟩
theorem FlatRel.krep {w wr : World} {B0 : Nat} {A : List Spec.Node} {v : Value} {ns : List NV} (h : FlatRel w B0 A v ns wr) (hB : B0 ≤ w.heap.size) : KRep wr wr.heap.size v A := krep_own h.own (h.fit.keep (keepT_below (h.bel.mono hB)) (Nat.le_trans hB h.bel.size))
/-- A node is laid behind the others. -/
theorem FlatRel.app {w wc w7 : World} {B0 : Nat} {v v' : Value} {ns : List NV} {A : List Spec.Node} {n : NV} {k : Spec.Node} {o : Obj} (h : FlatRel w B0 A v ns wc) (hn : NRep w B0 n k)
    (hown7 : w7.ownsRow w.heap.size NodeT 8 v' (ns.length + 1) (nvRow ns ++ n.cells)) (hg : (wc.alloc o).grownBy w7 v.ownBlock) : FlatRel w B0 (A ++ [k]) v' (ns ++ [n]) w7 := by
  refine ⟨by rw [List.length_append, nvRow_snoc]; exact hown7, h.fit.snoc hn, ?_⟩
  exact (h.bel.alloc h.bel.size o).grown hg (Nat.le_trans h.bel.size (by simp)) (fun q hq => (h.own.lt q hq).1)
/-- Text is laid at the last one. -/
theorem FlatRel.cat {w wc : World} {B0 : Nat} {g m cap : Nat} {ns : List NV} {A : List Spec.Node} {n : NV} {k : Spec.Node} (h : FlatRel w B0 (A ++ [k]) (.slice (some ⟨g, 0, none⟩) (m + 1) cap) (ns ++ [n]) wc) (hm : ns.length = m) (t : ByteArray) (l : List UInt8) (ht : t.data.toList = n.text.data.toList ++ l) :
    FlatRel w B0 (A ++ [k.addText l]) (.slice (some ⟨g, 0, none⟩) (m + 1) cap) (ns ++ [{ n with text := t }]) (wc.setCell ⟨g, m * 8 + 4, none⟩ (.string t)).drew := by
  have hl : (ns ++ [n]).length = m + 1 := by simp [hm]
  have hgb := (h.own.lt g rfl).1
  have hfl : A.length = ns.length := by have := h.fit.1; simp at this; exact this.symm
  refine ⟨?_, ?_, (h.bel.setCell (p := ⟨g, m * 8 + 4, none⟩) hgb _).drew⟩
  · have ho := h.own
    rw [hl] at ho
    have hs := ho.stored (m * 8 + 4) (.string t)
    have hl2 : (ns ++ [{ n with text := t }]).length = m + 1 := by simp [hm]
    rw [hl2]
    have e : (nvRow (ns ++ [n])).set (m * 8 + 4) (.string t) = nvRow (ns ++ [{ n with text := t }]) := by
      rw [nvRow_snoc, nvRow_snoc, List.set_append_right _ _ (by rw [nvRow_len, hm]; omega), nvRow_len, hm, Nat.add_sub_cancel_left]
      rfl
    rw [e] at hs
    exact hs.1
  · have h1 := h.fit.2 ns.length n k (by simp) (by rw [← hfl]; simp)
    have h2 : Fit (NRep w B0) ns A := ⟨hfl.symm, fun i a b ha hb => h.fit.2 i a b (by rw [List.getElem?_append_left (List.getElem?_eq_some_iff.1 ha).1]; exact ha) (by rw [List.getElem?_append_left (List.getElem?_eq_some_iff.1 hb).1]; exact hb)⟩
    refine h2.snoc ?_
    cases k
    exact ⟨h1.kind, by rw [ht, h1.text]; rfl, h1.url, h1.title, h1.kids⟩
theorem snoc_of {α : Type} (l : List α) (h : 0 < l.length) : ∃ a x, l = a ++ [x] := by
  have h0 : l ≠ [] := by rintro rfl; simp at h
  exact ⟨l.dropLast, l.getLast h0, (List.dropLast_concat_getLast h0).symm⟩
theorem addNode_snoc (A : List Spec.Node) (k n : Spec.Node) : Spec.addNode (A ++ [k]) n = if n.kind = 10 ∧ k.kind = 10 then A ++ [k.addText n.text] else if n.kind ≠ 10 ∨ n.text ≠ [] then A ++ [k] ++ [n] else A ++ [k] := by
  unfold Spec.addNode
  rw [List.getLast?_concat]
  simp only [List.dropLast_concat]
theorem addNode_nil (n : Spec.Node) : Spec.addNode [] n = if n.kind ≠ 10 ∨ n.text ≠ [] then [n] else [] := rfl
end Go.Proofs.YtmplfiflikhpjaaGreatDoor
