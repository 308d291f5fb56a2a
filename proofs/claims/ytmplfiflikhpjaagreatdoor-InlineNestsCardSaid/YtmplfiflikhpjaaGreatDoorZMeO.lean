/-
  The law's joined, kids, apart: texts side by side are one.
-/
import Derived.Test.YtmplfiflikhpjaaGreatDoorV19
import Derived.Test.YtmplfiflikhpjaaGreatDoorV02
namespace Go.Proofs.YtmplfiflikhpjaaGreatDoor
open Go.RowKit

def joinNode (out : List Spec.Node) (n : Spec.Node) : List Spec.Node :=
  match out.getLast? with
  | some k => if n.kind = 10 ∧ k.kind = 10 then out.dropLast ++ [k.addText n.text] else out ++ [n]
  | none => [n]
def joinTo (ks : List Spec.Node) (i : Nat) : List Spec.Node := (ks.take i).foldl joinNode []
theorem joinTo_step (ks : List Spec.Node) (i : Nat) (k : Spec.Node) (h : ks[i]? = some k) : joinTo ks (i + 1) = joinNode (joinTo ks i) k := by
  unfold joinTo
  rw [List.take_add_one, h, Option.toList_some, List.foldl_append]
  rfl
theorem joinNode_snoc (A : List Spec.Node) (k n : Spec.Node) : joinNode (A ++ [k]) n = if n.kind = 10 ∧ k.kind = 10 then A ++ [k.addText n.text] else A ++ [k] ++ [n] := by
  unfold joinNode
  rw [List.getLast?_concat]
  simp only [List.dropLast_concat]
theorem txtW_join (out : List Spec.Node) (n : Spec.Node) : txtW (joinNode out n) ≤ txtW out + txtW [n] := by
  unfold joinNode
  cases h : out.getLast? with
  | none => exact Nat.le_add_left _ _
  | some k =>
    obtain ⟨a, rfl⟩ := List.getLast?_eq_some_iff.1 h
    simp only
    split
    · rename_i hc
      rw [List.dropLast_concat, txtW_app, txtW_app, txtW_one, txtW_one, txtW_one]
      have h1 : (k.addText n.text).kind = k.kind := by cases k; rfl
      have h2 : (k.addText n.text).text = k.text ++ n.text := by cases k; rfl
      rw [h1, h2, if_pos hc.2, if_pos hc.2, if_pos hc.1, List.length_append]
      omega
    · rw [txtW_app]
      omega
theorem joinTo_wt (ks : List Spec.Node) : ∀ i, txtW (joinTo ks i) ≤ txtW (ks.take i)
  | 0 => Nat.le_refl _
  | i + 1 => by
    have ih := joinTo_wt ks i
    cases h : ks[i]? with
    | none =>
      have : ks.length ≤ i := by simpa using h
      have e : ks.take (i + 1) = ks.take i := by rw [List.take_of_length_le (by omega), List.take_of_length_le this]
      have e2 : joinTo ks (i + 1) = joinTo ks i := by unfold joinTo; rw [e]
      rw [e, e2]
      exact ih
    | some k =>
      have h1 := txtW_join (joinTo ks i) k
      rw [joinTo_step ks i k h, List.take_add_one, h, Option.toList_some, txtW_app]
      omega
theorem joinTo_len (ks : List Spec.Node) : ∀ i, (joinTo ks i).length ≤ i
  | 0 => Nat.le_refl _
  | i + 1 => by
    have ih := joinTo_len ks i
    have hadd : ∀ (out : List Spec.Node) n, (joinNode out n).length ≤ out.length + 1 := fun out n => by
      unfold joinNode
      cases h : out.getLast? with
      | none => simp
      | some k =>
        obtain ⟨a, rfl⟩ := List.getLast?_eq_some_iff.1 h
        simp only
        split <;> simp
    cases h : ks[i]? with
    | none =>
      have : ks.length ≤ i := by simpa using h
      have e2 : joinTo ks (i + 1) = joinTo ks i := by unfold joinTo; rw [List.take_of_length_le (by omega), List.take_of_length_le this]
      rw [e2]
      omega
    | some k =>
      rw [joinTo_step ks i k h]
      have := hadd (joinTo ks i) k
      omega
theorem joined_three (a b : List UInt8) (n : Spec.Node) : joinTo [Spec.txt a, n, Spec.txt b] 3 = Pl.joinN a n b := by
  show joinNode (joinNode (joinNode [] (Spec.txt a)) n) (Spec.txt b) = _
  have h0 : joinNode [] (Spec.txt a) = [] ++ [Spec.txt a] := rfl
  rw [h0, joinNode_snoc]
  unfold Pl.joinN
  by_cases h : n.kind = 10
  · rw [if_pos ⟨h, rfl⟩, joinNode_snoc, if_pos ⟨rfl, rfl⟩, if_pos h]
    rfl
  · rw [if_neg (fun h2 => h h2.1), joinNode_snoc, if_neg (fun h2 => h h2.2), if_neg h]
    rfl
theorem txtW_take (l : List Spec.Node) (i : Nat) : txtW (l.take i) ≤ txtW l := by
  have := txtW_app (l.take i) (l.drop i)
  rw [List.take_append_drop] at this
  omega
theorem txtW_at (l : List Spec.Node) (i : Nat) (k : Spec.Node) (h : l[i]? = some k) (hk : k.kind = 10) : k.text.length ≤ txtW l := by
  have h1 := txtW_take l (i + 1)
  rw [List.take_add_one, h, Option.toList_some, txtW_app, txtW_one, if_pos hk] at h1
  omega

/-- The nodes so far; what stands in them is told of a world of its own. -/
structure FlatX (w wX : World) (BX : Nat) (A : List Spec.Node) (v : Value) (ns : List NV) (wr : World) : Prop where
  own : wr.ownsRow w.heap.size NodeT 8 v ns.length (nvRow ns)
  fit : Fit (NRep wX BX) ns A
  bel : Below w.heap.size w wr
theorem FlatX.app {w wX wc w7 : World} {BX : Nat} {v v' : Value} {ns : List NV} {A : List Spec.Node} {n : NV} {k : Spec.Node} {o : Obj} (h : FlatX w wX BX A v ns wc) (hn : NRep wX BX n k)
    (hown7 : w7.ownsRow w.heap.size NodeT 8 v' (ns.length + 1) (nvRow ns ++ n.cells)) (hg : (wc.alloc o).grownBy w7 v.ownBlock) : FlatX w wX BX (A ++ [k]) v' (ns ++ [n]) w7 := by
  refine ⟨by rw [List.length_append, nvRow_snoc]; exact hown7, h.fit.snoc hn, ?_⟩
  exact (h.bel.alloc h.bel.size o).grown hg (Nat.le_trans h.bel.size (by simp)) (fun q hq => (h.own.lt q hq).1)
theorem FlatX.cat {w wX wc : World} {BX g m cap : Nat} {ns : List NV} {A : List Spec.Node} {n : NV} {k : Spec.Node} (h : FlatX w wX BX (A ++ [k]) (.slice (some ⟨g, 0, none⟩) (m + 1) cap) (ns ++ [n]) wc) (hm : ns.length = m) (t : ByteArray) (l : List UInt8) (ht : t.data.toList = n.text.data.toList ++ l) :
    FlatX w wX BX (A ++ [k.addText l]) (.slice (some ⟨g, 0, none⟩) (m + 1) cap) (ns ++ [{ n with text := t }]) (wc.setCell ⟨g, m * 8 + 4, none⟩ (.string t)).drew := by
  have hl : (ns ++ [n]).length = m + 1 := by simp [hm]
  have hgb := (h.own.lt g rfl).1
  have hfl : A.length = ns.length := by have := h.fit.1; simp at this; exact this.symm
  refine ⟨?_, ?_, (h.bel.setCell (p := ⟨g, m * 8 + 4, none⟩) hgb _).drew⟩
  · have ho := h.own
    rw [hl] at ho
    have hs := ho.stored (m * 8 + 4) (.string t)
    have hl2 : (ns ++ [{ n with text := t }]).length = m + 1 := by simp [hm]
    rw [hl2]
    have e : (nvRow (ns ++ [n])).set (m * 8 + 4) (.string t) = nvRow (ns ++ [{ n with text := t }]) := by
      rw [nvRow_snoc, nvRow_snoc, List.set_append_right _ _ (by rw [nvRow_len, hm]; omega), nvRow_len, hm, Nat.add_sub_cancel_left]
      rfl
    rw [e] at hs
    exact hs.1
  · have h1 := h.fit.2 ns.length n k (by simp) (by rw [← hfl]; simp)
    have h2 : Fit (NRep wX BX) ns A := ⟨hfl.symm, fun i a b ha hb => h.fit.2 i a b (by rw [List.getElem?_append_left (List.getElem?_eq_some_iff.1 ha).1]; exact ha) (by rw [List.getElem?_append_left (List.getElem?_eq_some_iff.1 hb).1]; exact hb)⟩
    refine h2.snoc ?_
    cases k
    exact ⟨h1.kind, by rw [ht, h1.text]; rfl, h1.url, h1.title, h1.kids⟩
/-- A row of nodes that is read; what stands in them is told of a world of its own. -/
def RowX (w wX : World) (BX : Nat) (v : Value) (ks : List Spec.Node) : Prop :=
  ∃ (A : Option Addr) (cap : Nat), v = .slice A ks.length cap ∧ ∀ (i : Nat) (k : Spec.Node), ks[i]? = some k → ∃ (b : Nat) (n : NV), A = some ⟨b, 0, none⟩ ∧ b < w.heap.size ∧ (∀ (j : Nat) (u : Value), n.cells[j]? = some u → w.cell? ⟨b, i * 8 + j, none⟩ = some u) ∧ NRep wX BX n k
/-- A row of nodes that was made. -/
def JoinRes (w wX : World) (BX : Nat) (ks : List Spec.Node) (e : Ending) (w' : World) : Prop := ∃ v ns, e = .returned v ∧ w'.ownsRow w.heap.size NodeT 8 v ns.length (nvRow ns) ∧ Fit (NRep wX BX) ns ks ∧ Below w.heap.size w w'

set_option maxHeartbeats 32000000 in
set_option maxRecDepth 100000 in
theorem joined_any (w wX : World) (BX : Nat) (v : Value) (ks : List Spec.Node) (hv : RowX w wX BX v ks) (hlen : ks.length ≤ 100000) (hw : txtW ks ≤ 1000000) :
    Calls Tryz.prog 25 #[v] w (JoinRes w wX BX (joinTo ks ks.length)) := by
  obtain ⟨A, cap, rfl, hv⟩ := hv
  obtain ⟨n, hn⟩ : ∃ n, n = ks.length := ⟨_, rfl⟩
  rw [← hn] at hlen ⊢
  have HV := Lib.hid (And.intro hv hn)
  clear hv hn
  obtain ⟨i0, hi0, hz0, hz1, hz2⟩ := info_parts info_node
  go_enter Tryz.func25, Tryz.ntmps25
  go_wp2
  go_loopw [3, 4, 5] (fun v3 v4 v5 wr => ∃ (i : Nat) (ns : List NV), i ≤ n ∧ v4 = .int .i64 (i : Int) ∧ Hid (FlatX w wX BX (joinTo ks i) v3 ns wr)) (fun _ v4 _ _ => n - (intOf v4).toNat)
  case atStart => exact ⟨0, [], Nat.zero_le _, rfl, Lib.hid ⟨World.ownsRow_nil w _ _ 8, fit_nil _, Below.refl _ _⟩⟩
  case round =>
    obtain ⟨i, ns, hi, rfl, HJ⟩ := hrel
    by_cases hin : i < n
    · have hini : (i : Int) < n := by omega
      obtain ⟨k, hk⟩ : ∃ k, ks[i]? = some k := ⟨_, List.getElem?_eq_getElem (by have := HV.out.2; omega)⟩
      obtain ⟨b, nv, rfl, hb, hc, hnr⟩ := HV.out.1 i k hk
      obtain ⟨nk, nt, nu, nti, nkv⟩ := nv
      obtain ⟨k2, d2, hkv⟩ := hnr.kids.len
      simp only at hkv
      subst hkv
      obtain ⟨n2, hn2⟩ : ∃ n2, n2 = k.kids.length := ⟨_, rfl⟩
      rw [← hn2] at hc hnr
      have hcw : ∀ (j : Nat) (u : Value), (NV.cells ⟨nk, nt, nu, nti, .slice k2 n2 d2⟩)[j]? = some u → wr.cell? ⟨b, i * 8 + j, none⟩ = some u := fun j u hu => (HJ.out.bel.cell (p := ⟨b, i * 8 + j, none⟩) hb).trans (hc j u hu)
      have c0 : wr.cell? ⟨b, i * 8, none⟩ = some (.int .i64 (nk : Int)) := hcw 0 _ rfl
      have c1 : wr.cell? ⟨b, i * 8 + 1, none⟩ = some (.int .i64 0) := hcw 1 _ rfl
      have c2 : wr.cell? ⟨b, i * 8 + 2, none⟩ = some (.bool false) := hcw 2 _ rfl
      have c3 : wr.cell? ⟨b, i * 8 + 3, none⟩ = some (.bool false) := hcw 3 _ rfl
      have c4 : wr.cell? ⟨b, i * 8 + 4, none⟩ = some (.string nt) := hcw 4 _ rfl
      have c5 : wr.cell? ⟨b, i * 8 + 5, none⟩ = some (.string nu) := hcw 5 _ rfl
      have c6 : wr.cell? ⟨b, i * 8 + 6, none⟩ = some (.string nti) := hcw 6 _ rfl
      have c7 : wr.cell? ⟨b, i * 8 + 7, none⟩ = some (.slice k2 n2 d2) := hcw 7 _ rfl
      have hstep := joinTo_step ks i _ hk
      have hWk := txtW_at ks i _ hk
      have hWT := Nat.le_trans (joinTo_wt ks i) (Nat.le_trans (txtW_take ks i) hw)
      have hJl := joinTo_len ks i
      have hlen2 : ns.length ≤ 100000 := by have h1 := HJ.out.fit.1; omega
      have HNR := Lib.hid hnr
      have HWT := Lib.hid (And.intro hWk hWT)
      have hR := HJ.out
      clear hcw hc hn2 hk hnr hWk hWT hJl
      rcases Nat.eq_zero_or_pos ns.length with hn0 | hn0
      · obtain rfl : ns = [] := List.eq_nil_of_length_eq_zero hn0
        have hA0 : joinTo ks i = [] := List.eq_nil_of_length_eq_zero (by rw [← HJ.out.fit.1]; rfl)
        rw [hA0] at hR hstep
        obtain ⟨A3, c3', rfl⟩ := row_slice hR.own
        have HEND : Hid (joinTo ks (i + 1) = [] ++ [k]) := Lib.hid hstep
        have HR := Lib.hid hR
        clear hA0 hstep hR hn0 hlen2
        try rw [List.length_nil]
        go_wp2_with (at_builtin; refine wpList_append_own _ rfl (.tmp 48) (.tmp 53) 25 rfl w.heap.size 27 i0 (.agg #[.int .i64 0, .int .i64 0, .bool false, .bool false, .string ⟨#[]⟩, .string ⟨#[]⟩, .string ⟨#[]⟩, .slice none 0 0]) 8 96 Tryz.underlying25 hi0 hz0 hz1 hz2 rfl (by decide) (.slice A3 0 c3') (0) ([]) rfl (HR.out.own.alloc _) ⟨wr.heap.size, 0, none⟩ 1 1 (NV.cells ⟨nk, nt, nu, nti, .slice k2 n2 d2⟩) rfl rfl ?k1 ?k2 ?k3 ?k4 ?k5 ?_)
        case k1 => exact cells_new _ _ _
        case k2 =>
          intro u hu
          simp only [NV.cells, List.mem_cons, List.not_mem_nil, or_false] at hu
          rcases hu with rfl | rfl | rfl | rfl | rfl | rfl | rfl | rfl <;> rfl
        try (case k3 => unfold maxLen; omega)
        try (case k4 => omega)
        case k5 => exact le_alloc HJ.out.bel.size _
        intro v' w7 hown7 hgrow7 _
        have HF7 : Hid (FlatX w wX BX (joinTo ks (i + 1)) v' ([] ++ [⟨nk, nt, nu, nti, .slice k2 n2 d2⟩]) w7) := Lib.hid (by
          rw [HEND.out]
          exact HR.out.app HNR.out hown7 hgrow7)
        clear hown7 hgrow7
        go_wp2
        go_roundw
        case rel => exact ⟨i + 1, _, by omega, by go_num, HF7⟩
        case measure => simp [intOf]; omega
      · obtain ⟨ns0, ln, rfl⟩ := snoc_of ns hn0
        have hAl : 0 < (joinTo ks i).length := by rw [← HJ.out.fit.1]; exact hn0
        obtain ⟨A0, lk, hA⟩ := snoc_of (joinTo ks i) hAl
        have hWL := fun hk => last_wt (joinTo ks i) lk (by rw [hA, List.getLast?_concat]) hk
        rw [hA] at hR hstep
        rw [joinNode_snoc] at hstep
        obtain ⟨m, hm⟩ : ∃ m, ns0.length = m := ⟨_, rfl⟩
        have hl : (ns0 ++ [ln]).length = m + 1 := by simp [hm]
        obtain ⟨g, cap3, rfl, hg3⟩ : ∃ g cap3, u3 = .slice (some ⟨g, 0, none⟩) (m + 1) cap3 ∧ ∃ cur, wr.heap[g]? = some (.cells cur NodeT (0, 0)) := by
          rcases hR.own.2 with ⟨_, h0⟩ | ⟨g, cap3, cur3, hu3, _, hg3, _⟩
          · omega
          · exact ⟨g, cap3, by rw [hu3, hl], cur3, hg3⟩
        have hln : NRep wX BX ln lk := hR.fit.2 m ln lk (by rw [← hm]; simp) (by
          have h1 := hR.fit.1
          have h2 : A0.length = m := by simp at h1; omega
          rw [← h2]; simp)
        obtain ⟨lkd, lt, lu, lti, lkv⟩ := ln
        have hat : ∀ (j : Nat) (u : Value), (NV.cells ⟨lkd, lt, lu, lti, lkv⟩)[j]? = some u → wr.cell? ⟨g, m * 8 + j, none⟩ = some u := fun j u hu => by
          have h1 := hR.own.cells rfl (m * 8 + j) u (by rw [nvRow_at _ m j ⟨lkd, lt, lu, lti, lkv⟩ (by rw [← hm]; simp) (List.getElem?_eq_some_iff.1 hu).1]; exact hu)
          rwa [addr_add] at h1
        have e0 : wr.cell? ⟨g, m * 8, none⟩ = some (.int .i64 (lkd : Int)) := hat 0 _ rfl
        have e4 : wr.cell? ⟨g, m * 8 + 4, none⟩ = some (.string lt) := hat 4 _ rfl
        have ef : wr.frozen? ⟨g, m * 8 + 4, none⟩ = false := by obtain ⟨cur, h⟩ := hg3; exact frozen_of_row _ _ _ _ _ h
        have hm0 : (0 : Int) ≤ (m : Int) := by omega
        have hm1 : (m : Int) < (m : Int) + 1 := by omega
        have hm5 : m ≤ 100000 := by omega
        have HSTEP := Lib.hid hstep
        have HR := Lib.hid hR
        have HLN := Lib.hid hln
        have HWL := Lib.hid hWL
        have HOWN : Hid (wr.ownsRow w.heap.size 27 8 (.slice (some ⟨g, 0, none⟩) (m + 1) cap3) (m + 1) (nvRow (ns0 ++ [⟨lkd, lt, lu, lti, lkv⟩]))) := Lib.hid (by have := HR.out.own; rwa [hl] at this)
        have HM := Lib.hid hm
        have HL := Lib.hid hl
        clear hAl hA hstep hR hn0 hlen2 hat hg3 hln hWL hm hl
        by_cases hl10 : lkd = 10
        · subst hl10
          by_cases hk10 : nk = 10
          · subst hk10
            have hlt2 : lt.size ≤ 1000000 := by
              have h1 := HWL.out HLN.out.kind.symm
              have h2 : lt.size = lk.text.length := by rw [← HLN.out.text]; exact Lib.size_eq lt
              have h3 := HWT.out.2
              omega
            have hnt2 : nt.size ≤ 1000000 := by
              have h1 := HWT.out.1 HNR.out.kind.symm
              have h2 : nt.size = k.text.length := by rw [← HNR.out.text]; exact Lib.size_eq nt
              omega
            have hsum : ¬ 9223372036854775807 < lt.size + nt.size := by omega
            have HCAT : Hid (FlatX w wX BX (joinTo ks (i + 1)) (.slice (some ⟨g, 0, none⟩) (m + 1) cap3) (ns0 ++ [⟨10, lt ++ nt, lu, lti, lkv⟩]) (wr.setCell ⟨g, m * 8 + 4, none⟩ (.string (lt ++ nt))).drew) := Lib.hid (by
              rw [HSTEP.out, if_pos ⟨HNR.out.kind.symm, HLN.out.kind.symm⟩]
              exact HR.out.cat HM.out (lt ++ nt) k.text (by rw [← HNR.out.text]; simp))
            go_upto_region 7 with fail
            go_region
            all_goals
              go_wp2
              go_roundw
              case rel => exact ⟨i + 1, _, by omega, by go_num, HCAT⟩
              case measure => simp [intOf]; omega
          · have hkb : ((nk : Int) == 10) = false := beq_eq_false_iff_ne.2 (by omega)
            have HEND : Hid (joinTo ks (i + 1) = (A0 ++ [lk]) ++ [k]) := Lib.hid (by rw [HSTEP.out, if_neg (fun h => hk10 (HNR.out.kind.trans h.1))])
            clear hk10
            go_wp2_with (at_builtin; refine wpList_append_own _ rfl (.tmp 48) (.tmp 53) 25 rfl w.heap.size 27 i0 (.agg #[.int .i64 0, .int .i64 0, .bool false, .bool false, .string ⟨#[]⟩, .string ⟨#[]⟩, .string ⟨#[]⟩, .slice none 0 0]) 8 96 Tryz.underlying25 hi0 hz0 hz1 hz2 rfl (by decide) (.slice (some ⟨g, 0, none⟩) (m + 1) cap3) (m + 1) (nvRow (ns0 ++ [⟨10, lt, lu, lti, lkv⟩])) rfl (HOWN.out.alloc _) ⟨wr.heap.size, 0, none⟩ 1 1 (NV.cells ⟨nk, nt, nu, nti, .slice k2 n2 d2⟩) rfl rfl ?p1 ?p2 ?p3 ?p4 ?p5 ?_)
            case p1 => exact cells_new _ _ _
            case p2 =>
              intro u hu
              simp only [NV.cells, List.mem_cons, List.not_mem_nil, or_false] at hu
              rcases hu with rfl | rfl | rfl | rfl | rfl | rfl | rfl | rfl <;> rfl
            try (case p3 => unfold maxLen; omega)
            try (case p4 => omega)
            case p5 => exact le_alloc HJ.out.bel.size _
            intro v' w7 hown7 hgrow7 _
            have HF7 : Hid (FlatX w wX BX (joinTo ks (i + 1)) v' ((ns0 ++ [⟨10, lt, lu, lti, lkv⟩]) ++ [⟨nk, nt, nu, nti, .slice k2 n2 d2⟩]) w7) := Lib.hid (by
              rw [HEND.out]
              exact HR.out.app HNR.out (by rw [HL.out]; exact hown7) hgrow7)
            clear hown7 hgrow7
            go_wp2
            go_roundw
            case rel => exact ⟨i + 1, _, by omega, by go_num, HF7⟩
            case measure => simp [intOf]; omega
        · have hlb : ((lkd : Int) == 10) = false := beq_eq_false_iff_ne.2 (by omega)
          have HEND : Hid (joinTo ks (i + 1) = (A0 ++ [lk]) ++ [k]) := Lib.hid (by rw [HSTEP.out, if_neg (fun h => hl10 (HLN.out.kind.trans h.2))])
          clear hl10
          go_wp2_with (at_builtin; refine wpList_append_own _ rfl (.tmp 48) (.tmp 53) 25 rfl w.heap.size 27 i0 (.agg #[.int .i64 0, .int .i64 0, .bool false, .bool false, .string ⟨#[]⟩, .string ⟨#[]⟩, .string ⟨#[]⟩, .slice none 0 0]) 8 96 Tryz.underlying25 hi0 hz0 hz1 hz2 rfl (by decide) (.slice (some ⟨g, 0, none⟩) (m + 1) cap3) (m + 1) (nvRow (ns0 ++ [⟨lkd, lt, lu, lti, lkv⟩])) rfl (HOWN.out.alloc _) ⟨wr.heap.size, 0, none⟩ 1 1 (NV.cells ⟨nk, nt, nu, nti, .slice k2 n2 d2⟩) rfl rfl ?q1 ?q2 ?q3 ?q4 ?q5 ?_)
          case q1 => exact cells_new _ _ _
          case q2 =>
            intro u hu
            simp only [NV.cells, List.mem_cons, List.not_mem_nil, or_false] at hu
            rcases hu with rfl | rfl | rfl | rfl | rfl | rfl | rfl | rfl <;> rfl
          try (case q3 => unfold maxLen; omega)
          try (case q4 => omega)
          case q5 => exact le_alloc HJ.out.bel.size _
          intro v' w7 hown7 hgrow7 _
          have HF7 : Hid (FlatX w wX BX (joinTo ks (i + 1)) v' ((ns0 ++ [⟨lkd, lt, lu, lti, lkv⟩]) ++ [⟨nk, nt, nu, nti, .slice k2 n2 d2⟩]) w7) := Lib.hid (by
            rw [HEND.out]
            exact HR.out.app HNR.out (by rw [HL.out]; exact hown7) hgrow7)
          clear hown7 hgrow7
          go_wp2
          go_roundw
          case rel => exact ⟨i + 1, _, by omega, by go_num, HF7⟩
          case measure => simp [intOf]; omega
    · have hini : ¬ (i : Int) < n := by omega
      obtain rfl : i = n := by omega
      go_wp2
      go_ret
      exact ⟨_, _, rfl, HJ.out.own, HJ.out.fit, HJ.out.bel⟩
end Go.Proofs.YtmplfiflikhpjaaGreatDoor
