/-
  Texts of one proof, joined: InL.
-/
import Derived.Test.YtmplfiflikhpjaaGreatDoorV08
import Derived.BigQuiet
import Derived.BigRegion
import Derived.Deep.DeepCutAuto
import Derived.Deep.Light
import Derived.Deep.QuietTactic
/-
  delim's matcher: the words for its memory, and whether two Marks may be paired.
-/
namespace Go.Proofs.YtmplfiflikhpjaaGreatDoor
open Go.RowKit

theorem below_drewN2 {B : Nat} {a w : World} (h : Below B a w) (n : Nat) : Below B a (w.drewN n) := ⟨h.os, h.tape, h.output, h.size, h.block⟩
def intRow (l : List Nat) : Array Value := (l.map fun (x : Nat) => Value.int .i64 (x : Int)).toArray
def boolRow (l : List Bool) : Array Value := (l.map Value.bool).toArray
/-- A matcher in memory: its three slices, what the last two hold, and the Marks. -/
structure MW (w : World) (mb lb lf ou n cap : Nat) (marks : List Spec.Mark) (st : Spec.MState) : Prop where
  m : w.heap[mb]? = some (.cells #[.slice (some ⟨lb, 0, none⟩) n cap, .slice (some ⟨lf, 0, none⟩) n n, .slice (some ⟨ou, 0, none⟩) n n] 121 (0, 0))
  l : ∀ (i : Nat) (x : Spec.Mark), marks[i]? = some x → w.cell? ⟨lb, i * 4, none⟩ = some (.int .u8 (x.sign.toNat : Int)) ∧ w.cell? ⟨lb, i * 4 + 1, none⟩ = some (.int .i64 (x.n : Int)) ∧ w.cell? ⟨lb, i * 4 + 2, none⟩ = some (.bool x.opn) ∧ w.cell? ⟨lb, i * 4 + 3, none⟩ = some (.bool x.cls)
  f : w.heap[lf]? = some (.cells (intRow st.left) 3 (0, 0))
  o : w.heap[ou]? = some (.cells (boolRow st.out) 4 (0, 0))
  nm : marks.length = n
  nf : st.left.length = n
  no : st.out.length = n
  hc : n ≤ cap
  small : n ≤ 100000
theorem MW.left {w : World} {mb lb lf ou n cap : Nat} {marks : List Spec.Mark} {st : Spec.MState} (h : MW w mb lb lf ou n cap marks st) (i : Nat) (hi : i < n) : w.cell? ⟨lf, i, none⟩ = some (.int .i64 (st.left.getD i 0 : Nat)) := by
  rw [cell_of_row _ _ _ _ _ _ h.f]
  have : i < st.left.length := by rw [h.nf]; exact hi
  simp [intRow, List.getD, List.getElem?_eq_getElem this]
theorem MW.out {w : World} {mb lb lf ou n cap : Nat} {marks : List Spec.Mark} {st : Spec.MState} (h : MW w mb lb lf ou n cap marks st) (i : Nat) (hi : i < n) : w.cell? ⟨ou, i, none⟩ = some (.bool (st.out.getD i true)) := by
  rw [cell_of_row _ _ _ _ _ _ h.o]
  have : i < st.out.length := by rw [h.no]; exact hi
  simp [boolRow, List.getD, List.getElem?_eq_getElem this]
theorem MW.mark {w : World} {mb lb lf ou n cap : Nat} {marks : List Spec.Mark} {st : Spec.MState} (h : MW w mb lb lf ou n cap marks st) (i : Nat) (hi : i < n) : ∃ x, marks[i]? = some x :=
  ⟨_, List.getElem?_eq_getElem (by rw [h.nm]; exact hi)⟩
theorem fits_eq (l : List Spec.Mark) (s : Spec.MState) (i k : Nat) (a b : Spec.Mark) (ha : l[i]? = some a) (hb : l[k]? = some b) :
    Spec.fits l s i k = (!(s.out.getD i true) && a.opn && a.sign == b.sign && decide (0 < s.left.getD i 0) &&
      (!(a.opn && a.cls || b.opn && b.cls) || decide ((a.n % 3 + b.n % 3) % 3 ≠ 0) || (decide (a.n % 3 = 0) && decide (b.n % 3 = 0)))) := by
  unfold Spec.fits
  rw [ha, hb]

set_option maxHeartbeats 16000000 in
set_option maxRecDepth 100000 in
theorem fits_any (w : World) (mb lb lf ou n cap i k : Nat) (marks : List Spec.Mark) (st : Spec.MState) (h : MW w mb lb lf ou n cap marks st) (hi : i < n) (hk : k < n) :
    Calls Tryz.prog 116 #[.pointer (some ⟨mb, 0, none⟩), .int .i64 (i : Int), .int .i64 (k : Int)] w fun e w' => e = .returned (.bool (Spec.fits marks st i k)) ∧ Below w.heap.size w w' := by
  obtain ⟨a, ha⟩ := h.mark i hi
  obtain ⟨b, hb⟩ := h.mark k hk
  rw [fits_eq marks st i k a b ha hb]
  obtain ⟨a0, a1, a2, a3⟩ := h.l i a ha
  obtain ⟨b0, b1, b2, b3⟩ := h.l k b hb
  have f0 := h.left i hi
  have o0 := h.out i hi
  have m0 : w.cell? ⟨mb, 0, none⟩ = some (.slice (some ⟨lb, 0, none⟩) n cap) := cell_of_row _ _ _ _ _ _ h.m
  have m1 : w.cell? ⟨mb, 1, none⟩ = some (.slice (some ⟨lf, 0, none⟩) n n) := cell_of_row _ _ _ _ _ _ h.m
  have m2 : w.cell? ⟨mb, 2, none⟩ = some (.slice (some ⟨ou, 0, none⟩) n n) := cell_of_row _ _ _ _ _ _ h.m
  have zm := World.block_lt_of_cell? _ _ m0
  have zl := World.block_lt_of_cell? _ _ a0
  have zf := World.block_lt_of_cell? _ _ f0
  have zo := World.block_lt_of_cell? _ _ o0
  simp only at zm zl zf zo
  have hn := h.small
  have hii : (i : Int) < n := by omega
  have hki : (k : Int) < n := by omega
  generalize st.out.getD i true = oB at *
  generalize st.left.getD i 0 = lN at *
  clear h ha hb
  obtain ⟨sa, na, oa, ca⟩ := a
  obtain ⟨sb, nb, ob, cb⟩ := b
  simp only at *
  obtain ⟨R, hR⟩ : ∃ R, R = (!oB && oa && sa == sb && decide (0 < lN) && (!(oa && ca || ob && cb) || decide ((na % 3 + nb % 3) % 3 ≠ 0) || (decide (na % 3 = 0) && decide (nb % 3 = 0)))) := ⟨_, rfl⟩
  rw [← hR]
  have HR := Lib.hid hR
  clear hR
  go_enter Tryz.func116, Tryz.ntmps116
  go_upto_region 1 with fail
  go_cut [7, 8] (fun s7 s8 wc => ∃ g q : Nat, s7 = .pointer (some ⟨g, 0, none⟩) ∧ s8 = .pointer (some ⟨q, 0, none⟩) ∧
    (wc.cell? ⟨g, 0, none⟩ = some (.int .u8 (sa.toNat : Int)) ∧ wc.cell? ⟨g, 1, none⟩ = some (.int .i64 (na : Int)) ∧ wc.cell? ⟨g, 2, none⟩ = some (.bool oa) ∧ wc.cell? ⟨g, 3, none⟩ = some (.bool ca)) ∧
    (wc.cell? ⟨q, 0, none⟩ = some (.int .u8 (sb.toNat : Int)) ∧ wc.cell? ⟨q, 1, none⟩ = some (.int .i64 (nb : Int)) ∧ wc.cell? ⟨q, 2, none⟩ = some (.bool ob) ∧ wc.cell? ⟨q, 3, none⟩ = some (.bool cb)) ∧ Below w.heap.size w wc)
  case first =>
    go_region
    all_goals
      go_wp2_with fail
      go_meet
      refine ⟨_, _, rfl, rfl, ⟨?_, ?_, ?_, ?_⟩, ⟨?_, ?_, ?_, ?_⟩, ?_⟩
      all_goals first | go_grown | go_simp
  case rest =>
    obtain ⟨g, q, rfl, rfl, ⟨c0, c1, c2, c3⟩, ⟨d0, d1, d2, d3⟩, hbw⟩ := hcut
    clear a0 a1 a2 a3 b0 b1 b2 b3
    have f0 := (hbw.cell (p := ⟨lf, i, none⟩) zf).trans f0
    have o0 := (hbw.cell (p := ⟨ou, i, none⟩) zo).trans o0
    have m0 := (hbw.cell (p := ⟨mb, 0, none⟩) zm).trans m0
    have m1 := (hbw.cell (p := ⟨mb, 1, none⟩) zm).trans m1
    have m2 := (hbw.cell (p := ⟨mb, 2, none⟩) zm).trans m2
    have HB := Lib.hid hbw
    clear hbw
    cases oB with
    | true =>
      go_wp2
      go_ret
      exact ⟨ret_bool (by rw [HR.out]; simp), HB.out⟩
    | false =>
      cases oa with
      | false =>
        go_wp2
        go_ret
        exact ⟨ret_bool (by rw [HR.out]; simp), HB.out⟩
      | true =>
        have hss : ((sa.toNat : Int) == (sb.toNat : Int)) = (sa == sb) := by
          by_cases e : sa = sb
          · rw [u8_true e rfl, beq_iff_eq.2 e]
          · rw [u8_false e rfl, beq_eq_false_iff_ne.2 e]
        have hsn : ((sa.toNat : Int) != (sb.toNat : Int)) = !(sa == sb) := by rw [bne, hss]
        cases hs : (sa == sb) with
        | false =>
          rw [hs] at hss hsn HR
          go_wp2
          go_ret
          exact ⟨ret_bool (by rw [HR.out]; simp), HB.out⟩
        | true =>
          rw [hs] at hss hsn HR
          by_cases hl : 0 < lN
          · have hli : ¬ ((lN : Int) ≤ 0) := by omega
            rw [decide_eq_true hl] at HR
            clear hl hs
            cases ca <;> cases ob <;> cases cb
            all_goals
              go_upto_region 5 with fail
              go_quiet (fail)
              go_wp2_with fail
            all_goals
              go_ret
              refine ⟨ret_bool ?_, below_drewN2 HB.out _⟩
              rw [HR.out]
              go_light
              first | (simp; done) | (simp; omega) | (have e1 : (nb : Int) % 3 = 0 := (by omega); have e2 : nb % 3 = 0 := (by omega); have e3 : na % 3 = 0 := (by omega); have e4 : (na + nb) % 3 = 0 := (by omega); simp [e1, e2, e3])
          · have hli : (lN : Int) ≤ 0 := by omega
            rw [decide_eq_false hl] at HR
            clear hl
            go_wp2
            go_ret
            exact ⟨ret_bool (by rw [HR.out]; simp), HB.out⟩
end Go.Proofs.YtmplfiflikhpjaaGreatDoor
