/-
  Texts of one proof, joined: MeB, MeC, MeD, MeE, MeF.
-/
import Derived.Test.YtmplfiflikhpjaaGreatDoorV02
import Derived.Test.YtmplfiflikhpjaaGreatDoorV07
import Derived.Test.YtmplfiflikhpjaaGreatDoorV13
/-
  inline's parser: text.
-/
namespace Go.Proofs.YtmplfiflikhpjaaGreatDoor
open Go.RowKit

theorem ne_snoc {α : Type} {l : List α} {n : Nat} (h : l.length = n + 1) : ∃ a p, l = a ++ [p] ∧ a.length = n := by
  have hne : l ≠ [] := by intro e; subst e; simp at h
  refine ⟨l.dropLast, l.getLast hne, (List.dropLast_concat_getLast hne).symm, ?_⟩
  rw [List.length_dropLast, h]; rfl
/-- Does the text join the last piece? -/
def joins (ps : List PV) (raw : Bool) : Bool := match ps.getLast? with
  | some p => p.raw && raw && (p.kind == 10) && !p.noted
  | none => false
theorem joins_snoc (a : List PV) (p : PV) (raw : Bool) : joins (a ++ [p]) raw = (p.raw && raw && (p.kind == 10) && !p.noted) := by
  unfold joins
  rw [List.getLast?_concat]
theorem addText_not {w : World} {B : Nat} {ps : List PV} {ss : List Spec.Piece} (h : Fit (PRep w B) ps ss) (t : List UInt8) (raw : Bool) (hj : joins ps raw = false) : Spec.addText ss t raw = ss ++ [⟨Spec.txt t, raw, none, 0, false, false, false⟩] := by
  unfold Spec.addText
  rcases hp : ps.getLast? with _ | p
  · have hps : ps = [] := List.getLast?_eq_none_iff.1 hp
    subst hps
    have : ss = [] := List.eq_nil_of_length_eq_zero h.1.symm
    subst this
    rfl
  · obtain ⟨a, rfl⟩ := List.getLast?_eq_some_iff.1 hp
    rw [joins_snoc] at hj
    obtain ⟨b, sp, rfl, hb⟩ : ∃ b sp, ss = b ++ [sp] ∧ b.length = a.length := ne_snoc (by rw [← h.1]; simp)
    have hr : PRep w B p sp := h.2 a.length p sp (by simp) (by rw [← hb]; simp)
    rw [List.getLast?_concat]
    simp only
    rw [if_neg]
    rintro ⟨h1, h2, h3, h4⟩
    rw [hr.raw, h1, h2, hr.kind, h3, hr.noted, h4] at hj
    exact absurd hj (by decide)
theorem addText_join {w : World} {B : Nat} {a : List PV} {p : PV} {ss : List Spec.Piece} (h : Fit (PRep w B) (a ++ [p]) ss) (t : List UInt8) (raw : Bool) (hj : joins (a ++ [p]) raw = true) :
    ∃ sp, ss[a.length]? = some sp ∧ ss.getLast? = some sp ∧ sp.raw = true ∧ sp.node.kind = 10 ∧ Spec.addText ss t raw = ss.set a.length { sp with node := sp.node.addText t } ∧ PRep w B p sp := by
  rw [joins_snoc] at hj
  obtain ⟨b, sp, rfl, hb⟩ : ∃ b sp, ss = b ++ [sp] ∧ b.length = a.length := ne_snoc (by rw [← h.1]; simp)
  have hr : PRep w B p sp := h.2 a.length p sp (by simp) (by rw [← hb]; simp)
  simp only [Bool.and_eq_true, Bool.not_eq_true', beq_iff_eq] at hj
  obtain ⟨⟨⟨h1, h2⟩, h3⟩, h4⟩ := hj
  refine ⟨sp, by rw [← hb]; simp, List.getLast?_concat, by rw [← hr.raw]; exact h1, by rw [← hr.kind]; exact h3, ?_, hr⟩
  unfold Spec.addText
  rw [List.getLast?_concat]
  simp only
  rw [if_pos ⟨by rw [← hr.raw]; exact h1, h2, by rw [← hr.kind]; exact h3, by rw [← hr.noted]; exact h4⟩, ← hb, List.set_append_right _ _ (Nat.le_refl _), Nat.sub_self, List.dropLast_concat]
  rfl

set_option maxHeartbeats 32000000 in
set_option maxRecDepth 100000 in
theorem text_any (w0 w : World) (pb : Nat) (s : ByteArray) (k : Nat) (v : Value) (ps : List PV) (ss : List Spec.Piece) (t : ByteArray) (raw : Bool) (h : PSt w0 w pb s k v ps ss) (hlen : ps.length ≤ 100000) (ht : t.size ≤ 1000000)
    (hx : ∀ p, ss.getLast? = some p → p.raw = true → p.node.kind = 10 → p.node.text.length ≤ 1000000) :
    Calls Tryz.prog 55 #[.pointer (some ⟨pb, 0, none⟩), .string t, .bool raw] w (PPost w0 pb s k (Spec.addText ss t.data.toList raw) (.tuple #[])) := by
  obtain ⟨i0, hi0, hz0, hz1, hz2⟩ := info_parts info_piece
  have H := Lib.hid h
  have HX := Lib.hid hx
  have zpb := h.lt
  have p2 := h.p2
  have fz := h.fz 2
  have hoc := h.own
  obtain ⟨vA, vc, rfl⟩ := row_slice hoc
  obtain ⟨m, hm⟩ : ∃ m, m = ps.length := ⟨_, rfl⟩
  rw [← hm] at H p2 hoc hlen
  have HM := Lib.hid hm
  clear h hx hm
  go_enter Tryz.func55, Tryz.ntmps55
  go_upto_region 1 with fail
  go_cut [50] (fun v50 wc => w = wc ∧ v50 = .bool (joins ps raw))
  case first =>
    rcases Nat.eq_zero_or_pos m with rfl | hp
    · have hJ : joins ps raw = false := by
        have : ps = [] := List.eq_nil_of_length_eq_zero HM.out.symm
        subst this; rfl
      clear HM H HX
      go_wp2
      go_meet
      exact ⟨rfl, by rw [hJ]⟩
    · obtain ⟨n, rfl⟩ : ∃ n, m = n + 1 := ⟨m - 1, by omega⟩
      obtain ⟨a, p, rfl, ha⟩ := ne_snoc HM.out.symm
      obtain ⟨g, cap, he, hg, hc⟩ := H.out.cells n p (by rw [← ha]; simp)
      injection he with e1 e2 e3
      subst e1
      have c0 := (hc 0 _ rfl).1
      have c8 := (hc 8 _ rfl).1
      have c12 := (hc 12 _ rfl).1
      rw [Nat.add_zero] at c0
      have hJ := joins_snoc a p raw
      obtain ⟨kd, tx, ur, ti, kv, ra, mk, lf, im, no, de⟩ := p
      simp only at hJ c0 c8 c12
      have hk : ((kd : Int) == 10) = (kd == 10) := by
        by_cases h : kd = 10
        · subst h; rfl
        · rw [beq_eq_false_iff_ne.2 h, beq_eq_false_iff_ne.2 (by omega)]
      clear HM H HX hc e2 e3 hoc
      cases ra <;> cases raw <;> cases no <;> cases hk1 : (kd == 10) <;> rw [hk1] at hk hJ <;> clear hk1 <;> have HJ := Lib.hid hJ <;> clear hJ
      all_goals
        go_wp2
        go_meet
        exact ⟨rfl, by rw [HJ.out]; rfl⟩
  obtain ⟨rfl, rfl⟩ := hcut
  cases hj : joins ps raw with
  | true =>
    have hps : ps ≠ [] := by intro e; subst e; cases hj
    obtain ⟨n, rfl⟩ : ∃ n, m = n + 1 := ⟨m - 1, by have := List.length_pos_iff.2 hps; have := HM.out; omega⟩
    obtain ⟨a, p, rfl, ha⟩ := ne_snoc HM.out.symm
    have hpn : (a ++ [p])[n]? = some p := by rw [← ha]; simp
    obtain ⟨g, cap, he, hg, hc⟩ := H.out.cells n p hpn
    injection he with e1 e2 e3
    subst e1
    obtain ⟨c4, f4⟩ := hc 4 _ rfl
    obtain ⟨sp, hsn, hsl, hsr, hsk, hadd, hrep⟩ := addText_join H.out.fit t.data.toList raw hj
    rw [ha] at hsn hadd
    have hsz : p.text.size ≤ 1000000 := by rw [Lib.size_eq, hrep.text]; exact HX.out sp hsl hsr hsk
    have hcat : ¬ (9223372036854775807 : Nat) < p.text.size + t.size := by omega
    have hput := H.out.put n p { p with text := p.text ++ t } { sp with node := sp.node.addText t.data.toList } 4 (.string (p.text ++ t)) hpn (by omega) rfl rfl (by
      obtain ⟨nd, b1, b2, b3, b4, b5, b6⟩ := sp
      obtain ⟨q1, q2, q3, q4, q5⟩ := nd
      exact ⟨hrep.kind, by show (p.text ++ t).data.toList = q2 ++ t.data.toList; rw [ByteArray.data_append, Array.toList_append, hrep.text]; rfl, hrep.url, hrep.title, hrep.kids, hrep.raw, hrep.left, hrep.image, hrep.noted, hrep.dead, hrep.mark⟩)
    have HP := Lib.hid (And.intro hput hadd)
    clear hput hadd hrep hsn hsl hsr hsk hc e2 e3 hpn hps hj H HX HM hoc
    obtain ⟨kd, tx, ur, ti, kv, ra, mk, lf, im, no, de⟩ := p
    simp only at c4 hcat hsz
    go_wp2
    exact bodyPost_ret (v := .tuple #[]) (by simp [results, Tryz.f55, go_sem]) rfl ⟨rfl, _, _, by rw [HP.out.2]; exact HP.out.1⟩
  | false =>
    have hA := addText_not H.out.fit t.data.toList raw hj
    have HA := Lib.hid hA
    have zb := H.out.bel.size
    have hoc : w.ownsRow w0.heap.size 67 14 (.slice vA m vc) m (pvRow ps) := by
      have := H.out.own
      rw [← HM.out] at this
      exact this
    clear hj hA HX
    go_wp2_with (at_builtin; refine wpList_append_own _ rfl (.tmp 69) (.tmp 74) 44 rfl w0.heap.size 67 i0 zeroPiece 14 128 Tryz.underlying44 hi0 hz0 hz1 hz2 rfl (by decide) (.slice vA m vc) m (pvRow ps) rfl (hoc.alloc _) ⟨w.heap.size, 0, none⟩ 1 1 (PV.mk 10 t ⟨#[]⟩ ⟨#[]⟩ (.slice none 0 0) raw none 0 false false false).cells rfl rfl ?a1 ?a2 ?a3 ?a4 ?a5 ?_)
    case a1 => exact cells_new _ _ _
    case a2 => exact one_pv _ ⟨_, _, _, rfl⟩
    case a3 => unfold maxLen; omega
    case a4 => omega
    case a5 => exact le_alloc zb _
    intro v2 w2 hI2 hgrow _
    have hbel : Below w.heap.size w (w.alloc (.cells (PV.mk 10 t ⟨#[]⟩ ⟨#[]⟩ (.slice none 0 0) raw none 0 false false false).cells.toArray 67)) := (Below.refl _ _).alloc (Nat.le_refl _) _
    have hcc := H.out.below hbel
    have hb7 := grown_far (hoc.alloc _) hgrow hcc.blk (by decide)
    have q2 : w2.cell? ⟨pb, 2, none⟩ = some (.slice vA m vc) := cell_of_row _ _ _ _ _ _ hb7
    have qz : w2.frozen? ⟨pb, 2, none⟩ = false := frozen_of_row _ _ _ _ _ hb7
    have hs := hcc.snoc (p := PV.mk 10 t ⟨#[]⟩ ⟨#[]⟩ (.slice none 0 0) raw none 0 false false false) (sp := ⟨Spec.txt t.data.toList, raw, none, 0, false, false, false⟩) ⟨rfl, rfl, rfl, rfl, .empty _ _, rfl, rfl, rfl, rfl, rfl, rfl⟩ (fun m hm => by cases hm) (by rw [← HM.out]; exact hI2) hgrow
    rw [← HA.out] at hs
    have HS := Lib.hid hs
    obtain ⟨v2A, v2c, rfl⟩ := row_slice hI2
    clear hI2 hgrow hb7 hcc hbel hs hoc
    go_wp2
    exact bodyPost_ret (v := .tuple #[]) (by simp [results, Tryz.f55, go_sem]) rfl ⟨rfl, _, _, HS.out⟩
end Go.Proofs.YtmplfiflikhpjaaGreatDoor
/-
  inline's parser: code, auto.
-/
namespace Go.Proofs.YtmplfiflikhpjaaGreatDoor
open Go.RowKit

/-- What a step makes of a text and of the pieces. -/
def codeP (s : List UInt8) (ps : List Spec.Piece) : Nat × List Spec.Piece :=
  let k := Spec.code s
  if 0 < k.2 then (k.2, ps ++ [Spec.plainP (.mk 15 k.1 [] [] [])]) else (Spec.ticks s, Spec.addText ps (s.take (Spec.ticks s)) true)
def autoP (s : List UInt8) (ps : List Spec.Piece) : Nat × List Spec.Piece :=
  let k := Spec.auto s
  if 0 < k.2.2 then (k.2.2, ps ++ [Spec.plainP (.mk 16 [] k.2.1 [] [Spec.txt k.1])]) else (1, Spec.addText ps [60] true)
/-- The last piece's text is short. -/
def Short (ss : List Spec.Piece) : Prop := ∀ p, ss.getLast? = some p → p.raw = true → p.node.kind = 10 → p.node.text.length ≤ 1000000
theorem TabsM.old {w0 w : World} (h : TabsM w0) (hb : Below w0.heap.size w0 w) : TabsM w := h.below hb

set_option maxHeartbeats 32000000 in
set_option maxRecDepth 100000 in
theorem codeM_any (w0 w : World) (pb : Nat) (s : ByteArray) (k : Nat) (v : Value) (ps : List PV) (ss : List Spec.Piece) (u : ByteArray) (h : PSt w0 w pb s k v ps ss) (hlen : ps.length ≤ 100000) (hu : u.size ≤ 100000) (hT : TabsM w0) (hX : Short ss) :
    Calls Tryz.prog 52 #[.pointer (some ⟨pb, 0, none⟩), .string u] w (PPost w0 pb s k (codeP u.data.toList ss).2 (.int .i64 ((codeP u.data.toList ss).1 : Int))) := by
  have hC := code_any u w hu (hT.old h.bel)
  obtain ⟨ct, hct⟩ : ∃ ct : List UInt8, ct = (Spec.code u.data.toList).1 := ⟨_, rfl⟩
  obtain ⟨cn, hcn⟩ : ∃ cn : Nat, cn = (Spec.code u.data.toList).2 := ⟨_, rfl⟩
  have hres : codeRes (Spec.code u.data.toList) = .tuple #[.string ⟨ct.toArray⟩, .int .i64 (cn : Int)] := by unfold codeRes; rw [hct, hcn]
  rw [hres] at hC
  clear hres
  have hP : codeP u.data.toList ss = if 0 < cn then (cn, ss ++ [Spec.plainP (.mk 15 ct [] [] [])]) else (Spec.ticks u.data.toList, Spec.addText ss (u.data.toList.take (Spec.ticks u.data.toList)) true) := by unfold codeP; rw [hct, hcn]
  have H := Lib.hid h
  have HX := Lib.hid hX
  clear h hX hT hct hcn
  by_cases h0 : 0 < cn
  · rw [hP, if_pos h0]
    have h0i : (0 : Int) < cn := by omega
    clear hP h0
    go_enter Tryz.func52, Tryz.ntmps52
    go_wp2_with fail
    refine hC.mono ?_
    rintro e w1 ⟨rfl, hb1⟩
    have hL := lays_any w0 w1 pb s k v ps ss ⟨15, ⟨ct.toArray⟩, ⟨#[]⟩, ⟨#[]⟩, .slice none 0 0⟩ (.mk 15 ct [] [] []) (H.out.below hb1) ⟨rfl, rfl, rfl, rfl, .empty _ _⟩ hlen
    clear hC hb1
    go_wp2_with fail
    refine hL.mono ?_
    rintro e w2 ⟨rfl, hp⟩
    have HP := Lib.hid hp
    clear hp hL
    go_wp2
    go_ret
    exact ⟨rfl, HP.out⟩
  · rw [hP, if_neg h0]
    have h0i : ¬ (0 : Int) < cn := by omega
    have htl := run_le u.data.toList 96
    rw [← Lib.size_eq] at htl
    obtain ⟨n, hn⟩ : ∃ n, n = Spec.ticks u.data.toList := ⟨_, rfl⟩
    have hns : n ≤ u.size := by rw [hn]; exact htl
    have hTi := fun W => ticks_any u W (by omega)
    rw [← hn] at hTi ⊢
    have hnsi : (n : Int) ≤ u.size := by omega
    have hn0 : (0 : Int) ≤ n := by omega
    clear hP h0 htl hn
    go_enter Tryz.func52, Tryz.ntmps52
    go_wp2_with fail
    refine hC.mono ?_
    rintro e w1 ⟨rfl, hb1⟩
    have hTi : Calls Tryz.prog 41 #[.string u] w1 fun e w' => e = .returned (.int .i64 (n : Int)) ∧ w1 = w' := (hTi w1).mono fun e w' h => ⟨h.1, h.2.symm⟩
    have hL := text_any w0 w1 pb s k v ps ss (u.extract 0 n) true (H.out.below hb1) hlen (by rw [ByteArray.size_extract]; omega) HX.out
    rw [show (u.extract 0 n).data.toList = u.data.toList.take n by rw [pre_text]] at hL
    clear hC hb1
    go_wp2_with fail
    refine hTi.mono ?_
    rintro e w2 ⟨rfl, rfl⟩
    clear hTi
    go_wp2_with fail
    refine hL.mono ?_
    rintro e w2 ⟨rfl, hp⟩
    have HP := Lib.hid hp
    clear hp hL
    go_wp2
    go_ret
    exact ⟨rfl, HP.out⟩

set_option maxHeartbeats 32000000 in
set_option maxRecDepth 100000 in
theorem autoM_any (w0 w : World) (pb : Nat) (s : ByteArray) (k : Nat) (v : Value) (ps : List PV) (ss : List Spec.Piece) (u : ByteArray) (h : PSt w0 w pb s k v ps ss) (hlen : ps.length ≤ 100000) (hu : u.size ≤ 100000) (hT : TabsM w0) (hX : Short ss) :
    Calls Tryz.prog 53 #[.pointer (some ⟨pb, 0, none⟩), .string u] w (PPost w0 pb s k (autoP u.data.toList ss).2 (.int .i64 ((autoP u.data.toList ss).1 : Int))) := by
  have hC := auto_any u w hu (hT.old h.bel)
  obtain ⟨ct, hct⟩ : ∃ ct : List UInt8, ct = (Spec.auto u.data.toList).1 := ⟨_, rfl⟩
  obtain ⟨cu, hcu⟩ : ∃ cu : List UInt8, cu = (Spec.auto u.data.toList).2.1 := ⟨_, rfl⟩
  obtain ⟨cn, hcn⟩ : ∃ cn : Nat, cn = (Spec.auto u.data.toList).2.2 := ⟨_, rfl⟩
  have hres : autoRes (Spec.auto u.data.toList) = .tuple #[.string ⟨ct.toArray⟩, .string ⟨cu.toArray⟩, .int .i64 (cn : Int)] := by unfold autoRes; rw [hct, hcu, hcn]
  rw [hres] at hC
  clear hres
  have hP : autoP u.data.toList ss = if 0 < cn then (cn, ss ++ [Spec.plainP (.mk 16 [] cu [] [Spec.txt ct])]) else (1, Spec.addText ss [60] true) := by unfold autoP; rw [hct, hcu, hcn]
  have H := Lib.hid h
  have HX := Lib.hid hX
  clear h hX hT hct hcn hcu
  by_cases h0 : 0 < cn
  · rw [hP, if_pos h0]
    have h0i : (0 : Int) < cn := by omega
    clear hP h0
    go_enter Tryz.func53, Tryz.ntmps53
    go_wp2_with fail
    refine hC.mono ?_
    rintro e w1 ⟨rfl, hb1⟩
    have hX := heap_alloc_new w1 (.cells (nodeCells (Spec.txt ct) (.slice none 0 0)).toArray 27)
    have hb2 : Below w1.heap.size w1 (w1.alloc (.cells (nodeCells (Spec.txt ct) (.slice none 0 0)).toArray 27)) := (Below.refl _ _).alloc (Nat.le_refl _) _
    have hk : KRep (w1.alloc (.cells (nodeCells (Spec.txt ct) (.slice none 0 0)).toArray 27)) (w1.alloc (.cells (nodeCells (Spec.txt ct) (.slice none 0 0)).toArray 27)).heap.size (.slice (some ⟨w1.heap.size, 0, none⟩) 1 1) [Spec.txt ct] := by
      refine .row w1.heap.size 1 [Spec.txt ct] (fun _ => .slice none 0 0) _ (blk_lt hX) hX (fun i k hk j u hu => ?_) (fun i k hk => ?_)
      · cases i with
        | zero =>
          obtain rfl := Option.some.inj hk
          rw [Nat.zero_mul, Nat.zero_add]
          simpa using hu
        | succ i => cases hk
      · cases i with
        | zero =>
          obtain rfl := Option.some.inj hk
          exact .empty _ _
        | succ i => cases hk
    have hL := lays_any w0 _ pb s k v ps ss ⟨16, ⟨#[]⟩, ⟨cu.toArray⟩, ⟨#[]⟩, .slice (some ⟨w1.heap.size, 0, none⟩) 1 1⟩ (.mk 16 [] cu [] [Spec.txt ct]) ((H.out.below hb1).below hb2) ⟨rfl, rfl, rfl, rfl, hk⟩ hlen
    clear hC hb1 hX hb2 hk
    go_wp2_with fail
    refine hL.mono ?_
    rintro e w2 ⟨rfl, hp⟩
    have HP := Lib.hid hp
    clear hp hL
    go_wp2
    go_ret
    exact ⟨rfl, HP.out⟩
  · rw [hP, if_neg h0]
    have h0i : ¬ (0 : Int) < cn := by omega
    clear hP h0
    go_enter Tryz.func53, Tryz.ntmps53
    go_wp2_with fail
    refine hC.mono ?_
    rintro e w1 ⟨rfl, hb1⟩
    have hL := text_any w0 w1 pb s k v ps ss ⟨#[60]⟩ true (H.out.below hb1) hlen (by decide) HX.out
    clear hC hb1
    go_wp2_with fail
    refine hL.mono ?_
    rintro e w2 ⟨rfl, hp⟩
    have HP := Lib.hid hp
    clear hp hL
    go_wp2
    go_ret
    exact ⟨rfl, HP.out⟩
end Go.Proofs.YtmplfiflikhpjaaGreatDoor
/-
  inline's parser: stroke.
-/
namespace Go.Proofs.YtmplfiflikhpjaaGreatDoor
open Go.RowKit

def strokeP (t : List UInt8) (ps : List Spec.Piece) : Nat × List Spec.Piece :=
  if t.head? = some 10 then (2 + (t.drop 1).length - (Spec.skipB (t.drop 1)).length, ps ++ [Spec.plainP (.mk 12 [] [] [] [])])
  else if Spec.pair (92 :: t) = true then (2, Spec.addText ps (t.take 1) false) else (1, Spec.addText ps [92] true)
theorem skipB_set (l : List UInt8) : Lib.trimLeftS l [32, 9] = Spec.skipB l := by
  unfold Lib.trimLeftS Spec.skipB
  congr 1
  funext b
  unfold Spec.blank2
  rw [Bool.eq_iff_iff]
  simp
theorem trimBlank_any (u : ByteArray) (w : World) :
    Calls Tryz.prog 30 #[.string u, .string ⟨#[32, 9]⟩] w fun e w' => e = .returned (.string ⟨(Spec.skipB u.data.toList).toArray⟩) ∧ Below w.heap.size w w' := by
  have := Any.strings_TrimLeft_laid Tryz.lays161 (by kernel_rfl) u ⟨#[32, 9]⟩ w (by decide) (ascii_of_all (by decide))
  rw [show Lib.trimLeftS u.data.toList (⟨#[32, 9]⟩ : ByteArray).data.toList = Spec.skipB u.data.toList from skipB_set _] at this
  exact this
theorem skipB_le (l : List UInt8) : (Spec.skipB l).length ≤ l.length := (List.dropWhile_sublist _).length_le

set_option maxHeartbeats 32000000 in
set_option maxRecDepth 100000 in
theorem strokeM_any (w0 w : World) (pb : Nat) (s : ByteArray) (k : Nat) (v : Value) (ps : List PV) (ss : List Spec.Piece) (u : ByteArray) (t : List UInt8) (h : PSt w0 w pb s k v ps ss) (hlen : ps.length ≤ 100000) (hu : u.size ≤ 100000) (hut : u.data.toList = 92 :: t) (hX : Short ss) :
    Calls Tryz.prog 51 #[.pointer (some ⟨pb, 0, none⟩), .string u] w (PPost w0 pb s k (strokeP t ss).2 (.int .i64 ((strokeP t ss).1 : Int))) := by
  have H := Lib.hid h
  have HX := Lib.hid hX
  have hsz : u.size = t.length + 1 := by rw [Lib.size_eq, hut]; rfl
  have hP := fun W => Tryz.strings_HasPrefix u ⟨#[92, 10]⟩ W
  clear h hX
  by_cases h1 : t.head? = some 10
  · have hp : Lib.hasPrefix u.data.toList [92, 10] = true := by
      rw [hut]
      cases t with
      | nil => cases h1
      | cons c t => obtain rfl := Option.some.inj h1; rfl
    have hP : Calls Tryz.prog 60 #[.string u, .string ⟨#[92, 10]⟩] w fun e w' => e = .returned (.bool true) ∧ w = w' := (hP w).mono fun e w' h => ⟨by rw [h.1]; show Ending.returned (.bool (Lib.hasPrefix u.data.toList [92, 10])) = _; rw [hp], h.2.symm⟩
    have hl2 : 1 ≤ t.length := by
      cases t with
      | nil => cases h1
      | cons c t => simp
    have hu2 : (2 : Int) ≤ u.size := by omega
    have hL := lays_any w0 w pb s k v ps ss ⟨12, ⟨#[]⟩, ⟨#[]⟩, ⟨#[]⟩, .slice none 0 0⟩ (.mk 12 [] [] [] []) H.out ⟨rfl, rfl, rfl, rfl, .empty _ _⟩ hlen
    obtain ⟨R, hR⟩ : ∃ R : ByteArray, R = ⟨(Spec.skipB (t.drop 1)).toArray⟩ := ⟨_, rfl⟩
    have hex : (u.extract 2 u.size).data.toList = t.drop 1 := by rw [drop_text u 2 (by omega), hut]; rfl
    have hRs : R.size = (Spec.skipB (t.drop 1)).length := by rw [hR, Lib.size_eq]
    have hRle := skipB_le (t.drop 1)
    rw [List.length_drop] at hRle
    have hT : ∀ W, Calls Tryz.prog 30 #[.string (u.extract 2 u.size), .string ⟨#[32, 9]⟩] W fun e w' => e = .returned (.string R) ∧ Below W.heap.size W w' := fun W => by
      have := trimBlank_any (u.extract 2 u.size) W
      rw [hex, ← hR] at this
      exact this
    have hsx : (u.extract 2 u.size).size = t.length - 1 := by rw [ByteArray.size_extract]; omega
    have hSP : strokeP t ss = (2 + (t.length - 1) - R.size, ss ++ [Spec.plainP (.mk 12 [] [] [] [])]) := by unfold strokeP; rw [if_pos h1, hRs, List.length_drop]
    rw [hSP]
    rw [← hRs] at hRle
    obtain ⟨q, hq⟩ : ∃ q, q = t.length - 1 := ⟨_, rfl⟩
    rw [← hq] at hsx hRle ⊢
    have hq2 : q ≤ 100000 := by omega
    clear hSP hRs hex hR h1 hp hut hsz hl2 hq
    go_enter Tryz.func51, Tryz.ntmps51
    go_wp2_with fail
    refine hP.mono ?_
    rintro e w1 ⟨rfl, rfl⟩
    go_wp2_with fail
    refine hL.mono ?_
    rintro e w2 ⟨rfl, hp⟩
    have HP := Lib.hid hp
    clear hp hL hP
    have s1 : IntKind.i64.wrap (2 + (q : Int)) = 2 + (q : Int) := IntWalk.i64_in _ (by omega)
    have s2 : IntKind.i64.wrap (2 + (q : Int) - (R.size : Int)) = 2 + (q : Int) - (R.size : Int) := IntWalk.i64_in _ (by omega)
    go_upto_region 3 with fail
    go_region_held3 (fun _ => True) (trivial) ((go_at_call 30; refine (hT _).mono ?_; rintro e w3 ⟨rfl, hb3⟩))
    all_goals
      obtain ⟨v', ps', hq2⟩ := HP.out
      have HQ := Lib.hid (hq2.below (by first | exact hb3 | exact (below_drew2 (Below.refl _ _)).trans hb3))
      clear hq2 hb3
      go_wp2
      go_ret
      exact ⟨by rw [show ((2 + q - R.size : Nat) : Int) = 2 + (q : Int) - (R.size : Int) by omega]; rfl, _, _, HQ.out⟩
  · have hp : Lib.hasPrefix u.data.toList [92, 10] = false := by
      rw [hut]
      cases t with
      | nil => rfl
      | cons c t =>
        have hc : c ≠ 10 := fun e => h1 (by rw [e]; rfl)
        simp [Lib.hasPrefix, List.isPrefixOf, Ne.symm hc]
    have hP : Calls Tryz.prog 60 #[.string u, .string ⟨#[92, 10]⟩] w fun e w' => e = .returned (.bool false) ∧ w = w' := (hP w).mono fun e w' h => ⟨by rw [h.1]; show Ending.returned (.bool (Lib.hasPrefix u.data.toList [92, 10])) = _; rw [hp], h.2.symm⟩
    have hPr := pair_any u w (by omega)
    rw [hut] at hPr
    by_cases h2 : Spec.pair (92 :: t) = true
    · have hSP : strokeP t ss = (2, Spec.addText ss (t.take 1) false) := by unfold strokeP; rw [if_neg h1, if_pos h2]
      rw [hSP]
      rw [h2] at hPr
      have ht1 : 1 ≤ t.length := by
        cases t with
        | nil => cases h2
        | cons c t => simp
      have hu2 : (2 : Int) ≤ u.size := by omega
      have hex : (u.extract 1 2).data.toList = t.take 1 := by
        rw [Lib.extract_data, hut]
        rfl
      have hxs : (u.extract 1 2).size ≤ 1000000 := by rw [ByteArray.size_extract]; omega
      clear hSP hp hut hsz h1 h2 ht1
      go_enter Tryz.func51, Tryz.ntmps51
      go_wp2_with fail
      refine hP.mono ?_
      rintro e w1 ⟨rfl, rfl⟩
      go_wp2_with fail
      refine hPr.mono ?_
      rintro e w1 ⟨rfl, hb⟩
      have hL := text_any w0 w1 pb s k v ps ss (u.extract 1 2) false (H.out.below hb) hlen hxs HX.out
      rw [hex] at hL
      clear hP hPr hb hex hxs
      go_wp2_with fail
      refine hL.mono ?_
      rintro e w2 ⟨rfl, hp⟩
      have HP := Lib.hid hp
      clear hp hL
      go_wp2
      go_ret
      exact ⟨rfl, HP.out⟩
    · have hSP : strokeP t ss = (1, Spec.addText ss [92] true) := by unfold strokeP; rw [if_neg h1, if_neg h2]
      rw [hSP]
      rw [Bool.eq_false_iff.2 h2] at hPr
      have hu1 : (1 : Int) ≤ u.size := by omega
      have hex : (u.extract 0 1).data.toList = [92] := by rw [pre_text, hut]; rfl
      have hxs : (u.extract 0 1).size ≤ 1000000 := by rw [ByteArray.size_extract]; omega
      clear hSP hp hut hsz h1 h2
      go_enter Tryz.func51, Tryz.ntmps51
      go_wp2_with fail
      refine hP.mono ?_
      rintro e w1 ⟨rfl, rfl⟩
      go_wp2_with fail
      refine hPr.mono ?_
      rintro e w1 ⟨rfl, hb⟩
      have hL := text_any w0 w1 pb s k v ps ss (u.extract 0 1) true (H.out.below hb) hlen hxs HX.out
      rw [hex] at hL
      clear hP hPr hb hex hxs
      go_wp2_with fail
      refine hL.mono ?_
      rintro e w2 ⟨rfl, hp⟩
      have HP := Lib.hid hp
      clear hp hL
      go_wp2
      go_ret
      exact ⟨rfl, HP.out⟩
end Go.Proofs.YtmplfiflikhpjaaGreatDoor
/-
  inline's parser: end.
-/
namespace Go.Proofs.YtmplfiflikhpjaaGreatDoor
open Go.RowKit

theorem newline_flat (t : List UInt8) (ss : List Spec.Piece) (h : ∀ p, ss.getLast? = some p → p.raw = false) : Spec.newline t ss = (1 + t.length - (Spec.skipB t).length, ss ++ [Spec.plainP (.mk 11 [] [] [] [])]) := by
  unfold Spec.newline
  cases hl : ss.getLast? with
  | none => rfl
  | some p => simp only [h p hl, Bool.false_eq_true, if_false]
theorem newline_raw (t : List UInt8) (b : List Spec.Piece) (p : Spec.Piece) (hr : p.raw = true) (kd : Nat) (c : List UInt8) (hc : c = Lib.trimRightS p.node.text [32]) (hk : kd = if 2 ≤ p.node.text.length - c.length then 12 else 11) :
    Spec.newline t (b ++ [p]) = (1 + t.length - (Spec.skipB t).length, (b ++ [{ p with node := p.node.setText c }]) ++ [Spec.plainP (.mk kd [] [] [] [])]) := by
  subst hc hk
  unfold Spec.newline
  simp only [List.getLast?_concat, hr, if_true, List.dropLast_concat]
theorem trimRB (l : List UInt8) : Lib.trimRightB l 32 = Lib.trimRightS l [32] := by
  unfold Lib.trimRightB Lib.trimRightS
  congr 2
  funext b
  rw [Bool.eq_iff_iff]
  simp
theorem trimSpace_any (u : ByteArray) (w : World) (hs : u.size ≤ 1000000) :
    Calls Tryz.prog 115 #[.string u, .string ⟨#[32]⟩] w fun e w' => e = .returned (.string ⟨(Lib.trimRightS u.data.toList [32]).toArray⟩) ∧ w = w' := by
  refine (Tryz.strings_TrimRight_one u 32 (by decide) w (by omega)).mono ?_
  rintro e w' ⟨rfl, rfl⟩
  exact ⟨by rw [trimRB], rfl⟩
theorem trimR_le (t c : List UInt8) : (Lib.trimRightS t c).length ≤ t.length := Pl.trimRight_le t c
theorem kind_v (c : Prop) [Decidable c] : (if c then 12 else 11) = 12 ∨ (if c then 12 else 11) = 11 := by split <;> simp

set_option maxHeartbeats 32000000 in
set_option maxRecDepth 100000 in
theorem endM_any (w0 w : World) (pb : Nat) (s : ByteArray) (k : Nat) (v : Value) (ps : List PV) (ss : List Spec.Piece) (u : ByteArray) (t : List UInt8) (h : PSt w0 w pb s k v ps ss) (hlen : ps.length ≤ 100000) (hu : u.size ≤ 100000) (hut : u.data.toList = 10 :: t) (hX : Short ss) (hK : ∀ p ∈ ss, p.raw = true → p.node.kind = 10) :
    Calls Tryz.prog 62 #[.pointer (some ⟨pb, 0, none⟩), .string u] w (PPost w0 pb s k (Spec.newline t ss).2 (.int .i64 ((Spec.newline t ss).1 : Int))) := by
  have hsz : u.size = t.length + 1 := by rw [Lib.size_eq, hut]; rfl
  obtain ⟨R, hR⟩ : ∃ R : ByteArray, R = ⟨(Spec.skipB t).toArray⟩ := ⟨_, rfl⟩
  have hex : (u.extract 1 u.size).data.toList = t := by rw [drop_text u 1 (by omega), hut]; rfl
  have hRs : R.size = (Spec.skipB t).length := by rw [hR, Lib.size_eq]
  have hRle := skipB_le t
  rw [← hRs] at hRle
  have hT : ∀ W, Calls Tryz.prog 30 #[.string (u.extract 1 u.size), .string ⟨#[32, 9]⟩] W fun e w' => e = .returned (.string R) ∧ Below W.heap.size W w' := fun W => by
    have := trimBlank_any (u.extract 1 u.size) W
    rw [hex, ← hR] at this
    exact this
  have hsx : (u.extract 1 u.size).size = t.length := by rw [ByteArray.size_extract]; omega
  obtain ⟨q, hq⟩ : ∃ q, q = t.length := ⟨_, rfl⟩
  have hq2 : q ≤ 100000 := by omega
  have hu1 : (1 : Int) ≤ u.size := by omega
  have H := Lib.hid h
  have zpb := h.lt
  have p2 := h.p2
  obtain ⟨vA, vc, rfl⟩ := row_slice h.own
  obtain ⟨m, hm⟩ : ∃ m, m = ps.length := ⟨_, rfl⟩
  rw [← hm] at H p2 hlen
  have HM := Lib.hid hm
  have HX := Lib.hid hX
  have HK := Lib.hid hK
  by_cases hraw : ∃ a p, ps = a ++ [p] ∧ p.raw = true
  · obtain ⟨a, p, rfl, hpr⟩ := hraw
    obtain ⟨n, rfl⟩ : ∃ n, m = n + 1 := ⟨a.length, by rw [hm]; simp⟩
    have ha : a.length = n := by simp at hm; exact hm.symm
    have hpn : (a ++ [p])[n]? = some p := by rw [← ha]; simp
    obtain ⟨g, cap, he, hg, hc⟩ := H.out.cells n p hpn
    injection he with e1 e2 e3
    subst e1
    have c8 := (hc 8 _ rfl).1
    obtain ⟨c4, f4⟩ := hc 4 _ rfl
    rw [hpr] at c8
    obtain ⟨b, sp, hss, hb⟩ : ∃ b sp, ss = b ++ [sp] ∧ b.length = a.length := ne_snoc (by rw [← h.fit.1]; simp)
    have hrep : PRep w w.heap.size p sp := h.fit.2 a.length p sp (by simp) (by rw [hss, ← hb]; simp)
    have hsr : sp.raw = true := by rw [← hrep.raw, hpr]
    have hk10 := hK sp (by rw [hss]; simp) hsr
    have hshort := hX sp (by rw [hss]; exact List.getLast?_concat) hsr hk10
    obtain ⟨C, hC⟩ : ∃ C : ByteArray, C = ⟨(Lib.trimRightS sp.node.text [32]).toArray⟩ := ⟨_, rfl⟩
    have hCt : C.data.toList = Lib.trimRightS sp.node.text [32] := by rw [hC]
    have hCle := trimR_le sp.node.text [32]
    have hts : p.text.size = sp.node.text.length := by rw [Lib.size_eq, hrep.text]
    have hTR : ∀ W, Calls Tryz.prog 115 #[.string p.text, .string ⟨#[32]⟩] W fun e w' => e = .returned (.string C) ∧ W = w' := fun W => by
      have := trimSpace_any p.text W (by rw [hts]; exact hshort)
      rw [hrep.text, ← hC] at this
      exact this
    have hCs : C.size = (Lib.trimRightS sp.node.text [32]).length := by rw [Lib.size_eq, hCt]
    obtain ⟨kd, hkd⟩ : ∃ kd, kd = if 2 ≤ sp.node.text.length - (Lib.trimRightS sp.node.text [32]).length then 12 else 11 := ⟨_, rfl⟩
    have hN := newline_raw t b sp hsr kd _ rfl hkd
    rw [hss, hN]
    have HB := Lib.hid (And.intro hss hb)
    have hput := H.out.put n p { p with text := C } { sp with node := sp.node.setText (Lib.trimRightS sp.node.text [32]) } 4 (.string C) hpn (by omega) rfl rfl (by
      obtain ⟨nd, b1, b2, b3, b4, b5, b6⟩ := sp
      obtain ⟨q1, q2, q3, q4, q5⟩ := nd
      exact ⟨hrep.kind, hCt, hrep.url, hrep.title, hrep.kids, hrep.raw, hrep.left, hrep.image, hrep.noted, hrep.dead, hrep.mark⟩)
    have hset : ss.set n { sp with node := sp.node.setText (Lib.trimRightS sp.node.text [32]) } = b ++ [{ sp with node := sp.node.setText (Lib.trimRightS sp.node.text [32]) }] := by
      rw [hss, ← ha, ← hb, List.set_append_right _ _ (Nat.le_refl _), Nat.sub_self]; rfl
    rw [hset] at hput
    have hplen : ((a ++ [p]).set n { p with text := C }).length ≤ 100000 := by rw [List.length_set, ← HM.out]; exact hlen
    have HP := Lib.hid (And.intro hput hplen)
    rw [← hq]
    rw [← hq] at hsx hRle
    rw [← hRs]
    have zg : g < w.heap.size := hg
    have hD : (2 ≤ p.text.size - C.size ∧ kd = 12) ∨ (¬ 2 ≤ p.text.size - C.size ∧ kd = 11) := by
      rw [hts, hCs, hkd]
      by_cases h2 : 2 ≤ sp.node.text.length - (Lib.trimRightS sp.node.text [32]).length
      · exact .inl ⟨h2, if_pos h2⟩
      · exact .inr ⟨h2, if_neg h2⟩
    have hCz : C.size ≤ p.text.size := by rw [hts, hCs]; exact hCle
    have hpz : p.text.size ≤ 1000000 := by rw [hts]; exact hshort
    clear hput hplen hset hN hkd hCs hts hCle hCt hC hshort hk10 hsr hrep hc e2 e3 hpn h hex hR hut hsz hX hK hm hpr hq hss hb hRs ha
    obtain ⟨kp, tx, ur, ti, kv, ra, mk, lf, im, no, de⟩ := p
    simp only at c4 hCz hpz hTR hD
    have s0 : IntKind.i64.wrap ((n : Int) + 1 - 1) = (n : Int) := by rw [show (n : Int) + 1 - 1 = n by omega]; exact IntWalk.i64_in _ (by omega)
    have s1 : IntKind.i64.wrap (1 + (q : Int)) = 1 + (q : Int) := IntWalk.i64_in _ (by omega)
    have s2 : IntKind.i64.wrap (1 + (q : Int) - (R.size : Int)) = 1 + (q : Int) - (R.size : Int) := IntWalk.i64_in _ (by omega)
    obtain ⟨tz, htz⟩ : ∃ tz, tz = tx.size := ⟨_, rfl⟩
    obtain ⟨cz, hcz⟩ : ∃ cz, cz = C.size := ⟨_, rfl⟩
    have hL := lays_any w0 _ pb s k _ _ _ ⟨kd, ⟨#[]⟩, ⟨#[]⟩, ⟨#[]⟩, .slice none 0 0⟩ (.mk kd [] [] [] []) HP.out.1 ⟨rfl, rfl, rfl, rfl, .empty _ _⟩ HP.out.2
    rcases hD with ⟨hd, rfl⟩ | ⟨hd, rfl⟩
    all_goals
      first
        | have hdi : (2 : Int) ≤ (tx.size : Int) - (C.size : Int) := by omega
        | have hdi : ¬ (2 : Int) ≤ (tx.size : Int) - (C.size : Int) := by omega
      clear hd htz hcz
      go_enter Tryz.func62, Tryz.ntmps62
      go_wp2_with fail
      refine (hTR _).mono ?_
      rintro e w1 ⟨rfl, rfl⟩
      go_wp2_with fail
      refine hL.mono ?_
      rintro e w2 ⟨rfl, hp⟩
      have HP := Lib.hid hp
      clear hp hL
      go_upto_region 10 with fail
      go_region_held3 (fun _ => True) (trivial) ((go_at_call 30; refine (hT _).mono ?_; rintro e w3 ⟨rfl, hb3⟩))
      all_goals
        obtain ⟨v', ps', hq2⟩ := HP.out
        have HQ := Lib.hid (hq2.below (by first | exact hb3 | exact (below_drew2 (Below.refl _ _)).trans hb3))
        clear hq2 hb3
        go_wp2
        go_ret
        exact ⟨congrArg (fun z => Ending.returned (Value.int .i64 z)) (show 1 + (q : Int) - (R.size : Int) = ((1 + q - R.size : Nat) : Int) by omega), _, _, HQ.out⟩
  · have hflat := newline_flat t ss (fun sp hl => by
      apply Bool.eq_false_iff.2
      intro hr
      obtain ⟨b, rfl⟩ := List.getLast?_eq_some_iff.1 hl
      obtain ⟨a, p, rfl, ha⟩ : ∃ a p, ps = a ++ [p] ∧ a.length = b.length := ne_snoc (by rw [h.fit.1]; simp)
      have hrep := h.fit.2 a.length p sp (by simp) (by rw [ha]; simp)
      exact hraw ⟨a, p, rfl, by rw [hrep.raw, hr]⟩)
    rw [hflat, ← hq, ← hRs]
    rw [← hq] at hsx hRle
    have hL := lays_any w0 w pb s k _ ps ss ⟨11, ⟨#[]⟩, ⟨#[]⟩, ⟨#[]⟩, .slice none 0 0⟩ (.mk 11 [] [] [] []) h ⟨rfl, rfl, rfl, rfl, .empty _ _⟩ (by rw [← hm]; exact hlen)
    have hcase : (m = 0) ∨ (∃ n, m = n + 1 ∧ ∃ g, vA = some ⟨g, 0, none⟩ ∧ w.cell? ⟨g, n * 14 + 8, none⟩ = some (.bool false)) := by
      rcases Nat.eq_zero_or_pos m with h0 | h0
      · exact .inl h0
      · obtain ⟨n, rfl⟩ : ∃ n, m = n + 1 := ⟨m - 1, by omega⟩
        obtain ⟨a, p, rfl, ha⟩ := ne_snoc hm.symm
        obtain ⟨g, cap, he, hg, hc⟩ := h.cells n p (by rw [← ha]; simp)
        injection he with e1
        have c8 := (hc 8 _ rfl).1
        have hpr : p.raw = false := by
          apply Bool.eq_false_iff.2
          intro hr
          exact hraw ⟨a, p, rfl, hr⟩
        rw [hpr] at c8
        exact .inr ⟨n, rfl, g, e1, c8⟩
    have s1 : IntKind.i64.wrap (1 + (q : Int)) = 1 + (q : Int) := IntWalk.i64_in _ (by omega)
    have s2 : IntKind.i64.wrap (1 + (q : Int) - (R.size : Int)) = 1 + (q : Int) - (R.size : Int) := IntWalk.i64_in _ (by omega)
    clear hflat hraw hex hR hut hsz h hX hK hm hq hRs
    rcases hcase with rfl | ⟨n, rfl, g, rfl, c8⟩
    all_goals
      go_enter Tryz.func62, Tryz.ntmps62
      go_wp2_with fail
      refine hL.mono ?_
      rintro e w2 ⟨rfl, hp⟩
      have HP := Lib.hid hp
      clear hp hL
      go_upto_region 10 with fail
      go_region_held3 (fun _ => True) (trivial) ((go_at_call 30; refine (hT _).mono ?_; rintro e w3 ⟨rfl, hb3⟩))
      all_goals
        obtain ⟨v', ps', hq2⟩ := HP.out
        have HQ := Lib.hid (hq2.below (by first | exact hb3 | exact (below_drew2 (Below.refl _ _)).trans hb3))
        clear hq2 hb3
        go_wp2
        go_ret
        exact ⟨congrArg (fun z => Ending.returned (Value.int .i64 z)) (show 1 + (q : Int) - (R.size : Int) = ((1 + q - R.size : Nat) : Int) by omega), _, _, HQ.out⟩
end Go.Proofs.YtmplfiflikhpjaaGreatDoor
/-
  inline's parser: words for bracket.
-/
namespace Go.Proofs.YtmplfiflikhpjaaGreatDoor
open Go.RowKit

namespace Pl
/-- A part of a row has been turned. -/
def mapTo (f : Spec.Piece → Spec.Piece) (A : List Spec.Piece) (x : Spec.Piece) (q : Nat) : List Spec.Piece := (A.take q).map f ++ (A.drop q ++ [x])
theorem mapTo_zero (f : Spec.Piece → Spec.Piece) (A : List Spec.Piece) (x : Spec.Piece) : mapTo f A x 0 = A ++ [x] := by simp [mapTo]
theorem mapTo_end (f : Spec.Piece → Spec.Piece) (A : List Spec.Piece) (x : Spec.Piece) (q : Nat) (h : A.length ≤ q) : mapTo f A x q = A.map f ++ [x] := by
  unfold mapTo
  rw [List.take_of_length_le h, List.drop_eq_nil_of_le h, List.nil_append]
theorem mapTo_at (f : Spec.Piece → Spec.Piece) (A : List Spec.Piece) (x a : Spec.Piece) (q : Nat) (h : A[q]? = some a) : (mapTo f A x q)[q]? = some a := by
  have hq := (List.getElem?_eq_some_iff.1 h).1
  unfold mapTo
  rw [List.getElem?_append_right (by simp; omega)]
  rw [List.length_map, List.length_take, Nat.min_eq_left (Nat.le_of_lt hq), Nat.sub_self, List.drop_eq_getElem_cons hq]
  obtain ⟨_, rfl⟩ := List.getElem?_eq_some_iff.1 h
  rfl
theorem mapTo_set (f : Spec.Piece → Spec.Piece) (A : List Spec.Piece) (x a : Spec.Piece) (q : Nat) (h : A[q]? = some a) : (mapTo f A x q).set q (f a) = mapTo f A x (q + 1) := by
  have hq := (List.getElem?_eq_some_iff.1 h).1
  unfold mapTo
  rw [List.set_append_right _ _ (by simp; omega), List.length_map, List.length_take, Nat.min_eq_left (Nat.le_of_lt hq), Nat.sub_self, List.drop_eq_getElem_cons hq, List.take_add_one, h, Option.toList_some, List.map_append, List.append_assoc]
  rfl
theorem mapTo_same (f : Spec.Piece → Spec.Piece) (A : List Spec.Piece) (x a : Spec.Piece) (q : Nat) (h : A[q]? = some a) (hf : f a = a) : mapTo f A x q = mapTo f A x (q + 1) := by
  rw [← mapTo_set f A x a q h, hf]
  have := mapTo_at f A x a q h
  obtain ⟨hq, e⟩ := List.getElem?_eq_some_iff.1 this
  apply List.ext_getElem?
  intro j
  rw [List.getElem?_set]
  split
  · rename_i e2
    subst e2
    rw [this]
  · rfl
theorem apt_drop {l : List Spec.Piece} (h : Apt l) : ∀ n, Apt (l.drop n)
  | 0 => h
  | n + 1 => by
    have := apt_drop h n
    rw [← List.tail_drop]
    cases hd : l.drop n with
    | nil => exact trivial
    | cons a t => rw [hd] at this; exact Apt.tail this
end Pl

theorem own_take {w : World} {base : Nat} {e : TypeId} {size g n cap : Nat} {xs : List Value} (h : w.ownsRow base e size (.slice (some ⟨g, 0, none⟩) n cap) n xs) (i : Nat) (hi : i ≤ n) : w.ownsRow base e size (.slice (some ⟨g, 0, none⟩) i cap) i (xs.take (i * size)) := by
  have hle : i * size ≤ n * size := Nat.mul_le_mul_right _ hi
  refine ⟨by rw [List.length_take, h.1]; omega, .inr ?_⟩
  rcases h.2 with ⟨h0, _⟩ | ⟨g', cap', cur, hv, h1, h2, h3, h4, h5, h6⟩
  · cases h0
  · injection hv with e1 e2 e3
    injection e1 with e1
    injection e1 with e1
    subst e1 e3
    exact ⟨g, cap, cur, rfl, h1, h2, by omega, h4, h5, by rw [← h6, List.take_take, Nat.min_eq_left hle]⟩
theorem Fit.take {α β : Type} {R : α → β → Prop} {l : List α} {m : List β} (h : Fit R l m) (n : Nat) : Fit R (l.take n) (m.take n) := by
  refine ⟨by simp [h.1], fun i a b ha hb => ?_⟩
  by_cases hi : i < n
  · rw [List.getElem?_take_of_lt hi] at ha hb
    exact h.2 i a b ha hb
  · rw [List.getElem?_take_eq_none (by omega)] at ha
    cases ha
theorem Fit.drop {α β : Type} {R : α → β → Prop} {l : List α} {m : List β} (h : Fit R l m) (n : Nat) : Fit R (l.drop n) (m.drop n) := by
  refine ⟨by simp [h.1], fun i a b ha hb => ?_⟩
  rw [List.getElem?_drop] at ha hb
  exact h.2 _ a b ha hb
/-- A piece is laid behind some of the others. -/
theorem PSt.resnoc {w0 wc w7 : World} {pb : Nat} {s : ByteArray} {k g m cap : Nat} {v' : Value} {ps : List PV} {ss : List Spec.Piece} {p : PV} {sp : Spec.Piece} {n : Nat} (h : PSt w0 wc pb s k (.slice (some ⟨g, 0, none⟩) m cap) ps ss) (hn : n ≤ ps.length) (hp : PRep wc wc.heap.size p sp)
    (hm : p.mark = none) (ho : w7.ownsRow w0.heap.size 67 14 v' (n + 1) (pvRow (ps.take n) ++ p.cells)) (hg : wc.grownBy w7 (some g)) :
    PSt w0 (w7.setCell ⟨pb, 2, none⟩ v') pb s k v' (ps.take n ++ [p]) (ss.take n ++ [sp]) := by
  have hg' : wc.grownBy w7 (Value.slice (some ⟨g, 0, none⟩) m cap).ownBlock := hg
  have hb7 := grown_far h.own hg' h.blk (by decide)
  have hl : (ps.take n ++ [p]).length = n + 1 := by simp; omega
  refine ⟨heap_setCell_same w7 pb 2 _ _ _ hb7, h.pb0, own_set (by rw [hl, pvRow_app, show pvRow [p] = p.cells by simp [pvRow]]; exact ho) _ _ (own_block ho hb7 (by decide)), ?_, fm_snoc (h.nd.sublist ((List.take_sublist n ps).filterMap _)) (fun q hq => by rw [hm] at hq; cases hq), below_set (h.bel.grown hg' h.bel.size (fun q hq => (h.own.lt q hq).1)) pb 2 _ h.pb0⟩
  refine ((h.fit.take n).snoc hp).mono (fun a b hr => ?_)
  exact (hr.keep (keepT_own h.own hg' (by decide)) (keepT_own h.own hg' (by decide)) hg.size).keep (keepT_set hb7 (by decide)) (keepT_set hb7 (by decide)) (by simp [World.setCell])
theorem step_append_own5 {P : Program} {ops : Array Oper} {o : Oper} {a : Act} {w : World} {K : Act → World → Prop} {Q : Exit → Act → World → Prop} {E : Prop} (hgd : o.guard = none) (s x : Operand) (t : TypeId)
    (ho : o.op = .call { callee := .builtin .append, args := #[s, x], argTypes := #[t, t] })
    (base : Nat) (e : TypeId) (i : TypeInfo) (z : Value) (size bytes : Nat) (ht : P.underlying t = some (.slice e)) (hi : P.info? e = some i) (hz : i.zero = some z)
    (hsize : i.size = size) (hby : i.bytes = bytes) (hzs : z.cells.size = size) (hsz : 0 < size)
    (v : Value) (n : Nat) (xs : List Value) (hs : a.eval s = v) (hown : w.ownsRow base e size v n xs)
    (ad : Addr) (m c : Nat) (news : List Value) (hx : a.eval x = .slice (some ad) m c) (hl : news.length = m * size) (hnews : ∀ j u, news[j]? = some u → w.cell? (ad.add j) = some u) (h1 : ∀ u ∈ news, u.oneCell' = true)
    (h63 : n + m ≤ maxLen) (hbytes : (n + m) * bytes ≤ 140737488355328) (hbase : base ≤ w.heap.size)
    (h : ∀ v' w', w'.ownsRow base e size v' (n + m) (xs ++ news) → w.grownBy w' v.ownBlock → (v'.ownBlock = v.ownBlock ∨ v'.ownBlock = some w.heap.size) → K (a.put o.dst v') w') :
    if Region.wanted o (yielded ops a.tmps) = true then Oper.wp P o a w K Q else E := by
  have hw : Region.wanted o (yielded ops a.tmps) = true := by simp [Region.wanted, hgd]
  rw [if_pos hw]
  obtain ⟨v', w', hr, h2, h3, h4, h5⟩ := run_append_own_at (P := P) w base t o.type e i z size bytes ht hi hz hsize hby hzs hsz v n xs hown ad m c news hl hnews h1 h63 hbytes hbase
  unfold Oper.wp execOp
  simp only [ho, resolve, invoke, builtin, Sem.run_bind, Sem.run_pure, Result.andThen_ok, List.map_toArray, List.map_cons, List.map_nil, hs, hx, hr]
  exact h v' w' h2 h3 h5
/-- The pieces behind a place, as they are read. -/
theorem pread_rest {w : World} {g n cap : Nat} {ps : List PV} (h : PRead w (.slice (some ⟨g, 0, none⟩) n cap) ps) (hn : n = ps.length) (hc : n ≤ cap) (i : Nat) (hi : i ≤ ps.length) :
    PRead w (.slice (if cap = i then (some ⟨g, 0, none⟩ : Option Addr) else (some ⟨g, 0, none⟩ : Option Addr).map (·.add (i * 14))) (n - i) (cap - i)) (ps.drop i) := by
  by_cases h0 : i = ps.length
  · have e : ps.drop i = [] := List.drop_eq_nil_of_le (by omega)
    rw [e, show n - i = 0 by omega]
    exact ⟨_, _, rfl, fun h => absurd h (by simp)⟩
  · rw [if_neg (by omega)]
    have := pread_part h i (n - i) (cap - i) (by omega)
    rw [List.take_of_length_le (by rw [List.length_drop]; omega)] at this
    rw [Option.map_some, addr_add]
    exact this
theorem own_cap {w : World} {base : Nat} {e : TypeId} {size n m cap : Nat} {A : Option Addr} {xs : List Value} (h : w.ownsRow base e size (.slice A m cap) n xs) : n ≤ cap := by
  rcases h.2 with ⟨hv, h0⟩ | ⟨g, c, cur, hv, _, _, hc, _⟩
  · omega
  · injection hv with e1 e2 e3
    subst e3
    exact hc
theorem Short.set {ss : List Spec.Piece} (h : Short ss) (i : Nat) (b : Spec.Piece) (hb : b.raw = false) : Short (ss.set i b) := by
  intro p hp hr hk
  rw [List.getLast?_eq_getElem?, List.getElem?_set] at hp
  split at hp
  · split at hp
    · obtain rfl := Option.some.inj hp
      rw [hb] at hr; cases hr
    · cases hp
  · refine h p ?_ hr hk
    rw [List.getLast?_eq_getElem?, ← hp, List.length_set]
/-- Two cells of one piece are set, in whatever order. -/
theorem PSt.put2 {w0 w : World} {pb : Nat} {s : ByteArray} {k g cap n : Nat} {ps : List PV} {ss : List Spec.Piece} (h : PSt w0 w pb s k (.slice (some ⟨g, 0, none⟩) n cap) ps ss) (i : Nat) (p : PV) (sp : Spec.Piece) (hp : ps[i]? = some p) (hr : PRep w w.heap.size p sp) :
    PSt w0 ((w.setCell ⟨g, i * 14 + 12, none⟩ (.bool false)).setCell ⟨g, i * 14 + 8, none⟩ (.bool false)) pb s k (.slice (some ⟨g, 0, none⟩) n cap) (ps.set i { p with noted := false, raw := false }) (ss.set i { sp with noted := false, raw := false }) ∧
    PSt w0 ((w.setCell ⟨g, i * 14 + 8, none⟩ (.bool false)).setCell ⟨g, i * 14 + 12, none⟩ (.bool false)) pb s k (.slice (some ⟨g, 0, none⟩) n cap) (ps.set i { p with noted := false, raw := false }) (ss.set i { sp with noted := false, raw := false }) := by
  have hi := (List.getElem?_eq_some_iff.1 hp).1
  have keepg : ∀ (j : Nat) (x : Value) (q : PV) (z : Spec.Piece), PRep w w.heap.size q z → PRep (w.setCell ⟨g, j, none⟩ x) (w.setCell ⟨g, j, none⟩ x).heap.size q z := fun j x q z hq => by
    rcases h.own.2 with ⟨h0, _⟩ | ⟨g', c, cur, hv, _, hg, _⟩
    · cases h0
    · injection hv with e1
      injection e1 with e1
      injection e1 with e1
      subst e1
      exact hq.keep (keepT_set hg (by decide)) (keepT_set hg (by decide)) (by simp [World.setCell])
  constructor
  · have h1 := h.put i p { p with noted := false } { sp with noted := false } 12 (.bool false) hp (by omega) rfl rfl ⟨hr.kind, hr.text, hr.url, hr.title, hr.kids, hr.raw, hr.left, hr.image, rfl, hr.dead, hr.mark⟩
    have h2 := h1.put i { p with noted := false } { p with noted := false, raw := false } { sp with noted := false, raw := false } 8 (.bool false) (by rw [List.getElem?_set_self hi]) (by omega) rfl rfl (keepg _ _ _ _ ⟨hr.kind, hr.text, hr.url, hr.title, hr.kids, rfl, hr.left, hr.image, rfl, hr.dead, hr.mark⟩)
    rw [List.set_set, List.set_set] at h2
    exact h2
  · have h1 := h.put i p { p with raw := false } { sp with raw := false } 8 (.bool false) hp (by omega) rfl rfl ⟨hr.kind, hr.text, hr.url, hr.title, hr.kids, rfl, hr.left, hr.image, hr.noted, hr.dead, hr.mark⟩
    have h2 := h1.put i { p with raw := false } { p with noted := false, raw := false } { sp with noted := false, raw := false } 12 (.bool false) (by rw [List.getElem?_set_self hi]) (by omega) rfl rfl (keepg _ _ _ _ ⟨hr.kind, hr.text, hr.url, hr.title, hr.kids, rfl, hr.left, hr.image, rfl, hr.dead, hr.mark⟩)
    rw [List.set_set, List.set_set] at h2
    exact h2
end Go.Proofs.YtmplfiflikhpjaaGreatDoor
