/-
  Texts of one proof, joined: InV, InW, InX, InY, InZ, MeA.
-/
import Derived.Test.YtmplfiflikhpjaaGreatDoorV01
import Derived.Test.YtmplfiflikhpjaaGreatDoorV12
import Derived.StillTailTactics
/-
  Words for the pieces whose marks are matched: pieces with the numbers of their marks.
-/
namespace Go.Proofs.YtmplfiflikhpjaaGreatDoor
open Go.RowKit

theorem Fit.split {α β : Type} {R : α → β → Prop} {l : List α} {m1 m2 : List β} (h : Fit R l (m1 ++ m2)) : ∃ l1 l2, l = l1 ++ l2 ∧ Fit R l1 m1 ∧ Fit R l2 m2 := by
  have hl : l.length = m1.length + m2.length := by rw [h.1, List.length_append]
  refine ⟨l.take m1.length, l.drop m1.length, (List.take_append_drop _ _).symm, ⟨by rw [List.length_take]; omega, fun i a b ha hb => ?_⟩, ⟨by rw [List.length_drop]; omega, fun i a b ha hb => ?_⟩⟩
  · have hi : i < m1.length := (List.getElem?_eq_some_iff.1 hb).1
    rw [List.getElem?_take_of_lt hi] at ha
    exact h.2 i a b ha (by rw [List.getElem?_append_left hi]; exact hb)
  · rw [List.getElem?_drop] at ha
    exact h.2 _ a b ha (by rw [List.getElem?_append_right (by omega), Nat.add_sub_cancel_left]; exact hb)
theorem Fit.uncons {α β : Type} {R : α → β → Prop} {l : List α} {b : β} {m : List β} (h : Fit R l (b :: m)) : ∃ a t, l = a :: t ∧ R a b ∧ Fit R t m := by
  cases l with
  | nil => cases h.1
  | cons a t => exact ⟨a, t, rfl, h.2 0 a b rfl rfl, by have := h.1; simpa using this, fun i x y hx hy => h.2 (i + 1) x y hx hy⟩
theorem Fit.cons {α β : Type} {R : α → β → Prop} {a : α} {b : β} {l : List α} {m : List β} (hr : R a b) (h : Fit R l m) : Fit R (a :: l) (b :: m) := by
  refine ⟨by simp [h.1], fun i x y hx hy => ?_⟩
  cases i with
  | zero =>
    obtain rfl := Option.some.inj hx
    obtain rfl := Option.some.inj hy
    exact hr
  | succ i => exact h.2 i x y hx hy
theorem Fit.app {α β : Type} {R : α → β → Prop} {l1 l2 : List α} {m1 m2 : List β} (h1 : Fit R l1 m1) (h2 : Fit R l2 m2) : Fit R (l1 ++ l2) (m1 ++ m2) := by
  induction l1 generalizing m1 with
  | nil =>
    have : m1 = [] := List.eq_nil_of_length_eq_zero h1.1.symm
    subst this
    exact h2
  | cons a t ih =>
    cases m1 with
    | nil => cases h1.1
    | cons b m =>
      obtain ⟨a', t', e, hr, ht⟩ := h1.uncons
      injection e with e1 e2
      subst e1 e2
      exact Fit.cons hr (ih ht)
theorem Fit.mono {α β : Type} {R S : α → β → Prop} {l : List α} {m : List β} (h : Fit R l m) (f : ∀ a b, R a b → S a b) : Fit S l m := ⟨h.1, fun i a b ha hb => f a b (h.2 i a b ha hb)⟩
theorem Fit.map {α β γ : Type} {R : α → β → Prop} {S : α → γ → Prop} {l : List α} {m : List β} {g : β → γ} (h : Fit R l m) (f : ∀ a b, R a b → S a (g b)) : Fit S l (m.map g) := by
  refine ⟨by rw [List.length_map]; exact h.1, fun i a b ha hb => ?_⟩
  rw [List.getElem?_map] at hb
  obtain ⟨c, hc, rfl⟩ := Option.map_eq_some_iff.1 hb
  exact f a c (h.2 i a c ha hc)
theorem Fit.all {α β : Type} {R : α → β → Prop} {P : α → Prop} {l : List α} {m : List β} (h : Fit R l m) (f : ∀ a b, R a b → P a) : ∀ a ∈ l, P a := fun a ha => by
  obtain ⟨i, hi⟩ := List.mem_iff_getElem?.1 ha
  obtain ⟨b, _, hr⟩ := h.at_ hi
  exact f a b hr
/-- A piece in memory, its mark by its number. -/
structure NRel (w : World) (B : Nat) (allb : List Nat) (p : PV) (x : Pl.NP) : Prop where
  rep : PRep w B p x.1
  num : p.mark = x.2.map fun q => allb.getD q 0
theorem NRel.keep {w w' : World} {B B' : Nat} {allb : List Nat} {p : PV} {x : Pl.NP} (h : NRel w B allb p x) (hk : KeepT NodeT B w w') (hm : KeepT 62 B w w') (hB : B ≤ B') : NRel w' B' allb p x := ⟨h.rep.keep hk hm hB, h.num⟩
theorem PRep.kid {w : World} {B : Nat} {p : PV} {s : Spec.Piece} (h : PRep w B p s) : ∃ A n k, p.kids = .slice A n k := by
  obtain ⟨A, k, e⟩ := h.kids.len
  exact ⟨A, _, k, e⟩
theorem PRep.kid1 {w : World} {B : Nat} {p : PV} {s : Spec.Piece} (h : PRep w B p s) : p.kids.oneCell' = true := by
  obtain ⟨A, k, e⟩ := h.kids.len
  rw [e]; rfl
theorem PRep.by {w : World} {B : Nat} {p : PV} {s : Spec.Piece} (h : PRep w B p s) : ByMark w p := by
  intro b hb
  have := h.mark
  cases hs : s.mark with
  | none => rw [hs] at this; rw [hb] at this; cases this
  | some m =>
    rw [hs] at this
    obtain ⟨mb, h1, _, h3⟩ := this
    rw [hb] at h1
    obtain rfl := Option.some.inj h1
    exact ⟨_, _, h3⟩
/-- Blocks of another type stay where a row alone grows. -/
theorem keepT_grown {t e : TypeId} {w w' : World} {g B : Nat} {cs : Array Value} (hg : w.heap[g]? = some (.cells cs e (0, 0))) (h : w.grownBy w' (some g)) (hne : t ≠ e) : KeepT t B w w' := fun b cur _ hr =>
  (h.block b (blk_lt hr) (fun e2 => by
    injection e2 with e2
    subst e2
    exact blk_ne hr hg hne rfl)).trans hr
theorem pread_own {w : World} {base : Nat} {v : Value} {ps : List PV} (h : w.ownsRow base 67 14 v ps.length (pvRow ps)) : PRead w v ps := by
  obtain ⟨A, c, rfl⟩ := row_slice h
  refine ⟨A, c, rfl, fun h0 => ?_⟩
  rcases h.2 with ⟨_, h1⟩ | ⟨g, cap, cur, hv, _, hg, _⟩
  · omega
  · injection hv with e1
    subst e1
    refine ⟨g, 0, rfl, blk_lt hg, fun i p hp j u hu => ?_⟩
    have hc := h.cells rfl (i * 14 + j) u (by rw [pvRow_at ps i j p hp (List.getElem?_eq_some_iff.1 hu).1]; exact hu)
    rw [addr_add] at hc
    rw [Nat.zero_add]
    exact hc
/-- A part of a row that is read. -/
theorem pread_part {w : World} {g n cap : Nat} {ps : List PV} (h : PRead w (.slice (some ⟨g, 0, none⟩) n cap) ps) (i m c : Nat) (hm : i + m ≤ ps.length) : PRead w (.slice (some ⟨g, i * 14, none⟩) m c) ((ps.drop i).take m) := by
  obtain ⟨A2, cap2, he, hc⟩ := h
  injection he with e1 e2 e3
  subst e1
  have hl : ((ps.drop i).take m).length = m := by rw [List.length_take, List.length_drop]; omega
  refine ⟨some ⟨g, i * 14, none⟩, c, by rw [hl], fun h0 => ?_⟩
  obtain ⟨b, off, hA, hlt, hcell⟩ := hc (by omega)
  injection hA with hA
  injection hA with h1 h2
  subst h1
  subst h2
  refine ⟨g, i * 14, rfl, hlt, fun k p hp j u hu => ?_⟩
  have hk : k < m := by rw [← hl]; exact (List.getElem?_eq_some_iff.1 hp).1
  rw [List.getElem?_take_of_lt hk, List.getElem?_drop] at hp
  have h3 := hcell (i + k) p hp j u hu
  have e : 0 + (i + k) * 14 + j = i * 14 + k * 14 + j := by omega
  rw [← e]
  exact h3
theorem left_set (a : List PV) (p : PV) (c : List PV) (l : Nat) : (pvRow (a ++ p :: c)).set (a.length * 14 + 10) (.int .i64 (l : Int)) = pvRow (a ++ { p with left := l } :: c) := by
  rw [pvRow_app, pvRow_cons, pvRow_app, pvRow_cons, List.set_append_right _ _ (by rw [pvRow_len]; omega), pvRow_len, Nat.add_sub_cancel_left]
  rfl
theorem findIdx_mp (a : List PV) (p : PV) (c : List PV) (m : Nat) (ha : ∀ z ∈ a, z.mark ≠ some m) (hp : p.mark = some m) : (a ++ p :: c).findIdx (fun p => p.mp == some ⟨m, 0, none⟩) = a.length := by
  refine Pl.findIdx_mid _ _ _ _ (fun z hz => ?_) ?_
  · refine beq_eq_false_iff_ne.2 (fun h => ?_)
    unfold PV.mp at h
    obtain ⟨b, hb, e⟩ := Option.map_eq_some_iff.1 h
    injection e with e
    subst e
    exact ha z hz hb
  · unfold PV.mp
    rw [hp]
    exact beq_self_eq_true _
end Go.Proofs.YtmplfiflikhpjaaGreatDoor
/-
  inline.stressed: pieces with those between two marks within one.
-/
namespace Go.Proofs.YtmplfiflikhpjaaGreatDoor
open Go.RowKit

theorem Two.grown {w w1 w2 : World} {g : Nat} (h : Two w w1 g g) (k : w1.grownBy w2 (some g)) : Two w w2 g g :=
  ⟨k.os.trans h.os, k.tape.trans h.tape, k.output.trans h.output, Nat.le_trans h.size k.size, fun i hi ha hb => (k.block i (Nat.lt_of_lt_of_le hi h.size) (fun e => ha (Option.some.inj e))).trans (h.block i hi ha hb)⟩
theorem Two.by_ {w w1 : World} {g : Nat} (h : Two w w1 g g) : w.grownBy w1 (some g) := ⟨h.os, h.tape, h.output, h.size, fun k hk hne => h.block k hk (fun e => hne (by rw [e])) (fun e => hne (by rw [e]))⟩
theorem keepT_two {t e : TypeId} {w w' : World} {g B : Nat} {cs : Array Value} (hg : w.heap[g]? = some (.cells cs e (0, 0))) (h : Two w w' g g) (hne : t ≠ e) : KeepT t B w w' := keepT_grown hg h.by_ hne
theorem tells_of (W : World) (f c a : Nat) (ps : List PV) (hf : ∀ (w : World) (c a : Nat) (p : PV), (∃ A n k, p.kids = .slice A n k) → w.cell? ⟨c, 0, none⟩ = some (.pointer (some ⟨a, 0, none⟩)) → (∃ cs t, w.heap[a]? = some (.cells cs t (0, 0))) → ByMark w p → Calls Tryz.prog f #[.agg p.cells.toArray, .pointer (some ⟨c, 0, none⟩)] w fun e w' => e = .returned (.bool (p.mp == some ⟨a, 0, none⟩)) ∧ Below w.heap.size w w')
    (hc : W.cell? ⟨c, 0, none⟩ = some (.pointer (some ⟨a, 0, none⟩))) (ha : ∃ cs t, W.heap[a]? = some (.cells cs t (0, 0))) (hk : ∀ p ∈ ps, ∃ A n k, p.kids = .slice A n k) (hby : ∀ p ∈ ps, ByMark W p) : Tells W f c a ps := fun W' p hp hb => by
  have zc := World.block_lt_of_cell? _ _ hc
  refine hf W' c a p (hk p hp) ((hb.cell (p := ⟨c, 0, none⟩) zc).trans hc) ?_ ?_
  · obtain ⟨cs, t, h⟩ := ha
    exact ⟨cs, t, (hb.block a (blk_lt h)).trans h⟩
  · intro b hb2
    obtain ⟨cs, t, h⟩ := hby p hp b hb2
    exact ⟨cs, t, (hb.block b (blk_lt h)).trans h⟩
theorem enters_A (args : Array Value) (w : World) : (callFunc 119 args).run Tryz.prog w = .ok (.enter 119 args) w := enters_of Tryz.func119 (by kernel_rfl) rfl args w
theorem enters_B (args : Array Value) (w : World) : (callFunc 120 args).run Tryz.prog w = .ok (.enter 120 args) w := enters_of Tryz.func120 (by kernel_rfl) rfl args w
/-- What the pieces are behind it. -/
def StrRes (w : World) (base g cap : Nat) (allb : List Nat) (L : List Pl.NP) (e : Ending) (w' : World) : Prop :=
  ∃ ps : List PV, e = .returned (.slice (some ⟨g, 0, none⟩) ps.length cap) ∧ w'.ownsRow base 67 14 (.slice (some ⟨g, 0, none⟩) ps.length cap) ps.length (pvRow ps) ∧ Fit (NRel w' w'.heap.size allb) ps L ∧ w.grownBy w' (some g)
theorem own_set {w : World} {base : Nat} {e : TypeId} {size : Nat} {v : Value} {n : Nat} {xs : List Value} (h : w.ownsRow base e size v n xs) (p : Addr) (u : Value) (hp : v.ownBlock ≠ some p.block) : (w.setCell p u).ownsRow base e size v n xs :=
  h.kept (row := some p.block) ⟨rfl, rfl, rfl, by simp [World.setCell], fun k hk hne => heap_setCell_other w _ _ _ (fun e => hne (by rw [e]))⟩ (.inr hp)
theorem own_two2 {w w' : World} {base : Nat} {e : TypeId} {size : Nat} {v : Value} {n : Nat} {xs : List Value} {g : Nat} (h : w.ownsRow base e size v n xs) (ht : w.grownBy w' (some g)) (hp : v.ownBlock ≠ some g) : w'.ownsRow base e size v n xs := h.kept (row := some g) ht (.inr hp)
theorem own_cell {w : World} {base g n cap : Nat} {ps : List PV} (h : w.ownsRow base 67 14 (.slice (some ⟨g, 0, none⟩) n cap) n (pvRow ps)) (i j : Nat) (p : PV) (u : Value) (hp : ps[i]? = some p) (hu : p.cells[j]? = some u) : w.cell? ⟨g, i * 14 + j, none⟩ = some u ∧ w.frozen? ⟨g, i * 14 + j, none⟩ = false := by
  have hc := h.cells rfl (i * 14 + j) u (by rw [pvRow_at ps i j p hp (List.getElem?_eq_some_iff.1 hu).1]; exact hu)
  rw [addr_add] at hc
  refine ⟨hc, ?_⟩
  rcases h.2 with ⟨h0, _⟩ | ⟨g', cap', cur, hv, _, hg, _⟩
  · cases h0
  · injection hv with e1
    injection e1 with e1
    injection e1 with e1
    subst e1
    exact frozen_of_row _ _ _ _ _ hg
theorem PRep.cut {w : World} {B : Nat} {p : PV} {s : Spec.Piece} (h : PRep w B p s) (k : Nat) : PRep w B { p with left := p.left - k } (Pl.cutP s k) := ⟨h.kind, h.text, h.url, h.title, h.kids, h.raw, by show p.left - k = s.left - k; rw [h.left], h.image, h.noted, h.dead, h.mark⟩
theorem marks_apart {w : World} {B : Nat} {allb : List Nat} {ps : List PV} {L : List Pl.NP} (hF : Fit (NRel w B allb) ps L) (q : Nat) (hq : q < allb.length) (hinj : ∀ i j, i < allb.length → j < allb.length → allb.getD i 0 = allb.getD j 0 → i = j) (hlt : ∀ z ∈ L, ∀ q, z.2 = some q → q < allb.length) (hne : ∀ z ∈ L, z.2 ≠ some q) : ∀ p ∈ ps, p.mark ≠ some (allb.getD q 0) := by
  intro p hp h
  obtain ⟨i, hi⟩ := List.mem_iff_getElem?.1 hp
  obtain ⟨z, hz, hr⟩ := hF.at_ hi
  have hzm := List.mem_of_getElem? hz
  rw [hr.num] at h
  obtain ⟨q', hq', e⟩ := Option.map_eq_some_iff.1 h
  have := hinj q' q (hlt z hzm q' hq') hq e
  subst this
  exact hne z hzm hq'
theorem mark_row {w : World} {B : Nat} {p : PV} {s : Spec.Piece} (h : PRep w B p s) (m : Nat) (hm : p.mark = some m) : ∃ cs t, w.heap[m]? = some (.cells cs t (0, 0)) := h.by m hm

set_option maxHeartbeats 32000000 in
set_option maxRecDepth 100000 in
theorem stressed_any (w : World) (base g cap : Nat) (ps : List PV) (L A M C : List Pl.NP) (allb : List Nat) (pr : Spec.Pair) (x y : Spec.Piece) (hW : Pl.WOk L pr A M C x y)
    (hown : w.ownsRow base 67 14 (.slice (some ⟨g, 0, none⟩) ps.length cap) ps.length (pvRow ps)) (hF : Fit (NRel w w.heap.size allb) ps L)
    (hlt : ∀ z ∈ L, ∀ q, z.2 = some q → q < allb.length) (hinj : ∀ i j, i < allb.length → j < allb.length → allb.getD i 0 = allb.getD j 0 → i = j) (hlen : ps.length ≤ 100000) (hwt : Pl.wtL (L.map (·.1)) ≤ 1000000) :
    Calls Tryz.prog 66 #[.slice (some ⟨g, 0, none⟩) ps.length cap, .pointer (some ⟨allb.getD pr.from_ 0, 0, none⟩), .pointer (some ⟨allb.getD pr.to 0, 0, none⟩), .bool pr.strong] w (StrRes w base g cap allb (Spec.wrap L pr)) := by
  have hkid : ∀ p ∈ ps, ∃ A n k, p.kids = .slice A n k := hF.all fun a b h => h.rep.kid
  have hby : ∀ p ∈ ps, ByMark w p := hF.all fun a b h => h.rep.by
  have hk1 : ∀ p ∈ ps, p.kids.oneCell' = true := hF.all fun a b h => h.rep.kid1
  have hwrap := hW.wrap
  have hLe := hW.eq
  subst hLe
  obtain ⟨pA, t1, rfl, fA, f1⟩ := hF.split
  obtain ⟨px, t2, rfl, fx, f2⟩ := f1.uncons
  obtain ⟨pM, t3, rfl, fM, f3⟩ := f2.split
  obtain ⟨py, pC, rfl, fy, fC⟩ := f3.uncons
  obtain ⟨a, ha⟩ : ∃ a, a = allb.getD pr.from_ 0 := ⟨_, rfl⟩
  obtain ⟨b, hb⟩ : ∃ b, b = allb.getD pr.to 0 := ⟨_, rfl⟩
  have qf : pr.from_ < allb.length := hlt (x, some pr.from_) (by simp) _ rfl
  have qt : pr.to < allb.length := hlt (y, some pr.to) (by simp) _ rfl
  have mx : px.mark = some a := by rw [fx.num, ha]; rfl
  have my : py.mark = some b := by rw [fy.num, hb]; rfl
  have apA : ∀ p ∈ pA, p.mark ≠ some a := by rw [ha]; exact marks_apart fA _ qf hinj (fun z hz => hlt z (by simp [hz])) (fun z hz => (hW.hA z hz).1)
  have apB : ∀ p ∈ pA ++ px :: pM, p.mark ≠ some b := by
    intro p hp
    rcases List.mem_append.1 hp with h | h
    · rw [hb]; exact marks_apart fA _ qt hinj (fun z hz => hlt z (by simp [hz])) (fun z hz => (hW.hA z hz).2) p h
    · rcases List.mem_cons.1 h with rfl | h
      · rw [mx]
        intro e
        injection e with e
        rw [ha, hb] at e
        exact hW.ne (hinj _ _ qf qt e)
      · rw [hb]; exact marks_apart fM _ qt hinj (fun z hz => hlt z (by simp [hz])) (fun z hz => (hW.hM z hz).2) p h
  have iA := findIdx_mp pA px (pM ++ py :: pC) a apA mx
  have eB : pA ++ px :: (pM ++ py :: pC) = (pA ++ px :: pM) ++ py :: pC := by simp
  have iB := findIdx_mp (pA ++ px :: pM) py pC b apB my
  rw [← eB] at iB
  obtain ⟨r, hr⟩ : ∃ r, pM.length = r + 1 := ⟨pM.length - 1, by
    have h1 := fM.1
    have h2 := List.length_pos_iff.2 hW.M0
    omega⟩
  obtain ⟨i, hi⟩ : ∃ i, i = pA.length := ⟨_, rfl⟩
  obtain ⟨n, hn⟩ : ∃ n, n = (pA ++ px :: (pM ++ py :: pC)).length := ⟨_, rfl⟩
  have hn2 : n = i + 1 + 1 + r + (pC.length + 1) := by rw [hn, hi]; simp [hr]; omega
  have hj2 : (pA ++ px :: pM).length = i + 1 + 1 + r := by rw [hi]; simp [hr]; omega
  rw [← hi] at iA
  rw [hj2] at iB
  have hrowa := mark_row fx.rep a mx
  have hrowb := mark_row fy.rep b my
  -- the two searches, in whatever world stands over this one
  have hS1 : ∀ (W : World) (c : Nat), Below w.heap.size w W → W.cell? ⟨c, 0, none⟩ = some (.pointer (some ⟨a, 0, none⟩)) → Calls Tryz.prog 118 #[.slice (some ⟨g, 0, none⟩) n cap, .func (.func 119) #[] #[.pointer (some ⟨c, 0, none⟩)]] W fun e w' => e = .returned (.int .i64 (i : Int)) ∧ Below W.heap.size W w' := fun W c hbW hc => by
    have ho := own_below hown hbW
    have := indexFunc_any W (.slice (some ⟨g, 0, none⟩) (pA ++ px :: (pM ++ py :: pC)).length cap) _ 119 c a (pread_own ho) enters_A (tells_of W _ c a _ byA_any hc (by obtain ⟨cs, t, h⟩ := hrowa; exact ⟨cs, t, (hbW.block a (blk_lt h)).trans h⟩) hkid (fun p hp b hb2 => by obtain ⟨cs, t, h⟩ := hby p hp b hb2; exact ⟨cs, t, (hbW.block b (blk_lt h)).trans h⟩)) hkid hlen (by rw [iA]; simp [hi])
    rw [iA, ← hn] at this
    exact this
  have hS2 : ∀ (W : World) (c : Nat), Below w.heap.size w W → W.cell? ⟨c, 0, none⟩ = some (.pointer (some ⟨b, 0, none⟩)) → Calls Tryz.prog 118 #[.slice (some ⟨g, 0, none⟩) n cap, .func (.func 120) #[] #[.pointer (some ⟨c, 0, none⟩)]] W fun e w' => e = .returned (.int .i64 ((i + 1 + 1 + r : Nat) : Int)) ∧ Below W.heap.size W w' := fun W c hbW hc => by
    have ho := own_below hown hbW
    have := indexFunc_any W (.slice (some ⟨g, 0, none⟩) (pA ++ px :: (pM ++ py :: pC)).length cap) _ 120 c b (pread_own ho) enters_B (tells_of W _ c b _ byB_any hc (by obtain ⟨cs, t, h⟩ := hrowb; exact ⟨cs, t, (hbW.block b (blk_lt h)).trans h⟩) hkid (fun p hp b hb2 => by obtain ⟨cs, t, h⟩ := hby p hp b hb2; exact ⟨cs, t, (hbW.block b (blk_lt h)).trans h⟩)) hkid hlen (by rw [iB, ← hn]; omega)
    rw [iB, ← hn] at this
    exact this
  have hkx : Pl.nOf pr.strong ≤ px.left := by rw [fx.rep.left]; exact hW.l1
  have hky : Pl.nOf pr.strong ≤ py.left := by rw [fy.rep.left]; exact hW.l2
  have hpl : px.left ≤ 1000000 ∧ py.left ≤ 1000000 := by
    have h1 := fx.rep.mark
    have h2 := fy.rep.mark
    have hx := wt_mem _ x (show x ∈ (A ++ (x, some pr.from_) :: (M ++ (y, some pr.to) :: C)).map (·.1) by simp)
    have hy := wt_mem _ y (show y ∈ (A ++ (x, some pr.from_) :: (M ++ (y, some pr.to) :: C)).map (·.1) by simp)
    have wx : Pl.wt x = x.left := by
      unfold Pl.wt
      cases hm : x.mark with
      | some m => rfl
      | none => rw [hm] at h1; rw [mx] at h1; cases h1
    have wy : Pl.wt y = y.left := by
      unfold Pl.wt
      cases hm : y.mark with
      | some m => rfl
      | none => rw [hm] at h2; rw [my] at h2; cases h2
    have e1 : px.left = x.left := fx.rep.left
    have e2 : py.left = y.left := fy.rep.left
    omega
  have hwM : Pl.wtL (M.map (·.1)) ≤ 1000000 := by
    have e : (A ++ (x, some pr.from_) :: (M ++ (y, some pr.to) :: C)).map (·.1) = (A.map (·.1) ++ [x]) ++ (M.map (·.1) ++ (y :: C.map (·.1))) := by simp
    rw [e, Pl.wtL_app, Pl.wtL_app, Pl.wtL_app] at hwt
    omega
  have hownN : w.ownsRow base 67 14 (.slice (some ⟨g, 0, none⟩) n cap) n (pvRow (pA ++ px :: (pM ++ py :: pC))) := by rw [hn]; exact hown
  have hgg := hownN.lt g rfl
  have hncap : n ≤ cap := by
    rcases hownN.2 with ⟨h0, _⟩ | ⟨g', cap', cur, hv, _, _, hc, _⟩
    · cases h0
    · injection hv with _ _ e3
      subst e3
      exact hc
  have hrowg : ∃ cs, w.heap[g]? = some (.cells cs 67 (0, 0)) := by
    rcases hownN.2 with ⟨h0, _⟩ | ⟨g', cap', cur, hv, _, hg, _⟩
    · cases h0
    · injection hv with e1
      injection e1 with e1
      injection e1 with e1
      subst e1
      exact ⟨cur, hg⟩
  obtain ⟨k, hk⟩ : ∃ k, k = Pl.nOf pr.strong := ⟨_, rfl⟩
  have hk12 : 1 ≤ k ∧ k ≤ 2 := by rw [hk]; unfold Pl.nOf; split <;> omega
  rw [← hk] at hkx hky hwrap
  obtain ⟨kn, hkn⟩ : ∃ kn : Nat, kn = if pr.strong = true then 14 else 13 := ⟨_, rfl⟩
  rw [← hkn] at hwrap
  rw [← hn, ← ha, ← hb, hwrap]
  have HN : Hid (n = i + 1 + 1 + r + (pC.length + 1) ∧ i = pA.length ∧ pM.length = r + 1) := Lib.hid ⟨hn2, hi, hr⟩
  obtain ⟨st, hst⟩ : ∃ st, st = pr.strong := ⟨_, rfl⟩
  rw [← hst] at hk hkn ⊢
  have HK : Hid (k = Pl.nOf st ∧ kn = if st = true then 14 else 13) := Lib.hid ⟨hk, hkn⟩
  have HOWN := Lib.hid hownN
  have HFX := Lib.hid fx
  have HFY := Lib.hid fy
  have HFA := Lib.hid fA
  have HFM := Lib.hid fM
  have HFC := Lib.hid fC
  have HG := Lib.hid hrowg
  have HK1 := Lib.hid hk1
  have hin : i + 1 + r ≤ 100000 := by omega
  have hnn : n ≤ 100000 := by omega
  have hnpos : i + 1 + 1 + r < n := by omega
  clear hW hown hF hlt hinj hlen hwt hkid hby hk1 hwrap f1 f2 f3 fA fx fM fy fC ha hb qf qt mx my apA apB iA eB iB hr hi hn hn2 hj2 hrowa hrowb hownN hrowg hk hkn hst
  go_enter Tryz.func66, Tryz.ntmps66
  go_wp2_with fail
  have hT := two_blocks w #[.pointer (some ⟨a, 0, none⟩)] #[.pointer (some ⟨b, 0, none⟩)] 65 65
  generalize (w.alloc (.cells #[.pointer (some ⟨a, 0, none⟩)] 65)).alloc (.cells #[.pointer (some ⟨b, 0, none⟩)] 65) = w2 at hT ⊢
  obtain ⟨hX, hN, hB2, hS⟩ := hT
  have k1 : w2.cell? ⟨w.heap.size, 0, none⟩ = some (.pointer (some ⟨a, 0, none⟩)) := hX 0
  have k2 : w2.cell? ⟨w.heap.size + 1, 0, none⟩ = some (.pointer (some ⟨b, 0, none⟩)) := cell_of_row _ _ _ _ _ _ hN
  refine (hS1 w2 _ hB2 k1).mono ?_
  rintro e w3 ⟨rfl, hb3⟩
  have hB3 := hB2.trans (hb3.mono hB2.size)
  have k3 : w3.cell? ⟨w.heap.size + 1, 0, none⟩ = some (.pointer (some ⟨b, 0, none⟩)) := (hb3.cell (p := ⟨w.heap.size + 1, 0, none⟩) (by show w.heap.size + 1 < _; omega)).trans k2
  clear hX hN k1 k2 hb3 hB2 hS1
  go_wp2_with fail
  refine (hS2 w3 _ hB3 k3).mono ?_
  rintro e w4 ⟨rfl, hb4⟩
  have HB4 := Lib.hid (hB3.trans (hb4.mono hB3.size))
  clear hB3 hb4 k3 hS hS2
  go_upto_if 20 with fail
  go_cut [11, 12] (fun v11 v12 wc => ∃ xb : Nat, v11 = .int .i64 (k : Int) ∧ v12 = .pointer (some ⟨xb, 0, none⟩) ∧ Hid (w4.heap.size ≤ xb ∧ wc.heap[xb]? = some (.cells #[.int .i64 (kn : Int), .int .i64 0, .bool false, .bool false, .string ⟨#[]⟩, .string ⟨#[]⟩, .string ⟨#[]⟩, .slice none 0 0] 27 (0, 0)) ∧ Below w4.heap.size w4 wc))
  case first =>
    have hkk := HK.out
    cases st with
    | true =>
      obtain ⟨rfl, rfl⟩ := hkk
      go_wp2
      go_meet
      exact ⟨w4.heap.size, rfl, rfl, Lib.hid ⟨Nat.le_refl _, heap_alloc_new w4 _, (Below.refl _ _).alloc (Nat.le_refl _) _⟩⟩
    | false =>
      obtain ⟨rfl, rfl⟩ := hkk
      go_wp2
      go_meet
      exact ⟨w4.heap.size, rfl, rfl, Lib.hid ⟨Nat.le_refl _, heap_alloc_new w4 _, (Below.refl _ _).alloc (Nat.le_refl _) _⟩⟩
  case rest =>
    obtain ⟨xb, rfl, rfl, HX⟩ := hcut
    have hB : Below w.heap.size w wc := HB4.out.trans (HX.out.2.2.mono HB4.out.size)
    have hO := own_below HOWN.out hB
    have zxb := blk_lt HX.out.2.1
    have hge : w.heap.size ≤ xb := Nat.le_trans HB4.out.size HX.out.1
    have hgx : ¬ g = xb := by omega
    have hxg : ¬ xb = g := by omega
    have hsl : ∀ W, (Instr.slice 44 (.slice (some ⟨g, 0, none⟩) n cap) (some (.int .i64 ((i : Int) + 1))) (some (.int .i64 ((i : Int) + 1 + 1 + (r : Int)))) none).run Tryz.prog W = .ok (.slice (some ⟨g, (i + 1) * 14, none⟩) (r + 1) (cap - (i + 1))) W := fun W => by
      rw [run_slice_bounds (P := Tryz.prog) (size := 14) Tryz.underlying44 sizeP (some ⟨g, 0, none⟩) n cap (i + 1) (i + 1 + 1 + r) _ _ (by omega) (by omega) (by omega) (by omega) W, if_neg (by omega), Option.map_some, addr_add, show i + 1 + 1 + r - (i + 1) = r + 1 by omega]
    have hFl := flat_any wc w.heap.size hB.size (.slice (some ⟨g, (i + 1) * 14, none⟩) (r + 1) (cap - (i + 1))) pM (M.map (·.1)) (by
        have hpo : PRead wc (.slice (some ⟨g, 0, none⟩) n cap) (pA ++ px :: (pM ++ py :: pC)) := by
          have hnl : n = (pA ++ px :: (pM ++ py :: pC)).length := by
            have := HN.out
            simp
            omega
          have h := hO
          rw [hnl] at h ⊢
          exact pread_own h
        have h := pread_part hpo (i + 1) (r + 1) (cap - (i + 1)) (by have := HN.out; simp; omega)
        have e : ((pA ++ px :: (pM ++ py :: pC)).drop (i + 1)).take (r + 1) = pM := by
          have e1 : pA ++ px :: (pM ++ py :: pC) = (pA ++ [px]) ++ (pM ++ py :: pC) := by simp
          rw [e1, List.drop_left' (by have := HN.out; simp; omega), List.take_left' HN.out.2.2]
        rwa [e] at h) ((HFM.out.map fun a b h => h.rep).mono fun a b h => h.keep (keepT_below hB) (keepT_below hB) (Nat.le_refl _)) (by have := HN.out; omega) hwM
    have HO := Lib.hid hO
    have HB := Lib.hid hB
    clear hO hB
    go_wp2_with fail
    refine hFl.mono ?_
    rintro e w6 ⟨kv, ns, rfl, hKv⟩
    obtain ⟨kA, kc, rfl⟩ := row_slice hKv.own
    have hx6 := (hKv.bel.block xb zxb).trans HX.out.2.1
    have z7 : w6.cell? ⟨xb, 7, none⟩ = some (.slice none 0 0) := cell_of_row _ _ _ _ _ _ hx6
    have zf : w6.frozen? ⟨xb, 7, none⟩ = false := frozen_of_row _ _ _ _ _ hx6
    have zx6 := blk_lt hx6
    have HX6 := Lib.hid hx6
    have HKV := Lib.hid hKv
    clear hFl hx6 hKv hsl
    go_upto_region 7 with fail
    -- the node's kids are there
    have HX7 : Hid ((w6.setCell ⟨xb, 7, none⟩ (.slice kA ns.length kc)).heap[xb]? = some (.cells #[.int .i64 (kn : Int), .int .i64 0, .bool false, .bool false, .string ⟨#[]⟩, .string ⟨#[]⟩, .string ⟨#[]⟩, .slice kA ns.length kc] 27 (0, 0))) := Lib.hid (heap_setCell_same w6 xb 7 _ _ _ HX6.out)
    have HO7 : Hid ((w6.setCell ⟨xb, 7, none⟩ (.slice kA ns.length kc)).ownsRow base 67 14 (.slice (some ⟨g, 0, none⟩) n cap) n (pvRow (pA ++ px :: (pM ++ py :: pC)))) := Lib.hid (own_set (own_below HO.out HKV.out.bel) ⟨xb, 7, none⟩ _ (by simp [Value.ownBlock]; exact hgx))
    have HKV7 : Hid ((w6.setCell ⟨xb, 7, none⟩ (.slice kA ns.length kc)).ownsRow wc.heap.size NodeT 8 (.slice kA ns.length kc) ns.length (nvRow ns) ∧ Fit (NRep wc w.heap.size) ns (Spec.flat (M.map (·.1)))) := Lib.hid ⟨own_set HKV.out.own ⟨xb, 7, none⟩ _ (fun e => by have := (HKV.out.own.lt xb e).1; omega), HKV.out.fit⟩
    have HT7 : Hid (Two w (w6.setCell ⟨xb, 7, none⟩ (.slice kA ns.length kc)) g g) := Lib.hid ((Two.of_below (HB.out.trans (HKV.out.bel.mono HB.out.size))).set (.inr (.inr hge)) _)
    have zs7 : w.heap.size ≤ (w6.setCell ⟨xb, 7, none⟩ (.slice kA ns.length kc)).heap.size := HT7.out.size
    clear z7 zf zx6 HX6 HKV
    generalize w6.setCell ⟨xb, 7, none⟩ (.slice kA ns.length kc) = w7 at HX7 HO7 HKV7 HT7 zs7 ⊢
    have hgetx : (pA ++ px :: (pM ++ py :: pC))[i]? = some px := by rw [HN.out.2.1]; simp
    obtain ⟨q1, q2⟩ := own_cell HO7.out i 10 px _ hgetx rfl
    clear hgetx
    go_upto_region 8 with fail
    have hcx : (px.left : Int) - (k : Int) = ((px.left - k : Nat) : Int) := by omega
    rw [hcx]
    have HX8 : Hid ((w7.setCell ⟨g, i * 14 + 10, none⟩ (.int .i64 ((px.left - k : Nat) : Int))).heap[xb]? = some (.cells #[.int .i64 (kn : Int), .int .i64 0, .bool false, .bool false, .string ⟨#[]⟩, .string ⟨#[]⟩, .string ⟨#[]⟩, .slice kA ns.length kc] 27 (0, 0))) := Lib.hid ((heap_setCell_other w7 _ _ _ hxg).trans HX7.out)
    have HO8 : Hid ((w7.setCell ⟨g, i * 14 + 10, none⟩ (.int .i64 ((px.left - k : Nat) : Int))).ownsRow base 67 14 (.slice (some ⟨g, 0, none⟩) n cap) n (pvRow (pA ++ { px with left := px.left - k } :: (pM ++ py :: pC)))) := Lib.hid (by
      have h := (HO7.out.stored (i * 14 + 10) (.int .i64 ((px.left - k : Nat) : Int))).1
      rw [HN.out.2.1, left_set] at h
      rw [HN.out.2.1]
      exact h)
    have HKV8 : Hid ((w7.setCell ⟨g, i * 14 + 10, none⟩ (.int .i64 ((px.left - k : Nat) : Int))).ownsRow wc.heap.size NodeT 8 (.slice kA ns.length kc) ns.length (nvRow ns)) := Lib.hid (own_set HKV7.out.1 ⟨g, i * 14 + 10, none⟩ _ (fun e => by have := (HKV7.out.1.lt g e).1; have := HB.out.size; omega))
    have HT8 : Hid (Two w (w7.setCell ⟨g, i * 14 + 10, none⟩ (.int .i64 ((px.left - k : Nat) : Int))) g g) := Lib.hid (HT7.out.set (.inl rfl) _)
    clear q1 q2 HX7 HO7 HT7 zs7
    generalize w7.setCell ⟨g, i * 14 + 10, none⟩ (.int .i64 ((px.left - k : Nat) : Int)) = w8 at HX8 HO8 HKV8 HT8 ⊢
    have hgety : (pA ++ { px with left := px.left - k } :: (pM ++ py :: pC))[i + 1 + 1 + r]? = some py := by
      have h := HN.out
      have e1 : pA ++ { px with left := px.left - k } :: (pM ++ py :: pC) = (pA ++ { px with left := px.left - k } :: pM) ++ py :: pC := by simp
      have e2 : i + 1 + 1 + r = (pA ++ { px with left := px.left - k } :: pM).length := by simp; omega
      rw [e1, e2]
      simp
    obtain ⟨q1, q2⟩ := own_cell HO8.out (i + 1 + 1 + r) 10 py _ hgety rfl
    clear hgety
    go_upto_region 9 with fail
    have hcy : (py.left : Int) - (k : Int) = ((py.left - k : Nat) : Int) := by omega
    rw [hcy]
    obtain ⟨px9, hpx9⟩ : ∃ p : PV, p = { px with left := px.left - k } := ⟨_, rfl⟩
    obtain ⟨py9, hpy9⟩ : ∃ p : PV, p = { py with left := py.left - k } := ⟨_, rfl⟩
    have HX9 : Hid ((w8.setCell ⟨g, (i + 1 + 1 + r) * 14 + 10, none⟩ (.int .i64 ((py.left - k : Nat) : Int))).heap[xb]? = some (.cells #[.int .i64 (kn : Int), .int .i64 0, .bool false, .bool false, .string ⟨#[]⟩, .string ⟨#[]⟩, .string ⟨#[]⟩, .slice kA ns.length kc] 27 (0, 0))) := Lib.hid ((heap_setCell_other w8 _ _ _ hxg).trans HX8.out)
    have HO9 : Hid ((w8.setCell ⟨g, (i + 1 + 1 + r) * 14 + 10, none⟩ (.int .i64 ((py.left - k : Nat) : Int))).ownsRow base 67 14 (.slice (some ⟨g, 0, none⟩) n cap) n (pvRow (pA ++ px9 :: (pM ++ py9 :: pC)))) := Lib.hid (by
      have h := (HO8.out.stored ((i + 1 + 1 + r) * 14 + 10) (.int .i64 ((py.left - k : Nat) : Int))).1
      have h2 := HN.out
      have e1 : ∀ z : PV, pA ++ px9 :: (pM ++ z :: pC) = (pA ++ px9 :: pM) ++ z :: pC := fun z => by simp
      have e2 : i + 1 + 1 + r = (pA ++ px9 :: pM).length := by simp; omega
      rw [← hpx9, e1, e2, left_set, ← hpy9, ← e1] at h
      rw [e2]
      exact h)
    have HKV9 : Hid ((w8.setCell ⟨g, (i + 1 + 1 + r) * 14 + 10, none⟩ (.int .i64 ((py.left - k : Nat) : Int))).ownsRow wc.heap.size NodeT 8 (.slice kA ns.length kc) ns.length (nvRow ns)) := Lib.hid (own_set HKV8.out ⟨g, (i + 1 + 1 + r) * 14 + 10, none⟩ _ (fun e => by have := (HKV8.out.lt g e).1; have := HB.out.size; omega))
    have HT9 : Hid (Two w (w8.setCell ⟨g, (i + 1 + 1 + r) * 14 + 10, none⟩ (.int .i64 ((py.left - k : Nat) : Int))) g g) := Lib.hid (HT8.out.set (.inl rfl) _)
    have HP9 : Hid (px9 = { px with left := px.left - k } ∧ py9 = { py with left := py.left - k }) := Lib.hid ⟨hpx9, hpy9⟩
    clear q1 q2 HX8 HO8 HT8 HKV8 hpx9 hpy9 hcx hcy
    generalize w8.setCell ⟨g, (i + 1 + 1 + r) * 14 + 10, none⟩ (.int .i64 ((py.left - k : Nat) : Int)) = w9 at HX9 HO9 HKV9 HT9 ⊢
    have y0 : w9.cell? ⟨xb, 0, none⟩ = some (.int .i64 (kn : Int)) := cell_of_row _ _ _ _ _ _ HX9.out
    have y1 : w9.cell? ⟨xb, 1, none⟩ = some (.int .i64 0) := cell_of_row _ _ _ _ _ _ HX9.out
    have y2 : w9.cell? ⟨xb, 2, none⟩ = some (.bool false) := cell_of_row _ _ _ _ _ _ HX9.out
    have y3 : w9.cell? ⟨xb, 3, none⟩ = some (.bool false) := cell_of_row _ _ _ _ _ _ HX9.out
    have y4 : w9.cell? ⟨xb, 4, none⟩ = some (.string ⟨#[]⟩) := cell_of_row _ _ _ _ _ _ HX9.out
    have y5 : w9.cell? ⟨xb, 5, none⟩ = some (.string ⟨#[]⟩) := cell_of_row _ _ _ _ _ _ HX9.out
    have y6 : w9.cell? ⟨xb, 6, none⟩ = some (.string ⟨#[]⟩) := cell_of_row _ _ _ _ _ _ HX9.out
    have y7 : w9.cell? ⟨xb, 7, none⟩ = some (.slice kA ns.length kc) := cell_of_row _ _ _ _ _ _ HX9.out
    obtain ⟨pn, hpn⟩ : ∃ p : PV, p = ⟨kn, ⟨#[]⟩, ⟨#[]⟩, ⟨#[]⟩, .slice kA ns.length kc, false, none, 0, false, false, false⟩ := ⟨_, rfl⟩
    have hqa := heap_alloc_new w9 (.cells pn.cells.toArray 67)
    have hgw9 : g < w9.heap.size := (HO9.out.lt g rfl).2
    have hone9 : ∀ p ∈ pA ++ px9 :: (pM ++ py9 :: pC), p.kids.oneCell' = true := by
      intro p hp
      have h := HK1.out
      have e := HP9.out
      simp only [List.mem_append, List.mem_cons] at hp h
      rcases hp with h1 | rfl | h1 | rfl | h1
      · exact h p (.inl h1)
      · rw [e.1]; exact h px (.inr (.inl rfl))
      · exact h p (.inr (.inr (.inl h1)))
      · rw [e.2]; exact h py (.inr (.inr (.inr (.inl rfl))))
      · exact h p (.inr (.inr (.inr (.inr h1))))
    have hR := replace_any (w9.alloc (.cells pn.cells.toArray 67)) base g cap w9.heap.size (i + 1) r (pC.length + 1) (pA ++ px9 :: (pM ++ py9 :: pC)) pn (by rw [← HN.out.1]; exact HO9.out.alloc _) (by omega) hqa (by omega) hone9 (by rw [hpn]; rfl) (by have := HN.out; omega) (by have := HN.out; simp; omega)
    rw [← HN.out.1] at hR
    simp only [Int.natCast_add, Int.natCast_one] at hR
    have HPN := Lib.hid hpn
    have hcells : pn.cells.toArray = #[.int .i64 (kn : Int), .int .i64 0, .bool false, .bool false, .string ⟨#[]⟩, .string ⟨#[]⟩, .string ⟨#[]⟩, .slice kA ns.length kc, .bool false, .pointer none, .int .i64 0, .bool false, .bool false, .bool false] := by rw [hpn]; rfl
    rw [hcells] at hR
    have HCE := Lib.hid hcells
    clear hpn hqa hone9 hcells
    go_wp2_with fail
    refine hR.mono ?_
    rintro e w' ⟨rfl, hO', hG'⟩
    clear hR y0 y1 y2 y3 y4 y5 y6 y7
    have HO' := Lib.hid hO'
    have HG' := Lib.hid hG'
    clear hO' hG'
    go_wp2
    go_ret
    have hN := HN.out
    have et : (pA ++ px9 :: (pM ++ py9 :: pC)).take (i + 1) = pA ++ [px9] := by
      have e1 : pA ++ px9 :: (pM ++ py9 :: pC) = (pA ++ [px9]) ++ (pM ++ py9 :: pC) := by simp
      rw [e1, List.take_left' (by simp; omega)]
    have ed : (pA ++ px9 :: (pM ++ py9 :: pC)).drop (i + 1 + 1 + r) = py9 :: pC := by
      have e1 : pA ++ px9 :: (pM ++ py9 :: pC) = (pA ++ px9 :: pM) ++ py9 :: pC := by simp
      rw [e1, List.drop_left' (by simp; omega)]
    have hO2 := HO'.out
    rw [et, ed] at hO2
    have e5 : pA ++ [px9] ++ pn :: py9 :: pC = pA ++ px9 :: pn :: py9 :: pC := by simp
    have e6 : i + 1 + 1 + (pC.length + 1) = (pA ++ px9 :: pn :: py9 :: pC).length := by simp; omega
    rw [e5, e6] at hO2
    have hT' : Two w w' g g := (HT9.out.alloc _).grown HG'.out
    obtain ⟨cg, hcg⟩ := HG.out
    have kN : KeepT NodeT w.heap.size w w' := keepT_two hcg hT' (by decide)
    have kM : KeepT 62 w.heap.size w w' := keepT_two hcg hT' (by decide)
    have hkeep : ∀ (p : PV) (z : Pl.NP), NRel w w.heap.size allb p z → NRel w' w'.heap.size allb p z := fun p z h => h.keep kN kM hT'.size
    have hKv' : KRep w' w'.heap.size (.slice kA ns.length kc) (Spec.flat (M.map (·.1))) := by
      have h1 : (w9.alloc (.cells #[.int .i64 (kn : Int), .int .i64 0, .bool false, .bool false, .string ⟨#[]⟩, .string ⟨#[]⟩, .string ⟨#[]⟩, .slice kA ns.length kc, .bool false, .pointer none, .int .i64 0, .bool false, .bool false, .bool false] 67)).ownsRow wc.heap.size NodeT 8 (.slice kA ns.length kc) ns.length (nvRow ns) := HKV9.out.alloc _
      have h2 := own_two2 h1 (by rw [← HCE.out]; rw [HCE.out]; exact HG'.out) (fun e => by have := (HKV9.out.lt g e).1; have := HB.out.size; omega)
      refine krep_own h2 (HKV7.out.2.keep ?_ hT'.size)
      have kwc : KeepT NodeT w.heap.size wc w' := fun b cur hb hr => by
        have hr0 : w.heap[b]? = some (.cells cur NodeT (0, 0)) := by rw [← HB.out.block b hb]; exact hr
        exact kN b cur hb hr0
      exact kwc
    refine ⟨pA ++ px9 :: pn :: py9 :: pC, by rw [← e6]; rfl, hO2, ?_, hT'.by_⟩
    have eP := HP9.out
    refine (HFA.out.mono hkeep).app (Fit.cons ?_ (Fit.cons ?_ (Fit.cons ?_ (HFC.out.mono hkeep))))
    · have h := hkeep _ _ HFX.out
      rw [eP.1]
      exact ⟨h.rep.cut k, h.num⟩
    · rw [HPN.out]
      exact ⟨⟨rfl, rfl, rfl, rfl, hKv', rfl, rfl, rfl, rfl, rfl, rfl⟩, rfl⟩
    · have h := hkeep _ _ HFY.out
      rw [eP.2]
      exact ⟨h.rep.cut k, h.num⟩
end Go.Proofs.YtmplfiflikhpjaaGreatDoor
/-
  Words for inline.nodes; delim.Match without Marks.
-/
namespace Go.Proofs.YtmplfiflikhpjaaGreatDoor
open Go.RowKit

def markCells (m : Spec.Mark) : List Value := [.int .u8 (m.sign.toNat : Int), .int .i64 (m.n : Int), .bool m.opn, .bool m.cls]
def marksRow (l : List Spec.Mark) : List Value := l.flatMap markCells
theorem marksRow_at (l : List Spec.Mark) (i j : Nat) (m : Spec.Mark) (h : l[i]? = some m) (hj : j < 4) : (marksRow l)[i * 4 + j]? = (markCells m)[j]? := flatMap_at markCells 4 (fun _ => rfl) l i j m h hj
theorem marksRow_snoc (l : List Spec.Mark) (m : Spec.Mark) : marksRow (l ++ [m]) = marksRow l ++ markCells m := by simp [marksRow]
theorem marksRow_len (l : List Spec.Mark) : (marksRow l).length = l.length * 4 := flatMap_len markCells 4 (fun _ => rfl) l
theorem pairsRow_at (l : List Spec.Pair) (i j : Nat) (p : Spec.Pair) (h : l[i]? = some p) (hj : j < 3) : (pairsRow l)[i * 3 + j]? = (pairCells p)[j]? := flatMap_at pairCells 3 (fun _ => rfl) l i j p h hj
def ptrRow (l : List Nat) : List Value := l.map fun b => .pointer (some ⟨b, 0, none⟩)
theorem info_markT : (Tryz.prog.info? 62).map (fun i => (i.zero, i.size, i.bytes)) = some (some (.agg #[.int .u8 0, .int .i64 0, .bool false, .bool false]), 4, 24) := by kernel_rfl
theorem info_ptr : (Tryz.prog.info? 65).map (fun i => (i.zero, i.size, i.bytes)) = some (some (.pointer none), 1, 8) := by kernel_rfl
/-! ### plain -/
theorem wt_cut (p : Spec.Piece) (k : Nat) : Pl.wt (Pl.cutP p k) ≤ Pl.wt p := by
  unfold Pl.wt Pl.cutP
  cases p.mark with
  | none => exact Nat.le_refl _
  | some m => show p.left - k ≤ p.left; omega
theorem wok_keep {L A M C : List Pl.NP} {pr : Spec.Pair} {x y : Spec.Piece} (h : Pl.WOk L pr A M C x y) (N : Nat) (hn : ∀ z ∈ L, ∀ q, z.2 = some q → q < N) :
    (∀ z ∈ Spec.wrap L pr, ∀ q, z.2 = some q → q < N) ∧ (Spec.wrap L pr).length ≤ L.length ∧ Pl.wtL ((Spec.wrap L pr).map (·.1)) ≤ Pl.wtL (L.map (·.1)) := by
  have hw := h.wrap
  have he := h.eq
  rw [hw]
  refine ⟨fun z hz q hq => ?_, ?_, ?_⟩
  · rcases List.mem_append.1 hz with h1 | h1
    · exact hn z (by rw [he]; simp [h1]) q hq
    · simp only [List.mem_cons] at h1
      rcases h1 with rfl | rfl | rfl | h1
      · exact hn (x, some pr.from_) (by rw [he]; simp) q hq
      · cases hq
      · exact hn (y, some pr.to) (by rw [he]; simp) q hq
      · exact hn z (by rw [he]; simp [h1]) q hq
  · have := List.length_pos_iff.2 h.M0
    rw [he]
    simp
    omega
  · rw [he]
    have e1 : (A ++ (x, some pr.from_) :: (M ++ (y, some pr.to) :: C)).map (·.1) = A.map (·.1) ++ ([x] ++ (M.map (·.1) ++ ([y] ++ C.map (·.1)))) := by simp
    have e2 : ∀ n : Spec.Piece, (A ++ (Pl.cutP x (Pl.nOf pr.strong), some pr.from_) :: (n, none) :: (Pl.cutP y (Pl.nOf pr.strong), some pr.to) :: C).map (·.1) = A.map (·.1) ++ ([Pl.cutP x (Pl.nOf pr.strong)] ++ ([n] ++ ([Pl.cutP y (Pl.nOf pr.strong)] ++ C.map (·.1)))) := fun n => by simp
    rw [e1, e2]
    simp only [Pl.wtL_app, Pl.wtL_one]
    have h1 := wt_cut x (Pl.nOf pr.strong)
    have h2 := wt_cut y (Pl.nOf pr.strong)
    have h3 : Pl.wt (Spec.plainP (.mk (if pr.strong = true then 14 else 13) [] [] [] (Spec.flat (M.map (·.1))))) = 0 := by cases pr.strong <;> rfl
    rw [h3]
    omega
theorem most_wt (ss : List Spec.Piece) (hF : Pl.Fresh ss) : Spec.most (ss.filterMap (·.mark)) ≤ Pl.wtL ss := by
  rw [most_sum]
  induction ss with
  | nil => exact Nat.le_refl _
  | cons p t ih =>
    have ih := ih (fun q hq => hF q (by simp [hq]))
    have e : Pl.wtL (p :: t) = Pl.wt p + Pl.wtL t := by rw [← List.singleton_append, Pl.wtL_app, Pl.wtL_one]
    rw [e, List.filterMap_cons]
    cases hm : p.mark with
    | none => simp only; omega
    | some m =>
      simp only [List.map_cons, List.sum_cons]
      have h1 := (hF p (by simp) m hm).1
      have h2 : Pl.wt p = p.left := by unfold Pl.wt; rw [hm]
      omega
theorem marks_len (ss : List Spec.Piece) : (ss.filterMap (·.mark)).length ≤ ss.length := List.length_filterMap_le _ _
/-- The marks of pieces and their blocks stand side by side. -/
theorem fit_marks {w : World} {B : Nat} {ps : List PV} {ss : List Spec.Piece} (h : Fit (PRep w B) ps ss) : (ps.filterMap (·.mark)).length = (ss.filterMap (·.mark)).length ∧ ∀ pre : List Nat, Fit (NRel w B (pre ++ ps.filterMap (·.mark))) ps (Spec.numbered pre.length ss) := by
  induction ss generalizing ps with
  | nil =>
    have : ps = [] := List.eq_nil_of_length_eq_zero h.1
    subst this
    exact ⟨rfl, fun pre => fit_nil _⟩
  | cons s t ih =>
    cases ps with
    | nil => cases h.1
    | cons p u =>
      obtain ⟨p', u', e, hr, ht⟩ := h.uncons
      injection e with e1 e2
      subst e1 e2
      obtain ⟨i1, i2⟩ := ih ht
      have hm := hr.mark
      cases hs : s.mark with
      | none =>
        rw [hs] at hm
        have hp : p.mark = none := hm
        have e1 : (p :: u).filterMap (·.mark) = u.filterMap (·.mark) := by rw [List.filterMap_cons]; simp only [hp]
        have e2 : (s :: t).filterMap (·.mark) = t.filterMap (·.mark) := by rw [List.filterMap_cons]; simp only [hs]
        have e3 : ∀ n, Spec.numbered n (s :: t) = (s, none) :: Spec.numbered n t := fun n => by rw [Spec.numbered]; simp only [hs]
        rw [e1, e2]
        refine ⟨i1, fun pre => ?_⟩
        rw [e3]
        exact Fit.cons ⟨hr, by rw [hp]; rfl⟩ (i2 pre)
      | some m =>
        rw [hs] at hm
        obtain ⟨mb, hp, _, _⟩ := hm
        have e1 : (p :: u).filterMap (·.mark) = mb :: u.filterMap (·.mark) := by rw [List.filterMap_cons]; simp only [hp]
        have e2 : (s :: t).filterMap (·.mark) = m :: t.filterMap (·.mark) := by rw [List.filterMap_cons]; simp only [hs]
        have e3 : ∀ n, Spec.numbered n (s :: t) = (s, some n) :: Spec.numbered (n + 1) t := fun n => by rw [Spec.numbered]; simp only [hs]
        rw [e1, e2]
        refine ⟨by simp [i1], fun pre => ?_⟩
        rw [e3]
        refine Fit.cons ⟨hr, ?_⟩ ?_
        · rw [hp]
          simp [List.getD]
        · have h2 := i2 (pre ++ [mb])
          rw [List.length_append, List.append_assoc] at h2
          exact h2
theorem numbered_lt (ss : List Spec.Piece) : ∀ n, ∀ z ∈ Spec.numbered n ss, ∀ q, z.2 = some q → q < n + (ss.filterMap (·.mark)).length := by
  induction ss with
  | nil => intro n z hz; cases hz
  | cons s t ih =>
    intro n z hz q hq
    cases hs : s.mark with
    | none =>
      have e3 : Spec.numbered n (s :: t) = (s, none) :: Spec.numbered n t := by rw [Spec.numbered]; simp only [hs]
      have e2 : (s :: t).filterMap (·.mark) = t.filterMap (·.mark) := by rw [List.filterMap_cons]; simp only [hs]
      rw [e3] at hz
      rw [e2]
      rcases List.mem_cons.1 hz with rfl | hz
      · cases hq
      · exact ih n z hz q hq
    | some m =>
      have e3 : Spec.numbered n (s :: t) = (s, some n) :: Spec.numbered (n + 1) t := by rw [Spec.numbered]; simp only [hs]
      have e2 : (s :: t).filterMap (·.mark) = m :: t.filterMap (·.mark) := by rw [List.filterMap_cons]; simp only [hs]
      rw [e3] at hz
      rw [e2, List.length_cons]
      rcases List.mem_cons.1 hz with rfl | hz
      · obtain rfl := Option.some.inj hq; omega
      · have := ih (n + 1) z hz q hq; omega
theorem nodup_getD (l : List Nat) (h : l.Nodup) : ∀ i j, i < l.length → j < l.length → l.getD i 0 = l.getD j 0 → i = j := by
  intro i j hi hj e
  rw [List.getD, List.getD, List.getElem?_eq_getElem hi, List.getElem?_eq_getElem hj] at e
  exact (List.getElem?_inj hi h).1 (by rw [List.getElem?_eq_getElem hi, List.getElem?_eq_getElem hj]; exact congrArg some e)
theorem take_marks {α β : Type} (f : α → Option β) (l : List α) (i : Nat) (x : α) (h : l[i]? = some x) : (l.take (i + 1)).filterMap f = (l.take i).filterMap f ++ (f x).toList := by
  rw [List.take_add_one, h, List.filterMap_append]
  cases hf : f x <;> simp [hf]

set_option maxHeartbeats 8000000 in
set_option maxRecDepth 100000 in
theorem match_nil (w : World) : Calls Tryz.prog 65 #[.slice none 0 0] w (MatchPost (Spec.matches_ []) w) := by
  have hmi := run_make_row' (P := Tryz.prog) 22 3 (.int .i64 0) 8 Tryz.underlying22 info_int rfl .i64 .i64 0 (by omega) (by omega)
  have hmb := run_make_row' (P := Tryz.prog) 119 4 (.bool false) 1 Tryz.underlying119 info_bool rfl .i64 .i64 0 (by omega) (by omega)
  rw [made_ints] at hmi
  rw [made_bools] at hmb
  simp only [Int.cast_ofNat_Int] at hmi hmb
  go_enter Tryz.func65, Tryz.ntmps65
  go_upto_region 1 with fail
  go_cut [3] (fun s3 wc => Hid (Below w.heap.size w wc))
  case first =>
    go_region
    all_goals
      go_wp2_with fail
      go_meet
      exact Lib.hid (by first | exact (al3_b w _ _ _).drew | exact al3_b w _ _ _)
  case rest =>
    have HB := hcut
    clear hcut
    go_wp2
    go_loopw [20] (fun v20 wr => v20 = .int .i64 0 ∧ Hid (Below w.heap.size w wr)) (fun _ _ => 0)
    case atStart => exact ⟨rfl, HB⟩
    case round =>
      obtain ⟨rfl, HJ⟩ := hrel
      go_wp2
      go_loopw [6, 46] (fun v6 v46 wq => v6 = .slice none 0 0 ∧ v46 = .int .i64 0 ∧ Hid (Below w.heap.size w wq)) (fun _ _ _ => 0)
      case atStart => exact ⟨rfl, rfl, HJ⟩
      case round =>
        obtain ⟨rfl, rfl, HQ⟩ := hrel
        go_wp2
        go_ret
        exact ⟨_, rfl, World.ownsRow_nil _ _ _ 3, HQ.out⟩
end Go.Proofs.YtmplfiflikhpjaaGreatDoor
/-
  inline.nodes: pieces as nodes, their marks matched.
-/
namespace Go.Proofs.YtmplfiflikhpjaaGreatDoor
open Go.RowKit

theorem below_drew2 {b : Nat} {w wr : World} (h : Below b w wr) : Below b w wr.drew := ⟨h.os, h.tape, h.output, h.size, h.block⟩
def NodesRes (ks : List Spec.Node) (w : World) (e : Ending) (w' : World) : Prop := ∃ kv, e = .returned kv ∧ KRep w' w'.heap.size kv ks ∧ Below w.heap.size w w'
theorem own_apart {w : World} {b1 b2 : Nat} {e1 e2 : TypeId} {s1 s2 : Nat} {v1 v2 : Value} {n1 n2 : Nat} {x1 x2 : List Value} (h1 : w.ownsRow b1 e1 s1 v1 n1 x1) (h2 : w.ownsRow b2 e2 s2 v2 n2 x2) (hne : e1 ≠ e2) : v1.ownBlock = none ∨ v1.ownBlock ≠ v2.ownBlock := by
  rcases h1.2 with ⟨rfl, _⟩ | ⟨g1, c1, cur1, rfl, _, hg1, _⟩
  · exact .inl rfl
  · refine .inr (fun e => ?_)
    rcases h2.2 with ⟨rfl, _⟩ | ⟨g2, c2, cur2, rfl, _, hg2, _⟩
    · simp [Value.ownBlock] at e
    · simp [Value.ownBlock] at e
      subst e
      exact blk_ne hg1 hg2 hne rfl
theorem own_base {w : World} {b b' : Nat} {e : TypeId} {s : Nat} {v : Value} {n : Nat} {x : List Value} (h : w.ownsRow b e s v n x) (hb : b' ≤ b) : w.ownsRow b' e s v n x := by
  refine ⟨h.1, ?_⟩
  rcases h.2 with h0 | ⟨g, c, cur, hv, h1, h2⟩
  · exact .inl h0
  · exact .inr ⟨g, c, cur, hv, by omega, h2⟩
/-- What is carried through the first loop. -/
structure LoopA (w wr : World) (v1 v3 v4 : Value) (ps : List PV) (ms : List Spec.Mark) (al : List Nat) : Prop where
  own : wr.ownsRow w.heap.size 67 14 v1 ps.length (pvRow ps)
  mo : wr.ownsRow w.heap.size 62 4 v3 ms.length (marksRow ms)
  mn : ms = [] → v3 = .slice none 0 0
  ao : wr.ownsRow w.heap.size 65 1 v4 al.length (ptrRow al)
  bel : Below w.heap.size w wr
theorem LoopA.below {w wr w2 : World} {v1 v3 v4 : Value} {ps : List PV} {ms : List Spec.Mark} {al : List Nat} (h : LoopA w wr v1 v3 v4 ps ms al) (hb : Below wr.heap.size wr w2) : LoopA w w2 v1 v3 v4 ps ms al :=
  ⟨own_below h.own hb, own_below h.mo hb, h.mn, own_below h.ao hb, h.bel.trans (hb.mono h.bel.size)⟩
theorem LoopA.mark {w wr w7 : World} {v1 v3 v4 v' : Value} {ps : List PV} {ms : List Spec.Mark} {al : List Nat} {m : Spec.Mark} (h : LoopA w wr v1 v3 v4 ps ms al) (ho : w7.ownsRow w.heap.size 62 4 v' (ms.length + 1) (marksRow ms ++ markCells m)) (hg : wr.grownBy w7 v3.ownBlock) :
    LoopA w w7 v1 v' v4 ps (ms ++ [m]) al :=
  ⟨h.own.kept hg (own_apart h.own h.mo (by decide)), by rw [List.length_append, marksRow_snoc]; exact ho, fun e => by simp at e, h.ao.kept hg (own_apart h.ao h.mo (by decide)), h.bel.grown hg h.bel.size (fun q hq => (h.mo.lt q hq).1)⟩
theorem LoopA.ptr {w wr w7 : World} {v1 v3 v4 v' : Value} {ps : List PV} {ms : List Spec.Mark} {al : List Nat} {b : Nat} (h : LoopA w wr v1 v3 v4 ps ms al) (ho : w7.ownsRow w.heap.size 65 1 v' (al.length + 1) (ptrRow al ++ [.pointer (some ⟨b, 0, none⟩)])) (hg : wr.grownBy w7 v4.ownBlock) :
    LoopA w w7 v1 v3 v' ps ms (al ++ [b]) :=
  ⟨h.own.kept hg (own_apart h.own h.ao (by decide)), h.mo.kept hg (own_apart h.mo h.ao (by decide)), h.mn, by rw [List.length_append]; unfold ptrRow at ho ⊢; rw [List.map_append]; exact ho, h.bel.grown hg h.bel.size (fun q hq => (h.ao.lt q hq).1)⟩
/-- A block of another type stands behind what a row has grown to. -/
theorem grown_far {w w7 : World} {b : Nat} {e t : TypeId} {s n : Nat} {v : Value} {x : List Value} {g : Nat} {cs : Array Value} (h : w.ownsRow b e s v n x) (hg : w.grownBy w7 v.ownBlock) (hr : w.heap[g]? = some (.cells cs t (0, 0))) (hne : e ≠ t) : w7.heap[g]? = some (.cells cs t (0, 0)) := by
  refine (hg.block g (blk_lt hr) (fun e2 => ?_)).trans hr
  rcases h.2 with ⟨rfl, _⟩ | ⟨g', c, cur, rfl, _, hg', _⟩
  · simp [Value.ownBlock] at e2
  · simp [Value.ownBlock] at e2
    subst e2
    exact blk_ne hg' hr hne rfl
/-- What is carried through the second loop. -/
structure LoopB (w wr : World) (v0 v4 v34 : Value) (al : List Nat) (prs : List Spec.Pair) (cur : List PV) (L : List Pl.NP) : Prop where
  own : wr.ownsRow w.heap.size 67 14 v0 cur.length (pvRow cur)
  ao : wr.ownsRow w.heap.size 65 1 v4 al.length (ptrRow al)
  po : wr.ownsRow w.heap.size 75 3 v34 prs.length (pairsRow prs)
  fit : Fit (NRel wr wr.heap.size al) cur L
  bel : Below w.heap.size w wr
theorem LoopB.below {w wr w2 : World} {v0 v4 v34 : Value} {al : List Nat} {prs : List Spec.Pair} {cur : List PV} {L : List Pl.NP} (h : LoopB w wr v0 v4 v34 al prs cur L) (hb : Below wr.heap.size wr w2) : LoopB w w2 v0 v4 v34 al prs cur L :=
  ⟨own_below h.own hb, own_below h.ao hb, own_below h.po hb, h.fit.mono (fun _p _z hr => hr.keep (keepT_below hb) (keepT_below hb) hb.size), h.bel.trans (hb.mono h.bel.size)⟩
def lfL (L : List Pl.NP) : Nat := (L.map fun z => if z.2.isSome = true then z.1.left else 0).sum
theorem lfL_app (a b : List Pl.NP) : lfL (a ++ b) = lfL a + lfL b := by simp [lfL]
theorem lfL_cons (z : Pl.NP) (b : List Pl.NP) : lfL (z :: b) = (if z.2.isSome = true then z.1.left else 0) + lfL b := by simp [lfL]
theorem good_len {prs : List Spec.Pair} {L : List Pl.NP} (h : Pl.Good prs L) : prs.length ≤ lfL L := by
  induction h with
  | nil L => exact Nat.zero_le _
  | cons p ps L A M C x y hw _ ih =>
    rw [hw.wrap] at ih
    rw [hw.eq]
    have h1 := hw.l1
    have h2 := hw.l2
    have h3 : 1 ≤ Pl.nOf p.strong := by cases p.strong <;> decide
    have e1 : (Pl.cutP x (Pl.nOf p.strong)).left = x.left - Pl.nOf p.strong := rfl
    have e2 : (Pl.cutP y (Pl.nOf p.strong)).left = y.left - Pl.nOf p.strong := rfl
    simp only [lfL_app, lfL_cons, Option.isSome_some, Option.isSome_none, if_true, e1, e2, Bool.false_eq_true, if_false] at ih ⊢
    rw [List.length_cons]
    omega
theorem lfL_numbered (ss : List Spec.Piece) (k : Nat) : lfL (Spec.numbered k ss) ≤ Pl.wtL ss := by
  induction ss generalizing k with
  | nil => exact Nat.le_refl _
  | cons p t ih =>
    have e : Pl.wtL (p :: t) = Pl.wt p + Pl.wtL t := by rw [← List.singleton_append, Pl.wtL_app, Pl.wtL_one]
    rw [e]
    unfold Spec.numbered
    cases hm : p.mark with
    | none =>
      simp only
      rw [lfL_cons]
      have := ih k
      simp only [Option.isSome_none, Bool.false_eq_true, if_false]
      omega
    | some m =>
      simp only
      rw [lfL_cons]
      have := ih (k + 1)
      have h2 : Pl.wt p = p.left := by unfold Pl.wt; rw [hm]
      simp only [Option.isSome_some, if_true]
      omega
/-- The steps of the pairs. -/
structure StepB (ss : List Spec.Piece) (prs : List Spec.Pair) (N j : Nat) (L : List Pl.NP) : Prop where
  good : Pl.Good (prs.drop j) L
  eq : L = (prs.take j).foldl Spec.wrap (Spec.numbered 0 ss)
  lt : ∀ z ∈ L, ∀ q, z.2 = some q → q < N
  wt : Pl.wtL (L.map (·.1)) ≤ 1000000
  len : L.length ≤ 100000
theorem StepB.next {ss : List Spec.Piece} {prs : List Spec.Pair} {N j : Nat} {L : List Pl.NP} (h : StepB ss prs N j L) (pr : Spec.Pair) (hp : prs[j]? = some pr) : ∃ A M C x y, Pl.WOk L pr A M C x y ∧ StepB ss prs N (j + 1) (Spec.wrap L pr) := by
  have hj : j < prs.length := (List.getElem?_eq_some_iff.1 hp).1
  have hd : prs.drop j = pr :: prs.drop (j + 1) := by
    rw [List.drop_eq_getElem_cons hj]
    obtain ⟨_, rfl⟩ := List.getElem?_eq_some_iff.1 hp
    rfl
  have hg := h.good
  rw [hd] at hg
  cases hg with
  | cons _ _ _ A M C x y hw hg2 =>
    obtain ⟨k1, k2, k3⟩ := wok_keep hw N h.lt
    refine ⟨A, M, C, x, y, hw, hg2, ?_, k1, Nat.le_trans k3 h.wt, Nat.le_trans k2 h.len⟩
    rw [List.take_add_one, hp, Option.toList_some, List.foldl_append, ← h.eq]
    rfl

set_option maxHeartbeats 32000000 in
set_option maxRecDepth 100000 in
theorem nodes_any (w : World) (v : Value) (ps : List PV) (ss : List Spec.Piece) (hv : PRead w v ps) (hf : Fit (PRep w w.heap.size) ps ss) (hA : Pl.Apt ss) (hF : Pl.Fresh ss) (hd : (ps.filterMap (·.mark)).Nodup)
    (hlen : ps.length ≤ 100000) (hwt : Pl.wtL ss ≤ 1000000) :
    Calls Tryz.prog 27 #[v] w (NodesRes (Spec.nodes ss) w) := by
  have hC := clone_any w v ps hv (hf.all fun a b h => h.kid1) hlen
  obtain ⟨i0, hi0, hz0, hz1, hz2⟩ := info_parts info_markT
  obtain ⟨j0, hj0, hy0, hy1, hy2⟩ := info_parts info_ptr
  have HF := Lib.hid hf
  have HS := Lib.hid (And.intro hA (And.intro hF hd))
  clear hf hA hF hd hv
  go_enter Tryz.func27, Tryz.ntmps27
  go_wp2_with fail
  refine hC.mono ?_
  rintro e w1 ⟨v1, rfl, ho1, hb1⟩
  have H1 := Lib.hid (And.intro ho1 hb1)
  obtain ⟨A1, cp1, rfl⟩ := row_slice ho1
  clear ho1 hb1 hC
  go_wp2
  go_loopw [3, 4, 13] (fun v3 v4 v13 wr => ∃ i : Nat, i ≤ ps.length ∧ v13 = .int .i64 (i : Int) ∧ Hid (LoopA w wr (.slice A1 ps.length cp1) v3 v4 ps ((ss.take i).filterMap (·.mark)) ((ps.take i).filterMap (·.mark)))) (fun _ _ v13 _ => ps.length - (intOf v13).toNat)
  case atStart => exact ⟨0, Nat.zero_le _, rfl, Lib.hid ⟨H1.out.1, World.ownsRow_nil _ _ _ 4, fun _ => rfl, World.ownsRow_nil _ _ _ 1, H1.out.2⟩⟩
  case round =>
    obtain ⟨i, hi, rfl, HJ⟩ := hrel
    by_cases hp : i < ps.length
    · have hpi : (i : Int) < ps.length := by omega
      obtain ⟨p, hpp⟩ : ∃ p, ps[i]? = some p := ⟨_, List.getElem?_eq_getElem hp⟩
      obtain ⟨sp, hss, hrep⟩ := HF.out.at_ hpp
      obtain ⟨A2, cp2, he, hcl⟩ := pread_own HJ.out.own
      injection he with e1 e2 e3
      subst e1
      obtain ⟨b, off, rfl, hlt, hcell⟩ := hcl (by omega)
      have hms := take_marks (·.mark) ss i sp hss
      have hal := take_marks (·.mark) ps i p hpp
      obtain ⟨kd, tx, ur, ti, kv, ra, mk, lf, im, no, de⟩ := p
      obtain ⟨kA, kcap, hkv⟩ := hrep.kids.len
      simp only at hkv
      subst hkv
      obtain ⟨kn, hkn⟩ : ∃ kn, kn = sp.node.kids.length := ⟨_, rfl⟩
      rw [← hkn] at hpp hrep hal
      clear hkn
      have hcw : ∀ (j : Nat) (u : Value), (PV.mk kd tx ur ti (.slice kA kn kcap) ra mk lf im no de).cells[j]? = some u → wr.cell? ⟨b, off + i * 14 + j, none⟩ = some u := fun j u hu => hcell i _ hpp j u hu
      have c0 := hcw 0 _ rfl
      have c1 := hcw 1 _ rfl
      have c2 := hcw 2 _ rfl
      have c3 := hcw 3 _ rfl
      have c4 := hcw 4 _ rfl
      have c5 := hcw 5 _ rfl
      have c6 := hcw 6 _ rfl
      have c7 := hcw 7 _ rfl
      have c8 := hcw 8 _ rfl
      have c9 := hcw 9 _ rfl
      have c10 := hcw 10 _ rfl
      have c11 := hcw 11 _ rfl
      have c12 := hcw 12 _ rfl
      have c13 := hcw 13 _ rfl
      rw [Nat.add_zero] at c0
      simp only at c0 c1 c2 c3 c4 c5 c6 c7 c8 c9 c10 c11 c12 c13
      unfold markPtr at c9
      have hmk := hrep.mark
      clear hcw hcell hrep hss hpp e2 e3 hcl
      cases hm : sp.mark with
      | none =>
        rw [hm] at hmk hms
        simp only at hmk
        subst hmk
        have HN : Hid (LoopA w wr (.slice (some ⟨b, off, none⟩) ps.length cp1) u3 u4 ps ((ss.take (i + 1)).filterMap (·.mark)) ((ps.take (i + 1)).filterMap (·.mark))) := Lib.hid (by
          rw [hms, hal]
          simpa using HJ.out)
        have HB := Lib.hid ((Below.refl wr.heap.size wr).alloc (Nat.le_refl _) (.cells #[.int .i64 (kd : Int), .int .i64 0, .bool false, .bool false, .string tx, .string ur, .string ti, .slice kA kn kcap, .bool ra, .pointer none, .int .i64 (lf : Int), .bool im, .bool no, .bool de] 67))
        clear hms hal hm HJ
        go_wp2
        go_roundw
        case rel => exact ⟨i + 1, by omega, by go_num, Lib.hid (HN.out.below HB.out)⟩
        case measure => simp [intOf]; omega
      | some m =>
        rw [hm] at hmk hms
        simp only at hmk
        obtain ⟨mb, hmk, hmlt, hmrow⟩ := hmk
        subst hmk
        have hmr := (HJ.out.bel.block mb hmlt).trans hmrow
        have zmb : mb < wr.heap.size := Nat.lt_of_lt_of_le hmlt HJ.out.bel.size
        have m0 : wr.cell? ⟨mb, 0, none⟩ = some (.int .u8 (m.sign.toNat : Int)) := cell_of_row _ _ _ _ _ _ hmr
        have m1 : wr.cell? ⟨mb, 1, none⟩ = some (.int .i64 (m.n : Int)) := cell_of_row _ _ _ _ _ _ hmr
        have m2 : wr.cell? ⟨mb, 2, none⟩ = some (.bool m.opn) := cell_of_row _ _ _ _ _ _ hmr
        have m3 : wr.cell? ⟨mb, 3, none⟩ = some (.bool m.cls) := cell_of_row _ _ _ _ _ _ hmr
        have hl1 : ((ss.take i).filterMap (·.mark)).length ≤ 100000 := by
          have h1 := marks_len (ss.take i)
          have h2 := HF.out.1
          rw [List.length_take] at h1
          omega
        have hl2 : ((ps.take i).filterMap (·.mark)).length ≤ 100000 := by
          have h1 := List.length_filterMap_le (·.mark) (ps.take i)
          rw [List.length_take] at h1
          omega
        have HMA := Lib.hid (And.intro hms hal)
        have hcm : ∀ (b : Nat), (some b : Option Nat).map (fun b => (⟨b, 0, none⟩ : Addr)) = some ⟨b, 0, none⟩ := fun _ => rfl
        rw [hcm] at c9
        clear hms hal hm hmr hmrow hcm
        generalize hmsi : (ss.take i).filterMap (·.mark) = msi at HJ hl1 HMA
        generalize hali : (ps.take i).filterMap (·.mark) = ali at HJ hl2 HMA
        clear hmsi hali
        go_upto_region 8 with fail
        have hX := heap_alloc_new wr (.cells #[.int .i64 (kd : Int), .int .i64 0, .bool false, .bool false, .string tx, .string ur, .string ti, .slice kA kn kcap, .bool ra, .pointer (some ⟨mb, 0, none⟩), .int .i64 (lf : Int), .bool im, .bool no, .bool de] 67)
        have hJX := HJ.out.below ((Below.refl wr.heap.size wr).alloc (Nat.le_refl _) (.cells #[.int .i64 (kd : Int), .int .i64 0, .bool false, .bool false, .string tx, .string ur, .string ti, .slice kA kn kcap, .bool ra, .pointer (some ⟨mb, 0, none⟩), .int .i64 (lf : Int), .bool im, .bool no, .bool de] 67))
        have m0 := (World.cell?_alloc_lt wr (.cells #[.int .i64 (kd : Int), .int .i64 0, .bool false, .bool false, .string tx, .string ur, .string ti, .slice kA kn kcap, .bool ra, .pointer (some ⟨mb, 0, none⟩), .int .i64 (lf : Int), .bool im, .bool no, .bool de] 67) ⟨mb, 0, none⟩ zmb).trans m0
        have m1 := (World.cell?_alloc_lt wr (.cells #[.int .i64 (kd : Int), .int .i64 0, .bool false, .bool false, .string tx, .string ur, .string ti, .slice kA kn kcap, .bool ra, .pointer (some ⟨mb, 0, none⟩), .int .i64 (lf : Int), .bool im, .bool no, .bool de] 67) ⟨mb, 1, none⟩ zmb).trans m1
        have m2 := (World.cell?_alloc_lt wr (.cells #[.int .i64 (kd : Int), .int .i64 0, .bool false, .bool false, .string tx, .string ur, .string ti, .slice kA kn kcap, .bool ra, .pointer (some ⟨mb, 0, none⟩), .int .i64 (lf : Int), .bool im, .bool no, .bool de] 67) ⟨mb, 2, none⟩ zmb).trans m2
        have m3 := (World.cell?_alloc_lt wr (.cells #[.int .i64 (kd : Int), .int .i64 0, .bool false, .bool false, .string tx, .string ur, .string ti, .slice kA kn kcap, .bool ra, .pointer (some ⟨mb, 0, none⟩), .int .i64 (lf : Int), .bool im, .bool no, .bool de] 67) ⟨mb, 3, none⟩ zmb).trans m3
        clear c0 c1 c2 c3 c4 c5 c6 c7 c8 c9 c10 c11 c12 c13
        generalize wr.alloc (.cells #[.int .i64 (kd : Int), .int .i64 0, .bool false, .bool false, .string tx, .string ur, .string ti, .slice kA kn kcap, .bool ra, .pointer (some ⟨mb, 0, none⟩), .int .i64 (lf : Int), .bool im, .bool no, .bool de] 67) = w2 at hX hJX m0 m1 m2 m3 ⊢
        have x9 : w2.cell? ⟨wr.heap.size, 9, none⟩ = some (.pointer (some ⟨mb, 0, none⟩)) := cell_of_row _ _ _ _ _ _ hX
        have HX := Lib.hid hX
        have HJX := Lib.hid hJX
        clear hX hJX HJ
        go_wp2_with (at_builtin; refine wpList_append_own _ rfl (.tmp 20) (.tmp 25) 70 rfl w.heap.size 62 i0 (.agg #[.int .u8 0, .int .i64 0, .bool false, .bool false]) 4 24 Tryz.underlying70 hi0 hz0 hz1 hz2 rfl (by decide) u3 msi.length (marksRow msi) rfl (HJX.out.mo.alloc _) ⟨w2.heap.size, 0, none⟩ 1 1 (markCells m) rfl rfl ?a1 ?a2 ?a3 ?a4 ?a5 ?_)
        case a1 =>
          intro j u hu
          first | (rw [addr_add, cell_of_row _ _ _ _ _ _ (heap_alloc_new w2 _)]; simpa [markCells] using hu) | (simpa [markCells] using hu) | exact hu
        case a2 =>
          intro u hu
          simp only [markCells, List.mem_cons, List.not_mem_nil, or_false] at hu
          rcases hu with rfl | rfl | rfl | rfl <;> rfl
        case a3 => unfold maxLen; omega
        case a4 => omega
        case a5 =>
          have h5 := HJX.out.bel.size
          first | exact le_alloc h5 _ | omega
        intro v' w7 hown7 hgrow7 _
        have hJ7 := (HJX.out.below ((Below.refl w2.heap.size w2).alloc (Nat.le_refl _) _)).mark hown7 hgrow7
        have hX7 := grown_far (HJX.out.mo.alloc _) hgrow7 ((Below.heap_alloc w2 _ _ (blk_lt HX.out)).trans HX.out) (by decide)
        have x9 : w7.cell? ⟨wr.heap.size, 9, none⟩ = some (.pointer (some ⟨mb, 0, none⟩)) := cell_of_row _ _ _ _ _ _ hX7
        have HJ7 := Lib.hid hJ7
        clear hJ7 hX7 hown7 hgrow7 HJX HX m0 m1 m2 m3
        go_wp2_with (at_builtin; refine wpList_append_own _ rfl (.tmp 27) (.tmp 30) 71 rfl w.heap.size 65 j0 (.pointer none) 1 8 Tryz.underlying71 hj0 hy0 hy1 hy2 rfl (by decide) u4 ali.length (ptrRow ali) rfl (HJ7.out.ao.alloc _) ⟨w7.heap.size, 0, none⟩ 1 1 [.pointer (some ⟨mb, 0, none⟩)] rfl rfl ?b1 ?b2 ?b3 ?b4 ?b5 ?_)
        case b1 =>
          intro j u hu
          first | (rw [addr_add, cell_of_row _ _ _ _ _ _ (heap_alloc_new w7 _)]; simpa using hu) | (simpa using hu) | exact hu
        case b2 => intro u hu; simp only [List.mem_cons, List.not_mem_nil, or_false] at hu; subst hu; rfl
        case b3 => unfold maxLen; omega
        case b4 => omega
        case b5 =>
          have h5 := HJ7.out.bel.size
          first | exact le_alloc h5 _ | omega
        intro v8 w8 hown8 hgrow8 _
        have HJ8 : Hid (LoopA w w8 (.slice (some ⟨b, off, none⟩) ps.length cp1) v' v8 ps ((ss.take (i + 1)).filterMap (·.mark)) ((ps.take (i + 1)).filterMap (·.mark))) := Lib.hid (by
          rw [HMA.out.1, HMA.out.2]
          exact (HJ7.out.below ((Below.refl w7.heap.size w7).alloc (Nat.le_refl _) _)).ptr hown8 hgrow8)
        clear hown8 hgrow8 HJ7 x9
        go_wp2
        go_roundw
        case rel => exact ⟨i + 1, by omega, by go_num, HJ8⟩
        case measure => simp [intOf]; omega
    · have hpi : ¬ (i : Int) < ps.length := by omega
      obtain rfl : i = ps.length := by omega
      obtain ⟨ms, hms⟩ : ∃ ms, ms = ss.filterMap (·.mark) := ⟨_, rfl⟩
      obtain ⟨al, hal⟩ : ∃ al, al = ps.filterMap (·.mark) := ⟨_, rfl⟩
      have hJ := HJ.out
      rw [List.take_of_length_le (by rw [HF.out.1]; exact Nat.le_refl _), List.take_length, ← hms, ← hal] at hJ
      have hml : ms.length ≤ 100000 := by
        have h1 := marks_len ss
        have h2 := HF.out.1
        rw [hms]
        omega
      have hmm : Spec.most ms ≤ 1000000 := by
        have := most_wt ss HS.out.2.1
        rw [hms]
        omega
      obtain ⟨prs, hprs⟩ : ∃ prs, prs = Spec.matches_ ms := ⟨_, rfl⟩
      have hMt : Calls Tryz.prog 65 #[u3] wr (MatchPost prs wr) := by
        rw [hprs]
        by_cases h0 : ms = []
        · have h3 := hJ.mn h0
          rw [h0, h3]
          exact match_nil wr
        · have hpos := List.length_pos_iff.2 h0
          have hmo := hJ.mo
          rcases hmo.2 with ⟨_, hz⟩ | ⟨lb, lc, cur, hv, _, hg, hc, _⟩
          · omega
          · rw [hv]
            refine match_any wr lb ms.length lc ms rfl hpos hc hml hmm (fun k x hx => ?_) ⟨cur, hg⟩
            have hat : ∀ (j : Nat) (u : Value), (markCells x)[j]? = some u → wr.cell? ⟨lb, k * 4 + j, none⟩ = some u := fun j u hu => by
              rw [hv] at hmo
              have hc := hmo.cells rfl (k * 4 + j) u (by rw [marksRow_at ms k j x hx (List.getElem?_eq_some_iff.1 hu).1]; exact hu)
              rwa [addr_add] at hc
            exact ⟨hat 0 _ rfl, hat 1 _ rfl, hat 2 _ rfl, hat 3 _ rfl⟩
      have HJ2 := Lib.hid hJ
      have HMS := Lib.hid (And.intro hms (And.intro hal hprs))
      clear hJ HJ hms hal hprs hml hmm
      go_wp2_with fail
      refine hMt.mono ?_
      rintro e w2 ⟨pv, rfl, hpo, hb2⟩
      obtain ⟨PA, pc, rfl⟩ := row_slice hpo
      have hJ2 := HJ2.out.below hb2
      have hfm := fit_marks HF.out
      have hB2 : Below w.heap.size w w2 := hJ2.bel
      have hLB : LoopB w w2 (.slice A1 ps.length cp1) u4 (.slice PA prs.length pc) al prs ps (Spec.numbered 0 ss) := by
        refine ⟨hJ2.own, hJ2.ao, own_base hpo HJ2.out.bel.size, ?_, hB2⟩
        have h := hfm.2 []
        rw [List.nil_append, ← HMS.out.2.1] at h
        exact h.mono fun p z hr => hr.keep (keepT_below hB2) (keepT_below hB2) hB2.size
      have hN : al.length = (ss.filterMap (·.mark)).length := by rw [HMS.out.2.1, hfm.1]
      have hSB : StepB ss prs al.length 0 (Spec.numbered 0 ss) := by
        refine ⟨?_, rfl, fun z hz q hq => ?_, by rw [Pl.numbered_fst]; exact hwt, ?_⟩
        · rw [List.drop_zero, HMS.out.2.2, HMS.out.1]
          exact Pl.matches_good ss HS.out.1 HS.out.2.1
        · have := numbered_lt ss 0 z hz q hq
          omega
        · have h1 := congrArg List.length (Pl.numbered_fst ss 0)
          rw [List.length_map] at h1
          have := HF.out.1
          omega
      have hnd : al.Nodup := by rw [HMS.out.2.1]; exact HS.out.2.2
      have hall : al.length ≤ 100000 := by
        have h1 := List.length_filterMap_le (·.mark) ps
        rw [HMS.out.2.1]
        omega
      have hprl : prs.length ≤ 1000001 := by
        have h1 := good_len hSB.good
        rw [List.drop_zero] at h1
        have h2 := lfL_numbered ss 0
        omega
      have HB0 := Lib.hid (And.intro hLB hSB)
      have HND := Lib.hid hnd
      clear hMt hpo hb2 hJ2 hfm hB2 hLB hN hSB hnd HJ2
      go_wp2
      go_loopw [0, 36] (fun v0 v36 wr => ∃ (j : Nat) (cur : List PV) (L : List Pl.NP), j ≤ prs.length ∧ v36 = .int .i64 (j : Int) ∧ (∃ (cA : Option Addr) (cc : Nat), v0 = .slice cA cur.length cc) ∧ Hid (LoopB w wr v0 u4 (.slice PA prs.length pc) al prs cur L ∧ StepB ss prs al.length j L)) (fun _ v36 _ => prs.length - (intOf v36).toNat)
      case atStart => exact ⟨0, ps, Spec.numbered 0 ss, Nat.zero_le _, rfl, ⟨A1, cp1, rfl⟩, HB0⟩
      case round =>
        obtain ⟨j, cur, L, hj, rfl, ⟨cA, cc, rfl⟩, HL⟩ := hrel
        have hcl : cur.length ≤ 100000 := by
          have h1 := HL.out.1.fit.1
          have h2 := HL.out.2.len
          omega
        by_cases hpj : j < prs.length
        · have hpji : (j : Int) < prs.length := by omega
          obtain ⟨pr, hpr⟩ : ∃ pr, prs[j]? = some pr := ⟨_, List.getElem?_eq_getElem hpj⟩
          obtain ⟨A, M, C, x, y, hW, hS2⟩ := HL.out.2.next pr hpr
          have qf : pr.from_ < al.length := HL.out.2.lt (x, some pr.from_) (by rw [hW.eq]; exact List.mem_append_right _ List.mem_cons_self) _ rfl
          have qt : pr.to < al.length := HL.out.2.lt (y, some pr.to) (by rw [hW.eq]; exact List.mem_append_right _ (List.mem_cons_of_mem _ (List.mem_append_right _ List.mem_cons_self))) _ rfl
          have hLl : 0 < L.length := by rw [hW.eq, List.length_append, List.length_cons]; omega
          have hcur0 : 0 < cur.length := by rw [HL.out.1.fit.1]; exact hLl
          -- the row of pieces
          obtain ⟨g, rfl, hgw⟩ : ∃ g, cA = some ⟨g, 0, none⟩ ∧ g < wr.heap.size := by
            rcases HL.out.1.own.2 with ⟨_, h0⟩ | ⟨g, c, cu, hv, _, hg, _⟩
            · omega
            · injection hv with e1
              exact ⟨g, e1, blk_lt hg⟩
          -- the row of pairs
          obtain ⟨pb, rfl⟩ : ∃ pb, PA = some ⟨pb, 0, none⟩ := by
            rcases HL.out.1.po.2 with ⟨_, h0⟩ | ⟨g, c, cu, hv, _, hg, _⟩
            · omega
            · injection hv with e1
              exact ⟨g, e1⟩
          have hpc : ∀ (k : Nat) (u : Value), (pairCells pr)[k]? = some u → wr.cell? ⟨pb, j * 3 + k, none⟩ = some u := fun k u hu => by
            have hc := HL.out.1.po.cells rfl (j * 3 + k) u (by rw [pairsRow_at prs j k pr hpr (List.getElem?_eq_some_iff.1 hu).1]; exact hu)
            rwa [addr_add] at hc
          have p0 : wr.cell? ⟨pb, j * 3, none⟩ = some (.int .i64 (pr.from_ : Int)) := hpc 0 _ rfl
          have p1 : wr.cell? ⟨pb, j * 3 + 1, none⟩ = some (.int .i64 (pr.to : Int)) := hpc 1 _ rfl
          have p2 : wr.cell? ⟨pb, j * 3 + 2, none⟩ = some (.bool pr.strong) := hpc 2 _ rfl
          -- the row of pointers
          obtain ⟨ab, ac, rfl, hau⟩ : ∃ ab ac, u4 = .slice (some ⟨ab, 0, none⟩) al.length ac ∧ ab < wr.heap.size := by
            rcases HL.out.1.ao.2 with ⟨_, h0⟩ | ⟨g, c, cu, hv, _, hg, _⟩
            · omega
            · exact ⟨g, c, hv, blk_lt hg⟩
          have hac : ∀ (k : Nat), k < al.length → wr.cell? ⟨ab, k, none⟩ = some (.pointer (some ⟨al.getD k 0, 0, none⟩)) := fun k hk => by
            have hc := HL.out.1.ao.cells rfl k (.pointer (some ⟨al.getD k 0, 0, none⟩)) (by unfold ptrRow; rw [List.getElem?_map, List.getElem?_eq_getElem hk]; simp [List.getD, List.getElem?_eq_getElem hk])
            rwa [addr_add] at hc
          have a0 := hac _ qf
          have a1 := hac _ qt
          obtain ⟨bf, hbf⟩ : ∃ bf, bf = al.getD pr.from_ 0 := ⟨_, rfl⟩
          obtain ⟨bt, hbt⟩ : ∃ bt, bt = al.getD pr.to 0 := ⟨_, rfl⟩
          rw [← hbf] at a0
          rw [← hbt] at a1
          have HBF := Lib.hid (And.intro hbf hbt)
          clear hbf hbt
          have b0 : (0 : Int) ≤ (pr.from_ : Int) := by omega
          have b1 : (pr.from_ : Int) < (al.length : Int) := by omega
          have b2 : (0 : Int) ≤ (pr.to : Int) := by omega
          have b3 : (pr.to : Int) < (al.length : Int) := by omega
          have HW := Lib.hid hW
          have HS2 := Lib.hid hS2
          have HS2b := Lib.hid HL.out.2.lt
          have HWT := Lib.hid HL.out.2.wt
          clear hpc hac hpr hW hS2 hcur0 hLl
          go_upto_region 14 with fail
          have hLX := HL.out.1.below ((Below.refl wr.heap.size wr).alloc (Nat.le_refl _) (.cells #[.int .i64 (pr.from_ : Int), .int .i64 (pr.to : Int), .bool pr.strong] 75))
          have hX := heap_alloc_new wr (.cells #[.int .i64 (pr.from_ : Int), .int .i64 (pr.to : Int), .bool pr.strong] 75)
          have zab : ab < wr.heap.size := hau
          have a0 := (World.cell?_alloc_lt wr (.cells #[.int .i64 (pr.from_ : Int), .int .i64 (pr.to : Int), .bool pr.strong] 75) ⟨ab, pr.from_, none⟩ zab).trans a0
          have a1 := (World.cell?_alloc_lt wr (.cells #[.int .i64 (pr.from_ : Int), .int .i64 (pr.to : Int), .bool pr.strong] 75) ⟨ab, pr.to, none⟩ zab).trans a1
          clear p0 p1 p2
          generalize wr.alloc (.cells #[.int .i64 (pr.from_ : Int), .int .i64 (pr.to : Int), .bool pr.strong] 75) = w5 at hLX hX a0 a1 ⊢
          have p0 : w5.cell? ⟨wr.heap.size, 0, none⟩ = some (.int .i64 (pr.from_ : Int)) := cell_of_row _ _ _ _ _ _ hX
          have p1 : w5.cell? ⟨wr.heap.size, 1, none⟩ = some (.int .i64 (pr.to : Int)) := cell_of_row _ _ _ _ _ _ hX
          have p2 : w5.cell? ⟨wr.heap.size, 2, none⟩ = some (.bool pr.strong) := cell_of_row _ _ _ _ _ _ hX
          have HLX := Lib.hid hLX
          clear hX hLX
          go_still_tail 13, (by kernel_rfl)
          change wpList _ _ _ _ _ w5.drew
          have hL := HLX.out.below (below_drew2 (Below.refl _ _))
          clear p0 p1 p2 a0 a1 HLX HL
          generalize w5.drew = w6 at hL ⊢
          have hS := stressed_any w6 w.heap.size g cc cur L A M C al pr x y HW.out hL.own hL.fit HS2b.out (nodup_getD al HND.out) hcl HWT.out
          rw [← HBF.out.1, ← HBF.out.2] at hS
          have HL6 := Lib.hid hL
          clear hL
          go_wp2_with fail
          refine hS.mono ?_
          rintro e w7 ⟨qs, rfl, hown7, hfit7, hgr7⟩
          clear hS
          have hne : (Value.slice (some (⟨g, 0, none⟩ : Addr)) cur.length cc).ownBlock = some g := rfl
          have hL7 : LoopB w w7 (.slice (some ⟨g, 0, none⟩) qs.length cc) (.slice (some ⟨ab, 0, none⟩) al.length ac) (.slice (some ⟨pb, 0, none⟩) prs.length pc) al prs qs (Spec.wrap L pr) :=
            ⟨hown7, HL6.out.ao.kept hgr7 (own_apart HL6.out.ao HL6.out.own (by decide)), HL6.out.po.kept hgr7 (own_apart HL6.out.po HL6.out.own (by decide)), hfit7, HL6.out.bel.grown hgr7 HL6.out.bel.size (fun q hq => (HL6.out.own.lt q hq).1)⟩
          have HL7 := Lib.hid (And.intro hL7 HS2.out)
          clear hL7 hown7 hfit7 hgr7 HL6 hne
          go_wp2
          go_roundw
          case rel => exact ⟨j + 1, qs, _, by omega, by go_num, ⟨_, _, rfl⟩, HL7⟩
          case measure => simp [intOf]; omega
        · have hpji : ¬ (j : Int) < prs.length := by omega
          obtain rfl : j = prs.length := by omega
          have hst := HL.out.2.eq
          rw [List.take_length] at hst
          have hN : Spec.nodes ss = Spec.flat (L.map (·.1)) := by
            unfold Spec.nodes
            rw [hst, HMS.out.2.2, HMS.out.1]
          have hpw : PRead wr (.slice cA cur.length cc) cur := pread_own HL.out.1.own
          have hfl := flat_any wr wr.heap.size (Nat.le_refl _) (.slice cA cur.length cc) cur (L.map (·.1)) hpw (HL.out.1.fit.map fun p z hr => hr.rep) hcl HL.out.2.wt
          have HB := Lib.hid HL.out.1.bel
          have HN := Lib.hid hN
          clear hst hN hpw HL
          go_wp2_with fail
          refine hfl.mono ?_
          rintro e w7 ⟨kv, ns, rfl, hfr⟩
          have HE : Hid (KRep w7 w7.heap.size kv (Spec.nodes ss) ∧ Below w.heap.size w w7) := Lib.hid ⟨by rw [HN.out]; exact hfr.krep (Nat.le_refl _), HB.out.trans (hfr.bel.mono HB.out.size)⟩
          clear hfr hfl
          go_wp2
          exact bodyPost_ret (v := kv) (by simp [results, Tryz.f27, go_sem]) rfl ⟨_, rfl, HE.out⟩
end Go.Proofs.YtmplfiflikhpjaaGreatDoor
/-
  inline: the parser's state in memory, and what its writes leave of it.
-/
namespace Go.Proofs.YtmplfiflikhpjaaGreatDoor
open Go.RowKit

/-- The parser stands at block pb: its text, its place, its pieces; memory older than w0 is as it was. -/
structure PSt (w0 w : World) (pb : Nat) (s : ByteArray) (k : Nat) (v : Value) (ps : List PV) (ss : List Spec.Piece) : Prop where
  blk : w.heap[pb]? = some (.cells #[.string s, .int .i64 (k : Int), v] 46 (0, 0))
  pb0 : w0.heap.size ≤ pb
  own : w.ownsRow w0.heap.size 67 14 v ps.length (pvRow ps)
  fit : Fit (PRep w w.heap.size) ps ss
  nd : (ps.filterMap (·.mark)).Nodup
  bel : Below w0.heap.size w0 w
/-- What a method answers, and the state behind it. -/
def PPost (w0 : World) (pb : Nat) (s : ByteArray) (k : Nat) (ss : List Spec.Piece) (r : Value) (e : Ending) (w' : World) : Prop := e = .returned r ∧ ∃ v ps, PSt w0 w' pb s k v ps ss
theorem PSt.lt {w0 w : World} {pb : Nat} {s : ByteArray} {k : Nat} {v : Value} {ps : List PV} {ss : List Spec.Piece} (h : PSt w0 w pb s k v ps ss) : pb < w.heap.size := blk_lt h.blk
theorem PSt.below {w0 w w2 : World} {pb : Nat} {s : ByteArray} {k : Nat} {v : Value} {ps : List PV} {ss : List Spec.Piece} (h : PSt w0 w pb s k v ps ss) (hb : Below w.heap.size w w2) : PSt w0 w2 pb s k v ps ss :=
  ⟨(hb.block pb h.lt).trans h.blk, h.pb0, own_below h.own hb, h.fit.mono (fun _p _z hr => hr.keep (keepT_below hb) (keepT_below hb) hb.size), h.nd, h.bel.trans (hb.mono h.bel.size)⟩
theorem keepT_own {t e : TypeId} {w w' : World} {b B s n : Nat} {v : Value} {x : List Value} (h : w.ownsRow b e s v n x) (hg : w.grownBy w' v.ownBlock) (hne : e ≠ t) : KeepT t B w w' := fun _ _ _ hr => grown_far h hg hr hne
theorem keepT_set {t e : TypeId} {w : World} {pb j B : Nat} {cs : Array Value} {u : Value} (hr : w.heap[pb]? = some (.cells cs e (0, 0))) (hne : t ≠ e) : KeepT t B w (w.setCell ⟨pb, j, none⟩ u) := fun b cur _ h => by
  refine (heap_setCell_other w ⟨pb, j, none⟩ b u (fun e2 => ?_)).trans h
  subst e2
  exact blk_ne h hr hne rfl
theorem own_block {w : World} {b s n : Nat} {e t : TypeId} {v : Value} {x : List Value} {pb : Nat} {cs : Array Value} (h : w.ownsRow b e s v n x) (hr : w.heap[pb]? = some (.cells cs t (0, 0))) (hne : e ≠ t) : v.ownBlock ≠ some pb := by
  rcases h.2 with ⟨rfl, _⟩ | ⟨g, c, cur, rfl, _, hg, _⟩
  · simp [Value.ownBlock]
  · simp only [Value.ownBlock, ne_eq, Option.some.injEq]
    rintro rfl
    exact blk_ne hg hr hne rfl
theorem below_set {B : Nat} {a w : World} (h : Below B a w) (pb j : Nat) (u : Value) (hB : B ≤ pb) : Below B a (w.setCell ⟨pb, j, none⟩ u) :=
  ⟨h.os, h.tape, h.output, by simpa [World.setCell] using h.size, fun k hk => (heap_setCell_other w ⟨pb, j, none⟩ k u (fun e => by subst e; omega)).trans (h.block k hk)⟩
/-- A cell of the parser itself is set. -/
theorem PSt.self {w0 w : World} {pb : Nat} {s : ByteArray} {k : Nat} {v : Value} {ps : List PV} {ss : List Spec.Piece} (h : PSt w0 w pb s k v ps ss) (k' : Nat) : PSt w0 (w.setCell ⟨pb, 1, none⟩ (.int .i64 (k' : Int))) pb s k' v ps ss :=
  ⟨heap_setCell_same w pb 1 _ _ _ h.blk, h.pb0, own_set h.own _ _ (own_block h.own h.blk (by decide)),
    h.fit.mono (fun p z hr => hr.keep (keepT_set h.blk (by decide)) (keepT_set h.blk (by decide)) (by simp [World.setCell])), h.nd, below_set h.bel pb 1 _ h.pb0⟩
theorem fm_snoc {ps : List PV} {p : PV} (h : (ps.filterMap (·.mark)).Nodup) (hm : ∀ m, p.mark = some m → ∀ q ∈ ps, q.mark ≠ some m) : ((ps ++ [p]).filterMap (·.mark)).Nodup := by
  rw [List.filterMap_append]
  cases hp : p.mark with
  | none => simpa [List.filterMap_cons, hp] using h
  | some m =>
    rw [show [p].filterMap (·.mark) = [m] by simp [hp], List.nodup_append]
    refine ⟨h, by simp, fun a ha b hb e => ?_⟩
    simp only [List.mem_singleton] at hb
    subst hb
    subst e
    obtain ⟨q, hq, e2⟩ := List.mem_filterMap.1 ha
    exact hm a hp q hq e2
/-- A piece is laid behind the others. -/
theorem PSt.snoc {w0 wc w7 : World} {pb : Nat} {s : ByteArray} {k : Nat} {v v' : Value} {ps : List PV} {ss : List Spec.Piece} {p : PV} {sp : Spec.Piece} (h : PSt w0 wc pb s k v ps ss) (hp : PRep wc wc.heap.size p sp)
    (hm : ∀ m, p.mark = some m → ∀ q ∈ ps, q.mark ≠ some m) (ho : w7.ownsRow w0.heap.size 67 14 v' (ps.length + 1) (pvRow ps ++ p.cells)) (hg : wc.grownBy w7 v.ownBlock) :
    PSt w0 (w7.setCell ⟨pb, 2, none⟩ v') pb s k v' (ps ++ [p]) (ss ++ [sp]) := by
  have hb7 := grown_far h.own hg h.blk (by decide)
  refine ⟨heap_setCell_same w7 pb 2 _ _ _ hb7, h.pb0, own_set (by rw [List.length_append, pvRow_app, show pvRow [p] = p.cells by simp [pvRow]]; exact ho) _ _ (own_block ho hb7 (by decide)), ?_, fm_snoc h.nd hm, below_set (h.bel.grown hg h.bel.size (fun q hq => (h.own.lt q hq).1)) pb 2 _ h.pb0⟩
  refine (h.fit.snoc hp).mono (fun a b hr => ?_)
  exact (hr.keep (keepT_own h.own hg (by decide)) (keepT_own h.own hg (by decide)) hg.size).keep (keepT_set hb7 (by decide)) (keepT_set hb7 (by decide)) (by simp [World.setCell])
theorem pvRow_set (a : List PV) (p p' : PV) (c : List PV) (j : Nat) (u : Value) (hj : j < 14) (hc : p'.cells = p.cells.set j u) : (pvRow (a ++ p :: c)).set (a.length * 14 + j) u = pvRow (a ++ p' :: c) := by
  rw [pvRow_app, pvRow_cons, pvRow_app, pvRow_cons, List.set_append_right _ _ (by rw [pvRow_len]; omega), pvRow_len, Nat.add_sub_cancel_left, List.set_append_left _ _ (by rw [PV.cells_len]; exact hj), hc]
theorem list_cut {α : Type} {l : List α} {i : Nat} {p : α} (h : l[i]? = some p) : ∃ a c, l = a ++ p :: c ∧ a.length = i := by
  obtain ⟨hi, rfl⟩ := List.getElem?_eq_some_iff.1 h
  exact ⟨l.take i, l.drop (i + 1), by rw [List.getElem_cons_drop, List.take_append_drop], by rw [List.length_take]; omega⟩
theorem set_mid {α : Type} (a : List α) (p q : α) (c : List α) : (a ++ p :: c).set a.length q = a ++ q :: c := by rw [List.set_append_right _ _ (Nat.le_refl _), Nat.sub_self]; rfl
theorem Fit.set {α β : Type} {R : α → β → Prop} {l : List α} {m : List β} {i : Nat} {a : α} {b : β} (h : Fit R l m) (hr : R a b) : Fit R (l.set i a) (m.set i b) := by
  refine ⟨by simp [h.1], fun j x y hx hy => ?_⟩
  by_cases hj : j = i
  · subst hj
    have h1 : j < l.length := by have := (List.getElem?_eq_some_iff.1 hx).1; simpa using this
    rw [List.getElem?_set_self h1] at hx
    rw [List.getElem?_set_self (by rw [← h.1]; exact h1)] at hy
    obtain rfl := Option.some.inj hx
    obtain rfl := Option.some.inj hy
    exact hr
  · rw [List.getElem?_set_ne (Ne.symm hj)] at hx hy
    exact h.2 j x y hx hy
/-- A cell of one piece is set. -/
theorem PSt.put {w0 w : World} {pb : Nat} {s : ByteArray} {k g cap n : Nat} {ps : List PV} {ss : List Spec.Piece} (h : PSt w0 w pb s k (.slice (some ⟨g, 0, none⟩) n cap) ps ss) (i : Nat) (p p' : PV) (sp : Spec.Piece) (j : Nat) (u : Value)
    (hp : ps[i]? = some p) (hj : j < 14) (hc : p'.cells = p.cells.set j u) (hmk : p'.mark = p.mark) (hr : PRep w w.heap.size p' sp) : PSt w0 (w.setCell ⟨g, i * 14 + j, none⟩ u) pb s k (.slice (some ⟨g, 0, none⟩) n cap) (ps.set i p') (ss.set i sp) := by
  obtain ⟨a, c, rfl, rfl⟩ := list_cut hp
  have hn : n = (a ++ p :: c).length := by
    obtain ⟨A, q, e⟩ := row_slice h.own
    injection e
  subst hn
  obtain ⟨ho, hg⟩ := h.own.stored (a.length * 14 + j) u
  rw [pvRow_set a p p' c j u hj hc] at ho
  have hgr : w.grownBy (w.setCell ⟨g, a.length * 14 + j, none⟩ u) (Value.slice (some ⟨g, 0, none⟩) (a ++ p :: c).length cap).ownBlock := hg
  refine ⟨grown_far h.own hgr h.blk (by decide), h.pb0, ?_, ?_, ?_, h.bel.grown hgr h.bel.size (fun q hq => (h.own.lt q hq).1)⟩
  · rw [set_mid]
    have e : (a ++ p' :: c).length = (a ++ p :: c).length := by simp
    rw [e]
    exact ho
  · exact (h.fit.set hr).mono (fun a b hr => hr.keep (keepT_own h.own hgr (by decide)) (keepT_own h.own hgr (by decide)) hgr.size)
  · rw [set_mid]
    have h0 := h.nd
    rw [List.filterMap_append, List.filterMap_cons] at h0 ⊢
    rw [hmk]
    exact h0
/-- The cells of a piece. -/
theorem PSt.cells {w0 w : World} {pb : Nat} {s : ByteArray} {k : Nat} {v : Value} {ps : List PV} {ss : List Spec.Piece} (h : PSt w0 w pb s k v ps ss) (i : Nat) (p : PV) (hp : ps[i]? = some p) :
    ∃ g cap, v = .slice (some ⟨g, 0, none⟩) ps.length cap ∧ g < w.heap.size ∧ ∀ (j : Nat) (u : Value), p.cells[j]? = some u → w.cell? ⟨g, i * 14 + j, none⟩ = some u ∧ w.frozen? ⟨g, i * 14 + j, none⟩ = false := by
  have hi := (List.getElem?_eq_some_iff.1 hp).1
  rcases h.own.2 with ⟨_, h0⟩ | ⟨g, c, cur, hv, _, hg, _⟩
  · omega
  · subst hv
    exact ⟨g, c, rfl, blk_lt hg, fun j u hu => own_cell h.own i j p u hp hu⟩
theorem PSt.p0 {w0 w : World} {pb : Nat} {s : ByteArray} {k : Nat} {v : Value} {ps : List PV} {ss : List Spec.Piece} (h : PSt w0 w pb s k v ps ss) : w.cell? ⟨pb, 0, none⟩ = some (.string s) := cell_of_row _ _ _ _ _ _ h.blk
theorem PSt.p1 {w0 w : World} {pb : Nat} {s : ByteArray} {k : Nat} {v : Value} {ps : List PV} {ss : List Spec.Piece} (h : PSt w0 w pb s k v ps ss) : w.cell? ⟨pb, 1, none⟩ = some (.int .i64 (k : Int)) := cell_of_row _ _ _ _ _ _ h.blk
theorem PSt.p2 {w0 w : World} {pb : Nat} {s : ByteArray} {k : Nat} {v : Value} {ps : List PV} {ss : List Spec.Piece} (h : PSt w0 w pb s k v ps ss) : w.cell? ⟨pb, 2, none⟩ = some v := cell_of_row _ _ _ _ _ _ h.blk
theorem PSt.fz {w0 w : World} {pb : Nat} {s : ByteArray} {k : Nat} {v : Value} {ps : List PV} {ss : List Spec.Piece} (h : PSt w0 w pb s k v ps ss) (j : Nat) : w.frozen? ⟨pb, j, none⟩ = false := frozen_of_row _ _ _ _ _ h.blk
end Go.Proofs.YtmplfiflikhpjaaGreatDoor
/-
  inline's parser: lays.
-/
namespace Go.Proofs.YtmplfiflikhpjaaGreatDoor
open Go.RowKit

theorem step_append_own {P : Program} {ops : Array Oper} {o : Oper} {a : Act} {w : World} {K : Act → World → Prop} {Q : Exit → Act → World → Prop} {E : Prop} (hgd : o.guard = none) (s x : Operand) (t : TypeId)
    (ho : o.op = .call { callee := .builtin .append, args := #[s, x], argTypes := #[t, t] })
    (base : Nat) (e : TypeId) (i : TypeInfo) (z : Value) (size bytes : Nat) (ht : P.underlying t = some (.slice e)) (hi : P.info? e = some i) (hz : i.zero = some z)
    (hsize : i.size = size) (hby : i.bytes = bytes) (hzs : z.cells.size = size) (hsz : 0 < size)
    (v : Value) (n : Nat) (xs : List Value) (hs : a.eval s = v) (hown : w.ownsRow base e size v n xs)
    (ad : Addr) (m c : Nat) (news : List Value) (hx : a.eval x = .slice (some ad) m c) (hl : news.length = m * size) (hnews : ∀ j u, news[j]? = some u → w.cell? (ad.add j) = some u) (h1 : ∀ u ∈ news, u.oneCell' = true)
    (h63 : n + m ≤ maxLen) (hbytes : (n + m) * bytes ≤ 140737488355328) (hbase : base ≤ w.heap.size)
    (h : ∀ v' w', w'.ownsRow base e size v' (n + m) (xs ++ news) → w.grownBy w' v.ownBlock → K (a.put o.dst v') w') :
    if Region.wanted o (yielded ops a.tmps) = true then Oper.wp P o a w K Q else E := by
  have hw : Region.wanted o (yielded ops a.tmps) = true := by simp [Region.wanted, hgd]
  rw [if_pos hw]
  obtain ⟨v', w', hr, h2, h3, h4, h5⟩ := run_append_own_at (P := P) w base t o.type e i z size bytes ht hi hz hsize hby hzs hsz v n xs hown ad m c news hl hnews h1 h63 hbytes hbase
  unfold Oper.wp execOp
  simp only [ho, resolve, invoke, builtin, Sem.run_bind, Sem.run_pure, Result.andThen_ok, List.map_toArray, List.map_cons, List.map_nil, hs, hx, hr]
  exact h v' w' h2 h3
theorem cells_new (w : World) (cs : Array Value) (t : TypeId) : ∀ (j : Nat) (u : Value), cs.toList[j]? = some u → (w.alloc (.cells cs t)).cell? ((⟨w.heap.size, 0, none⟩ : Addr).add j) = some u := by
  intro j u h
  rw [addr_add]
  exact cell_fresh w _ _ j u (by simpa using h)
theorem one_pv (p : PV) (h : ∃ A n c, p.kids = .slice A n c) : ∀ u ∈ p.cells, u.oneCell' = true := by
  intro u hu
  obtain ⟨A, n, c, e⟩ := h
  simp only [PV.cells, List.mem_cons, List.not_mem_nil, or_false] at hu
  rcases hu with rfl | rfl | rfl | rfl | rfl | rfl | rfl | rfl | rfl | rfl | rfl | rfl | rfl | rfl <;> first | rfl | (rw [e]; rfl)
def NV.pv (n : NV) : PV := ⟨n.kind, n.text, n.url, n.title, n.kids, false, none, 0, false, false, false⟩
theorem NRep.prep {w : World} {B : Nat} {n : NV} {k : Spec.Node} (h : NRep w B n k) : PRep w B n.pv (Spec.plainP k) := ⟨h.kind, h.text, h.url, h.title, h.kids, rfl, rfl, rfl, rfl, rfl, rfl⟩

set_option maxHeartbeats 32000000 in
set_option maxRecDepth 100000 in
theorem lays_any (w0 w : World) (pb : Nat) (s : ByteArray) (k : Nat) (v : Value) (ps : List PV) (ss : List Spec.Piece) (n : NV) (nd : Spec.Node) (h : PSt w0 w pb s k v ps ss) (hn : NRep w w.heap.size n nd) (hlen : ps.length ≤ 100000) :
    Calls Tryz.prog 108 #[.pointer (some ⟨pb, 0, none⟩), .agg n.cells.toArray] w (PPost w0 pb s k (ss ++ [Spec.plainP nd]) (.tuple #[])) := by
  obtain ⟨i0, hi0, hz0, hz1, hz2⟩ := info_parts info_piece
  have HN := Lib.hid hn
  obtain ⟨nk, nt, nu, nti, nkv⟩ := n
  obtain ⟨kA, kcap, hkv⟩ := hn.kids.len
  simp only at hkv
  subst hkv
  obtain ⟨kn, hkn⟩ : ∃ kn, kn = nd.kids.length := ⟨_, rfl⟩
  rw [← hkn] at HN ⊢
  clear hkn hn
  have H := Lib.hid h
  have zpb := h.lt
  have zb := h.bel.size
  clear h
  show Calls _ _ #[_, .agg #[.int .i64 (nk : Int), .int .i64 0, .bool false, .bool false, .string nt, .string nu, .string nti, .slice kA kn kcap]] _ _
  go_enter Tryz.func108, Tryz.ntmps108
  go_upto_region 1 with fail
  have hX := heap_alloc_new w (.cells #[.int .i64 (nk : Int), .int .i64 0, .bool false, .bool false, .string nt, .string nu, .string nti, .slice kA kn kcap] 27)
  have hb1 : Below w.heap.size w (w.alloc (.cells #[.int .i64 (nk : Int), .int .i64 0, .bool false, .bool false, .string nt, .string nu, .string nti, .slice kA kn kcap] 27)) := (Below.refl _ _).alloc (Nat.le_refl _) _
  have h1 := H.out.below hb1
  have hn1 := HN.out.keep (keepT_below hb1) hb1.size
  generalize w.alloc (.cells #[.int .i64 (nk : Int), .int .i64 0, .bool false, .bool false, .string nt, .string nu, .string nti, .slice kA kn kcap] 27) = w1 at hX h1 hn1 ⊢
  have x0 : w1.cell? ⟨w.heap.size, 0, none⟩ = some (.int .i64 (nk : Int)) := cell_of_row _ _ _ _ _ _ hX
  have x1 : w1.cell? ⟨w.heap.size, 1, none⟩ = some (.int .i64 0) := cell_of_row _ _ _ _ _ _ hX
  have x2 : w1.cell? ⟨w.heap.size, 2, none⟩ = some (.bool false) := cell_of_row _ _ _ _ _ _ hX
  have x3 : w1.cell? ⟨w.heap.size, 3, none⟩ = some (.bool false) := cell_of_row _ _ _ _ _ _ hX
  have x4 : w1.cell? ⟨w.heap.size, 4, none⟩ = some (.string nt) := cell_of_row _ _ _ _ _ _ hX
  have x5 : w1.cell? ⟨w.heap.size, 5, none⟩ = some (.string nu) := cell_of_row _ _ _ _ _ _ hX
  have x6 : w1.cell? ⟨w.heap.size, 6, none⟩ = some (.string nti) := cell_of_row _ _ _ _ _ _ hX
  have x7 : w1.cell? ⟨w.heap.size, 7, none⟩ = some (.slice kA kn kcap) := cell_of_row _ _ _ _ _ _ hX
  have zx : w.heap.size < w1.heap.size := blk_lt hX
  have p2 := h1.p2
  have zp := h1.lt
  have hd := h1.below (below_drew2 (Below.refl _ w1))
  have hnd := hn1.keep (keepT_below (below_drew2 (Below.refl _ w1))) (Nat.le_refl _)
  have zd : w0.heap.size ≤ w1.drew.heap.size := hd.bel.size
  have HD := Lib.hid (And.intro hd hnd)
  have hoc : w1.drew.ownsRow w0.heap.size 67 14 v ps.length (pvRow ps) := hd.own
  clear hX hb1 h1 hn1 hd hnd
  obtain ⟨vA, vc, rfl⟩ := row_slice hoc
  go_region_law (refine step_append_own rfl _ _ 44 rfl w0.heap.size 67 i0 zeroPiece 14 128 Tryz.underlying44 hi0 hz0 hz1 hz2 rfl (by decide) _ _ _ rfl (hoc.alloc _) ⟨w1.heap.size, 0, none⟩ 1 1 (PV.mk nk nt nu nti (.slice kA kn kcap) false none 0 false false false).cells rfl rfl (cells_new _ _ _) (one_pv _ ⟨_, _, _, rfl⟩) (by unfold maxLen; omega) (by omega) (by simp; omega) ?_; intro v2 w2 hI2 hgrow; obtain ⟨v2A, v2c, rfl⟩ := row_slice hI2; have hb7 := grown_far (hoc.alloc _) hgrow (HD.out.1.below ((Below.refl _ _).alloc (Nat.le_refl _) _)).blk (by decide); have q2 : w2.cell? ⟨pb, 2, none⟩ = some (.slice vA ps.length vc) := cell_of_row _ _ _ _ _ _ hb7; have qz : w2.frozen? ⟨pb, 2, none⟩ = false := frozen_of_row _ _ _ _ _ hb7)
  all_goals
    have hs := (HD.out.1.below ((Below.refl _ _).alloc (Nat.le_refl _) _)).snoc ((HD.out.2.keep (keepT_below ((Below.refl w1.drew.heap.size w1.drew).alloc (Nat.le_refl _) (.cells (PV.mk nk nt nu nti (.slice kA kn kcap) false none 0 false false false).cells.toArray 67))) (Nat.le_of_lt (by simp [World.alloc]))).prep) (fun m hm => by cases hm) hI2 hgrow
    clear hI2 hgrow hb7
    exact bodyPost_ret (v := .tuple #[]) (by simp [results, Tryz.f108, go_sem]) rfl ⟨rfl, _, _, hs⟩
end Go.Proofs.YtmplfiflikhpjaaGreatDoor
