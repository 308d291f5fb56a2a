/-
  Texts of one proof, joined: InWr, ParG, ParH, ParI, RpP.
-/
import Derived.Test.YtmplfiflikhpjaaGreatDoorV01
import Derived.Lib.IndexLaws
import Derived.Lib.RuneBytes
/-
  PLAIN LEAN: the Pairs of marks among pieces, laid one by one: at each both marks are there, with signs enough left, and something between them.
-/
namespace Go.Proofs.YtmplfiflikhpjaaGreatDoor.Pl
open Go.Proofs.YtmplfiflikhpjaaGreatDoor.Spec (B Piece txt MState)

abbrev NP := Piece × Option Nat
structure WOk (L : List NP) (p : Spec.Pair) (A M C : List NP) (x y : Piece) : Prop where
  eq : L = A ++ (x, some p.from_) :: (M ++ (y, some p.to) :: C)
  ne : p.from_ ≠ p.to
  hA : ∀ z ∈ A, z.2 ≠ some p.from_ ∧ z.2 ≠ some p.to
  hM : ∀ z ∈ M, z.2 ≠ some p.from_ ∧ z.2 ≠ some p.to
  M0 : M ≠ []
  l1 : nOf p.strong ≤ x.left
  l2 : nOf p.strong ≤ y.left
theorem WOk.wrap {L A M C : List NP} {p : Spec.Pair} {x y : Piece} (h : WOk L p A M C x y) :
    Spec.wrap L p = A ++ (cutP x (nOf p.strong), some p.from_) :: (Spec.plainP (.mk (if p.strong = true then 14 else 13) [] [] [] (Spec.flat (M.map (·.1)))), none) :: (cutP y (nOf p.strong), some p.to) :: C := by
  rw [h.eq]
  exact wrap_at A M C x y p.from_ p.to p.strong h.ne h.hA (fun z hz => (h.hM z hz).2)
inductive Good : List Spec.Pair → List NP → Prop
  | nil (L : List NP) : Good [] L
  | cons (p : Spec.Pair) (ps : List Spec.Pair) (L A M C : List NP) (x y : Piece) : WOk L p A M C x y → Good ps (Spec.wrap L p) → Good (p :: ps) L
theorem Good.app {ps qs : List Spec.Pair} {L : List NP} (h : Good ps L) (k : Good qs (ps.foldl Spec.wrap L)) : Good (ps ++ qs) L := by
  induction h with
  | nil L => exact k
  | cons p ps L A M C x y hw _ ih => exact .cons p _ L A M C x y hw (ih k)

/-- No two marks of one sign stand side by side. -/
def Apt : List Piece → Prop
  | p :: q :: t => (∀ m n, p.mark = some m → q.mark = some n → m.sign ≠ n.sign) ∧ Apt (q :: t)
  | _ => True
theorem Apt.tail {p : Piece} {t : List Piece} (h : Apt (p :: t)) : Apt t := by
  cases t with
  | nil => exact trivial
  | cons q t => exact h.2
theorem Apt.right {a b : List Piece} (h : Apt (a ++ b)) : Apt b := by
  induction a with
  | nil => exact h
  | cons p t ih => exact ih (Apt.tail h)
theorem Apt.left {a b : List Piece} (h : Apt (a ++ b)) : Apt a := by
  induction a with
  | nil => exact trivial
  | cons p t ih =>
    cases t with
    | nil => exact trivial
    | cons q t => exact ⟨h.1, ih h.2⟩
theorem Apt.drop {l : List Piece} (h : Apt l) (n : Nat) : Apt (l.drop n) := Apt.right (a := l.take n) (by rw [List.take_append_drop]; exact h)
theorem Apt.take {l : List Piece} (h : Apt l) (n : Nat) : Apt (l.take n) := Apt.left (b := l.drop n) (by rw [List.take_append_drop]; exact h)
theorem Apt.swap {a b : List Piece} {p q : Piece} (h : Apt (a ++ p :: b)) (e : q.mark = p.mark) : Apt (a ++ q :: b) := by
  induction a with
  | nil =>
    cases b with
    | nil => exact trivial
    | cons r b => exact ⟨fun m n hm hn => h.1 m n (e ▸ hm) hn, h.2⟩
  | cons r t ih =>
    have ih := ih (Apt.tail h)
    cases t with
    | nil => exact ⟨fun m n hm hn => h.1 m n hm (e ▸ hn), ih⟩
    | cons s t => exact ⟨h.1, ih⟩
theorem Apt.join {a b : List Piece} {p : Piece} (h1 : Apt (a ++ [p])) (h2 : Apt (p :: b)) : Apt (a ++ p :: b) := by
  induction a with
  | nil => exact h2
  | cons r t ih =>
    have ih := ih (Apt.tail h1)
    cases t with
    | nil => exact ⟨h1.1, ih⟩
    | cons s t => exact ⟨h1.1, ih⟩
theorem Apt.snoc {a : List Piece} {p : Piece} (h : Apt a) (hp : ∀ q m n, a.getLast? = some q → q.mark = some m → p.mark = some n → m.sign ≠ n.sign) : Apt (a ++ [p]) := by
  induction a with
  | nil => exact trivial
  | cons r t ih =>
    cases t with
    | nil => exact ⟨fun m n hm hn => hp r m n rfl hm hn, trivial⟩
    | cons s t => exact ⟨h.1, ih h.2 (fun q m n hq => hp q m n (by rw [List.getLast?_cons_cons]; exact hq))⟩
theorem Apt.unmarked {b : List Piece} {p : Piece} (h : Apt b) (hp : p.mark = none) : Apt (p :: b) := by
  cases b with
  | nil => exact trivial
  | cons q t => exact ⟨fun m n hm _ => (by rw [hp] at hm; cases hm), h⟩

def nums (L : List NP) : List Nat := L.filterMap (·.2)
theorem nums_app (a b : List NP) : nums (a ++ b) = nums a ++ nums b := by unfold nums; rw [List.filterMap_append]
theorem nums_some (x : Piece) (q : Nat) (t : List NP) : nums ((x, some q) :: t) = q :: nums t := rfl
theorem nums_none (x : Piece) (t : List NP) : nums ((x, none) :: t) = nums t := rfl
theorem mem_nums {L : List NP} {q : Nat} : q ∈ nums L ↔ ∃ x, (x, some q) ∈ L := by
  unfold nums
  rw [List.mem_filterMap]
  constructor
  · rintro ⟨⟨x, o⟩, hx, ho⟩
    simp only at ho
    subst ho
    exact ⟨x, hx⟩
  · rintro ⟨x, hx⟩
    exact ⟨_, hx, rfl⟩
structure Inv (marks : List Spec.Mark) (st : MState) (L : List NP) : Prop where
  sorted : (nums L).Pairwise (· < ·)
  mkd : ∀ x q, (x, some q) ∈ L → x.mark = marks[q]? ∧ q < marks.length ∧ x.left = st.left.getD q 0
  un : ∀ x, (x, none) ∈ L → x.mark = none
  pres : ∀ q, q < marks.length → st.out.getD q true = false → q ∈ nums L
  apt : Apt (L.map (·.1))
  nl : st.left.length = marks.length
  no : st.out.length = marks.length
theorem pairUp_out (st : MState) (i k x : Nat) (_hi : i < st.out.length) (_hk : k < st.out.length) (h : (Spec.pairUp st i k).2.out.getD x true = false) : st.out.getD x true = false ∧ ¬ (i < x ∧ x < k) ∨ x = i ∨ x = k := by
  by_cases e1 : x = k
  · exact .inr (.inr e1)
  · by_cases e2 : x = i
    · exact .inr (.inl e2)
    · left
      have hO : (Spec.pairUp st i k).2.out = (((List.range st.out.length).map fun j => if i < j ∧ j < k then true else st.out.getD j true).set i ((Spec.pairUp st i k).2.left.getD i 0 == 0)).set k ((Spec.pairUp st i k).2.left.getD k 0 == 0) := rfl
      rw [hO] at h
      by_cases hx : x < st.out.length
      · simp only [List.getD, List.getElem?_set, if_neg (Ne.symm e1), if_neg (Ne.symm e2), List.getElem?_map, List.getElem?_range hx, Option.map_some, Option.getD_some] at h
        by_cases hb : i < x ∧ x < k
        · rw [if_pos hb] at h; cases h
        · rw [if_neg hb] at h
          exact ⟨h, hb⟩
      · rw [List.getD, List.getElem?_eq_none (by simpa using hx)] at h
        cases h
theorem pair_step (marks : List Spec.Mark) (st : MState) (L : List NP) (h : Inv marks st L) (i k : Nat) (hik : i < k) (hk : k < marks.length) (hoi : st.out.getD i true = false) (hok : st.out.getD k true = false)
    (hli : 0 < st.left.getD i 0) (hlk : 0 < st.left.getD k 0) (a b : Spec.Mark) (ha : marks[i]? = some a) (hb : marks[k]? = some b) (hs : a.sign = b.sign) :
    ∃ A M C x y, WOk L (Spec.pairUp st i k).1 A M C x y ∧ Inv marks (Spec.pairUp st i k).2 (Spec.wrap L (Spec.pairUp st i k).1) := by
  obtain ⟨x, hx⟩ := mem_nums.1 (h.pres i (by omega) hoi)
  obtain ⟨A, R, rfl⟩ := List.append_of_mem hx
  have hsort := h.sorted
  rw [nums_app, nums_some, List.pairwise_append, List.pairwise_cons] at hsort
  obtain ⟨sA, ⟨sR1, sR⟩, sAR⟩ := hsort
  have hkR : k ∈ nums R := by
    have := h.pres k hk hok
    rw [nums_app, nums_some] at this
    rcases List.mem_append.1 this with h1 | h1
    · have := sAR k h1 i (by simp); omega
    · rcases List.mem_cons.1 h1 with h2 | h2
      · omega
      · exact h2
  obtain ⟨y, hy⟩ := mem_nums.1 hkR
  obtain ⟨M, C, rfl⟩ := List.append_of_mem hy
  rw [nums_app, nums_some, List.pairwise_append, List.pairwise_cons] at sR
  obtain ⟨sM, ⟨sC1, sC⟩, sMC⟩ := sR
  have tk := takes_le st i k hli hlk
  have hstr : (Spec.pairUp st i k).1.strong = (decide (2 ≤ st.left.getD i 0) && decide (2 ≤ st.left.getD k 0)) := rfl
  have hfr : (Spec.pairUp st i k).1.from_ = i := rfl
  have hto : (Spec.pairUp st i k).1.to = k := rfl
  have htk : nOf (Spec.pairUp st i k).1.strong = takes st i k := by rw [hstr]; rfl
  obtain ⟨mx, qx, lx⟩ := h.mkd x i (by simp)
  obtain ⟨my, qy, ly⟩ := h.mkd y k (by simp)
  have numA : ∀ z ∈ A, ∀ q, z.2 = some q → q < i := fun z hz q hq => sAR q (mem_nums.2 ⟨z.1, by rw [← hq]; exact hz⟩) i (by simp)
  have numM : ∀ z ∈ M, ∀ q, z.2 = some q → i < q ∧ q < k := fun z hz q hq => by
    have hm : q ∈ nums M := mem_nums.2 ⟨z.1, by rw [← hq]; exact hz⟩
    refine ⟨sR1 q ?_, sMC q hm k (by simp)⟩
    rw [nums_app]
    exact List.mem_append_left _ hm
  have numC : ∀ z ∈ C, ∀ q, z.2 = some q → k < q := fun z hz q hq => sC1 q (mem_nums.2 ⟨z.1, by rw [← hq]; exact hz⟩)
  have hM0 : M ≠ [] := by
    rintro rfl
    have hap := h.apt
    rw [List.map_append, List.map_cons, List.nil_append, List.map_cons] at hap
    have := (Apt.right hap).1 a b (mx.trans ha) (my.trans hb)
    exact this hs
  have hW : WOk (A ++ (x, some i) :: (M ++ (y, some k) :: C)) (Spec.pairUp st i k).1 A M C x y :=
    ⟨rfl, by rw [hfr, hto]; omega, fun z hz => by rw [hfr, hto]; exact ⟨fun e => by have := numA z hz _ e; omega, fun e => by have := numA z hz _ e; omega⟩,
      fun z hz => by rw [hfr, hto]; exact ⟨fun e => by have := numM z hz _ e; omega, fun e => by have := numM z hz _ e; omega⟩, hM0, by rw [htk, lx]; exact tk.2.1, by rw [htk, ly]; exact tk.2.2⟩
  refine ⟨A, M, C, x, y, hW, ?_⟩
  rw [hW.wrap, hfr, hto, htk]
  have hlen := pairUp_len st i k
  have hleft : ∀ q, (Spec.pairUp st i k).2.left.getD q 0 = if q = k then st.left.getD k 0 - takes st i k else if q = i then st.left.getD i 0 - takes st i k else st.left.getD q 0 := fun q => by
    have hn := h.nl
    rw [pairUp_left]
    by_cases e1 : q = k
    · subst e1
      rw [if_pos rfl]
      simp [List.getD, show q < st.left.length by omega]
    · rw [if_neg e1]
      by_cases e2 : q = i
      · subst e2
        rw [if_pos rfl]
        simp [List.getD, Ne.symm e1, show q < st.left.length by omega]
      · rw [if_neg e2]
        simp [List.getD, Ne.symm e1, Ne.symm e2]
  refine ⟨?_, ?_, ?_, ?_, ?_, by rw [hlen.1, h.nl], by rw [hlen.2, h.no]⟩
  · rw [nums_app, nums_some, nums_none, nums_some, List.pairwise_append, List.pairwise_cons, List.pairwise_cons]
    refine ⟨sA, ⟨fun q hq => ?_, sC1, sC⟩, fun u hu v hv => ?_⟩
    · rcases List.mem_cons.1 hq with rfl | hq
      · exact hik
      · have := sC1 q hq; omega
    · have hu2 := sAR u hu i (by simp)
      rcases List.mem_cons.1 hv with rfl | hv
      · exact hu2
      · rcases List.mem_cons.1 hv with rfl | hv
        · omega
        · have := sC1 v hv; omega
  · intro z q hz
    rcases List.mem_append.1 hz with hz | hz
    · have hq := numA _ hz q rfl
      obtain ⟨e1, e2, e3⟩ := h.mkd z q (List.mem_append_left _ hz)
      exact ⟨e1, e2, by rw [e3, hleft, if_neg (by omega), if_neg (by omega)]⟩
    · simp only [List.mem_cons] at hz
      rcases hz with hz | hz | hz | hz
      · injection hz with e1 e2
        obtain rfl := Option.some.inj e2
        subst e1
        exact ⟨mx, qx, by rw [hleft, if_neg (by omega), if_pos rfl]; show x.left - _ = _; rw [lx]⟩
      · injection hz with e1 e2
        cases e2
      · injection hz with e1 e2
        obtain rfl := Option.some.inj e2
        subst e1
        exact ⟨my, qy, by rw [hleft, if_pos rfl]; show y.left - _ = _; rw [ly]⟩
      · have hq := numC _ hz q rfl
        obtain ⟨e1, e2, e3⟩ := h.mkd z q (by simp [hz])
        exact ⟨e1, e2, by rw [e3, hleft, if_neg (by omega), if_neg (by omega)]⟩
  · intro z hz
    rcases List.mem_append.1 hz with hz | hz
    · exact h.un z (List.mem_append_left _ hz)
    · simp only [List.mem_cons] at hz
      rcases hz with hz | hz | hz | hz
      · injection hz with e1 e2; cases e2
      · injection hz with e1 e2; subst e1; rfl
      · injection hz with e1 e2; cases e2
      · exact h.un z (by simp [hz])
  · intro q hq ho
    rw [nums_app, nums_some, nums_none, nums_some]
    rcases pairUp_out st i k q (by rw [h.no]; omega) (by rw [h.no]; omega) ho with ⟨h1, h2⟩ | rfl | rfl
    · have := h.pres q hq h1
      rw [nums_app, nums_some, nums_app, nums_some] at this
      simp only [List.mem_append, List.mem_cons] at this ⊢
      rcases this with h3 | h3 | h3 | h3 | h3
      · exact .inl h3
      · exact .inr (.inl h3)
      · exfalso
        obtain ⟨z, hz⟩ := mem_nums.1 h3
        exact h2 (numM _ hz q rfl)
      · exact .inr (.inr (.inl h3))
      · exact .inr (.inr (.inr h3))
    · simp
    · simp
  · have hap := h.apt
    rw [List.map_append, List.map_cons, List.map_append, List.map_cons] at hap
    rw [List.map_append, List.map_cons, List.map_cons, List.map_cons]
    have h1 : Apt (A.map (·.1) ++ [x]) := by
      have e : A.map (·.1) ++ x :: (M.map (·.1) ++ y :: C.map (·.1)) = (A.map (·.1) ++ [x]) ++ (M.map (·.1) ++ y :: C.map (·.1)) := by simp
      rw [e] at hap
      exact Apt.left hap
    have h2 : Apt (y :: C.map (·.1)) := by
      have e : A.map (·.1) ++ x :: (M.map (·.1) ++ y :: C.map (·.1)) = (A.map (·.1) ++ x :: M.map (·.1)) ++ (y :: C.map (·.1)) := by simp
      rw [e] at hap
      exact Apt.right hap
    have h3 : Apt (A.map (·.1) ++ [cutP x (takes st i k)]) := Apt.swap h1 rfl
    have h4 : Apt (cutP y (takes st i k) :: C.map (·.1)) := Apt.swap (a := []) h2 rfl
    refine Apt.join h3 ?_
    refine ⟨fun m n _ hn => (by cases hn), Apt.unmarked h4 rfl⟩
theorem out_step (marks : List Spec.Mark) (st : MState) (L : List NP) (h : Inv marks st L) (k : Nat) (v : Bool) (hk : st.out.getD k true = false) : Inv marks ⟨st.left, st.out.set k v⟩ L := by
  refine ⟨h.sorted, h.mkd, h.un, fun q hq ho => h.pres q hq ?_, h.apt, h.nl, by rw [List.length_set]; exact h.no⟩
  by_cases e : q = k
  · subst e; exact hk
  · simpa [List.getD, List.getElem?_set, Ne.symm e] using ho
theorem matchAt_good (marks : List Spec.Mark) (k : Nat) (hk : k < marks.length) : ∀ (f : Nat) (st : MState) (L : List NP), Inv marks st L → Good (Spec.matchAt marks k f st).1 L ∧ Inv marks (Spec.matchAt marks k f st).2 ((Spec.matchAt marks k f st).1.foldl Spec.wrap L)
  | 0, st, L, h => ⟨.nil L, h⟩
  | f + 1, st, L, h => by
    have hb : marks[k]? = some marks[k] := List.getElem?_eq_getElem hk
    by_cases hc : st.out.getD k true = false ∧ marks[k].cls = true ∧ 0 < st.left.getD k 0
    · cases ho : Spec.opener marks st k k with
      | none =>
        rw [matchAt_none marks k f st _ hb hc ho]
        exact ⟨.nil L, out_step marks st L h k _ hc.1⟩
      | some i =>
        obtain ⟨hik, hfit⟩ := opener_some marks st k k i ho
        have hli := fits_left marks st i k hfit
        have ha : marks[i]? = some (marks[i]'(by omega)) := List.getElem?_eq_getElem (by omega)
        have hf2 := hfit
        rw [Spec.fits, ha, hb] at hf2
        simp only [Bool.and_eq_true, Bool.not_eq_true', beq_iff_eq] at hf2
        obtain ⟨A, M, C, x, y, hW, hI⟩ := pair_step marks st L h i k hik hk hf2.1.1.1.1 hc.1 hli hc.2.2 _ _ ha hb hf2.1.1.2
        obtain ⟨g1, g2⟩ := matchAt_good marks k hk f _ _ hI
        rw [matchAt_some marks k f st _ hb hc i ho]
        exact ⟨.cons _ _ L A M C x y hW g1, g2⟩
    · rw [matchAt_stop marks k f st _ hb hc]
      exact ⟨.nil L, h⟩
theorem matchFrom_good (marks : List Spec.Mark) (f : Nat) : ∀ (m k : Nat) (st : MState) (L : List NP), k + m ≤ marks.length → Inv marks st L → Good (Spec.matchFrom marks f m k st).1 L ∧ Inv marks (Spec.matchFrom marks f m k st).2 ((Spec.matchFrom marks f m k st).1.foldl Spec.wrap L)
  | 0, k, st, L, _, h => ⟨.nil L, h⟩
  | m + 1, k, st, L, hk, h => by
    rw [matchFrom_succ]
    obtain ⟨g1, g2⟩ := matchAt_good marks k (by omega) f st L h
    obtain ⟨g3, g4⟩ := matchFrom_good marks f m (k + 1) _ _ (by omega) g2
    refine ⟨g1.app g3, ?_⟩
    simp only [List.foldl_append]
    exact g4
/-- Marks of pieces have as many signs left as they have. -/
def Fresh (l : List Piece) : Prop := ∀ p ∈ l, ∀ m, p.mark = some m → p.left = m.n ∧ m.n ≠ 0
theorem numbered_inv (l : List Piece) (hA : Apt l) (hF : Fresh l) : Inv (l.filterMap (·.mark)) ⟨(l.filterMap (·.mark)).map (·.n), (l.filterMap (·.mark)).map (·.n == 0)⟩ (Spec.numbered 0 l) := by
  have key : ∀ (l : List Piece) (n : Nat), (nums (Spec.numbered n l) = (List.range (l.filterMap (·.mark)).length).map (n + ·)) ∧ (∀ x q, (x, some q) ∈ Spec.numbered n l → n ≤ q ∧ x.mark = (l.filterMap (·.mark))[q - n]? ∧ q - n < (l.filterMap (·.mark)).length ∧ x ∈ l) ∧ (∀ x, (x, none) ∈ Spec.numbered n l → x.mark = none) := by
    intro l
    induction l with
    | nil => intro n; exact ⟨rfl, fun x q h => (by cases h), fun x h => (by cases h)⟩
    | cons p t ih =>
      intro n
      cases hm : p.mark with
      | none =>
        have e : Spec.numbered n (p :: t) = (p, none) :: Spec.numbered n t := by rw [Spec.numbered]; simp only [hm]
        have ef : (p :: t).filterMap (·.mark) = t.filterMap (·.mark) := by rw [List.filterMap_cons]; simp only [hm]
        obtain ⟨i1, i2, i3⟩ := ih n
        rw [e, ef]
        refine ⟨i1, fun x q h => ?_, fun x h => ?_⟩
        · rcases List.mem_cons.1 h with h | h
          · injection h with _ h; cases h
          · obtain ⟨a1, a2, a3, a4⟩ := i2 x q h
            exact ⟨a1, a2, a3, List.mem_cons_of_mem _ a4⟩
        · rcases List.mem_cons.1 h with h | h
          · injection h with h _; subst h; exact hm
          · exact i3 x h
      | some m =>
        have e : Spec.numbered n (p :: t) = (p, some n) :: Spec.numbered (n + 1) t := by rw [Spec.numbered]; simp only [hm]
        have ef : (p :: t).filterMap (·.mark) = m :: t.filterMap (·.mark) := by rw [List.filterMap_cons]; simp only [hm]
        obtain ⟨i1, i2, i3⟩ := ih (n + 1)
        rw [e, ef]
        refine ⟨?_, fun x q h => ?_, fun x h => ?_⟩
        · rw [nums_some, i1, List.length_cons, List.range_succ_eq_map, List.map_cons, List.map_map]
          congr 1
          refine List.map_congr_left (fun x _ => ?_)
          show n + 1 + x = n + (x + 1)
          omega
        · rcases List.mem_cons.1 h with h | h
          · injection h with h1 h2
            obtain rfl := Option.some.inj h2
            subst h1
            exact ⟨Nat.le_refl _, by rw [Nat.sub_self]; exact hm, by simp, by simp⟩
          · obtain ⟨a1, a2, a3, a4⟩ := i2 x q h
            refine ⟨by omega, ?_, ?_, List.mem_cons_of_mem _ a4⟩
            · rw [a2, show q - n = (q - (n + 1)) + 1 by omega, List.getElem?_cons_succ]
            · rw [List.length_cons]; omega
        · rcases List.mem_cons.1 h with h | h
          · injection h with _ h; cases h
          · exact i3 x h
  obtain ⟨k1, k2, k3⟩ := key l 0
  refine ⟨?_, fun x q h => ?_, k3, fun q hq _ => ?_, by rw [numbered_fst]; exact hA, by simp, by simp⟩
  · rw [k1, List.pairwise_map]
    exact List.pairwise_lt_range.imp (fun h => by omega)
  · obtain ⟨a1, a2, a3, a4⟩ := k2 x q h
    rw [Nat.sub_zero] at a2 a3
    refine ⟨a2, a3, ?_⟩
    have hx : x.mark = some ((l.filterMap (·.mark))[q]) := by rw [a2, List.getElem?_eq_getElem a3]
    have := (hF x a4 _ hx).1
    rw [this]
    simp [List.getD, List.getElem?_eq_getElem a3]
  · rw [k1]
    exact List.mem_map.2 ⟨q, List.mem_range.2 hq, by omega⟩
theorem matches_good (l : List Piece) (hA : Apt l) (hF : Fresh l) : Good (Spec.matches_ (l.filterMap (·.mark))) (Spec.numbered 0 l) := by
  unfold Spec.matches_
  exact (matchFrom_good _ _ _ 0 _ _ (by omega) (numbered_inv l hA hF)).1
end Go.Proofs.YtmplfiflikhpjaaGreatDoor.Pl
/-
  PLAIN LEAN: what is kept of the pieces while a text is parsed.
-/
namespace Go.Proofs.YtmplfiflikhpjaaGreatDoor.Pl
open Go.Proofs.YtmplfiflikhpjaaGreatDoor.Spec (B Piece txt MState)

/-- How much text a piece may lay. -/
def wt (p : Piece) : Nat := match p.mark with
  | some _ => p.left
  | none => if p.node.kind = 10 then p.node.text.length else 0
def wtL (l : List Piece) : Nat := (l.map wt).sum
theorem wtL_app (a b : List Piece) : wtL (a ++ b) = wtL a + wtL b := by simp [wtL]
theorem wtL_one (p : Piece) : wtL [p] = wt p := by simp [wtL]
theorem wtL_take (l : List Piece) (n : Nat) : wtL (l.take n) ≤ wtL l := by
  have := wtL_app (l.take n) (l.drop n)
  rw [List.take_append_drop] at this
  omega
theorem wtL_drop (l : List Piece) (n : Nat) : wtL (l.drop n) ≤ wtL l := by
  have := wtL_app (l.take n) (l.drop n)
  rw [List.take_append_drop] at this
  omega
def MarkOk (p : Piece) : Prop := ∀ m, p.mark = some m → p.left = m.n ∧ m.n ≠ 0 ∧ p.raw = false ∧ p.noted = false
structure PG (s : B) (k : Nat) (ps : List Piece) : Prop where
  apt : Apt ps
  ok : ∀ p ∈ ps, MarkOk p
  next : ∀ p m, ps.getLast? = some p → p.mark = some m → s[k]? ≠ some m.sign
  lenk : ps.length ≤ k
  wtk : wtL ps ≤ k
theorem PG.fresh {s : B} {k : Nat} {ps : List Piece} (h : PG s k ps) : Fresh ps := fun p hp m hm => ⟨(h.ok p hp m hm).1, (h.ok p hp m hm).2.1⟩
theorem pg_nil (s : B) : PG s 0 [] := ⟨trivial, fun p hp => absurd hp (by simp), fun p m h => (by cases h), Nat.le_refl _, Nat.le_refl _⟩
/-- A piece without a mark is laid. -/
theorem PG.lay {s : B} {k : Nat} {ps : List Piece} (h : PG s k ps) (p : Piece) (hp : p.mark = none) (n : Nat) (hn : 0 < n) (hw : wt p ≤ n) : PG s (k + n) (ps ++ [p]) := by
  refine ⟨Apt.snoc h.apt (fun q m n _ _ hn => by rw [hp] at hn; cases hn), fun q hq => ?_, fun q m hq hm => ?_, ?_, ?_⟩
  · rcases List.mem_append.1 hq with h1 | h1
    · exact h.ok q h1
    · simp only [List.mem_singleton] at h1; subst h1
      intro m hm; rw [hp] at hm; cases hm
  · rw [List.getLast?_concat] at hq
    obtain rfl := Option.some.inj hq
    rw [hp] at hm; cases hm
  · have := h.lenk; simp; omega
  · have := h.wtk; rw [wtL_app, wtL_one]; omega
theorem wt_text (p : Piece) (t : B) : wt { p with node := p.node.addText t } ≤ wt p + t.length := by
  unfold wt
  cases p.mark with
  | some m => simp only; omega
  | none =>
    have h1 : (p.node.addText t).kind = p.node.kind := by cases p.node; rfl
    have h2 : (p.node.addText t).text = p.node.text ++ t := by cases p.node; rfl
    simp only [h1, h2]
    split
    · rw [List.length_append]; omega
    · omega
theorem PG.last {s : B} {k : Nat} {a : List Piece} {p : Piece} (h : PG s k (a ++ [p])) (q : Piece) (hq : q.mark = none) (hpm : p.mark = none) (n : Nat) (hw : wt q ≤ wt p + n) : PG s (k + n) (a ++ [q]) := by
  refine ⟨Apt.swap h.apt (hq.trans hpm.symm), fun r hr => ?_, fun r m hr hm => ?_, ?_, ?_⟩
  · rcases List.mem_append.1 hr with h1 | h1
    · exact h.ok r (by simp [h1])
    · simp only [List.mem_singleton] at h1; subst h1
      intro m hm; rw [hq] at hm; cases hm
  · rw [List.getLast?_concat] at hr
    obtain rfl := Option.some.inj hr
    rw [hq] at hm; cases hm
  · have := h.lenk; simp at this ⊢; omega
  · have := h.wtk; rw [wtL_app, wtL_one] at this ⊢; omega
theorem raw_unmarked {s : B} {k : Nat} {ps : List Piece} (h : PG s k ps) (p : Piece) (hp : p ∈ ps) (hr : p.raw = true) : p.mark = none := by
  cases hm : p.mark with
  | none => rfl
  | some m => have := (h.ok p hp m hm).2.2.1; rw [hr] at this; cases this
theorem PG.text {s : B} {k : Nat} {ps : List Piece} (h : PG s k ps) (t : B) (raw : Bool) (n : Nat) (hn : 0 < n) (ht : t.length ≤ n) : PG s (k + n) (Spec.addText ps t raw) := by
  have hw : wt ⟨txt t, raw, none, 0, false, false, false⟩ ≤ n := ht
  unfold Spec.addText
  cases hl : ps.getLast? with
  | none =>
    rw [List.getLast?_eq_none_iff] at hl
    subst hl
    exact h.lay ⟨txt t, raw, none, 0, false, false, false⟩ rfl n hn hw
  | some p =>
    obtain ⟨a, rfl⟩ := List.getLast?_eq_some_iff.1 hl
    simp only
    split
    · rename_i hc
      rw [List.dropLast_concat]
      have hm := raw_unmarked h p (by simp) hc.1
      exact h.last { p with node := p.node.addText t } hm hm n (by have := wt_text p t; omega)
    · exact h.lay ⟨txt t, raw, none, 0, false, false, false⟩ rfl n hn hw
theorem modify_ok (ps : List Piece) (i : Nat) (f : Piece → Piece) (hf : ∀ p, (f p).mark = p.mark ∧ (MarkOk p → MarkOk (f p)) ∧ wt (f p) = wt p) (h : ∀ p ∈ ps, MarkOk p) :
    (Apt ps → Apt (ps.modify i f)) ∧ (∀ p ∈ ps.modify i f, MarkOk p) ∧ (ps.modify i f).getLast?.map (·.mark) = ps.getLast?.map (·.mark) ∧ wtL (ps.modify i f) = wtL ps ∧ (ps.modify i f).map (·.mark) = ps.map (·.mark) := by
  have hmap : (ps.modify i f).map (·.mark) = ps.map (·.mark) := by
    induction ps generalizing i with
    | nil => simp
    | cons p t ih =>
      cases i with
      | zero => simp [(hf p).1]
      | succ i => simpa using ih i (fun q hq => h q (by simp [hq]))
  refine ⟨fun ha => ?_, ?_, ?_, ?_, hmap⟩
  · have aux : ∀ (a b : List Piece), a.map (·.mark) = b.map (·.mark) → Apt a → Apt b := by
      intro a
      induction a with
      | nil =>
        intro b hb _
        cases b with
        | nil => exact trivial
        | cons q t => simp at hb
      | cons p t ih =>
        intro b hb ha
        cases b with
        | nil => exact trivial
        | cons q u =>
          rw [List.map_cons, List.map_cons] at hb
          injection hb with h1 h2
          have hu := ih u h2 (Apt.tail ha)
          cases u with
          | nil => exact trivial
          | cons r u =>
            cases t with
            | nil => simp at h2
            | cons p2 t =>
              rw [List.map_cons, List.map_cons] at h2
              injection h2 with h3 h4
              exact ⟨fun m n hm hn => ha.1 m n (h1.trans hm) (h3.trans hn), hu⟩
    exact aux ps _ hmap.symm ha
  · clear hmap
    induction ps generalizing i with
    | nil => simp
    | cons p t ih =>
      cases i with
      | zero =>
        intro q hq
        simp only [List.modify_zero_cons, List.mem_cons] at hq
        rcases hq with rfl | hq
        · exact (hf p).2.1 (h p (by simp))
        · exact h q (by simp [hq])
      | succ i =>
        intro q hq
        simp only [List.modify_succ_cons, List.mem_cons] at hq
        rcases hq with rfl | hq
        · exact h _ (by simp)
        · exact ih i (fun r hr => h r (by simp [hr])) q hq
  · rw [← List.getLast?_map, ← List.getLast?_map, hmap]
  · clear hmap
    unfold wtL
    induction ps generalizing i with
    | nil => simp
    | cons p t ih =>
      cases i with
      | zero => simp [(hf p).2.2]
      | succ i => have := ih i (fun q hq => h q (by simp [hq])); simp at this ⊢; omega
theorem map_ok (ps : List Piece) (f : Piece → Piece) (hf : ∀ p, (f p).mark = p.mark ∧ (MarkOk p → MarkOk (f p)) ∧ wt (f p) = wt p) : (Apt ps → Apt (ps.map f)) ∧ ((∀ p ∈ ps, MarkOk p) → ∀ p ∈ ps.map f, MarkOk p) ∧ wtL (ps.map f) = wtL ps := by
  refine ⟨?_, ?_, ?_⟩
  · induction ps with
    | nil => intro _; exact trivial
    | cons p t ih =>
      intro ha
      have ih := ih (Apt.tail ha)
      cases t with
      | nil => exact trivial
      | cons q t => exact ⟨fun m n hm hn => ha.1 m n ((hf p).1 ▸ hm) ((hf q).1 ▸ hn), ih⟩
  · intro h p hp
    obtain ⟨q, hq, rfl⟩ := List.mem_map.1 hp
    exact (hf q).2.1 (h q hq)
  · unfold wtL
    rw [List.map_map]
    congr 1
    exact List.map_congr_left (fun p _ => (hf p).2.2)
theorem encodeRune_le (r : Int) : (Lib.encodeRune r).length ≤ 4 := by
  unfold Lib.encodeRune; rw [List.length_map]; exact (Lib.encodeRuneZ_length r).2
theorem named_le (s : B) : (Spec.named s).length ≤ 4 := by
  unfold Spec.named; repeat' split
  all_goals simp
theorem inner_le (s r : B) (h : Spec.inner s = some r) : r.length ≤ 4 := by
  unfold Spec.inner at h
  split at h
  · cases h; exact named_le s
  · split at h
    · cases h
    · split at h
      · obtain ⟨x, _, rfl⟩ := Option.map_eq_some_iff.1 h
        exact encodeRune_le _
      · cases h
theorem inner_two (name r : B) (h : Spec.inner name = some r) : 2 ≤ name.length := by
  cases name with
  | nil => exact absurd (show (Spec.inner []).isSome = true by rw [h]; rfl) (by decide)
  | cons c t =>
    cases t with
    | cons d u => simp
    | nil =>
      exfalso
      have hn : Spec.named [c] = [] := by
        unfold Spec.named
        simp
      unfold Spec.inner at h
      rw [hn, if_neg (by simp)] at h
      simp only at h
      split at h
      · cases h
      · cases h
theorem ent_small (l : B) : (Spec.ent l).1.length ≤ (Spec.ent l).2 := by
  cases l with
  | nil => exact Nat.le_refl _
  | cons c t =>
    unfold Spec.ent
    simp only
    split
    · split
      · rename_i r hr
        have h1 := inner_two _ _ hr
        have h2 := inner_le _ _ hr
        rw [List.length_take] at h1
        show r.length ≤ _ + 2
        omega
      · exact Nat.le_refl _
    · exact Nat.le_refl _
theorem run_next (c : UInt8) (l : B) : l[Spec.run l c]? ≠ some c := by
  unfold Spec.run
  induction l with
  | nil => simp
  | cons d t ih =>
    by_cases h : (d == c) = true
    · rw [List.takeWhile_cons, if_pos h, List.length_cons, List.getElem?_cons_succ]
      exact ih
    · rw [List.takeWhile_cons, if_neg h]
      simpa using h
theorem lastNoted_lt (ps : List Piece) (i : Nat) (h : Spec.lastNoted ps = some i) : i < ps.length := by
  unfold Spec.lastNoted at h
  have := List.mem_of_find?_eq_some h
  rw [List.mem_reverse, List.mem_range] at this
  exact this
theorem PG.bracket {s : B} {k : Nat} {ps : List Piece} (h : PG s k ps) (t : B) : PG s (k + (Spec.bracket t ps).1) (Spec.bracket t ps).2 := by
  unfold Spec.bracket
  cases hl : Spec.lastNoted ps with
  | none => exact h.text [93] true 1 (by omega) (by simp)
  | some i =>
    simp only
    have hi := lastNoted_lt ps i hl
    rw [List.getElem?_eq_getElem hi]
    simp only
    split
    · have hm := modify_ok ps i (fun p => { p with noted := false, raw := false }) (fun p => ⟨rfl, fun hp m hm => ⟨(hp m hm).1, (hp m hm).2.1, rfl, rfl⟩, rfl⟩) h.ok
      have h2 : PG s k (ps.modify i fun p => { p with noted := false, raw := false }) := by
        refine ⟨hm.1 h.apt, hm.2.1, fun p m hp hpm => ?_, by rw [List.length_modify]; exact h.lenk, by rw [hm.2.2.2.1]; exact h.wtk⟩
        have e := hm.2.2.1
        rw [hp] at e
        cases hlast : ps.getLast? with
        | none => rw [hlast] at e; cases e
        | some q =>
          rw [hlast] at e
          exact h.next q m hlast ((Option.some.inj e).symm.trans hpm)
      exact h2.text [93] true 1 (by omega) (by simp)
    · have hm := map_ok (ps.take i) (fun p => if ps[i].image = false ∧ p.noted = true ∧ p.image = false then { p with dead := true } else p) (fun p => by
        split
        · exact ⟨rfl, fun hp => hp, rfl⟩
        · exact ⟨rfl, fun hp => hp, rfl⟩)
      have hw := wtL_take ps i
      have hk := h.wtk
      have hlen := h.lenk
      refine ⟨Apt.snoc (hm.1 (Apt.take h.apt i)) (fun q m n _ _ hn => by cases hn), fun q hq => ?_, fun q m hq hm => ?_, ?_, ?_⟩
      · rcases List.mem_append.1 hq with h1 | h1
        · exact hm.2.1 (fun p hp => h.ok p (List.mem_of_mem_take hp)) q h1
        · simp only [List.mem_singleton] at h1; subst h1
          intro m hm; cases hm
      · rw [List.getLast?_concat] at hq
        obtain rfl := Option.some.inj hq
        cases hm
      · simp; omega
      · rw [wtL_app, wtL_one, hm.2.2]
        have : wt (Spec.plainP (Spec.Node.mk (if ps[i].image = true then 17 else 16) [] (Spec.dest t).1 (Spec.dest t).2.1 (Spec.nodes (ps.drop (i + 1))))) = 0 := by
          cases ps[i].image <;> rfl
        rw [this]
        omega
theorem trimRight_le (t c : B) : (Lib.trimRightS t c).length ≤ t.length := by
  unfold Lib.trimRightS
  rw [List.length_reverse]
  have := (List.dropWhile_sublist (c.contains ·) (l := t.reverse)).length_le
  rw [List.length_reverse] at this
  exact this
theorem PG.newline {s : B} {k : Nat} {ps : List Piece} (h : PG s k ps) (t : B) : PG s (k + (Spec.newline t ps).1) (Spec.newline t ps).2 := by
  unfold Spec.newline
  have hle := skipB_le t
  obtain ⟨n, hn⟩ : ∃ n, n = 1 + t.length - (Spec.skipB t).length := ⟨_, rfl⟩
  have hn0 : 0 < n := by omega
  simp only
  rw [← hn]
  have lay : ∀ (qs : List Piece) (kd : Nat), (kd = 11 ∨ kd = 12) → PG s k qs → PG s (k + n) (qs ++ [Spec.plainP (.mk kd [] [] [] [])]) := fun qs kd hkd hq => hq.lay _ rfl n hn0 (by
    unfold wt Spec.plainP Spec.Node.kind
    simp only
    rcases hkd with rfl | rfl <;> simp)
  cases hl : ps.getLast? with
  | none => exact lay ps 11 (.inl rfl) h
  | some p =>
    simp only
    obtain ⟨a, rfl⟩ := List.getLast?_eq_some_iff.1 hl
    split
    · rename_i hr
      have hm := raw_unmarked h p (by simp) hr
      refine lay _ _ (by split <;> simp) ?_
      rw [List.dropLast_concat]
      have := h.last { p with node := p.node.setText (Lib.trimRightS p.node.text [32]) } hm hm 0 (by
        unfold wt
        simp only [hm]
        have h1 : (p.node.setText (Lib.trimRightS p.node.text [32])).kind = p.node.kind := by cases p.node; rfl
        have h2 : (p.node.setText (Lib.trimRightS p.node.text [32])).text = Lib.trimRightS p.node.text [32] := by cases p.node; rfl
        rw [h1, h2]
        have := trimRight_le p.node.text [32]
        split <;> omega)
      exact this
    · exact lay _ 11 (.inl rfl) h
theorem PG.step {s : B} {k : Nat} {ps : List Piece} (h : PG s k ps) (hk : k < s.length) : PG s (k + (stepAt s k ps).1) (stepAt s k ps).2 := by
  unfold stepAt
  generalize lastR (last16 ⟨(s.take k).toArray⟩) = b
  generalize (fun l => firstR ⟨l.toArray⟩ : B → Nat) = a
  have hd := List.drop_eq_getElem_cons hk
  rw [hd]
  obtain ⟨c, hc⟩ : ∃ c, c = s[k] := ⟨_, rfl⟩
  obtain ⟨t, ht⟩ : ∃ t, t = s.drop (k + 1) := ⟨_, rfl⟩
  rw [← hc, ← ht] at hd
  rw [← hc, ← ht]
  have hpos := stepP_pos b a c t ps
  unfold Spec.stepP at hpos ⊢
  simp only at hpos ⊢
  have plainNode : ∀ (n : Spec.Node), n.kind ≠ 10 → wt (Spec.plainP n) = 0 := fun n hn => by
    unfold wt Spec.plainP
    simp only
    rw [if_neg hn]
  by_cases h1 : c = 92
  · rw [if_pos h1] at hpos ⊢
    split at hpos
    · rename_i h2
      rw [if_pos h2]
      exact h.lay _ rfl _ hpos.1 (by rw [plainNode _ (by intro e; cases e)]; exact Nat.zero_le _)
    · rename_i h2
      rw [if_neg h2]
      split
      · exact h.text _ false 2 (by omega) (by rw [List.length_take]; omega)
      · exact h.text _ true 1 (by omega) (by simp)
  rw [if_neg h1] at hpos ⊢
  by_cases h2 : c = 96
  · rw [if_pos h2] at hpos ⊢
    split at hpos
    · rename_i h3
      rw [if_pos h3]
      exact h.lay _ rfl _ hpos.1 (by rw [plainNode _ (by intro e; cases e)]; exact Nat.zero_le _)
    · rename_i h3
      rw [if_neg h3]
      exact h.text _ true _ hpos.1 (by rw [List.length_take]; exact Nat.min_le_left _ _)
  rw [if_neg h2] at hpos ⊢
  by_cases h3 : c = 60
  · rw [if_pos h3] at hpos ⊢
    split at hpos
    · rename_i h4
      rw [if_pos h4]
      exact h.lay _ rfl _ hpos.1 (by rw [plainNode _ (by show 16 ≠ 10; decide)]; exact Nat.zero_le _)
    · rename_i h4
      rw [if_neg h4]
      exact h.text _ true 1 (by omega) (by simp)
  rw [if_neg h3] at hpos ⊢
  by_cases h4 : c = 38
  · rw [if_pos h4] at hpos ⊢
    split at hpos
    · rename_i h5
      rw [if_pos h5]
      exact h.text _ false _ hpos.1 (ent_small _)
    · rename_i h5
      rw [if_neg h5]
      exact h.text _ true 1 (by omega) (by simp)
  rw [if_neg h4] at hpos ⊢
  by_cases h5 : c = 42 ∨ c = 95
  · rw [if_pos h5] at hpos ⊢
    simp only at hpos ⊢
    have hr0 := run_pos c t
    have hmark : ∀ m, (some (Spec.look c (Spec.run (c :: t) c) b (a ((c :: t).drop (Spec.run (c :: t) c)))) : Option Spec.Mark) = some m → m.sign = c ∧ m.n = Spec.run (c :: t) c := fun m hm => by
      obtain rfl := Option.some.inj hm
      unfold Spec.look
      simp only
      split <;> exact ⟨rfl, rfl⟩
    refine ⟨Apt.snoc h.apt (fun q m n hq hm hn => ?_), fun q hq => ?_, fun q m hq hm => ?_, ?_, ?_⟩
    · have h6 := h.next q m hq hm
      have h7 := (hmark n hn).1
      rw [List.getElem?_eq_getElem hk, ← hc] at h6
      rw [h7]
      exact fun e => h6 (by rw [e])
    · rcases List.mem_append.1 hq with h6 | h6
      · exact h.ok q h6
      · simp only [List.mem_singleton] at h6; subst h6
        intro m hm
        have := hmark m hm
        exact ⟨this.2.symm, by rw [this.2]; omega, rfl, rfl⟩
    · rw [List.getLast?_concat] at hq
      obtain rfl := Option.some.inj hq
      have := hmark m hm
      rw [this.1, ← List.getElem?_drop, hd]
      exact run_next c (c :: t)
    · have := h.lenk; simp; omega
    · rw [wtL_app, wtL_one]
      have := h.wtk
      show _ + Spec.run (c :: t) c ≤ _
      omega
  rw [if_neg h5] at hpos ⊢
  by_cases h6 : c = 33
  · rw [if_pos h6]
    split
    · exact h.lay _ rfl 2 (by omega) (by show 2 ≤ 2; omega)
    · exact h.text _ true 1 (by omega) (by simp)
  rw [if_neg h6] at hpos ⊢
  by_cases h7 : c = 91
  · rw [if_pos h7]
    exact h.lay _ rfl 1 (by omega) (by show 1 ≤ 1; omega)
  rw [if_neg h7] at hpos ⊢
  by_cases h8 : c = 93
  · rw [if_pos h8]
    exact h.bracket t
  rw [if_neg h8] at hpos ⊢
  by_cases h9 : c = 10
  · rw [if_pos h9]
    exact h.newline t
  rw [if_neg h9] at hpos ⊢
  exact h.text _ true _ hpos.1 (by rw [List.length_take]; exact Nat.min_le_left _ _)
end Go.Proofs.YtmplfiflikhpjaaGreatDoor.Pl
/-
  PLAIN LEAN: the last bracket that is noted.
-/
namespace Go.Proofs.YtmplfiflikhpjaaGreatDoor.Pl
open Go.Proofs.YtmplfiflikhpjaaGreatDoor.Spec (B Piece txt)

theorem find_rev_none (p : Nat → Bool) : ∀ n, (∀ j, j < n → p j = false) → (List.range n).reverse.find? p = none
  | 0, _ => rfl
  | n + 1, h => by
    rw [List.range_succ, List.reverse_append, List.reverse_singleton, List.singleton_append, List.find?_cons, h n (by omega)]
    exact find_rev_none p n (fun j hj => h j (by omega))
theorem find_rev_some (p : Nat → Bool) (i : Nat) (hp : p i = true) : ∀ n, i < n → (∀ j, i < j → j < n → p j = false) → (List.range n).reverse.find? p = some i
  | 0, h, _ => absurd h (by omega)
  | n + 1, hi, h => by
    rw [List.range_succ, List.reverse_append, List.reverse_singleton, List.singleton_append, List.find?_cons]
    by_cases e : i = n
    · subst e
      rw [hp]
    · rw [h n (by omega) (by omega)]
      exact find_rev_some p i hp n (by omega) (fun j h1 h2 => h j h1 (by omega))
def notedAt (ps : List Piece) (j : Nat) : Bool := (ps[j]?.map (·.noted)).getD false
theorem lastNoted_none (ps : List Piece) (h : ∀ j, j < ps.length → notedAt ps j = false) : Spec.lastNoted ps = none := find_rev_none _ _ h
theorem lastNoted_some (ps : List Piece) (i : Nat) (hi : i < ps.length) (hp : notedAt ps i = true) (h : ∀ j, i < j → j < ps.length → notedAt ps j = false) : Spec.lastNoted ps = some i := find_rev_some _ i hp _ hi h
/-- What becomes of the brackets ahead of a link. -/
def deadP (b : Piece) (p : Piece) : Piece := if b.image = false ∧ p.noted = true ∧ p.image = false then { p with dead := true } else p
theorem bracket_off (t : B) (ps : List Piece) (h : Spec.lastNoted ps = none) : Spec.bracket t ps = (1, Spec.addText ps [93] true) := by
  unfold Spec.bracket
  rw [h]
theorem bracket_no (t : B) (ps : List Piece) (i : Nat) (b : Piece) (h : Spec.lastNoted ps = some i) (hb : ps[i]? = some b) (hd : b.dead = true ∨ (Spec.dest t).2.2 = 0) :
    Spec.bracket t ps = (1, Spec.addText (ps.set i { b with noted := false, raw := false }) [93] true) := by
  unfold Spec.bracket
  rw [h]
  simp only
  rw [hb]
  simp only
  rw [if_pos hd]
  have e : ps.modify i (fun p => { p with noted := false, raw := false }) = ps.set i { b with noted := false, raw := false } := by
    apply List.ext_getElem?
    intro j
    rw [List.getElem?_modify, List.getElem?_set]
    by_cases hj : i = j
    · subst hj
      rw [if_pos rfl, if_pos (List.getElem?_eq_some_iff.1 hb).1, hb]
      simp
    · rw [if_neg hj]
      simp [hj]
  rw [e]
theorem bracket_yes (t : B) (ps : List Piece) (i : Nat) (b : Piece) (h : Spec.lastNoted ps = some i) (hb : ps[i]? = some b) (hd : ¬ (b.dead = true ∨ (Spec.dest t).2.2 = 0)) :
    Spec.bracket t ps = ((Spec.dest t).2.2 + 1, (ps.take i).map (deadP b) ++ [Spec.plainP (.mk (if b.image = true then 17 else 16) [] (Spec.dest t).1 (Spec.dest t).2.1 (Spec.nodes (ps.drop (i + 1))))]) := by
  unfold Spec.bracket
  rw [h]
  simp only
  rw [hb]
  simp only
  rw [if_neg hd]
  rfl
end Go.Proofs.YtmplfiflikhpjaaGreatDoor.Pl
/-
  PLAIN LEAN: a piece that stands as it is in the text is text.
-/
namespace Go.Proofs.YtmplfiflikhpjaaGreatDoor.Pl
open Go.Proofs.YtmplfiflikhpjaaGreatDoor.Spec (B Piece txt)

def RawK (ps : List Piece) : Prop := ∀ p ∈ ps, p.raw = true → p.node.kind = 10
theorem rawK_nil : RawK [] := fun p hp => absurd hp (by simp)
theorem RawK.lay {ps : List Piece} (h : RawK ps) (p : Piece) (hp : p.raw = true → p.node.kind = 10) : RawK (ps ++ [p]) := fun q hq => by
  rcases List.mem_append.1 hq with h1 | h1
  · exact h q h1
  · simp only [List.mem_singleton] at h1
    subst h1
    exact hp
theorem RawK.text {ps : List Piece} (h : RawK ps) (t : B) (raw : Bool) : RawK (Spec.addText ps t raw) := by
  unfold Spec.addText
  cases hl : ps.getLast? with
  | none =>
    intro p hp _
    simp only [List.mem_singleton] at hp
    subst hp; rfl
  | some p =>
    obtain ⟨a, rfl⟩ := List.getLast?_eq_some_iff.1 hl
    simp only
    split
    · rename_i hc
      rw [List.dropLast_concat]
      refine RawK.lay (fun q hq => h q (by simp [hq])) _ (fun _ => ?_)
      show (p.node.addText t).kind = 10
      rw [← hc.2.2.1]
      cases p.node; rfl
    · exact h.lay _ (fun _ => rfl)
theorem RawK.bracket {ps : List Piece} (h : RawK ps) (t : B) : RawK (Spec.bracket t ps).2 := by
  cases hl : Spec.lastNoted ps with
  | none => rw [bracket_off t ps hl]; exact h.text _ _
  | some i =>
    have hi := lastNoted_lt ps i hl
    have hb : ps[i]? = some ps[i] := List.getElem?_eq_getElem hi
    by_cases hd : ps[i].dead = true ∨ (Spec.dest t).2.2 = 0
    · rw [bracket_no t ps i _ hl hb hd]
      refine RawK.text (fun p hp hr => ?_) _ _
      rcases List.mem_or_eq_of_mem_set hp with h1 | h1
      · exact h p h1 hr
      · subst h1; cases hr
    · rw [bracket_yes t ps i _ hl hb hd]
      refine RawK.lay (fun p hp hr => ?_) _ (fun hr => by cases hr)
      obtain ⟨q, hq, rfl⟩ := List.mem_map.1 hp
      have hq2 := h q (List.mem_of_mem_take hq)
      unfold deadP at hr ⊢
      split at hr
      · rename_i hc; rw [if_pos hc]; exact hq2 hr
      · rename_i hc; rw [if_neg hc]; exact hq2 hr
theorem RawK.newline {ps : List Piece} (h : RawK ps) (t : B) : RawK (Spec.newline t ps).2 := by
  unfold Spec.newline
  simp only
  refine RawK.lay ?_ _ (fun hr => by cases hr)
  cases hl : ps.getLast? with
  | none => exact h
  | some p =>
    obtain ⟨a, rfl⟩ := List.getLast?_eq_some_iff.1 hl
    simp only
    split
    · rename_i hr
      rw [List.dropLast_concat]
      refine RawK.lay (fun q hq => h q (by simp [hq])) _ (fun _ => ?_)
      have := h p (by simp) hr
      show (p.node.setText _).kind = 10
      rw [← this]
      cases p.node; rfl
    · exact h
theorem RawK.step {ps : List Piece} (h : RawK ps) (b : Nat) (a : B → Nat) (s : B) : RawK (Spec.stepP b a s ps).2 := by
  unfold Spec.stepP
  cases s with
  | nil => exact h
  | cons c t =>
    simp only
    repeat' split
    all_goals first
      | exact h.text _ _
      | exact h.bracket _
      | exact h.newline _
      | exact h.lay _ (fun hr => by cases hr)
end Go.Proofs.YtmplfiflikhpjaaGreatDoor.Pl
/-
  PLAIN LEAN: a link in angles as the reference tells it: the same one.
-/
namespace Go.Proofs.YtmplfiflikhpjaaGreatDoor.Pl
open Go.Proofs.YtmplfiflikhpjaaGreatDoor.Spec (B)

/-- How many bytes a scheme has, without its colon. -/
def schN (l : B) : Nat := if (l.head?.map Spec.alpha) = some true then (l.takeWhile Spec.schemeC).length else 0
def schemeR (l : B) : Nat := if 2 ≤ schN l ∧ schN l ≤ 32 ∧ l[schN l]? = some 58 then schN l + 1 else 0
def mailN (l : B) : Nat := (l.takeWhile Spec.mailC).length
def mailR (l : B) : Bool := decide (0 < mailN l) && (l[mailN l]? == some 64) && Spec.host (l.drop (mailN l + 1))
def angN (l : B) : Nat := (l.takeWhile Spec.angleC).length
def autoR (t : B) : B × B × Nat :=
  if t[angN t]? = some 62 then
    (if 0 < schemeR (t.take (angN t)) then (t.take (angN t), Spec.uri (t.take (angN t)), angN t + 2)
     else if mailR (t.take (angN t)) = true then (t.take (angN t), Spec.mailto ++ Spec.uri (t.take (angN t)), angN t + 2) else ([], [], 0))
  else ([], [], 0)

theorem u8_imp {p q : UInt8 → Bool} (h : ∀ n, n < 256 → p (UInt8.ofNat n) = true → q (UInt8.ofNat n) = true) (c : UInt8) : p c = true → q c = true := by
  have := h c.toNat c.toNat_lt
  simpa using this
theorem scheme_angle (c : UInt8) : Spec.schemeC c = true → Spec.angleC c = true := u8_imp (p := Spec.schemeC) (q := Spec.angleC) (by decide +kernel) c
theorem mail_angle (c : UInt8) : Spec.mailC c = true → Spec.angleC c = true := u8_imp (p := Spec.mailC) (q := Spec.angleC) (by decide +kernel) c
theorem host_angle (c : UInt8) : Spec.hostC c = true → Spec.angleC c = true := u8_imp (p := Spec.hostC) (q := Spec.angleC) (by decide +kernel) c

theorem tw_len (p : UInt8 → Bool) (l : B) : (l.takeWhile p).length ≤ l.length := (List.takeWhile_sublist _).length_le
theorem tw_take (p : UInt8 → Bool) : ∀ l : B, l.take (l.takeWhile p).length = l.takeWhile p
  | [] => rfl
  | c :: t => by
    by_cases h : p c = true
    · rw [List.takeWhile_cons, if_pos h, List.length_cons, List.take_succ_cons, tw_take p t]
    · rw [List.takeWhile_cons, if_neg h]; rfl
/-- The first byte behind does not go on. -/
theorem tw_stop (p : UInt8 → Bool) : ∀ (l : B) (c : UInt8), l[(l.takeWhile p).length]? = some c → p c = false
  | [], c, h => by simp at h
  | x :: t, c, h => by
    by_cases hx : p x = true
    · rw [List.takeWhile_cons, if_pos hx, List.length_cons, List.getElem?_cons_succ] at h
      exact tw_stop p t c h
    · rw [List.takeWhile_cons, if_neg hx] at h
      simp at h
      rw [← h]
      exact Bool.eq_false_iff.2 hx
theorem tw_in (p : UInt8 → Bool) : ∀ (l : B) (i : Nat), i < (l.takeWhile p).length → ∃ c, l[i]? = some c ∧ p c = true
  | [], i, h => by simp at h
  | x :: t, i, h => by
    by_cases hx : p x = true
    · rw [List.takeWhile_cons, if_pos hx, List.length_cons] at h
      cases i with
      | zero => exact ⟨x, rfl, hx⟩
      | succ i => exact tw_in p t i (by omega)
    · rw [List.takeWhile_cons, if_neg hx] at h
      simp at h
/-- How long: all go on up to there, and there not. -/
theorem tw_is (p : UInt8 → Bool) : ∀ (l : B) (n : Nat), n ≤ l.length → (∀ i, i < n → ∃ c, l[i]? = some c ∧ p c = true) → (∀ c, l[n]? = some c → p c = false) → (l.takeWhile p).length = n
  | [], n, hn, _, _ => by simp at hn; simp [hn]
  | x :: t, n, hn, ha, hs => by
    cases n with
    | zero =>
      have := hs x rfl
      rw [List.takeWhile_cons, if_neg (by rw [this]; decide)]
      rfl
    | succ n =>
      obtain ⟨c, hc, hp⟩ := ha 0 (by omega)
      simp at hc
      subst hc
      rw [List.takeWhile_cons, if_pos hp, List.length_cons, tw_is p t n (by simpa using hn) (fun i hi => ha (i + 1) (by omega)) (fun c h => hs c (by simpa using h))]

/-- What a scheme's bytes and what stands behind them have. -/
theorem scheme_ang (l : B) (h : 0 < Spec.scheme l) : Spec.scheme l = angN l := by
  unfold Spec.scheme at h ⊢
  simp only at h ⊢
  split at h
  · rename_i hc
    rw [if_pos hc]
    generalize hn : (l.takeWhile Spec.schemeC).length = n at hc ⊢
    symm
    unfold angN
    have hnl : n ≤ l.length := by rw [← hn]; exact tw_len _ _
    have hl2 := tw_len Spec.angleC (l.drop n)
    rw [List.length_drop] at hl2
    refine tw_is _ _ _ (by omega) (fun i hi => ?_) (fun c hcc => ?_)
    · by_cases h1 : i < n
      · obtain ⟨c, hc1, hc2⟩ := tw_in Spec.schemeC l i (by omega)
        exact ⟨c, hc1, scheme_angle c hc2⟩
      · obtain ⟨c, hc1, hc2⟩ := tw_in Spec.angleC (l.drop n) (i - n) (by omega)
        rw [List.getElem?_drop, show n + (i - n) = i by omega] at hc1
        exact ⟨c, hc1, hc2⟩
    · refine tw_stop Spec.angleC (l.drop n) c ?_
      rw [List.getElem?_drop]
      exact hcc
  · exact absurd h (by decide)
theorem scheme_pos (l : B) : 0 < Spec.scheme l ↔ (2 ≤ (l.takeWhile Spec.schemeC).length ∧ (l.takeWhile Spec.schemeC).length ≤ 32 ∧ (l.head?.map Spec.alpha) = some true ∧ l[(l.takeWhile Spec.schemeC).length]? = some 58) := by
  unfold Spec.scheme
  simp only
  constructor
  · intro h
    split at h
    · assumption
    · exact absurd h (by decide)
  · intro h
    rw [if_pos h]
    omega
theorem head_take (l : B) (m : Nat) (h : 0 < m) : (l.take m).head? = l.head? := by
  cases l with
  | nil => simp
  | cons c t =>
    obtain ⟨k, rfl⟩ : ∃ k, m = k + 1 := ⟨m - 1, by omega⟩
    rfl
theorem tw_take_same (p : UInt8 → Bool) (l : B) (m : Nat) (hm : m ≤ l.length) (h : ∀ c, l[m]? = some c → p c = false) : ((l.take m).takeWhile p).length = (l.takeWhile p).length := by
  have hle : (l.takeWhile p).length ≤ m := by
    apply Decidable.byContradiction
    intro hn
    obtain ⟨c, h1, h2⟩ := tw_in p l m (by omega)
    rw [h c h1] at h2
    cases h2
  refine tw_is p (l.take m) _ (by rw [List.length_take]; omega) (fun i hi => ?_) (fun c hc => ?_)
  · obtain ⟨c, h1, h2⟩ := tw_in p l i hi
    exact ⟨c, by rw [List.getElem?_take_of_lt (by omega)]; exact h1, h2⟩
  · by_cases hq : (l.takeWhile p).length < m
    · rw [List.getElem?_take_of_lt hq] at hc
      exact tw_stop p l c hc
    · rw [List.getElem?_eq_none (by rw [List.length_take]; omega)] at hc
      cases hc
theorem schemeR_iff (l : B) : 0 < schemeR l ↔ (2 ≤ schN l ∧ schN l ≤ 32 ∧ l[schN l]? = some 58) := by
  unfold schemeR
  constructor
  · intro h
    by_cases hc : 2 ≤ schN l ∧ schN l ≤ 32 ∧ l[schN l]? = some 58
    · exact hc
    · rw [if_neg hc] at h
      omega
  · intro h
    rw [if_pos h]
    omega
theorem schN_pos (l : B) (h : 0 < schN l) : (l.head?.map Spec.alpha) = some true ∧ schN l = (l.takeWhile Spec.schemeC).length := by
  unfold schN at h ⊢
  by_cases hc : (l.head?.map Spec.alpha) = some true
  · exact ⟨hc, if_pos hc⟩
  · rw [if_neg hc] at h
    omega
theorem schemeR_pos (l : B) (h62 : l[angN l]? = some 62) : 0 < schemeR (l.take (angN l)) ↔ 0 < Spec.scheme l := by
  have hml : angN l ≤ l.length := tw_len _ _
  have hsame := tw_take_same Spec.schemeC l (angN l) hml (fun c hc => by rw [h62] at hc; cases hc; rfl)
  rw [scheme_pos, schemeR_iff]
  by_cases h0 : 0 < angN l
  · constructor
    · rintro ⟨h1, h2, h3⟩
      obtain ⟨ha, he⟩ := schN_pos _ (show 0 < schN (l.take (angN l)) by omega)
      rw [he, hsame] at h1 h2 h3
      rw [head_take l _ h0] at ha
      have hlt : (l.takeWhile Spec.schemeC).length < angN l := by
        apply Decidable.byContradiction
        intro hn
        rw [List.getElem?_eq_none (by rw [List.length_take]; omega)] at h3
        cases h3
      rw [List.getElem?_take_of_lt hlt] at h3
      exact ⟨h1, h2, ha, h3⟩
    · rintro ⟨h1, h2, h3, h4⟩
      have hlt : (l.takeWhile Spec.schemeC).length < angN l := by
        have hle : (l.takeWhile Spec.schemeC).length ≤ angN l := by
          rw [← hsame]
          have := tw_len Spec.schemeC (l.take (angN l))
          rw [List.length_take] at this
          omega
        rcases Nat.lt_or_ge (l.takeWhile Spec.schemeC).length (angN l) with h | h
        · exact h
        · have e : (l.takeWhile Spec.schemeC).length = angN l := by omega
          rw [e, h62] at h4
          cases h4
      have hN : schN (l.take (angN l)) = (l.takeWhile Spec.schemeC).length := by
        unfold schN
        rw [head_take l _ h0, if_pos h3, hsame]
      rw [hN]
      exact ⟨h1, h2, by rw [List.getElem?_take_of_lt hlt]; exact h4⟩
  · have h00 : angN l = 0 := by omega
    rw [h00] at h62 ⊢
    constructor
    · rintro ⟨h1, _⟩
      have : schN (l.take 0) ≤ 0 := by
        unfold schN
        split <;> simp
      omega
    · rintro ⟨h1, h2, h3, h4⟩
      cases l with
      | nil => cases h62
      | cons c t =>
        simp at h62 h3
        rw [h62] at h3
        cases h3
theorem mem_take (l : B) (k i : Nat) (h : i < k) (hl : i < l.length) : l[i] ∈ l.take k := by
  refine List.mem_of_getElem? (i := i) ?_
  rw [List.getElem?_take_of_lt h, List.getElem?_eq_getElem hl]
/-- The first place of a byte. -/
theorem idx_is (c : UInt8) (l : B) (k : Nat) (h1 : l[k]? = some c) (h2 : ∀ i, i < k → l[i]? ≠ some c) : Lib.indexByte l c = (k : Int) := by
  have hg := Lib.indexByte_ge l c
  by_cases hn : Lib.indexByte l c = -1
  · exact absurd h1 (Lib.indexByte_none hn k)
  · obtain ⟨o, ho⟩ := Int.eq_ofNat_of_zero_le (show 0 ≤ Lib.indexByte l c by omega)
    have hs := Lib.indexByte_some ho
    rw [ho]
    rcases Nat.lt_trichotomy o k with h | h | h
    · exact absurd hs.1 (h2 o h)
    · rw [h]
    · exact absurd h1 (hs.2 k h)
theorem cut_is (c : UInt8) (l : B) (k : Nat) (h1 : l[k]? = some c) (h2 : ∀ i, i < k → l[i]? ≠ some c) : Spec.cutAt c l = some (l.take k, l.drop (k + 1)) := by
  unfold Spec.cutAt
  rw [idx_is c l k h1 h2, if_pos (by omega)]
  simp
theorem cut_spec (c : UInt8) (l a b : B) (h : Spec.cutAt c l = some (a, b)) : ∃ k, l[k]? = some c ∧ (∀ i, i < k → l[i]? ≠ some c) ∧ a = l.take k ∧ b = l.drop (k + 1) := by
  unfold Spec.cutAt at h
  split at h
  · rename_i h0
    obtain ⟨o, ho⟩ := Int.eq_ofNat_of_zero_le h0
    have hs := Lib.indexByte_some ho
    cases h
    rw [ho]
    exact ⟨o, hs.1, hs.2, by simp, by simp⟩
  · cases h
theorem mailR_eq (l : B) : mailR l = Spec.mail l := by
  unfold mailR
  by_cases h64 : l[mailN l]? = some 64
  · rw [h64]
    have hbef : ∀ i, i < mailN l → l[i]? ≠ some 64 := fun i hi e => by
      obtain ⟨c, h1, h2⟩ := tw_in Spec.mailC l i hi
      rw [e] at h1
      cases h1
      exact absurd h2 (by decide)
    unfold Spec.mail
    rw [cut_is 64 l _ h64 hbef]
    simp only
    have hlen : (l.take (mailN l)).length = mailN l := by
      have := tw_len Spec.mailC l
      rw [List.length_take]
      unfold mailN at *
      omega
    have hall : (l.take (mailN l)).all Spec.mailC = true := by
      unfold mailN
      rw [tw_take, List.all_eq_true]
      intro x hx
      obtain ⟨i, hi, e⟩ := List.getElem_of_mem hx
      obtain ⟨c, h1, h2⟩ := tw_in Spec.mailC l i hi
      have h3 : (l.takeWhile Spec.mailC)[i]? = some c := by
        rw [← tw_take Spec.mailC l, List.getElem?_take_of_lt hi]
        exact h1
      rw [List.getElem?_eq_getElem hi, e] at h3
      cases h3
      exact h2
    rw [hlen, hall]
    simp
  · have hf : (l[mailN l]? == some 64) = false := beq_eq_false_iff_ne.2 h64
    rw [hf, Bool.and_false, Bool.false_and]
    symm
    unfold Spec.mail
    cases hc : Spec.cutAt 64 l with
    | none => rfl
    | some p =>
      obtain ⟨a, b⟩ := p
      obtain ⟨k, h1, h2, rfl, rfl⟩ := cut_spec 64 l a b hc
      simp only
      have hkl : k < l.length := by
        apply Decidable.byContradiction
        intro hn
        rw [List.getElem?_eq_none (by omega)] at h1
        cases h1
      have hna : (l.take k).all Spec.mailC = false := by
        rw [← Bool.not_eq_true]
        intro hall
        rw [List.all_eq_true] at hall
        refine h64 ?_
        have : mailN l = k := tw_is Spec.mailC l k (by omega) (fun i hi => by
          have hil : i < l.length := by omega
          exact ⟨l[i], List.getElem?_eq_getElem hil, hall _ (mem_take l k i hi hil)⟩) (fun c hc => by rw [h1] at hc; cases hc; rfl)
        rw [this]
        exact h1
      rw [hna, Bool.and_false, Bool.false_and]
theorem parts_ne (l : B) : Spec.parts l ≠ [] := by
  cases l with
  | nil => simp [Spec.parts]
  | cons c t =>
    unfold Spec.parts
    split
    · simp
    · split <;> simp
theorem host_all (l : B) (h : Spec.host l = true) : ∀ c ∈ l, Spec.hostC c = true ∨ c = 46 := by
  unfold Spec.host at h
  induction l with
  | nil => intro c hc; cases hc
  | cons x t ih =>
    intro c hc
    unfold Spec.parts at h
    by_cases hx : x = 46
    · rw [if_pos hx, List.all_cons, Bool.and_eq_true] at h
      rcases List.mem_cons.1 hc with rfl | hc
      · exact .inr hx
      · exact ih h.2 c hc
    · rw [if_neg hx] at h
      cases hp : Spec.parts t with
      | nil => exact absurd hp (parts_ne t)
      | cons p ps =>
        rw [hp] at h ih
        simp only [List.all_cons, Bool.and_eq_true] at h ih
        obtain ⟨h1, h2⟩ := h
        unfold Spec.partOk at h1
        simp only [Bool.and_eq_true, List.all_cons] at h1
        rcases List.mem_cons.1 hc with rfl | hc
        · exact .inl h1.2.1
        · -- what is left of the part
          by_cases hmem : c ∈ p
          · exact .inl (List.all_eq_true.1 h1.2.2 c hmem)
          · have hjoin : ∀ (l : B) (c : UInt8), c ∈ l → c = 46 ∨ ∃ q ∈ Spec.parts l, c ∈ q := by
              intro l
              induction l with
              | nil => intro c hc; cases hc
              | cons y u ihu =>
                intro c hc
                unfold Spec.parts
                by_cases hy : y = 46
                · rw [if_pos hy]
                  rcases List.mem_cons.1 hc with rfl | hc
                  · exact .inl hy
                  · rcases ihu c hc with h | ⟨q, hq, hcq⟩
                    · exact .inl h
                    · exact .inr ⟨q, List.mem_cons_of_mem _ hq, hcq⟩
                · rw [if_neg hy]
                  cases hpu : Spec.parts u with
                  | nil => exact absurd hpu (parts_ne u)
                  | cons r rs =>
                    rcases List.mem_cons.1 hc with rfl | hc
                    · exact .inr ⟨c :: r, by simp, by simp⟩
                    · rcases ihu c hc with h | ⟨q, hq, hcq⟩
                      · exact .inl h
                      · rw [hpu] at hq
                        rcases List.mem_cons.1 hq with rfl | hq
                        · exact .inr ⟨y :: q, by simp, by simp [hcq]⟩
                        · exact .inr ⟨q, by simp [hq], hcq⟩
            rcases hjoin t c hc with h | ⟨q, hq, hcq⟩
            · exact .inr h
            · rw [hp] at hq
              rcases List.mem_cons.1 hq with rfl | hq
              · exact absurd hcq hmem
              · have := List.all_eq_true.1 h2 q hq
                unfold Spec.partOk at this
                simp only [Bool.and_eq_true] at this
                exact .inl (List.all_eq_true.1 this.2 c hcq)
theorem mail_all (l : B) (h : Spec.mail l = true) : ∀ c ∈ l, Spec.angleC c = true := by
  unfold Spec.mail at h
  cases hc : Spec.cutAt 64 l with
  | none => rw [hc] at h; cases h
  | some p =>
    obtain ⟨a, b⟩ := p
    obtain ⟨k, h1, h2, rfl, rfl⟩ := cut_spec 64 l a b hc
    rw [hc] at h
    simp only [Bool.and_eq_true] at h
    intro c hm
    have hkl : k < l.length := by
      apply Decidable.byContradiction
      intro hn
      rw [List.getElem?_eq_none (by omega)] at h1
      cases h1
    have hs : l = l.take k ++ (64 :: l.drop (k + 1)) := by
      have e : l[k] = 64 := by rw [List.getElem?_eq_getElem hkl] at h1; exact Option.some.inj h1
      rw [← e, ← List.drop_eq_getElem_cons hkl, List.take_append_drop]
    rw [hs] at hm
    rcases List.mem_append.1 hm with hm | hm
    · exact mail_angle c (List.all_eq_true.1 h.1.2 c hm)
    · rcases List.mem_cons.1 hm with rfl | hm
      · decide
      · rcases host_all _ h.2 c hm with h | rfl
        · exact host_angle c h
        · decide
theorem autoR_eq (t : B) : Spec.auto (60 :: t) = autoR t := by
  have hml : angN t ≤ t.length := tw_len _ _
  unfold Spec.auto autoR
  simp only
  rw [if_neg (by decide)]
  by_cases h62 : t[angN t]? = some 62
  · rw [if_pos h62]
    by_cases hs : 0 < Spec.scheme t
    · have e := scheme_ang t hs
      rw [if_pos ⟨hs, by rw [e]; exact h62⟩, if_pos ((schemeR_pos t h62).2 hs), e]
    · rw [if_neg (fun h => hs h.1), if_neg (fun h => hs ((schemeR_pos t h62).1 h))]
      rw [cut_is 62 t _ h62 (fun i hi e => by
        obtain ⟨c, h1, h2⟩ := tw_in Spec.angleC t i hi
        rw [e] at h1
        cases h1
        exact absurd h2 (by decide))]
      simp only
      rw [mailR_eq]
      have hlen : (t.take (angN t)).length = angN t := by rw [List.length_take]; omega
      rw [hlen]
  · rw [if_neg h62, if_neg (by
      rintro ⟨hs, he⟩
      rw [scheme_ang t hs] at he
      exact h62 he)]
    cases hc : Spec.cutAt 62 t with
    | none => rfl
    | some p =>
      obtain ⟨a, b⟩ := p
      obtain ⟨k, h1, h2, rfl, rfl⟩ := cut_spec 62 t a b hc
      simp only
      rw [if_neg]
      intro hm
      refine h62 ?_
      have hkl : k < t.length := by
        apply Decidable.byContradiction
        intro hn
        rw [List.getElem?_eq_none (by omega)] at h1
        cases h1
      have : angN t = k := tw_is Spec.angleC t k (by omega) (fun i hi => by
        have hil : i < t.length := by omega
        exact ⟨t[i], List.getElem?_eq_getElem hil, mail_all _ hm _ (mem_take t k i hi hil)⟩) (fun c hc => by rw [h1] at hc; cases hc; rfl)
      rw [this]
      exact h1
/-! ### the parts between points, one byte after the other -/
def partE (q : B) : Bool := decide (0 < q.length) && decide (q.length ≤ 63) && q.head? != some 45 && q.getLast? != some 45
def hostW : B → B → Bool
  | _, [] => true
  | q, c :: t => if c = 46 then partE q && hostW [] t else Spec.hostC c && hostW (q ++ [c]) t
theorem partE_ok (q : B) (h : q.all Spec.hostC = true) : Spec.partOk q = partE q := by
  unfold Spec.partOk partE
  rw [h, Bool.and_true]
theorem hostW_eq : ∀ (l q : B), q.all Spec.hostC = true → hostW q (l ++ [46]) = (match Spec.parts l with | p :: ps => Spec.partOk (q ++ p) && ps.all Spec.partOk | [] => true)
  | [], q, hq => by
    show (if (46 : UInt8) = 46 then (partE q && hostW [] []) else (Spec.hostC 46 && hostW (q ++ [46]) [])) = (Spec.partOk (q ++ []) && true)
    rw [if_pos rfl, List.append_nil, partE_ok q hq]
    rfl
  | c :: t, q, hq => by
    show (if c = 46 then partE q && hostW [] (t ++ [46]) else Spec.hostC c && hostW (q ++ [c]) (t ++ [46])) = _
    unfold Spec.parts
    by_cases hc : c = 46
    · rw [if_pos hc, if_pos hc, hostW_eq t [] rfl]
      simp only [List.append_nil]
      rw [partE_ok q hq]
      cases hp : Spec.parts t with
      | nil => exact absurd hp (parts_ne t)
      | cons p ps => simp
    · rw [if_neg hc, if_neg hc]
      cases hp : Spec.parts t with
      | nil => exact absurd hp (parts_ne t)
      | cons p ps =>
        simp only
        cases hh : Spec.hostC c with
        | true =>
          rw [Bool.true_and, hostW_eq t (q ++ [c]) (by rw [List.all_append, hq]; simp [hh]), hp]
          simp
        | false =>
          rw [Bool.false_and]
          have : Spec.partOk (q ++ c :: p) = false := by
            unfold Spec.partOk
            simp [hh]
          rw [this, Bool.false_and]
theorem host_hostW (l : B) : Spec.host l = hostW [] (l ++ [46]) := by
  rw [hostW_eq l [] rfl]
  unfold Spec.host
  cases hp : Spec.parts l with
  | nil => exact absurd hp (parts_ne l)
  | cons p ps => simp
theorem host_cons_dot (q t : B) : hostW q (46 :: t) = (partE q && hostW [] t) := by
  show (if (46 : UInt8) = 46 then _ else _) = _
  rw [if_pos rfl]
theorem host_cons (q t : B) (c : UInt8) (h : c ≠ 46) : hostW q (c :: t) = (Spec.hostC c && hostW (q ++ [c]) t) := by
  show (if c = 46 then _ else _) = _
  rw [if_neg h]
end Go.Proofs.YtmplfiflikhpjaaGreatDoor.Pl
