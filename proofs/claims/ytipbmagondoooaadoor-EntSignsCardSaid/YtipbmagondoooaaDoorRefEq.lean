/-
  Plain Lean, then the reference's At whole: its answer is ent.At's, at every text.
-/
import Derived.Test.YtipbmagondoooaaDoorRefNum
import Derived.Lib.IndexLaws
namespace Go.Proofs.YtipbmagondoooaaDoor
open Go.RowKit

/-! ### where the first ';' stands -/
theorem idx_app (d r : List UInt8) (h : (59 : UInt8) ∉ d) : Lib.indexByte (d ++ 59 :: r) 59 = d.length := by
  induction d with
  | nil => rfl
  | cons a d ih =>
    have ha : a ≠ 59 := fun e => h (by rw [e]; simp)
    have i := ih (fun e => h (by simp [e]))
    rw [List.cons_append, idx_cons _ _ ha, i, if_neg (by omega)]
    simp
theorem idx_split (t : List UInt8) (j : Nat) (h : Lib.indexByte t 59 = j) : t = t.take j ++ 59 :: t.drop (j + 1) ∧ (59 : UInt8) ∉ t.take j := by
  obtain ⟨h1, h2⟩ := Lib.indexByte_some h
  obtain ⟨hj, he⟩ := List.getElem?_eq_some_iff.1 h1
  constructor
  · rw [← he, ← List.drop_eq_getElem_cons hj, List.take_append_drop]
  · intro hm
    obtain ⟨i, hi, e⟩ := List.getElem_of_mem hm
    rw [List.length_take] at hi
    rw [List.getElem_take] at e
    exact h2 i (by omega) (by rw [List.getElem?_eq_getElem (by omega), e])
theorem idx_neg (t : List UInt8) (h : Lib.indexByte t 59 < 0) : ∀ (k : Nat), t[k]? ≠ some 59 := by
  have := Lib.indexByte_ge t 59
  exact Lib.indexByte_none (by omega)

/-! ### the nine -/
theorem key_prefix (n : List UInt8) (hn : (59 : UInt8) ∉ n) (c : UInt8) (t : List UInt8) :
    (key n).isPrefixOf (c :: t) = true ↔ c = 38 ∧ 0 ≤ Lib.indexByte t 59 ∧ t.take (Lib.indexByte t 59).toNat = n := by
  unfold key
  rw [List.isPrefixOf_iff_prefix, List.cons_append, List.cons_prefix_cons]
  constructor
  · rintro ⟨rfl, r, rfl⟩
    rw [List.append_assoc, List.singleton_append, idx_app n r hn]
    exact ⟨rfl, by omega, by simp⟩
  · rintro ⟨rfl, h0, h⟩
    refine ⟨rfl, ?_⟩
    obtain ⟨j, hj⟩ : ∃ j : Nat, Lib.indexByte t 59 = j := ⟨(Lib.indexByte t 59).toNat, by omega⟩
    have hs := (idx_split t j hj).1
    rw [hj, Int.toNat_natCast] at h
    rw [h] at hs
    exact ⟨t.drop (j + 1), by rw [List.append_assoc, List.singleton_append]; exact hs.symm⟩
theorem firstOf_no (c : UInt8) (t : List UInt8) (h : c ≠ 38 ∨ Lib.indexByte t 59 < 0) : firstOf nine (c :: t) = ([], 0) := by
  have no : ∀ n : List UInt8, (59 : UInt8) ∉ n → ¬ (key n).isPrefixOf (c :: t) = true := fun n hn hp => by
    obtain ⟨h1, h2, _⟩ := (key_prefix n hn c t).1 hp
    rcases h with h | h
    · exact h h1
    · omega
  unfold nine
  simp only [firstOf]
  rw [if_neg (no _ (by decide)), if_neg (no _ (by decide)), if_neg (no _ (by decide)), if_neg (no _ (by decide)), if_neg (no _ (by decide)), if_neg (no _ (by decide)), if_neg (no _ (by decide)), if_neg (no _ (by decide)), if_neg (no _ (by decide))]
theorem firstOf_yes (t : List UInt8) (h0 : 0 ≤ Lib.indexByte t 59) :
    firstOf nine (38 :: t) = if Spec.named (t.take (Lib.indexByte t 59).toNat) ≠ [] then (Spec.named (t.take (Lib.indexByte t 59).toNat), (Lib.indexByte t 59).toNat + 2) else ([], 0) := by
  have hlt := idx_lt t
  obtain ⟨j, hj⟩ : ∃ j : Nat, Lib.indexByte t 59 = j := ⟨(Lib.indexByte t 59).toNat, by omega⟩
  have yes : ∀ n : List UInt8, (59 : UInt8) ∉ n → ((key n).isPrefixOf (38 :: t) = true ↔ t.take j = n) := fun n hn => by
    rw [key_prefix n hn, hj, Int.toNat_natCast]
    exact ⟨fun h => h.2.2, fun h => ⟨rfl, by omega, h⟩⟩
  rw [hj, Int.toNat_natCast]
  have hl : (t.take j).length = j := by rw [List.length_take]; omega
  have hlen : ∀ n : List UInt8, t.take j = n → n.length = j := fun n e => by rw [← e, hl]
  unfold nine
  simp only [firstOf]
  by_cases e1 : t.take j = [97, 109, 112]
  · rw [if_pos ((yes _ (by decide)).2 e1), e1, ← hlen _ e1]; rfl
  rw [if_neg (fun h => e1 ((yes _ (by decide)).1 h))]
  by_cases e2 : t.take j = [108, 116]
  · rw [if_pos ((yes _ (by decide)).2 e2), e2, ← hlen _ e2]; rfl
  rw [if_neg (fun h => e2 ((yes _ (by decide)).1 h))]
  by_cases e3 : t.take j = [103, 116]
  · rw [if_pos ((yes _ (by decide)).2 e3), e3, ← hlen _ e3]; rfl
  rw [if_neg (fun h => e3 ((yes _ (by decide)).1 h))]
  by_cases e4 : t.take j = [113, 117, 111, 116]
  · rw [if_pos ((yes _ (by decide)).2 e4), e4, ← hlen _ e4]; rfl
  rw [if_neg (fun h => e4 ((yes _ (by decide)).1 h))]
  by_cases e5 : t.take j = [97, 112, 111, 115]
  · rw [if_pos ((yes _ (by decide)).2 e5), e5, ← hlen _ e5]; rfl
  rw [if_neg (fun h => e5 ((yes _ (by decide)).1 h))]
  by_cases e6 : t.take j = [110, 98, 115, 112]
  · rw [if_pos ((yes _ (by decide)).2 e6), e6, ← hlen _ e6]; rfl
  rw [if_neg (fun h => e6 ((yes _ (by decide)).1 h))]
  by_cases e7 : t.take j = [99, 111, 112, 121]
  · rw [if_pos ((yes _ (by decide)).2 e7), e7, ← hlen _ e7]; rfl
  rw [if_neg (fun h => e7 ((yes _ (by decide)).1 h))]
  by_cases e8 : t.take j = [104, 101, 108, 108, 105, 112]
  · rw [if_pos ((yes _ (by decide)).2 e8), e8, ← hlen _ e8]; rfl
  rw [if_neg (fun h => e8 ((yes _ (by decide)).1 h))]
  by_cases e9 : t.take j = [109, 100, 97, 115, 104]
  · rw [if_pos ((yes _ (by decide)).2 e9), e9, ← hlen _ e9]; rfl
  rw [if_neg (fun h => e9 ((yes _ (by decide)).1 h))]
  have hn : Spec.named (t.take j) = [] := by
    unfold Spec.named
    rw [if_neg e1, if_neg e2, if_neg e3, if_neg e4, if_neg e5, if_neg e6, if_neg e7, if_neg e8, if_neg e9]
  rw [hn, if_neg (by simp)]

/-! ### the numbers -/
theorem enc_rune (v : Nat) : Lib.encodeRune ((if v = 0 then 65533 else v : Nat) : Int) = Lib.encodeRune ((Spec.runeOf v : Nat) : Int) := by
  unfold Spec.runeOf
  by_cases h0 : v = 0
  · rw [if_pos h0, if_neg (by simp [h0])]
  · rw [if_neg h0]
    by_cases hv : Spec.validR v = true
    · rw [if_pos ⟨h0, hv⟩]
    · rw [if_neg (fun h => hv h.2)]
      unfold Spec.validR at hv
      simp only [Bool.or_eq_true, Bool.and_eq_true, decide_eq_true_eq] at hv
      unfold Lib.encodeRune
      rw [Lib.encodeRuneZ_bad (by omega)]
      decide
theorem isDig10 (c : UInt8) : isDig 10 c = Spec.decs.contains c := by
  have h : ∀ n : Fin 256, isDig 10 (UInt8.ofNat n.val) = Spec.decs.contains (UInt8.ofNat n.val) := by decide +kernel
  have := h ⟨c.toNat, c.toNat_lt⟩
  rwa [UInt8.ofNat_toNat] at this
theorem isDig16 (c : UInt8) : isDig 16 c = Spec.hexs.contains c := by
  have h : ∀ n : Fin 256, isDig 16 (UInt8.ofNat n.val) = Spec.hexs.contains (UInt8.ofNat n.val) := by decide +kernel
  have := h ⟨c.toNat, c.toNat_lt⟩
  rwa [UInt8.ofNat_toNat] at this
theorem digs_all (base : Nat) : ∀ (most : Nat) (r : List UInt8), (∀ c ∈ digs base most r, isDig base c = true) ∧ digs base most r = r.take (digs base most r).length ∧ (digs base most r).length ≤ most ∧ (digs base most r).length ≤ r.length := by
  intro most
  induction most with
  | zero => intro r; exact ⟨fun c h => absurd h List.not_mem_nil, rfl, Nat.le_refl _, Nat.zero_le _⟩
  | succ n ih =>
    intro r
    cases r with
    | nil => exact ⟨fun c h => absurd h List.not_mem_nil, rfl, Nat.zero_le _, Nat.le_refl _⟩
    | cons c t =>
      unfold digs
      by_cases h : isDig base c = true
      · rw [if_pos h]
        obtain ⟨h1, h2, h3, h4⟩ := ih t
        refine ⟨fun x hx => ?_, ?_, by simp; omega, by simp; omega⟩
        · rcases List.mem_cons.1 hx with rfl | hx
          · exact h
          · exact h1 x hx
        · rw [List.length_cons, List.take_succ_cons]
          exact congrArg (c :: ·) h2
      · rw [if_neg h]
        exact ⟨fun c h => absurd h List.not_mem_nil, rfl, Nat.zero_le _, Nat.zero_le _⟩
/-- The reference's number is the spec's. -/
theorem refNum_eq (base most at0 : Nat) (set : List UInt8) (hset : ∀ c, isDig base c = set.contains c) (h59 : isDig base 59 = false) (r : List UInt8) :
    refNum base most at0 r = if 0 ≤ Lib.indexByte r 59 then
      (match Spec.number (r.take (Lib.indexByte r 59).toNat) set base most with
       | some v => (Lib.encodeRune (v : Int), at0 + (Lib.indexByte r 59).toNat + 1)
       | none => ([], 0)) else ([], 0) := by
  obtain ⟨h1, h2, h3, h4⟩ := digs_all base most r
  by_cases hi : 0 ≤ Lib.indexByte r 59
  · rw [if_pos hi]
    have hlt := idx_lt r
    obtain ⟨j, hj⟩ : ∃ j : Nat, Lib.indexByte r 59 = j := ⟨(Lib.indexByte r 59).toNat, by omega⟩
    obtain ⟨hs, hno⟩ := idx_split r j hj
    rw [hj, Int.toNat_natCast]
    have hjl : j < r.length := by omega
    have hrj : r[j]? = some 59 := (Lib.indexByte_some hj).1
    have hl : (r.take j).length = j := by rw [List.length_take]; omega
    by_cases hok : r.take j = [] ∨ most < (r.take j).length ∨ (r.take j).all (set.contains ·) = false
    · have hn : Spec.number (r.take j) set base most = none := by unfold Spec.number; rw [if_pos hok]
      rw [hn]
      unfold refNum
      rw [if_pos]
      apply Decidable.byContradiction
      intro hc
      have hc1 : ¬ digs base most r = [] := fun e => hc (.inl e)
      have hc2 : (r.drop (digs base most r).length).head? = some 59 := Decidable.byContradiction fun e => hc (.inr e)
      rw [List.head?_drop] at hc2
      have hle : j ≤ (digs base most r).length := by
        apply Decidable.byContradiction
        intro hlt2
        exact (Lib.indexByte_some hj).2 _ (by omega) hc2
      have hge : (digs base most r).length ≤ j := by
        apply Decidable.byContradiction
        intro hlt2
        have hm : (59 : UInt8) ∈ digs base most r := by
          rw [h2]
          exact List.mem_of_getElem? (i := j) (by rw [List.getElem?_take, if_pos (by omega)]; exact hrj)
        rw [h1 _ hm] at h59
        cases h59
      have he : (digs base most r).length = j := by omega
      rw [he] at h2
      rcases hok with hok | hok | hok
      · exact hc1 (h2.trans hok)
      · rw [hl] at hok; omega
      · rw [← h2] at hok
        rw [Bool.eq_false_iff] at hok
        exact hok (List.all_eq_true.2 fun c hc => by rw [← hset]; exact h1 c hc)
    · have hn : Spec.number (r.take j) set base most = some (Spec.runeOf (Spec.numV base (r.take j))) := by unfold Spec.number; rw [if_neg hok]
      rw [hn]
      have hall : (r.take j).all (set.contains ·) = true := by
        cases h : (r.take j).all (set.contains ·) with
        | true => rfl
        | false => exact absurd (.inr (.inr h)) hok
      have hds : digs base most r = r.take j := digs_take base most r j (by
          have : ¬ most < (r.take j).length := fun h => hok (.inr (.inl h))
          omega) (fun c hc => by rw [hset]; exact List.all_eq_true.1 hall c hc) (by omega) (.inr (.inr ⟨59, hrj, h59⟩))
      unfold refNum
      rw [hds, hl, if_neg (by
        rw [List.head?_drop, hrj]
        exact fun h => h.elim (fun e => hok (.inl e)) (fun e => e rfl)), enc_rune]
  · rw [if_neg hi]
    unfold refNum
    rw [if_pos (.inr (by rw [List.head?_drop]; exact idx_neg r (by omega) _))]

/-- What the reference's At answers, in the order of its tests. -/
def refEnt (l : List UInt8) : List UInt8 × Nat :=
  if 0 < (firstOf nine l).2 then firstOf nine l
  else match l with
    | 38 :: 35 :: c :: r => if c = 120 ∨ c = 88 then refNum 16 6 3 r else refNum 10 7 2 (c :: r)
    | 38 :: 35 :: [] => refNum 10 7 2 []
    | _ => ([], 0)
theorem named_hash (d : List UInt8) : Spec.named (35 :: d) = [] := by
  unfold Spec.named
  simp
theorem ent_ref (l : List UInt8) : refEnt l = Spec.ent l := by
  cases l with
  | nil => rfl
  | cons c t =>
    by_cases h : c ≠ 38 ∨ Lib.indexByte (c :: t) 59 < 0
    · rw [ent_no c t h]
      have h' : c ≠ 38 ∨ Lib.indexByte t 59 < 0 := h.elim .inl (fun h => by
        by_cases hc : c = 38
        · subst hc
          rw [idx_cons _ _ (by decide)] at h
          split at h
          · rename_i e; exact .inr (by omega)
          · have := Lib.indexByte_ge t 59; omega
        · exact .inl hc)
      unfold refEnt
      rw [firstOf_no c t h', if_neg (by simp)]
      split
      · rename_i c' r he
        injection he with e1 e2
        have hneg : Lib.indexByte t 59 < 0 := h'.elim (fun e => absurd e1 e) id
        have hr : Lib.indexByte (c' :: r) 59 < 0 := by
          rw [e2, idx_cons _ _ (by decide)] at hneg
          split at hneg
          · omega
          · have := Lib.indexByte_ge (c' :: r) 59; omega
        split
        · rename_i hx
          rw [refNum_eq 16 6 3 Spec.hexs isDig16 (by decide), if_neg]
          rw [idx_cons _ _ (by rcases hx with rfl | rfl <;> decide)] at hr
          split at hr
          · omega
          · have := Lib.indexByte_ge r 59; omega
        · rw [refNum_eq 10 7 2 Spec.decs isDig10 (by decide), if_neg (by omega)]
      · rfl
      · rfl
    · have hc : c = 38 := Decidable.byContradiction fun e => h (.inl e)
      subst hc
      have h0 : 0 ≤ Lib.indexByte t 59 := by
        have h2 : ¬ Lib.indexByte (38 :: t) 59 < 0 := fun e => h (.inr e)
        rw [idx_cons _ _ (by decide)] at h2
        split at h2
        · omega
        · have := Lib.indexByte_ge t 59
          omega
      rw [ent_yes t h0]
      unfold refEnt
      rw [firstOf_yes t h0]
      by_cases hn : Spec.named (t.take (Lib.indexByte t 59).toNat) = []
      · have hf : (if Spec.named (t.take (Lib.indexByte t 59).toNat) ≠ [] then (Spec.named (t.take (Lib.indexByte t 59).toNat), (Lib.indexByte t 59).toNat + 2) else (([] : List UInt8), 0)) = ([], 0) := if_neg (fun e => e hn)
        rw [hf, if_neg (by simp)]
        have hin : Spec.inner (t.take (Lib.indexByte t 59).toNat) = match t.take (Lib.indexByte t 59).toNat with
            | [] => none
            | c :: d => if c = 35 then (Spec.ref d).map (fun (r : Nat) => Lib.encodeRune (r : Int)) else none := by
          unfold Spec.inner; rw [if_neg (fun e => e hn)]; rfl
        rw [hin]
        cases t with
        | nil => exact absurd h0 (by decide)
        | cons a u =>
          by_cases ha : a = 59
          · subst ha; rfl
          · have hu : Lib.indexByte (a :: u) 59 = Lib.indexByte u 59 + 1 := by
              have := idx_cons a u ha
              rw [this] at h0 ⊢
              split at h0
              · omega
              · rename_i e; rw [if_neg e]
            have hu0 : 0 ≤ Lib.indexByte u 59 := by
              rw [hu] at h0
              have := Lib.indexByte_ge u 59
              have hne : Lib.indexByte u 59 ≠ -1 := fun e => by
                rw [idx_cons a u ha, if_pos e] at hu; omega
              omega
            obtain ⟨j, hj⟩ : ∃ j : Nat, Lib.indexByte u 59 = j := ⟨(Lib.indexByte u 59).toNat, by omega⟩
            have hj1 : (Lib.indexByte (a :: u) 59).toNat = j + 1 := by rw [hu, hj]; omega
            rw [hj1, List.take_succ_cons]
            by_cases h35 : a = 35
            · subst h35
              simp only [if_true]
              cases u with
              | nil => exact absurd hu0 (by decide)
              | cons c r =>
                by_cases hx : c = 120 ∨ c = 88
                · simp only [if_pos hx]
                  rw [refNum_eq 16 6 3 Spec.hexs isDig16 (by decide)]
                  have hc59 : c ≠ 59 := by rcases hx with rfl | rfl <;> decide
                  have hr := idx_cons c r hc59
                  rw [hj] at hr
                  have hr0 : Lib.indexByte r 59 ≠ -1 := fun e => by rw [if_pos e] at hr; omega
                  rw [if_neg hr0] at hr
                  have hge := Lib.indexByte_ge r 59
                  obtain ⟨i, hi⟩ : ∃ i : Nat, Lib.indexByte r 59 = i := ⟨(Lib.indexByte r 59).toNat, by omega⟩
                  have hji : j = i + 1 := by omega
                  rw [if_pos (by omega), hi, Int.toNat_natCast, hji, List.take_succ_cons]
                  unfold Spec.ref
                  simp only [if_pos hx]
                  cases Spec.number (r.take i) Spec.hexs 16 6 with
                  | none => rfl
                  | some v => simp only [Option.map_some]; congr 1; omega
                · simp only [if_neg hx]
                  rw [refNum_eq 10 7 2 Spec.decs isDig10 (by decide), hj, if_pos (by omega), Int.toNat_natCast]
                  cases j with
                  | zero => rfl
                  | succ i =>
                    rw [List.take_succ_cons]
                    unfold Spec.ref
                    simp only [if_neg hx]
                    cases Spec.number (c :: r.take i) Spec.decs 10 7 with
                    | none => rfl
                    | some v => simp only [Option.map_some]; congr 1; omega
            · simp only [if_neg h35]
              split
              · rename_i he; injection he with _ e2; injection e2 with e3 _; exact absurd e3 h35
              · rename_i he; injection he with _ e2; injection e2 with e3 _; exact absurd e3 h35
              · rfl
      · have hf : (if Spec.named (t.take (Lib.indexByte t 59).toNat) ≠ [] then (Spec.named (t.take (Lib.indexByte t 59).toNat), (Lib.indexByte t 59).toNat + 2) else (([] : List UInt8), 0)) = (Spec.named (t.take (Lib.indexByte t 59).toNat), (Lib.indexByte t 59).toNat + 2) := if_pos hn
        rw [hf, if_pos (by simp)]
        have hin : Spec.inner (t.take (Lib.indexByte t 59).toNat) = some (Spec.named (t.take (Lib.indexByte t 59).toNat)) := by unfold Spec.inner; rw [if_pos hn]
        rw [hin]
end Go.Proofs.YtipbmagondoooaaDoor
