/-
  byteStringReplacer's Replace: each sign gives way to what stands for it.
-/
import Derived.Test.YtipbmagondoooaaGreatDoorRepB
import Derived.Deep.QuietTactic
import Derived.BigQuiet
import Derived.Laws.CopyRow
namespace Go.Proofs.YtipbmagondoooaaGreatDoor
open Go.RowKit

/-! ### plain -/
def one (o : Option (List UInt8)) (c : UInt8) : List UInt8 := o.getD [c]
def html (l : List UInt8) : List UInt8 := l.flatMap fun c => one (lk reps c) c
/-- By how many bytes a text grows; whether it has a sign. -/
def growK (k : Nat) (l : List UInt8) : Nat := (l.map fun c => (one (lk (reps.take k) c) c).length - 1).sum
def anyK (k : Nat) (l : List UInt8) : Bool := l.any fun c => (lk (reps.take k) c).isSome
theorem reps_pos (o : UInt8) (t : List UInt8) (h : lk reps o = some t) : 1 ≤ t.length := by
  unfold lk at h
  obtain ⟨p, hp, rfl⟩ := Option.map_eq_some_iff.1 h
  have := List.mem_of_find?_eq_some hp
  simp only [reps, List.mem_cons, List.not_mem_nil, or_false] at this
  rcases this with rfl | rfl | rfl | rfl <;> decide
theorem one_pos (c : UInt8) : 1 ≤ (one (lk reps c) c).length := by
  cases h : lk reps c with
  | none => exact Nat.le_refl _
  | some t => exact reps_pos c t h
theorem reps_le (o : UInt8) (t : List UInt8) (h : lk reps o = some t) : t.length ≤ 6 := by
  unfold lk at h
  obtain ⟨p, hp, rfl⟩ := Option.map_eq_some_iff.1 h
  have := List.mem_of_find?_eq_some hp
  simp only [reps, List.mem_cons, List.not_mem_nil, or_false] at this
  rcases this with rfl | rfl | rfl | rfl <;> decide
theorem html_cons (c : UInt8) (l : List UInt8) : html (c :: l) = one (lk reps c) c ++ html l := rfl
theorem html_app (a b : List UInt8) : html (a ++ b) = html a ++ html b := by unfold html; rw [List.flatMap_append]
theorem html_length (l : List UInt8) : (html l).length = l.length + growK 4 l := by
  induction l with
  | nil => rfl
  | cons c t ih =>
    have := one_pos c
    rw [html_cons, List.length_append, ih, List.length_cons]
    show _ = t.length + 1 + ((one (lk reps c) c).length - 1 + growK 4 t)
    omega
theorem html_le (l : List UInt8) : (html l).length ≤ 6 * l.length := by
  induction l with
  | nil => exact Nat.le_refl _
  | cons c t ih =>
    have : (one (lk reps c) c).length ≤ 6 := by
      cases h : lk reps c with
      | none => exact (by decide : 1 ≤ 6)
      | some t => exact reps_le c t h
    rw [html_cons, List.length_append, List.length_cons]
    omega
theorem html_same (l : List UInt8) (h : anyK 4 l = false) : html l = l := by
  induction l with
  | nil => rfl
  | cons c t ih =>
    have h2 : ((lk reps c).isSome || anyK 4 t) = false := h
    rw [Bool.or_eq_false_iff] at h2
    rw [html_cons, ih h2.2]
    cases hc : lk reps c with
    | none => rfl
    | some t => rw [hc] at h2; cases h2.1
theorem growK_step (k : Nat) (o : UInt8) (n : List UInt8) (hr : reps[k]? = some (o, n)) (hno : lk (reps.take k) o = none) (l : List UInt8) : growK (k + 1) l = growK k l + l.count o * (n.length - 1) := by
  have htk : reps.take (k + 1) = reps.take k ++ [(o, n)] := by rw [List.take_add_one, hr]; rfl
  induction l with
  | nil => simp [growK]
  | cons c t ih =>
    have e1 : growK (k + 1) (c :: t) = ((one (lk (reps.take (k + 1)) c) c).length - 1) + growK (k + 1) t := rfl
    have e2 : growK k (c :: t) = ((one (lk (reps.take k) c) c).length - 1) + growK k t := rfl
    rw [e1, e2, ih, htk, lk_snoc, List.count_cons]
    by_cases h : o = c
    · subst h
      rw [hno]
      simp only [beq_self_eq_true, if_true, Option.none_or, one, Option.getD_some, Option.getD_none, List.length_singleton]
      rw [Nat.add_mul, Nat.one_mul]
      omega
    · have h1 : (o == c) = false := beq_eq_false_iff_ne.2 h
      have h2 : (c == o) = false := beq_eq_false_iff_ne.2 (Ne.symm h)
      rw [h1, h2]
      simp only [Bool.false_eq_true, if_false, Option.or_none, Nat.add_zero]
      omega
theorem anyK_step (k : Nat) (o : UInt8) (n : List UInt8) (hr : reps[k]? = some (o, n)) (l : List UInt8) : anyK (k + 1) l = (anyK k l || decide (l.count o ≠ 0)) := by
  have htk : reps.take (k + 1) = reps.take k ++ [(o, n)] := by rw [List.take_add_one, hr]; rfl
  induction l with
  | nil => simp [anyK]
  | cons c t ih =>
    have e1 : anyK (k + 1) (c :: t) = ((lk (reps.take (k + 1)) c).isSome || anyK (k + 1) t) := rfl
    have e2 : anyK k (c :: t) = ((lk (reps.take k) c).isSome || anyK k t) := rfl
    rw [e1, e2, ih, htk, lk_snoc, List.count_cons]
    by_cases h : o = c
    · subst h
      simp
    · have h1 : (o == c) = false := beq_eq_false_iff_ne.2 h
      have h2 : (c == o) = false := beq_eq_false_iff_ne.2 (Ne.symm h)
      rw [h1, h2]
      simp [Bool.or_assoc]
theorem growK_le (k : Nat) (hk : k ≤ 4) (l : List UInt8) : growK k l ≤ 5 * l.length := by
  induction l with
  | nil => simp [growK]
  | cons c t ih =>
    have e2 : growK k (c :: t) = ((one (lk (reps.take k) c) c).length - 1) + growK k t := rfl
    have : (one (lk (reps.take k) c) c).length ≤ 6 := by
      cases h : lk (reps.take k) c with
      | none => exact (by decide : 1 ≤ 6)
      | some u =>
        unfold lk at h
        obtain ⟨p, hp, rfl⟩ := Option.map_eq_some_iff.1 h
        have := List.mem_of_mem_take (List.mem_of_find?_eq_some hp)
        simp only [reps, List.mem_cons, List.not_mem_nil, or_false] at this
        show p.2.length ≤ 6
        rcases this with rfl | rfl | rfl | rfl <;> decide
    rw [e2, List.length_cons]
    omega
theorem growK_snoc (k : Nat) (l : List UInt8) (c : UInt8) : growK k (l ++ [c]) = growK k l + ((one (lk (reps.take k) c) c).length - 1) := by simp [growK]
theorem anyK_snoc (k : Nat) (l : List UInt8) (c : UInt8) : anyK k (l ++ [c]) = (anyK k l || (lk (reps.take k) c).isSome) := by simp [anyK]

/-! ### memory -/
/-- A table of signs in memory. -/
structure RepW (w : World) (bb : Nat) : Prop where
  lt : bb < w.heap.size
  list : ∃ tb cap, tb < w.heap.size ∧ w.cell? ⟨bb, 256, none⟩ = some (.slice (some ⟨tb, 0, none⟩) 4 cap) ∧ ∀ (j : Nat) (p : UInt8 × List UInt8), reps[j]? = some p → w.cell? ⟨tb, j, none⟩ = some (.string ⟨#[p.1]⟩)
  tab : ∀ c : UInt8, TabAt w bb c (lk reps c)
theorem BW.rep {w0 w : World} {bb : Nat} {tv : Value} (h : BW w0 w bb tv 4) : RepW w bb := by
  obtain ⟨cur, hrow, _⟩ := h.row
  refine ⟨blk_lt hrow, ?_, h.tab⟩
  rcases h.own.2 with ⟨_, h0⟩ | ⟨g, cap, cu, hv, _, hg, hn, _, hs, hx⟩
  · cases h0
  · refine ⟨g, cap, blk_lt hg, hv ▸ h.hold, fun j p hj => ?_⟩
    rw [cell_row hg, ← Array.getElem?_toList]
    have hj4 : j < 4 := (List.getElem?_eq_some_iff.1 hj).1
    have e := congrArg (·[j]?) hx
    simp only [Nat.mul_one] at e
    rw [List.getElem?_take_of_lt hj4] at e
    rw [e]
    show ((reps.map fun p => Value.string ⟨#[p.1]⟩)[j]?) = _
    rw [List.getElem?_map, hj]
    rfl
theorem RepW.below {w w' : World} {bb : Nat} (h : RepW w bb) (hb : Below w.heap.size w w') : RepW w' bb := by
  obtain ⟨tb, cap, h1, h2, h3⟩ := h.list
  exact ⟨Nat.lt_of_lt_of_le h.lt hb.size, ⟨tb, cap, Nat.lt_of_lt_of_le h1 hb.size, (hb.cell (p := ⟨bb, 256, none⟩) h.lt).trans h2, fun j p hp => (hb.cell (p := ⟨tb, j, none⟩) h1).trans (h3 j p hp)⟩,
    fun c => (h.tab c).keep (hb.cell (p := ⟨bb, c.toNat, none⟩) h.lt) (fun nb cs fz hn => hb.block nb (blk_lt hn))⟩
end Go.Proofs.YtipbmagondoooaaGreatDoor
