/-
  PLAIN LEAN: a number that is spelt in digits, zeros ahead of them, and what stands for it.
-/
import Derived.Test.YtipbmagondoooaaDoorRefEq
namespace Go.Proofs.YtipbmagondoooaaDoor
open Go.RowKit

/-- A digit as the law spells it. -/
def digC (cp : Bool) (n : Nat) : UInt8 := if n < 10 then (48 + n).toUInt8 else if cp = true then (55 + n).toUInt8 else (87 + n).toUInt8
theorem digC_ok : ∀ cp : Bool, ∀ n, n < 16 → Spec.digV (digC cp n) = n ∧ Spec.hexs.contains (digC cp n) = true ∧ (n < 10 → Spec.decs.contains (digC cp n) = true) := by decide +kernel
theorem numV_from (base : Nat) : ∀ (l : List UInt8) (v : Nat), l.foldl (fun v c => v * base + Spec.digV c) v = v * base ^ l.length + Spec.numV base l
  | [], v => by simp [Spec.numV]
  | c :: t, v => by
    unfold Spec.numV
    rw [List.foldl_cons, List.foldl_cons, numV_from base t, numV_from base t]
    simp only [List.length_cons, Nat.pow_succ, Nat.zero_mul, Nat.zero_add]
    rw [Nat.add_mul, Nat.mul_assoc, Nat.mul_comm base, Nat.add_assoc]
theorem numV_cons (base : Nat) (c : UInt8) (l : List UInt8) : Spec.numV base (c :: l) = Spec.digV c * base ^ l.length + Spec.numV base l := by
  show (List.foldl (fun v c => v * base + Spec.digV c) 0 (c :: l)) = _
  rw [List.foldl_cons, numV_from, Nat.zero_mul, Nat.zero_add]
theorem numV_zeros (base : Nat) (l : List UInt8) : ∀ n, Spec.numV base (List.replicate n 48 ++ l) = Spec.numV base l
  | 0 => rfl
  | n + 1 => by
    rw [List.replicate_succ, List.cons_append, numV_cons, numV_zeros base l n]
    have : Spec.digV 48 = 0 := rfl
    rw [this, Nat.zero_mul, Nat.zero_add]
theorem all_zeros (set l : List UInt8) (h : set.contains 48 = true) (hl : l.all (set.contains ·) = true) (n : Nat) : (List.replicate n 48 ++ l).all (set.contains ·) = true := by
  rw [List.all_append, hl, Bool.and_true]
  rw [List.all_eq_true]
  intro x hx
  rw [(List.mem_replicate.1 hx).2]
  exact h
theorem no59 (ds set : List UInt8) (h : set.contains 59 = false) (hall : ds.all (set.contains ·) = true) : (59 : UInt8) ∉ ds := fun hm => by
  have := List.all_eq_true.1 hall 59 hm
  rw [h] at this
  cases this

theorem ent_num10 (ds : List UInt8) (h0 : ds ≠ []) (hall : ds.all (Spec.decs.contains ·) = true) :
    Spec.ent (38 :: 35 :: (ds ++ [59, 120])) = if 7 < ds.length then ([], 0) else (Lib.encodeRune ((Spec.runeOf (Spec.numV 10 ds) : Nat) : Int), ds.length + 3) := by
  have h59 := no59 ds _ (by decide) hall
  have hix : Lib.indexByte (35 :: (ds ++ [59, 120])) 59 = (ds.length : Int) + 1 := by
    have := idx_app (35 :: ds) [120] (by simp only [List.mem_cons, not_or]; exact ⟨by decide, h59⟩)
    rw [List.cons_append] at this
    rw [this]; simp
  rw [ent_yes _ (by rw [hix]; omega), hix]
  have ht : ((ds.length : Int) + 1).toNat = ds.length + 1 := by omega
  rw [ht, List.take_succ_cons, List.take_left']
  · obtain ⟨c, t, rfl⟩ : ∃ c t, ds = c :: t := by cases ds with | nil => exact absurd rfl h0 | cons c t => exact ⟨c, t, rfl⟩
    have hc : ¬ (c = 120 ∨ c = 88) := by
      have := List.all_eq_true.1 hall c (by simp)
      rintro (e | e) <;> (rw [e] at this; exact absurd this (by decide))
    unfold Spec.inner
    rw [named_hash, if_neg (by simp)]
    simp only [if_true, Spec.ref, if_neg hc]
    unfold Spec.number
    by_cases h7 : 7 < (c :: t).length
    · rw [if_pos (.inr (.inl h7)), if_pos h7]; rfl
    · rw [if_neg (by rintro (e | e | e); · cases e
                     · exact h7 e
                     · rw [hall] at e; cases e), if_neg h7]
      rfl
  · rfl
theorem ent_num16 (ds : List UInt8) (h0 : ds ≠ []) (hall : ds.all (Spec.hexs.contains ·) = true) :
    Spec.ent (38 :: 35 :: 120 :: (ds ++ [59, 120])) = if 6 < ds.length then ([], 0) else (Lib.encodeRune ((Spec.runeOf (Spec.numV 16 ds) : Nat) : Int), ds.length + 4) := by
  have h59 := no59 ds _ (by decide) hall
  have hix : Lib.indexByte (35 :: 120 :: (ds ++ [59, 120])) 59 = (ds.length : Int) + 2 := by
    have := idx_app (35 :: 120 :: ds) [120] (by simp only [List.mem_cons, not_or]; exact ⟨by decide, by decide, h59⟩)
    rw [List.cons_append, List.cons_append] at this
    rw [this]; simp; omega
  rw [ent_yes _ (by rw [hix]; omega), hix]
  have ht : ((ds.length : Int) + 2).toNat = ds.length + 1 + 1 := by omega
  rw [ht, List.take_succ_cons, List.take_succ_cons, List.take_left']
  · unfold Spec.inner
    rw [named_hash, if_neg (by simp)]
    simp only [if_true, Spec.ref, true_or]
    unfold Spec.number
    by_cases h7 : 6 < ds.length
    · rw [if_pos (.inr (.inl h7)), if_pos h7]; rfl
    · rw [if_neg (by rintro (e | e | e); · exact h0 e
                     · exact h7 e
                     · rw [hall] at e; cases e), if_neg h7]
      rfl
  · rfl
end Go.Proofs.YtipbmagondoooaaDoor
