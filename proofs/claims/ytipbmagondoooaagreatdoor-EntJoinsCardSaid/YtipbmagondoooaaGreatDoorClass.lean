/-
  class.Sign: whether a byte is a sign, at every byte.
-/
import Derived.Test.YtipbmagondoooaaGreatDoorCut
namespace Go.Proofs.YtipbmagondoooaaGreatDoor
open Go.RowKit

/-- Does a number lie within one of ranges, two numbers each? -/
def withinZ (r : Int) : List Int → Bool
  | a :: b :: t => (decide (a ≤ r) && decide (r ≤ b)) || withinZ r t
  | _ => false

set_option maxHeartbeats 4000000 in
set_option maxRecDepth 100000 in
theorem within_any (r : Int) (zs : List Int) (g n c : Nat) (w : World) (hn : zs.length = n) (hn1 : n ≤ 1000) (hc : ∀ j, j < n → w.cell? ⟨g, j, none⟩ = some (.int .i32 (zs.getD j 0))) :
    Calls Tryz.prog 33 #[.int .i32 r, .slice (some ⟨g, 0, none⟩) n c] w fun e w' => e = .returned (.bool (withinZ r zs)) ∧ w' = w := by
  go_enter Tryz.func33, Tryz.ntmps33
  go_wp2
  go_loop [5] (fun i => ∃ m : Nat, i = .int .i64 ((2 * m : Nat) : Int) ∧ 2 * m ≤ n + 1 ∧ Hid (withinZ r zs = withinZ r (zs.drop (2 * m)))) (fun i => n + 2 - (intOf i).toNat)
  case atStart => exact ⟨0, rfl, by omega, Lib.hid rfl⟩
  case round =>
    obtain ⟨m, rfl, hm, HW⟩ := hrel
    obtain ⟨k, hk⟩ : ∃ k, k = 2 * m := ⟨_, rfl⟩
    rw [← hk] at HW hm ⊢
    have HK := Lib.hid hk
    clear hk
    by_cases hlt : k + 1 < n
    · have c0 := hc k (by omega)
      have c1 := hc (k + 1) hlt
      have hd : zs.drop k = zs.getD k 0 :: zs.getD (k + 1) 0 :: zs.drop (k + 2) := by
        rw [List.drop_eq_getElem_cons (by omega), List.drop_eq_getElem_cons (by omega)]
        simp [List.getD, List.getElem?_eq_getElem (show k < zs.length by omega), List.getElem?_eq_getElem (show k + 1 < zs.length by omega)]
      obtain ⟨a, ha⟩ : ∃ a, a = zs.getD k 0 := ⟨_, rfl⟩
      obtain ⟨b, hb⟩ : ∃ b, b = zs.getD (k + 1) 0 := ⟨_, rfl⟩
      rw [← ha] at c0 hd
      rw [← hb] at c1 hd
      have HN : Hid (withinZ r zs = ((decide (a ≤ r) && decide (r ≤ b)) || withinZ r (zs.drop (k + 2)))) := Lib.hid (by rw [HW.out, hd]; rfl)
      clear hd ha hb hc HW hn
      have hki : (k : Int) + 1 < n := by omega
      by_cases h1 : a ≤ r
      · by_cases h2 : r ≤ b
        · have HF : Hid (withinZ r zs = true) := Lib.hid (by rw [HN.out, decide_eq_true h1, decide_eq_true h2]; rfl)
          go_wp2
          go_ret
          exact ⟨by rw [HF.out]; rfl, rfl⟩
        · have HF : Hid (withinZ r zs = withinZ r (zs.drop (k + 2))) := Lib.hid (by rw [HN.out, decide_eq_false h2]; simp)
          go_wp2
          go_round
          case rel => exact ⟨m + 1, by rw [HK.out]; go_num, by have := HK.out; omega, by rw [HK.out] at HF; exact HF⟩
          case measure => simp [intOf]; omega
      · have HF : Hid (withinZ r zs = withinZ r (zs.drop (k + 2))) := Lib.hid (by rw [HN.out, decide_eq_false h1]; simp)
        go_wp2
        go_round
        case rel => exact ⟨m + 1, by rw [HK.out]; go_num, by have := HK.out; omega, by rw [HK.out] at HF; exact HF⟩
        case measure => simp [intOf]; omega
    · have HF : Hid (withinZ r zs = false) := Lib.hid (by
        rw [HW.out]
        have hl : (zs.drop k).length ≤ 1 := by simp; omega
        match zs.drop k, hl with
        | [], _ => rfl
        | [_], _ => rfl)
      clear HW hn hc
      go_wp2
      go_ret
      exact ⟨by rw [HF.out]; rfl, rfl⟩

theorem sign_within (c : UInt8) : withinZ (c.toNat : Int) [33, 47, 58, 64, 91, 96, 123, 126] = Spec.sign c := by
  unfold Spec.sign
  simp only [withinZ, Bool.or_false]
  rw [Bool.eq_iff_iff]
  simp only [Bool.or_eq_true, Bool.and_eq_true, decide_eq_true_eq]
  omega
/-- A cell of a block that was just made. -/
theorem cell_fresh (w : World) (arr : Array Value) (t : TypeId) (j : Nat) (v : Value) (h : arr[j]? = some v) : (w.alloc (.cells arr t)).cell? ⟨w.heap.size, j, none⟩ = some v := by
  rw [Lib.cell_of_heap (heap_alloc_new w _)]
  exact h

set_option maxHeartbeats 4000000 in
set_option maxRecDepth 100000 in
theorem sign_any (c : UInt8) (w : World) :
    Calls Tryz.prog 17 #[.int .u8 (c.toNat : Int)] w fun e w' => e = .returned (.bool (Spec.sign c)) ∧ Below w.heap.size w w' := by
  rw [← sign_within]
  obtain ⟨x, hx⟩ : ∃ x : Int, x = (c.toNat : Int) := ⟨_, rfl⟩
  have x0 : 0 ≤ x := by omega
  have x1 : x ≤ 255 := by have := c.toNat_lt; omega
  rw [← hx]
  clear hx
  go_enter Tryz.func17, Tryz.ntmps17
  go_wp2_with fail
  refine (within_any x [33, 47, 58, 64, 91, 96, 123, 126] w.heap.size 8 8 _ rfl (by omega) (fun j hj => cell_fresh w _ _ j _ ?_)).mono ?_
  · match j, hj with
    | 0, _ | 1, _ | 2, _ | 3, _ | 4, _ | 5, _ | 6, _ | 7, _ => rfl
  rintro e w1 ⟨rfl, rfl⟩
  go_wp2
  go_ret
  exact ⟨rfl, (Below.refl _ w).alloc (Nat.le_refl _) _⟩
end Go.Proofs.YtipbmagondoooaaGreatDoor
