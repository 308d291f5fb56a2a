/-
  The reference's encoding of a rune: the bytes of its UTF-8 form, at every int32.
-/
import Derived.Test.YtipbmagondoooaaDoorClass
import Derived.Laws.BytesArg
import Derived.Laws.BitsLemmas
namespace Go.Proofs.YtipbmagondoooaaDoor
open Go.RowKit

/-- The bytes of a block that was just made, as a text. -/
theorem str_fresh (w : World) (arr : Array Value) (xs : List Int) (n : Nat) (hn : xs.length = n) (ha : arr = (xs.map (Value.int .u8)).toArray) :
    (convert 27 9 (.slice (some ⟨w.heap.size, 0, none⟩) n n)).run Tryd.prog (w.alloc (.cells arr 5)) = .ok (.string ⟨(xs.map fun x => UInt8.ofNat x.toNat).toArray⟩) (w.alloc (.cells arr 5)) := by
  subst ha
  exact run_convert_bytes_arg (P := Tryd.prog) _ 27 5 Tryd.underlying27 Tryd.underlying5 w.heap.size 0 n n xs hn (fun i hi => by
    rw [Nat.zero_add]
    exact cell_fresh w _ _ i _ (by simp [List.getD, List.getElem?_eq_getElem (show i < xs.length by omega)])) 9 Tryd.underlying9
theorem and63 (x : Int) (h0 : 0 ≤ x) (h1 : x < 2147483648) : bits .and .i32 x 63 = x % 64 := bits_mask .i32 31 (by decide) wraps_i32 6 (by decide) x h0 h1

set_option maxHeartbeats 4000000 in
set_option maxRecDepth 100000 in
theorem enc1 (r : Int) (w : World) (h0 : 0 ≤ r) (h1 : r < 128) :
    Calls Tryd.prog 14 #[.int .i32 r] w fun e w' => e = .returned (.string ⟨(Lib.encodeRune r).toArray⟩) ∧ Below w.heap.size w w' := by
  have hc := str_fresh w #[.int .u8 r] [r] 1 rfl rfl
  unfold Lib.encodeRune
  rw [Lib.encodeRuneZ_one h0 (by omega)]
  go_enter Tryd.func14, Tryd.ntmps14
  go_wp2
  go_ret
  exact ⟨rfl, (Below.refl _ w).alloc (Nat.le_refl _) _⟩

set_option maxHeartbeats 4000000 in
set_option maxRecDepth 100000 in
theorem enc2 (r : Int) (w : World) (h0 : 128 ≤ r) (h1 : r < 2048) :
    Calls Tryd.prog 14 #[.int .i32 r] w fun e w' => e = .returned (.string ⟨(Lib.encodeRune r).toArray⟩) ∧ Below w.heap.size w w' := by
  have hc := str_fresh w #[.int .u8 (192 + r / 64), .int .u8 (128 + r % 64)] [192 + r / 64, 128 + r % 64] 2 rfl rfl
  unfold Lib.encodeRune
  rw [Lib.encodeRuneZ_two h0 (by omega)]
  have b1 := and63 r (by omega) (by omega)
  have b2 : bits .or .i32 128 (r % 64) = 128 + r % 64 := i32_or6 _ _ (by omega) (by omega) (by omega) (by omega) (by omega)
  have b3 : bits .or .i32 192 (r / 64) = 192 + r / 64 := i32_or6 _ _ (by omega) (by omega) (by omega) (by omega) (by omega)
  have f1 : r / 64 < 32 := by omega
  have f2 : 0 ≤ r / 64 := by omega
  have f3 : 0 ≤ r % 64 := by omega
  have f4 : r % 64 < 64 := by omega
  go_enter Tryd.func14, Tryd.ntmps14
  go_wp2
  go_ret
  exact ⟨rfl, (Below.refl _ w).alloc (Nat.le_refl _) _⟩

set_option maxHeartbeats 4000000 in
set_option maxRecDepth 100000 in
theorem enc3 (r : Int) (w : World) (h : (2048 ≤ r ∧ r < 55296) ∨ (57343 < r ∧ r ≤ 65535)) :
    Calls Tryd.prog 14 #[.int .i32 r] w fun e w' => e = .returned (.string ⟨(Lib.encodeRune r).toArray⟩) ∧ Below w.heap.size w w' := by
  have hc := str_fresh w #[.int .u8 (224 + r / 4096), .int .u8 (128 + r / 64 % 64), .int .u8 (128 + r % 64)] [224 + r / 4096, 128 + r / 64 % 64, 128 + r % 64] 3 rfl rfl
  unfold Lib.encodeRune
  rw [Lib.encodeRuneZ_three h]
  have h0 : 2048 ≤ r := by omega
  have h1 : r ≤ 65535 := by omega
  have b1 := and63 r (by omega) (by omega)
  have b4 := and63 (r / 64) (by omega) (by omega)
  have b2 : bits .or .i32 128 (r % 64) = 128 + r % 64 := i32_or6 _ _ (by omega) (by omega) (by omega) (by omega) (by omega)
  have b5 : bits .or .i32 128 (r / 64 % 64) = 128 + r / 64 % 64 := i32_or6 _ _ (by omega) (by omega) (by omega) (by omega) (by omega)
  have b3 : bits .or .i32 224 (r / 4096) = 224 + r / 4096 := bits_join .i32 31 (by decide) wraps_i32 4 224 _ (by decide) (by decide) (by decide) (by omega) (by omega) (by omega)
  have f1 : r / 4096 < 16 := by omega
  have f2 : 0 ≤ r / 4096 := by omega
  have f3 : 0 ≤ r % 64 := by omega
  have f4 : r % 64 < 64 := by omega
  have f5 : 0 ≤ r / 64 % 64 := by omega
  have f6 : r / 64 % 64 < 64 := by omega
  have g1 : (decide (r ≥ 55296) && decide (r ≤ 57343)) = false := by
    rw [Bool.and_eq_false_iff]; simp only [decide_eq_false_iff_not]; omega
  have n1 : ¬ r < 0 := by omega
  have n2 : ¬ 1114111 < r := by omega
  have n3 : ¬ r < 128 := by omega
  have n4 : ¬ r < 2048 := by omega
  rcases h with ⟨_, h⟩ | ⟨h, _⟩
  · have n5 : ¬ 55296 ≤ r := by omega
    go_enter Tryd.func14, Tryd.ntmps14
    go_wp2
    go_ret
    exact ⟨rfl, (Below.refl _ w).alloc (Nat.le_refl _) _⟩
  · have n5 : 55296 ≤ r := by omega
    have n6 : ¬ r ≤ 57343 := by omega
    go_enter Tryd.func14, Tryd.ntmps14
    go_wp2
    go_ret
    exact ⟨rfl, (Below.refl _ w).alloc (Nat.le_refl _) _⟩

set_option maxHeartbeats 4000000 in
set_option maxRecDepth 100000 in
theorem enc4 (r : Int) (w : World) (h0 : 65536 ≤ r) (h1 : r ≤ 1114111) :
    Calls Tryd.prog 14 #[.int .i32 r] w fun e w' => e = .returned (.string ⟨(Lib.encodeRune r).toArray⟩) ∧ Below w.heap.size w w' := by
  have hc := str_fresh w #[.int .u8 (240 + r / 262144), .int .u8 (128 + r / 4096 % 64), .int .u8 (128 + r / 64 % 64), .int .u8 (128 + r % 64)] [240 + r / 262144, 128 + r / 4096 % 64, 128 + r / 64 % 64, 128 + r % 64] 4 rfl rfl
  unfold Lib.encodeRune
  rw [Lib.encodeRuneZ_four h0 h1]
  have b1 := and63 r (by omega) (by omega)
  have b4 := and63 (r / 64) (by omega) (by omega)
  have b6 := and63 (r / 4096) (by omega) (by omega)
  have b2 : bits .or .i32 128 (r % 64) = 128 + r % 64 := i32_or6 _ _ (by omega) (by omega) (by omega) (by omega) (by omega)
  have b5 : bits .or .i32 128 (r / 64 % 64) = 128 + r / 64 % 64 := i32_or6 _ _ (by omega) (by omega) (by omega) (by omega) (by omega)
  have b7 : bits .or .i32 128 (r / 4096 % 64) = 128 + r / 4096 % 64 := i32_or6 _ _ (by omega) (by omega) (by omega) (by omega) (by omega)
  have b3 : bits .or .i32 240 (r / 262144) = 240 + r / 262144 := bits_join .i32 31 (by decide) wraps_i32 3 240 _ (by decide) (by decide) (by decide) (by omega) (by omega) (by omega)
  have f1 : r / 262144 < 8 := by omega
  have f2 : 0 ≤ r / 262144 := by omega
  have f3 : 0 ≤ r % 64 := by omega
  have f4 : r % 64 < 64 := by omega
  have f5 : 0 ≤ r / 64 % 64 := by omega
  have f6 : r / 64 % 64 < 64 := by omega
  have f7 : 0 ≤ r / 4096 % 64 := by omega
  have f8 : r / 4096 % 64 < 64 := by omega
  go_enter Tryd.func14, Tryd.ntmps14
  go_wp2
  go_ret
  exact ⟨rfl, (Below.refl _ w).alloc (Nat.le_refl _) _⟩

set_option maxHeartbeats 4000000 in
set_option maxRecDepth 100000 in
theorem encBad (r : Int) (w : World) (h : r < 0 ∨ (55296 ≤ r ∧ r ≤ 57343) ∨ 1114111 < r) :
    Calls Tryd.prog 14 #[.int .i32 r] w fun e w' => e = .returned (.string ⟨(Lib.encodeRune r).toArray⟩) ∧ Below w.heap.size w w' := by
  have hb := fun W => enc3 65533 W (by omega)
  have e1 : Lib.encodeRune 65533 = Lib.encodeRune r := by
    unfold Lib.encodeRune
    rw [Lib.encodeRuneZ_bad h]
    decide
  rw [e1] at hb
  clear e1
  rcases h with h | ⟨h, h2⟩ | h
  · go_enter Tryd.func14, Tryd.ntmps14
    go_wp2_with (go_at_call 14; refine (hb _).mono ?_; rintro e w1 ⟨rfl, hw⟩)
    go_ret
    exact ⟨rfl, hw⟩
  · go_enter Tryd.func14, Tryd.ntmps14
    go_wp2_with (go_at_call 14; refine (hb _).mono ?_; rintro e w1 ⟨rfl, hw⟩)
    go_ret
    exact ⟨rfl, hw⟩
  · go_enter Tryd.func14, Tryd.ntmps14
    go_wp2_with (go_at_call 14; refine (hb _).mono ?_; rintro e w1 ⟨rfl, hw⟩)
    go_ret
    exact ⟨rfl, hw⟩

/-- **The reference's Encode, at every int32.** -/
theorem encode_any (r : Int) (w : World) :
    Calls Tryd.prog 14 #[.int .i32 r] w fun e w' => e = .returned (.string ⟨(Lib.encodeRune r).toArray⟩) ∧ Below w.heap.size w w' := by
  by_cases hb : r < 0 ∨ (55296 ≤ r ∧ r ≤ 57343) ∨ 1114111 < r
  · exact encBad r w hb
  · by_cases h1 : r < 128
    · exact enc1 r w (by omega) h1
    · by_cases h2 : r < 2048
      · exact enc2 r w (by omega) h2
      · by_cases h3 : r < 65536
        · exact enc3 r w (by omega)
        · exact enc4 r w (by omega) (by omega)
end Go.Proofs.YtipbmagondoooaaDoor
