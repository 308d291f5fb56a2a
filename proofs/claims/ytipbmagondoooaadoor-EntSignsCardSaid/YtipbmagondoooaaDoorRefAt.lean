/-
  The reference's At (chapter 9): what it answers, at every text; and that it is ent.At's answer.
-/
import Derived.Test.YtipbmagondoooaaDoorAt
import Derived.Test.YtipbmagondoooaaDoorEnc
import Derived.Test.YtipbmagondoooaaDoorDigit
import Derived.Deep.QuietTactic
import Derived.BigQuiet
namespace Go.Proofs.YtipbmagondoooaaDoor
open Go.RowKit

/-! ### begins -/
set_option maxHeartbeats 4000000 in
set_option maxRecDepth 100000 in
theorem begins_any (s p : ByteArray) (w : World) :
    Calls Tryd.prog 28 #[.string s, .string p] w fun e w' => e = .returned (.bool (p.data.toList.isPrefixOf s.data.toList)) ∧ w' = w := by
  have hpre : p.size ≤ s.size → ((s.extract 0 p.size).toList == p.toList) = p.data.toList.isPrefixOf s.data.toList := fun h => by
    rw [ByteArray.toList_eq, ByteArray.toList_eq, take_text]
    simp only
    rw [Bool.eq_iff_iff, beq_iff_eq, List.isPrefixOf_iff_prefix, List.prefix_iff_eq_take, ← Lib.size_eq]
    exact eq_comm
  by_cases h : p.size ≤ s.size
  · have hb := hpre h
    clear hpre
    obtain ⟨b, hbb⟩ : ∃ b, b = p.data.toList.isPrefixOf s.data.toList := ⟨_, rfl⟩
    rw [← hbb] at hb ⊢
    clear hbb
    have hi : (p.size : Int) ≤ s.size := by omega
    go_enter Tryd.func28, Tryd.ntmps28
    go_wp2
    go_ret
    exact ⟨rfl, rfl⟩
  · have hb : p.data.toList.isPrefixOf s.data.toList = false := by
      rw [Bool.eq_false_iff]
      intro hc
      have := (List.isPrefixOf_iff_prefix.1 hc).length_le
      rw [← Lib.size_eq, ← Lib.size_eq] at this
      omega
    rw [hb]
    clear hb hpre
    have hi : ¬ (p.size : Int) ≤ s.size := by omega
    go_enter Tryd.func28, Tryd.ntmps28
    go_wp2
    go_ret
    exact ⟨rfl, rfl⟩

/-! ### named -/
def nine : List (List UInt8 × List UInt8) :=
  [([97, 109, 112], [38]), ([108, 116], [60]), ([103, 116], [62]), ([113, 117, 111, 116], [34]), ([97, 112, 111, 115], [39]),
   ([110, 98, 115, 112], [194, 160]), ([99, 111, 112, 121], [194, 169]), ([104, 101, 108, 108, 105, 112], [226, 128, 166]), ([109, 100, 97, 115, 104], [226, 128, 148])]
def key (n : List UInt8) : List UInt8 := 38 :: n ++ [59]
/-- The first of the nine that a text begins with. -/
def firstOf : List (List UInt8 × List UInt8) → List UInt8 → List UInt8 × Nat
  | [], _ => ([], 0)
  | (n, v) :: t, s => if (key n).isPrefixOf s = true then (v, n.length + 2) else firstOf t s
def keyB (m : Nat) : ByteArray := ⟨(key (nine.getD m ([], [])).1).toArray⟩
def valB (m : Nat) : ByteArray := ⟨(nine.getD m ([], [])).2.toArray⟩

theorem pw_below_drewN {B : Nat} {w W : World} (h : Below B w W) (n : Nat) : Below B w (W.drewN n) := ⟨h.os, h.tape, h.output, h.size, h.block⟩
theorem firstOf_drop (l : List UInt8) (m : Nat) (hm : m < 9) : firstOf (nine.drop m) l = if (keyB m).data.toList.isPrefixOf l = true then ((valB m).data.toList, (keyB m).size) else firstOf (nine.drop (m + 1)) l := by
  match m, hm with
  | 0, _ | 1, _ | 2, _ | 3, _ | 4, _ | 5, _ | 6, _ | 7, _ | 8, _ => rfl
/-- The cells of the list of nine. -/
def NineAt (g : Nat) (W : World) : Prop := ∀ (m : Nat), m < 9 → W.cell? ⟨g, 2 * m, none⟩ = some (.string (keyB m)) ∧ W.cell? ⟨g, 2 * m + 1, none⟩ = some (.string (valB m))

set_option maxHeartbeats 8000000 in
set_option maxRecDepth 100000 in
theorem refNamed_any (s : ByteArray) (w : World) :
    Calls Tryd.prog 27 #[.string s] w fun e w' => e = .returned (entRes (firstOf nine s.data.toList)) ∧ Below w.heap.size w w' := by
  have hcell : NineAt w.heap.size (w.alloc (.cells #[.string (keyB 0), .string (valB 0), .string (keyB 1), .string (valB 1), .string (keyB 2), .string (valB 2), .string (keyB 3), .string (valB 3), .string (keyB 4), .string (valB 4), .string (keyB 5), .string (valB 5), .string (keyB 6), .string (valB 6), .string (keyB 7), .string (valB 7), .string (keyB 8), .string (valB 8)] 9)) := fun m hm => by
    rw [Lib.cell_of_heap (heap_alloc_new w _), Lib.cell_of_heap (heap_alloc_new w _)]
    match m, hm with
    | 0, _ | 1, _ | 2, _ | 3, _ | 4, _ | 5, _ | 6, _ | 7, _ | 8, _ => exact ⟨rfl, rfl⟩
  have HC := Lib.hid hcell
  clear hcell
  go_enter Tryd.func27, Tryd.ntmps27
  go_wp2
  go_loopw [5] (fun i wr => ∃ m : Nat, m ≤ 9 ∧ i = .int .i64 ((2 * m : Nat) : Int) ∧ Hid (NineAt w.heap.size wr) ∧ Hid (firstOf nine s.data.toList = firstOf (nine.drop m) s.data.toList) ∧ Below w.heap.size w wr) (fun i _ => 18 - (intOf i).toNat)
  case atStart => exact ⟨0, by omega, rfl, HC, Lib.hid rfl, (Below.refl _ w).alloc (Nat.le_refl _) _⟩
  case round =>
    obtain ⟨m, hm, rfl, HN, HF, hbw⟩ := hrel
    clear HC
    by_cases hlt : m < 9
    · obtain ⟨c0, c1⟩ := HN.out m hlt
      have hfd := firstOf_drop s.data.toList m hlt
      rw [← HF.out] at hfd
      have hb := fun W => begins_any s (keyB m) W
      obtain ⟨k, hk⟩ : ∃ k, k = 2 * m := ⟨_, rfl⟩
      have hk18 : k + 1 < 18 := by omega
      rw [← hk] at c0 c1 ⊢
      have HK := Lib.hid hk
      clear hk HF hm
      generalize keyB m = kb at c0 hb hfd
      generalize valB m = vb at c1 hfd
      have hki : (k : Int) < 18 := by omega
      have hki1 : (k : Int) + 1 < 18 := by omega
      cases hp : kb.data.toList.isPrefixOf s.data.toList with
      | true =>
        rw [hp] at hb hfd
        rw [if_pos rfl] at hfd
        have hres : entRes (firstOf nine s.data.toList) = .tuple #[.string vb, .int .i64 (kb.size : Int)] := by rw [hfd]; rfl
        have HR := Lib.hid hres
        clear hres hfd hp HN
        go_wp2_with (go_at_call 28; refine (hb _).mono ?_; rintro e w1 ⟨rfl, rfl⟩)
        go_quiet (fail)
        go_wp2
        go_ret2
        exact ⟨by rw [HR.out]; rfl, pw_below_drewN hbw _⟩
      | false =>
        rw [hp] at hb hfd
        rw [if_neg (by simp)] at hfd
        have HD := Lib.hid hfd
        clear hfd hp
        go_wp2_with (go_at_call 28; refine (hb _).mono ?_; rintro e w1 ⟨rfl, rfl⟩)
        go_roundw
        case rel => exact ⟨m + 1, by omega, by rw [HK.out]; go_num, HN, HD, hbw⟩
        case measure => simp [intOf]; omega
    · have hme : m = 9 := by omega
      subst hme
      have hres : entRes (firstOf nine s.data.toList) = .tuple #[.string (⟨#[]⟩ : ByteArray), .int .i64 0] := by rw [HF.out]; rfl
      have HR := Lib.hid hres
      clear hres HF HN
      go_wp2
      go_ret2
      exact ⟨by rw [HR.out]; rfl, hbw⟩
end Go.Proofs.YtipbmagondoooaaDoor
