/-
  The reference's At whole, the law's 'known', and what the law EntAt answers: true, at every text.
-/
import Derived.Test.YtipbmagondoooaaDoorRefEq
import Derived.Test.YtipbmagondoooaaDoorKnown
namespace Go.Proofs.YtipbmagondoooaaDoor
open Go.RowKit

theorem firstOf_zero (l : List UInt8) : ∀ ps, (∀ p ∈ ps, True) → (firstOf ps l).2 = 0 → firstOf ps l = ([], 0) := by
  intro ps
  induction ps with
  | nil => intro _ _; rfl
  | cons p t ih =>
    obtain ⟨n, v⟩ := p
    intro h e
    unfold firstOf at e ⊢
    split at e
    · simp at e
    · rename_i hp
      rw [if_neg hp]
      exact ih (fun _ _ => trivial) e

def refHash : List UInt8 → List UInt8 × Nat
  | c :: r => if c = 120 ∨ c = 88 then refNum 16 6 3 r else refNum 10 7 2 (c :: r)
  | [] => refNum 10 7 2 []
set_option maxHeartbeats 4000000 in
set_option maxRecDepth 100000 in
theorem refAt_any (s : ByteArray) (w : World) (hs : s.size ≤ 1000000) :
    Calls Tryd.prog 10 #[.string s] w fun e w' => e = .returned (entRes (Spec.ent s.data.toList)) ∧ Below w.heap.size w w' := by
  rw [← ent_ref]
  have hN := fun W => refNamed_any s W
  by_cases hn : 0 < (firstOf nine s.data.toList).2
  · have hr : refEnt s.data.toList = firstOf nine s.data.toList := by unfold refEnt; rw [if_pos hn]
    rw [hr]
    obtain ⟨n, hnn⟩ : ∃ n, n = (firstOf nine s.data.toList).2 := ⟨_, rfl⟩
    obtain ⟨v, hv⟩ : ∃ v : ByteArray, v = ⟨(firstOf nine s.data.toList).1.toArray⟩ := ⟨_, rfl⟩
    have he : entRes (firstOf nine s.data.toList) = .tuple #[.string v, .int .i64 (n : Int)] := by unfold entRes; rw [hv, hnn]
    rw [he] at hN ⊢
    rw [← hnn] at hn
    clear he hr hnn hv
    go_enter Tryd.func10, Tryd.ntmps10
    go_wp2_with (go_at_call 27; refine (hN _).mono ?_; rintro e wb ⟨rfl, hb0⟩)
    go_ret2
    exact ⟨rfl, hb0⟩
  · have hz : firstOf nine s.data.toList = ([], 0) := firstOf_zero _ _ (fun _ _ => trivial) (by omega)
    have hN : ∀ W, Calls Tryd.prog 27 #[.string s] W fun e w' => e = .returned (.tuple #[.string (⟨#[]⟩ : ByteArray), .int .i64 0]) ∧ Below W.heap.size W w' := fun W => by
      have := hN W
      rw [hz] at this
      exact this
    have hB := fun W => begins_any s ⟨#[38, 35]⟩ W
    have hsz : s.data.toList.length = s.size := by rw [Lib.size_eq]
    by_cases hp : ([38, 35] : List UInt8).isPrefixOf s.data.toList = true
    · have hBg : ∀ W, Calls Tryd.prog 28 #[.string s, .string (⟨#[38, 35]⟩ : ByteArray)] W fun e w' => e = .returned (.bool true) ∧ w' = W := fun W => by
        have := hB W
        rw [show (⟨#[38, 35]⟩ : ByteArray).data.toList = [38, 35] from rfl, hp] at this
        exact this
      obtain ⟨r, hr⟩ : ∃ r, s.data.toList = 38 :: 35 :: r := by
        obtain ⟨r, hr⟩ := List.isPrefixOf_iff_prefix.1 hp
        exact ⟨r, hr.symm⟩
      have h2 : 2 ≤ s.size := by rw [← hsz, hr]; simp
      have hd2 : s.data.toList.drop 2 = r := by rw [hr]; rfl
      have hat : ∀ h : 2 < s.size, r[0]? = some (s[2]'h) := fun h => by
        have := at_list s 2 h
        rw [hr] at this
        exact this
      have hre : refEnt s.data.toList = refHash r := by
        unfold refEnt
        rw [hz, if_neg (by simp), hr]
        cases r <;> rfl
      rw [hre]
      cases r with
      | nil =>
        have := refAt10 s w hs h2 hN hBg (fun h => by have := hat h; cases this)
        rw [hd2] at this
        exact this
      | cons c r =>
        have h3 : 2 < s.size := by rw [← hsz, hr]; simp
        have hc : c = s[2]'h3 := by have := hat h3; simpa using this
        by_cases hx : c = 120 ∨ c = 88
        · simp only [refHash, if_pos hx]
          have := refAt16 s w hs (by omega) hN hBg ⟨h3, by rw [← hc]; rcases hx with rfl | rfl <;> decide⟩
          rw [show s.data.toList.drop 3 = r by rw [hr]; rfl] at this
          exact this
        · simp only [refHash, if_neg hx]
          have hne : c.toNat ≠ 120 ∧ c.toNat ≠ 88 := ⟨fun e => hx (.inl (UInt8.toNat_inj.1 e)), fun e => hx (.inr (UInt8.toNat_inj.1 e))⟩
          have := refAt10 s w hs h2 hN hBg (fun h => by
            rw [← hc]
            exact ⟨beq_eq_false_iff_ne.2 (by omega), beq_eq_false_iff_ne.2 (by omega)⟩)
          rw [hd2] at this
          exact this
    · have hp : ([38, 35] : List UInt8).isPrefixOf s.data.toList = false := Bool.eq_false_iff.2 hp
      have hBg : ∀ W, Calls Tryd.prog 28 #[.string s, .string (⟨#[38, 35]⟩ : ByteArray)] W fun e w' => e = .returned (.bool false) ∧ w' = W := fun W => by
        have := hB W
        rw [show (⟨#[38, 35]⟩ : ByteArray).data.toList = [38, 35] from rfl, hp] at this
        exact this
      have hre : refEnt s.data.toList = ([], 0) := by
        unfold refEnt
        rw [hz, if_neg (by simp)]
        split
        · rename_i he; rw [he] at hp; simp [List.isPrefixOf] at hp
        · rename_i he; rw [he] at hp; simp [List.isPrefixOf] at hp
        · rfl
      rw [hre]
      clear hre hB hz hn hp hsz
      go_enter Tryd.func10, Tryd.ntmps10
      go_wp2_with (first | (go_at_call 27; refine (hN _).mono ?_; rintro e wb ⟨rfl, hb0⟩) | (go_at_call 28; refine (hBg _).mono ?_; rintro e wc ⟨rfl, rfl⟩))
      go_ret2
      exact ⟨rfl, hb0⟩

set_option maxHeartbeats 4000000 in
set_option maxRecDepth 100000 in
theorem entAt_law (s : ByteArray) (w : World) (hT : Tabs w) :
    Calls Tryd.prog 3 #[.string s] w fun e w' => e = .returned (.bool true) ∧ Below w.heap.size w w' := by
  by_cases hs : 1500 < s.size
  · go_enter Tryd.func3, Tryd.ntmps3
    go_wp2
    go_ret
    exact ⟨rfl, Below.refl _ _⟩
  · have hA := fun W (hW : Tabs W) => at_any s W (by omega) hW
    have hR := fun W => refAt_any s W (by omega)
    have hK := fun W (hW : Tabs W) => known_any W hW
    unfold entRes at hA hR
    generalize (⟨(Spec.ent s.data.toList).1.toArray⟩ : ByteArray) = v at hA hR
    generalize ((Spec.ent s.data.toList).2 : Int) = n at hA hR
    go_enter Tryd.func3, Tryd.ntmps3
    have hv : (v.toList == v.toList) = true := beq_self_eq_true _
    have hn : (n == n) = true := beq_self_eq_true _
    go_wp2_with fail
    refine (hA _ hT).mono ?_
    rintro e w1 ⟨rfl, hb1⟩
    go_wp2_with fail
    refine (hR _).mono ?_
    rintro e w2 ⟨rfl, hb2⟩
    go_wp2_with fail
    refine (hK _ ((hT.below hb1).below hb2)).mono ?_
    rintro e w3 ⟨rfl, hb3⟩
    go_wp2
    go_ret
    exact ⟨rfl, hb1.trans ((hb2.trans (hb3.mono hb2.size)).mono hb1.size)⟩
end Go.Proofs.YtipbmagondoooaaDoor
