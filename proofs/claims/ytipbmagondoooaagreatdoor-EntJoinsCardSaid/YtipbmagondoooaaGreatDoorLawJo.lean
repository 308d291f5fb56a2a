/-
  What the law EntJoins answers: true, at every two texts.
-/
import Derived.Test.YtipbmagondoooaaGreatDoorLawHt
namespace Go.Proofs.YtipbmagondoooaaGreatDoor
open Go.RowKit

/-! ### plain -/
theorem unesc_mute (c : UInt8) (l : List UInt8) (h1 : c ≠ 38) (h2 : c ≠ 92) : Spec.unesc (c :: l) = c :: Spec.unesc l := by
  have he : Spec.ent (c :: l) = ([], 0) := by
    unfold Spec.ent
    simp only
    rw [if_neg (fun e => h1 e.1)]
  have hs : Spec.step (c :: l) = ([c], 1) := by
    unfold Spec.step
    simp only
    rw [if_neg (fun e => h2 e.1), he, if_neg (by simp)]
  show Spec.unescF (l.length + 1) (c :: l) = _
  unfold Spec.unescF
  rw [if_neg (by simp), hs]
  rfl
theorem unesc_join (a b : List UInt8) (h : ∀ c ∈ a, c ≠ 38 ∧ c ≠ 92) : Spec.unesc (a ++ b) = a ++ Spec.unesc b := by
  induction a with
  | nil => rfl
  | cons c t ih =>
    have hc := h c (by simp)
    rw [List.cons_append, unesc_mute _ _ hc.1 hc.2, ih (fun x hx => h x (by simp [hx]))]
    rfl
theorem unesc_short : ∀ (n : Nat) (l : List UInt8), l.length ≤ n → (Spec.unesc l).length ≤ 4 * l.length
  | _, [], _ => Nat.zero_le _
  | 0, c :: t, h => by simp at h
  | n + 1, c :: t, h => by
    have hs := step_le c t
    have hd : ((c :: t).drop (Spec.step (c :: t)).2).length = (c :: t).length - (Spec.step (c :: t)).2 := List.length_drop
    have := unesc_short n ((c :: t).drop (Spec.step (c :: t)).2) (by rw [hd]; omega)
    rw [unesc_cons, List.length_append]
    omega
/-- No sign that spells, so far. -/
def Mute (l : List UInt8) : Prop := ∀ c ∈ l, c ≠ 38 ∧ c ≠ 92

set_option maxHeartbeats 16000000 in
set_option maxRecDepth 100000 in
theorem entJoins_law (a b : ByteArray) (w : World) (ra : a.size ≤ 140737488351232) (rb : b.size ≤ 140737488351232) (hT : Tabs w) :
    Calls Tryz.prog 4 #[.string a, .string b] w fun e w' => e = .returned (.bool true) ∧ Below w.heap.size w w' := by
  by_cases hs : 1500 < a.size + b.size
  · have hs2 : (1500 : Int) < (a.size : Int) + (b.size : Int) := by omega
    go_enter Tryz.func4, Tryz.ntmps4
    go_wp2
    go_ret
    exact ⟨rfl, Below.refl _ _⟩
  · have hs2 : ¬ (1500 : Int) < (a.size : Int) + (b.size : Int) := by omega
    have has : a.size ≤ 1500 := by omega
    have hbs : b.size ≤ 1500 := by omega
    have hsum : ¬ 9223372036854775807 < a.size + b.size := by omega
    have hK := fun W (hW : Tabs W) => known_any W hW
    have habs : (a ++ b).size ≤ 1500 := by rw [ByteArray.size_append]; omega
    have hU1 := fun W (hW : Tabs W) => unescape_any (a ++ b) W (by omega) hW
    have hU2 := fun W (hW : Tabs W) => unescape_any b W (by omega) hW
    have hH1 := fun W => html_any (a ++ b) W (by omega)
    have hH2 := fun W => html_any a W (by omega)
    have hH3 := fun W => html_any b W (by omega)
    have hab : (a ++ b).data.toList = a.data.toList ++ b.data.toList := by simp
    rw [hab] at hU1 hH1
    obtain ⟨u, hu⟩ : ∃ u : ByteArray, u = ⟨(Spec.unesc (a.data.toList ++ b.data.toList)).toArray⟩ := ⟨_, rfl⟩
    obtain ⟨ub, hub⟩ : ∃ u : ByteArray, u = ⟨(Spec.unesc b.data.toList).toArray⟩ := ⟨_, rfl⟩
    obtain ⟨h, hh⟩ : ∃ u : ByteArray, u = ⟨(html (a.data.toList ++ b.data.toList)).toArray⟩ := ⟨_, rfl⟩
    obtain ⟨ha, hha⟩ : ∃ u : ByteArray, u = ⟨(html a.data.toList).toArray⟩ := ⟨_, rfl⟩
    obtain ⟨hb, hhb⟩ : ∃ u : ByteArray, u = ⟨(html b.data.toList).toArray⟩ := ⟨_, rfl⟩
    rw [← hu] at hU1
    rw [← hub] at hU2
    rw [← hh] at hH1
    rw [← hha] at hH2
    rw [← hhb] at hH3
    have hubs : ub.size ≤ 6000 := by
      have h1 := unesc_short _ b.data.toList (Nat.le_refl _)
      have h2 : ub.size = (Spec.unesc b.data.toList).length := by rw [hub]; simp [ByteArray.size]
      have h3 : b.size = b.data.toList.length := Lib.size_eq b
      omega
    have hsz : ∀ (x : ByteArray) (l : List UInt8), x = ⟨(html l).toArray⟩ → l.length ≤ 1500 → x.size ≤ 9000 := fun x l hx hl => by
      have h1 := html_le l
      have h2 : x.size = (html l).length := by rw [hx]; simp [ByteArray.size]
      omega
    have hhas := hsz ha a.data.toList hha (by rw [← Lib.size_eq]; omega)
    have hhbs := hsz hb b.data.toList hhb (by rw [← Lib.size_eq]; omega)
    have hs3 : ¬ 9223372036854775807 < a.size + ub.size := by omega
    have hs4 : ¬ 9223372036854775807 < ha.size + hb.size := by omega
    have HE2 : Hid ((h.toList == (ha ++ hb).toList) = true) := Lib.hid (text_beq _ _ true (by
      rw [hh, hha, hhb]
      simp [html_app]))
    have HE1 : Hid (Mute a.data.toList → (u.toList == (a ++ ub).toList) = true) := Lib.hid (fun hm => text_beq _ _ true (by
      rw [hu, hub, unesc_join _ _ hm]
      simp))
    clear hu hub hh hha hhb hsz hab
    go_enter Tryz.func4, Tryz.ntmps4
    go_wp2
    go_loop [5] (fun v5 => ∃ i : Nat, i ≤ a.size ∧ v5 = .int .i64 (i : Int) ∧ Hid (Mute (a.data.toList.take i))) (fun v5 => a.size - (intOf v5).toNat)
    case atStart => exact ⟨0, Nat.zero_le _, rfl, Lib.hid (fun c hc => by cases hc)⟩
    case round =>
      obtain ⟨i, hi, rfl, HM⟩ := hrel
      by_cases hpi : i < a.size
      · have hpii : (i : Int) < a.size := by omega
        by_cases hc38 : (a[i]'hpi) = 38
        · have e38 : (((a[i]'hpi).toNat : Int) == 38) = true := u8_true hc38 rfl
          clear hc38
          go_wp2_with fail
          refine (hK _ hT).mono ?_
          rintro e w3 ⟨rfl, hb3⟩
          go_wp2
          go_ret
          exact ⟨rfl, hb3⟩
        · have e38 : (((a[i]'hpi).toNat : Int) == 38) = false := u8_false hc38 rfl
          by_cases hc92 : (a[i]'hpi) = 92
          · have e92 : (((a[i]'hpi).toNat : Int) == 92) = true := u8_true hc92 rfl
            clear hc38 hc92
            go_wp2_with fail
            refine (hK _ hT).mono ?_
            rintro e w3 ⟨rfl, hb3⟩
            go_wp2
            go_ret
            exact ⟨rfl, hb3⟩
          · have e92 : (((a[i]'hpi).toNat : Int) == 92) = false := u8_false hc92 rfl
            have HN : Hid (Mute (a.data.toList.take (i + 1))) := Lib.hid (by
              rw [byte_at a i hpi]
              intro c hc
              rcases List.mem_append.1 hc with h1 | h1
              · exact HM.out c h1
              · simp only [List.mem_singleton] at h1
                subst h1
                exact ⟨hc38, hc92⟩)
            clear hc38 hc92
            go_wp2
            go_round
            case rel => exact ⟨i + 1, by omega, by go_num, HN⟩
            case measure => simp [intOf]; omega
      · have hpii : ¬ (i : Int) < a.size := by omega
        have hE1 := HE1.out (by have := HM.out; rwa [List.take_of_length_le (by rw [← Lib.size_eq]; omega)] at this)
        have hE2 := HE2.out
        go_wp2_with fail
        refine (hU1 _ hT).mono ?_
        rintro e w1 ⟨rfl, hb1⟩
        go_wp2_with fail
        refine (hU2 _ (hT.below hb1)).mono ?_
        rintro e w2 ⟨rfl, hb2⟩
        have B2 : Below w.heap.size w w2 := hb1.trans (hb2.mono hb1.size)
        clear hb1 hb2
        go_wp2_with fail
        refine (hH1 _).mono ?_
        rintro e w3 ⟨rfl, hb3⟩
        have B3 : Below w.heap.size w w3 := B2.trans (hb3.mono B2.size)
        clear hb3 B2
        go_wp2_with fail
        refine (hH2 _).mono ?_
        rintro e w4 ⟨rfl, hb4⟩
        have B4 : Below w.heap.size w w4 := B3.trans (hb4.mono B3.size)
        clear hb4 B3
        go_wp2_with fail
        refine (hH3 _).mono ?_
        rintro e w5 ⟨rfl, hb5⟩
        have B5 : Below w.heap.size w w5 := B4.trans (hb5.mono B4.size)
        clear hb5 B4
        go_wp2_with fail
        refine (hK _ (hT.below B5)).mono ?_
        rintro e w6 ⟨rfl, hb6⟩
        go_wp2
        go_ret
        exact ⟨rfl, B5.trans (hb6.mono B5.size)⟩
end Go.Proofs.YtipbmagondoooaaGreatDoor
