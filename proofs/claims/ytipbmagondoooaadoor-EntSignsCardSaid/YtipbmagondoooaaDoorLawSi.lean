/-
  What the law EntSigns answers: true, at every byte and every text.
-/
import Derived.Test.YtipbmagondoooaaDoorRefUn
import Derived.Test.YtipbmagondoooaaDoorKnown
import Derived.Test.YtipbmagondoooaaDoorEnc
import Derived.Handy
import Derived.Test.YtipbmagondoooaaDoorSigQ
namespace Go.Proofs.YtipbmagondoooaaDoor
open Go.RowKit

theorem unesc_sign (c : UInt8) (t : List UInt8) (h : Spec.sign c = true) : Spec.unesc (92 :: c :: t) = [c] ++ Spec.unesc t := by
  rw [unesc_cons]
  have : Spec.step (92 :: c :: t) = ([c], 2) := by
    unfold Spec.step
    simp only
    rw [if_pos (by first | exact ⟨rfl, h⟩ | exact ⟨trivial, h⟩)]; rfl
  rw [this]; rfl
theorem ent_other (c : UInt8) (t : List UInt8) (h : c ≠ 38) : Spec.ent (c :: t) = ([], 0) := by
  unfold Spec.ent
  simp only
  rw [if_neg (fun e => h e.1)]
theorem unesc_plain (c : UInt8) (t : List UInt8) (h : c ≠ 38) (h2 : c ≠ 92 ∨ Spec.signed t = false) : Spec.unesc (c :: t) = [c] ++ Spec.unesc t := by
  rw [unesc_cons]
  have : Spec.step (c :: t) = ([c], 1) := by
    unfold Spec.step
    simp only
    rw [if_neg (fun e => by rcases h2 with h2 | h2; exact h2 e.1; rw [h2] at e; cases e.2), ent_other c t h, if_neg (by simp)]
  rw [this]; rfl
theorem unesc_len (l : List UInt8) : (Spec.unesc l).length ≤ 4 * l.length := by
  have h : ∀ n (l : List UInt8), l.length ≤ n → (Spec.unesc l).length ≤ 4 * l.length := by
    intro n
    induction n with
    | zero =>
      intro l h
      obtain rfl := List.length_eq_zero_iff.1 (Nat.le_zero.1 h)
      exact Nat.le_refl _
    | succ n ih =>
      intro l h
      cases l with
      | nil => exact Nat.le_refl _
      | cons c t =>
        have hs := step_le c t
        rw [unesc_cons, List.length_append]
        have := ih ((c :: t).drop (Spec.step (c :: t)).2) (by rw [List.length_drop]; omega)
        rw [List.length_drop] at this
        omega
  exact h _ l (Nat.le_refl _)
theorem unesc_nosign (c : UInt8) (t : List UInt8) (h : Spec.sign c = false) : Spec.unesc (92 :: c :: t) = [92, c] ++ Spec.unesc t := by
  have h38 : c ≠ 38 := fun e => by rw [e] at h; exact absurd h (by decide)
  have h92 : c ≠ 92 := fun e => by rw [e] at h; exact absurd h (by decide)
  rw [unesc_plain 92 (c :: t) (by decide) (.inr (show Spec.signed (c :: t) = false from h)), unesc_plain c t h38 (.inl h92)]; rfl

theorem cell_of_below {w w' : World} (h : Below w.heap.size w w') (b : Nat) (hb : b < w.heap.size) : w'.cell? ⟨b, 0, none⟩ = w.cell? ⟨b, 0, none⟩ := by
  unfold World.cell?
  rw [h.block b hb]
set_option maxHeartbeats 8000000 in
set_option maxRecDepth 100000 in
theorem entSigns_law (x : Int) (s : ByteArray) (w : World) (hx0 : 0 ≤ x) (hx1 : x ≤ 255) (hT : Tabs w) :
    Calls Tryd.prog 6 #[.int .u8 x, .string s] w fun e w' => e = .returned (.bool true) ∧ Below w.heap.size w w' := by
  by_cases hs : 1500 < s.size
  · go_enter Tryd.func6, Tryd.ntmps6
    go_wp2
    go_ret
    exact ⟨rfl, Below.refl _ _⟩
  · obtain ⟨c, hc⟩ : ∃ c : UInt8, c = UInt8.ofNat x.toNat := ⟨_, rfl⟩
    have hcx : (c.toNat : Int) = x := by rw [hc, UInt8.toNat_ofNat_of_lt' (by show x.toNat < 256; omega)]; omega
    obtain ⟨sc, hsc⟩ : ∃ sc : ByteArray, sc = ⟨#[c]⟩ := ⟨_, rfl⟩
    have hcvG : ∀ (W : World) (b : Nat), W.cell? ⟨b, 0, none⟩ = some (.int .u8 x) → (convert 27 9 (.slice (some ⟨b, 0, none⟩) 1 1)).run Tryd.prog W = .ok (.string sc) W := fun W b h => by
      have := run_convert_bytes_arg (P := Tryd.prog) W 27 5 Tryd.underlying27 Tryd.underlying5 b 0 1 1 [x] rfl (fun i hi => by obtain rfl : i = 0 := (by omega); exact h) 9 Tryd.underlying9
      rw [this, hsc, hc]; rfl
    have hscs : sc.size = 1 := by rw [hsc]; rfl
    have hscl : sc.data.toList = [c] := by rw [hsc]
    have hs2 : ((⟨#[92]⟩ : ByteArray) ++ sc).size = 2 := by rw [ByteArray.size_append, hscs]; rfl
    have hSc : ∀ W, Calls Tryd.prog 15 #[.int .u8 (c.toNat : Int)] W fun e w' => e = .returned (.bool (Spec.sign c)) ∧ W = w' := fun W => (refSign_any c W).mono fun e w' h => ⟨h.1, h.2.symm⟩
    rw [hcx] at hSc
    have hK := fun W (hW : Tabs W) => known_any W hW
    -- what both sides are
    obtain ⟨v, hv⟩ : ∃ v : ByteArray, v = ⟨(Spec.unesc s.data.toList).toArray⟩ := ⟨_, rfl⟩
    have hU3 : ∀ W, Tabs W → Calls Tryd.prog 12 #[.string s] W fun e w' => e = .returned (.string v) ∧ Below W.heap.size W w' := fun W hW => by rw [hv]; exact unescape_any s W (by omega) hW
    obtain ⟨u, hu⟩ : ∃ u : ByteArray, u = ⟨(Spec.unesc (92 :: c :: s.data.toList)).toArray⟩ := ⟨_, rfl⟩
    have hU1 : ∀ W, Tabs W → Calls Tryd.prog 12 #[.string ((⟨#[92]⟩ : ByteArray) ++ sc ++ s)] W fun e w' => e = .returned (.string u) ∧ Below W.heap.size W w' := fun W hW => by
      have := unescape_any ((⟨#[92]⟩ : ByteArray) ++ sc ++ s) W (by rw [ByteArray.size_append, hs2]; omega) hW
      rw [show ((⟨#[92]⟩ : ByteArray) ++ sc ++ s).data.toList = 92 :: c :: s.data.toList by rw [ByteArray.data_append, ByteArray.data_append, hsc]; simp, ← hu] at this
      exact this
    have hvl : v.size ≤ 100000 := by
      rw [Lib.size_eq, hv]
      show (Spec.unesc s.data.toList).length ≤ _
      have := unesc_len s.data.toList
      rw [← Lib.size_eq] at this
      omega
    have hcat1 : ¬ 9223372036854775807 < 2 + s.size := by omega
    have hcat2 : ¬ 9223372036854775807 < 1 + v.size := by omega
    have hcat3 : ¬ 9223372036854775807 < 2 + v.size := by omega
    by_cases h0 : 0 < s.size
    · have h0i : (0 : Int) < s.size := by omega
      have hS0 : ∀ W, Calls Tryd.prog 15 #[.int .u8 ((s[0]'h0).toNat : Int)] W fun e w' => e = .returned (.bool (Spec.sign (s[0]'h0))) ∧ W = w' := fun W => (refSign_any (s[0]'h0) W).mono fun e w' h => ⟨h.1, h.2.symm⟩
      cases hb : Spec.sign (s[0]'h0) with
      | true =>
        rw [hb] at hS0
        clear hb hcx hc hscl hsc hU1 hU3 hu hv
        go_enter Tryd.func6, Tryd.ntmps6
        go_wp2_with (go_at_call 15; with_reducible refine (hS0 _).mono ?_; rintro e wx ⟨rfl, rfl⟩)
        go_ret
        exact ⟨rfl, Below.refl _ _⟩
      | false =>
        rw [hb] at hS0
        by_cases hz : (s[0]'h0).toNat = 0
        · have hzi : (((s[0]'h0).toNat : Int) == 0) = true := beq_iff_eq.2 (by omega)
          clear hz hb hcx hc hscl hsc hU1 hU3 hu hv
          go_enter Tryd.func6, Tryd.ntmps6
          go_wp2_with (go_at_call 15; with_reducible refine (hS0 _).mono ?_; rintro e wx ⟨rfl, rfl⟩)
          go_ret
          exact ⟨rfl, Below.refl _ _⟩
        · have hzi : (((s[0]'h0).toNat : Int) == 0) = false := beq_eq_false_iff_ne.2 (by omega)
          clear hz hb
          cases hsg : Spec.sign c with
          | true =>
            rw [hsg] at hSc
            by_cases hsp : c = 38 ∨ c = 92
            · have hU2 : ∀ W, Tabs W → Calls Tryd.prog 12 #[.string ((⟨#[92]⟩ : ByteArray) ++ sc)] W fun e w' => e = .returned (.string sc) ∧ Below W.heap.size W w' := fun W hW => by
                have := unescape_any ((⟨#[92]⟩ : ByteArray) ++ sc) W (by rw [hs2]; decide) hW
                rw [show ((⟨#[92]⟩ : ByteArray) ++ sc).data.toList = 92 :: c :: [] by rw [ByteArray.data_append, hsc]; simp, unesc_sign c [] hsg] at this
                have h2 : (⟨([c] ++ Spec.unesc []).toArray⟩ : ByteArray) = sc := by rw [hsc]; rfl
                rw [h2] at this
                exact this
              rcases hsp with e | e
              · have hx : x = 38 := by rw [← hcx, e]; rfl
                rw [hx] at hcvG hSc ⊢
                exact signs_38_some s sc w hT h0 h0i hzi hS0 (by omega) hcvG hscs hSc hU2 hK
              · have hx : x = 92 := by rw [← hcx, e]; rfl
                rw [hx] at hcvG hSc ⊢
                exact signs_92_some s sc w hT h0 h0i hzi hS0 (by omega) hcvG hscs hSc hU2 hK
            · have hn38 : (x == 38) = false := beq_eq_false_iff_ne.2 (fun e => hsp (.inl (UInt8.toNat_inj.1 (by have : (38 : UInt8).toNat = 38 := rfl; omega))))
              have hn92 : (x == 92) = false := beq_eq_false_iff_ne.2 (fun e => hsp (.inr (UInt8.toNat_inj.1 (by have : (92 : UInt8).toNat = 92 := rfl; omega))))
              have hE : Hid ((u.toList == (sc ++ v).toList) = true) := Lib.hid (by
                rw [beq_iff_eq, ByteArray.toList_eq, ByteArray.toList_eq, ByteArray.data_append, hu, hv, hsc, unesc_sign c _ hsg]; simp)
              clear hsp
              clear hsg hcx hc hscl hsc hu hv
              go_enter Tryd.func6, Tryd.ntmps6
              go_wp2_with (first | (go_at_call 15; with_reducible refine (hS0 _).mono ?_; rintro e wx ⟨rfl, rfl⟩) | (go_at_call 15; with_reducible refine (hSc _).mono ?_; rintro e wy ⟨rfl, rfl⟩))
              refine (hU1 _ (hT.below (by go_grown))).mono ?_
              rintro e w2 ⟨rfl, hb2⟩
              have hbw2 : Below w.heap.size w w2 := Below.trans (by go_grown) (hb2.mono (by simp; omega))
              clear hb2 hU1
              go_wp2_with fail
              refine (hU3 _ (hT.below hbw2)).mono ?_
              rintro e w3 ⟨rfl, hb3⟩
              have hbw3 := hbw2.trans (hb3.mono hbw2.size)
              clear hb3 hU3
              have HE := hE.out
              go_wp2_with fail
              refine (hK _ (hT.below hbw3)).mono ?_
              rintro e w4 ⟨rfl, hb4⟩
              go_wp2
              go_ret
              exact ⟨rfl, hbw3.trans (hb4.mono hbw3.size)⟩
          | false =>
            rw [hsg] at hSc
            have hn38 : (x == 38) = false := beq_eq_false_iff_ne.2 (fun e => by have : c = 38 := UInt8.toNat_inj.1 (by have : (38 : UInt8).toNat = 38 := rfl; omega); rw [this] at hsg; exact absurd hsg (by decide))
            have hn92 : (x == 92) = false := beq_eq_false_iff_ne.2 (fun e => by have : c = 92 := UInt8.toNat_inj.1 (by have : (92 : UInt8).toNat = 92 := rfl; omega); rw [this] at hsg; exact absurd hsg (by decide))
            have hE : Hid ((u.toList == ((⟨#[92]⟩ : ByteArray) ++ sc ++ v).toList) = true) := Lib.hid (by
              rw [beq_iff_eq, ByteArray.toList_eq, ByteArray.toList_eq, ByteArray.data_append, ByteArray.data_append, hu, hv, hsc, unesc_nosign c _ hsg]; simp)
            clear hsg hcx hc hscl hsc hu hv
            go_enter Tryd.func6, Tryd.ntmps6
            go_wp2_with (first | (go_at_call 15; with_reducible refine (hS0 _).mono ?_; rintro e wx ⟨rfl, rfl⟩) | (go_at_call 15; with_reducible refine (hSc _).mono ?_; rintro e wy ⟨rfl, rfl⟩))
            refine (hU1 _ (hT.below (by go_grown))).mono ?_
            rintro e w2 ⟨rfl, hb2⟩
            have hbw2 : Below w.heap.size w w2 := Below.trans (by go_grown) (hb2.mono (by simp; omega))
            clear hb2 hU1
            go_wp2_with fail
            refine (hU3 _ (hT.below hbw2)).mono ?_
            rintro e w3 ⟨rfl, hb3⟩
            have hbw3 := hbw2.trans (hb3.mono hbw2.size)
            clear hb3 hU3
            have HE := hE.out
            go_wp2_with fail
            refine (hK _ (hT.below hbw3)).mono ?_
            rintro e w4 ⟨rfl, hb4⟩
            go_wp2
            go_ret
            exact ⟨rfl, hbw3.trans (hb4.mono hbw3.size)⟩
    · have h0i : ¬ (0 : Int) < s.size := by omega
      cases hsg : Spec.sign c with
      | true =>
        rw [hsg] at hSc
        by_cases hsp : c = 38 ∨ c = 92
        · have hU2 : ∀ W, Tabs W → Calls Tryd.prog 12 #[.string ((⟨#[92]⟩ : ByteArray) ++ sc)] W fun e w' => e = .returned (.string sc) ∧ Below W.heap.size W w' := fun W hW => by
            have := unescape_any ((⟨#[92]⟩ : ByteArray) ++ sc) W (by rw [hs2]; decide) hW
            rw [show ((⟨#[92]⟩ : ByteArray) ++ sc).data.toList = 92 :: c :: [] by rw [ByteArray.data_append, hsc]; simp, unesc_sign c [] hsg] at this
            have h2 : (⟨([c] ++ Spec.unesc []).toArray⟩ : ByteArray) = sc := by rw [hsc]; rfl
            rw [h2] at this
            exact this
          rcases hsp with e | e
          · have hx : x = 38 := by rw [← hcx, e]; rfl
            rw [hx] at hcvG hSc ⊢
            exact signs_38_none s sc w hT h0i (by omega) hcvG hscs hSc hU2 hK
          · have hx : x = 92 := by rw [← hcx, e]; rfl
            rw [hx] at hcvG hSc ⊢
            exact signs_92_none s sc w hT h0i (by omega) hcvG hscs hSc hU2 hK
        · have hn38 : (x == 38) = false := beq_eq_false_iff_ne.2 (fun e => hsp (.inl (UInt8.toNat_inj.1 (by have : (38 : UInt8).toNat = 38 := rfl; omega))))
          have hn92 : (x == 92) = false := beq_eq_false_iff_ne.2 (fun e => hsp (.inr (UInt8.toNat_inj.1 (by have : (92 : UInt8).toNat = 92 := rfl; omega))))
          have hE : Hid ((u.toList == (sc ++ v).toList) = true) := Lib.hid (by
            rw [beq_iff_eq, ByteArray.toList_eq, ByteArray.toList_eq, ByteArray.data_append, hu, hv, hsc, unesc_sign c _ hsg]; simp)
          clear hsp
          clear hsg hcx hc hscl hsc hu hv
          go_enter Tryd.func6, Tryd.ntmps6
          go_wp2_with (go_at_call 15; with_reducible refine (hSc _).mono ?_; rintro e wy ⟨rfl, rfl⟩)
          refine (hU1 _ (hT.below (by go_grown))).mono ?_
          rintro e w2 ⟨rfl, hb2⟩
          have hbw2 : Below w.heap.size w w2 := Below.trans (by go_grown) (hb2.mono (by simp; omega))
          clear hb2 hU1
          go_wp2_with fail
          refine (hU3 _ (hT.below hbw2)).mono ?_
          rintro e w3 ⟨rfl, hb3⟩
          have hbw3 := hbw2.trans (hb3.mono hbw2.size)
          clear hb3 hU3
          have HE := hE.out
          go_wp2_with fail
          refine (hK _ (hT.below hbw3)).mono ?_
          rintro e w4 ⟨rfl, hb4⟩
          go_wp2
          go_ret
          exact ⟨rfl, hbw3.trans (hb4.mono hbw3.size)⟩
      | false =>
        rw [hsg] at hSc
        have hn38 : (x == 38) = false := beq_eq_false_iff_ne.2 (fun e => by have : c = 38 := UInt8.toNat_inj.1 (by have : (38 : UInt8).toNat = 38 := rfl; omega); rw [this] at hsg; exact absurd hsg (by decide))
        have hn92 : (x == 92) = false := beq_eq_false_iff_ne.2 (fun e => by have : c = 92 := UInt8.toNat_inj.1 (by have : (92 : UInt8).toNat = 92 := rfl; omega); rw [this] at hsg; exact absurd hsg (by decide))
        have hE : Hid ((u.toList == ((⟨#[92]⟩ : ByteArray) ++ sc ++ v).toList) = true) := Lib.hid (by
          rw [beq_iff_eq, ByteArray.toList_eq, ByteArray.toList_eq, ByteArray.data_append, ByteArray.data_append, hu, hv, hsc, unesc_nosign c _ hsg]; simp)
        clear hsg hcx hc hscl hsc hu hv
        go_enter Tryd.func6, Tryd.ntmps6
        go_wp2_with (go_at_call 15; with_reducible refine (hSc _).mono ?_; rintro e wy ⟨rfl, rfl⟩)
        refine (hU1 _ (hT.below (by go_grown))).mono ?_
        rintro e w2 ⟨rfl, hb2⟩
        have hbw2 : Below w.heap.size w w2 := Below.trans (by go_grown) (hb2.mono (by simp; omega))
        clear hb2 hU1
        go_wp2_with fail
        refine (hU3 _ (hT.below hbw2)).mono ?_
        rintro e w3 ⟨rfl, hb3⟩
        have hbw3 := hbw2.trans (hb3.mono hbw2.size)
        clear hb3 hU3
        have HE := hE.out
        go_wp2_with fail
        refine (hK _ (hT.below hbw3)).mono ?_
        rintro e w4 ⟨rfl, hb4⟩
        go_wp2
        go_ret
        exact ⟨rfl, hbw3.trans (hb4.mono hbw3.size)⟩
end Go.Proofs.YtipbmagondoooaaDoor
