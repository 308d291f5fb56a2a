/-
  What the law EntBytes answers: true, at every byte and every text.
-/
import Derived.Test.YtipbmagondoooaaDoorRefUri
import Derived.Test.YtipbmagondoooaaDoorKnown
import Derived.Test.YtipbmagondoooaaDoorEnc
import Derived.Handy
namespace Go.Proofs.YtipbmagondoooaaDoor
open Go.RowKit

/-- A byte that may stand in an address. -/
def okB (b : UInt8) : Bool := decide (32 < b.toNat) && decide (b.toNat < 127) && b.toNat != 34 && b.toNat != 60 && b.toNat != 62 && b.toNat != 92
theorem stands_ok (c : UInt8) : (Spec.letter c = true ∨ Spec.plains.contains c = true ∨ c = 37) → okB c = true := by
  have h : ∀ n, n < 256 → (Spec.letter (UInt8.ofNat n) = true ∨ Spec.plains.contains (UInt8.ofNat n) = true ∨ UInt8.ofNat n = 37) → okB (UInt8.ofNat n) = true := by decide +kernel
  have := h c.toNat c.toNat_lt
  rwa [UInt8.ofNat_toNat] at this
theorem cap_ok : ∀ n, n < 16 → okB (Spec.cap n) = true := by decide +kernel
theorem uri_ok : ∀ (l : List UInt8), ∀ b ∈ Spec.uri l, okB b = true
  | [], _, h => by cases h
  | c :: t, b, h => by
    by_cases hst : stands c t
    · rw [uri_cons c t hst] at h
      rcases List.mem_append.1 h with h | h
      · rw [List.mem_singleton] at h
        subst h
        exact stands_ok b (hst.imp id (Or.imp id And.left))
      · exact uri_ok t b h
    · rw [uri_cons' c t hst] at h
      rcases List.mem_append.1 h with h | h
      · simp only [List.mem_cons, List.mem_nil_iff, or_false] at h
        have := c.toNat_lt
        rcases h with rfl | rfl | rfl
        · decide
        · exact cap_ok _ (by omega)
        · exact cap_ok _ (by omega)
      · exact uri_ok t b h
theorem uri_z (c : UInt8) (t : List UInt8) : Spec.uri (c :: 122 :: t) = Spec.uri [c] ++ Spec.uri (122 :: t) := by
  have hh : Spec.isHex (122 :: t) = false := by
    cases t with
    | nil => rfl
    | cons d u =>
      show (Spec.hexs.contains 122 && Spec.hexs.contains d) = false
      rw [show Spec.hexs.contains 122 = false by decide]
      rfl
  have he : stands c (122 :: t) ↔ stands c [] := by
    unfold stands
    rw [hh, show Spec.isHex [] = false from rfl]
  by_cases hst : stands c []
  · rw [uri_cons c _ (he.2 hst), uri_cons c [] hst]; simp [Spec.uri]
  · rw [uri_cons' c _ (fun h => hst (he.1 h)), uri_cons' c [] hst]; simp [Spec.uri]
theorem uri_len : ∀ l : List UInt8, (Spec.uri l).length ≤ 3 * l.length
  | [] => Nat.le_refl _
  | c :: t => by
    have := uri_len t
    by_cases hst : stands c t
    · rw [uri_cons c t hst, List.length_append, List.length_cons]; simp only [List.length_cons, List.length_nil]; omega
    · rw [uri_cons' c t hst, List.length_append, List.length_cons]; simp only [List.length_cons, List.length_nil]; omega
theorem uri_one (c : UInt8) : (Spec.uri [c]).length = 1 ∨ ((Spec.uri [c]).length = 3 ∧ (Spec.uri [c])[0]? = some 37) := by
  by_cases hst : stands c []
  · rw [uri_cons c _ hst]; exact .inl rfl
  · rw [uri_cons' c _ hst]; exact .inr ⟨rfl, rfl⟩

set_option maxHeartbeats 4000000 in
set_option maxRecDepth 100000 in
theorem entBytes_law (x : Int) (s : ByteArray) (w : World) (hx0 : 0 ≤ x) (hx1 : x ≤ 255) (hT : Tabs w) :
    Calls Tryd.prog 7 #[.int .u8 x, .string s] w fun e w' => e = .returned (.bool true) ∧ Below w.heap.size w w' := by
  by_cases hs : 1500 < s.size
  · go_enter Tryd.func7, Tryd.ntmps7
    go_wp2
    go_ret
    exact ⟨rfl, Below.refl _ _⟩
  · obtain ⟨c, hc⟩ : ∃ c : UInt8, c = UInt8.ofNat x.toNat := ⟨_, rfl⟩
    obtain ⟨sc, hsc⟩ : ∃ sc : ByteArray, sc = ⟨#[c]⟩ := ⟨_, rfl⟩
    have hcv := fun W => str_fresh W #[.int .u8 x] [x] 1 rfl rfl
    simp only [List.map_cons, List.map_nil] at hcv
    rw [← hc, ← hsc] at hcv
    obtain ⟨u, hu⟩ : ∃ u : ByteArray, u = ⟨(Spec.uri (c :: 122 :: s.data.toList)).toArray⟩ := ⟨_, rfl⟩
    obtain ⟨one, ho⟩ : ∃ u : ByteArray, u = ⟨(Spec.uri [c]).toArray⟩ := ⟨_, rfl⟩
    obtain ⟨zs, hz⟩ : ∃ u : ByteArray, u = ⟨(Spec.uri (122 :: s.data.toList)).toArray⟩ := ⟨_, rfl⟩
    have hul : u.data.toList = Spec.uri (c :: 122 :: s.data.toList) := by rw [hu]
    have hol : one.data.toList = Spec.uri [c] := by rw [ho]
    have hzl : zs.data.toList = Spec.uri (122 :: s.data.toList) := by rw [hz]
    have hcat : ¬ 9223372036854775807 < one.size + zs.size := by
      rw [Lib.size_eq, Lib.size_eq, hol, hzl]
      have h1 := uri_len [c]
      have h2 := uri_len (122 :: s.data.toList)
      rw [List.length_cons, ← Lib.size_eq] at h2
      simp only [List.length_cons, List.length_nil] at h1
      omega
    have hub : (u.size : Int) ≤ 10000 := by
      have h2 := uri_len (c :: 122 :: s.data.toList)
      rw [List.length_cons, List.length_cons, ← Lib.size_eq, ← hul, ← Lib.size_eq] at h2
      omega
    have hcat1 : ¬ 9223372036854775807 < 1 + s.size := by omega
    have hcat2 : ¬ 9223372036854775807 < 2 + s.size := by omega
    have hscs : sc.size = 1 := by rw [hsc]; rfl
    have hscl : sc.data.toList = [c] := by rw [hsc]
    have hU1 : ∀ W, Calls Tryd.prog 16 #[.string (sc ++ ⟨#[122]⟩ ++ s)] W fun e w' => e = .returned (.string u) ∧ Below W.heap.size W w' := fun W => by
      have := uri_any (sc ++ ⟨#[122]⟩ ++ s) W (by rw [ByteArray.size_append, ByteArray.size_append, hscs]; show 1 + 1 + s.size ≤ _; omega)
      rw [show (sc ++ ⟨#[122]⟩ ++ s).data.toList = c :: 122 :: s.data.toList by rw [ByteArray.data_append, ByteArray.data_append, hsc]; simp, ← hu] at this
      exact this
    have hU2 : ∀ W, Calls Tryd.prog 16 #[.string sc] W fun e w' => e = .returned (.string one) ∧ Below W.heap.size W w' := fun W => by
      have := uri_any sc W (by omega)
      rw [hscl, ← ho] at this
      exact this
    have hU3 : ∀ W, Calls Tryd.prog 16 #[.string (⟨#[122]⟩ ++ s)] W fun e w' => e = .returned (.string zs) ∧ Below W.heap.size W w' := fun W => by
      have := uri_any (⟨#[122]⟩ ++ s) W (by rw [ByteArray.size_append]; show 1 + s.size ≤ _; omega)
      rw [show ((⟨#[122]⟩ : ByteArray) ++ s).data.toList = 122 :: s.data.toList by rw [ByteArray.data_append]; simp, ← hz] at this
      exact this
    have hR : ∀ W, Calls Tryd.prog 17 #[.string sc] W fun e w' => e = .returned (.string one) ∧ Below W.heap.size W w' := fun W => by
      have := refUri_any sc W (by omega)
      rw [hscl, ← ho] at this
      exact this
    have hK := fun W (hW : Tabs W) => known_any W hW
    have hUE : Hid ((u.toList == (one ++ zs).toList) = true) := Lib.hid (by
      rw [beq_iff_eq, ByteArray.toList_eq, ByteArray.toList_eq, ByteArray.data_append, hu, ho, hz, uri_z]; simp)
    have hOK : Hid (∀ i (h : i < u.size), 32 < (u[i]'h).toNat ∧ (u[i]'h).toNat < 127 ∧ (u[i]'h).toNat ≠ 34 ∧ (u[i]'h).toNat ≠ 60 ∧ (u[i]'h).toNat ≠ 62 ∧ (u[i]'h).toNat ≠ 92) := Lib.hid (fun i h => by
      have hm : (u[i]'h) ∈ u.data.toList := by
        rw [Array.mem_toList_iff]
        exact Array.getElem_mem _
      rw [hul] at hm
      have := uri_ok (c :: 122 :: s.data.toList) (u[i]'h) hm
      unfold okB at this
      simpa [and_assoc] using this)
    have hON : Hid (one.size = 1 ∨ (one.size = 3 ∧ ∃ h : 0 < one.size, (one[0]'h).toNat = 37)) := Lib.hid (by
      rcases uri_one c with h | ⟨h, h2⟩
      · exact .inl (by rw [Lib.size_eq, ho]; exact h)
      · refine .inr ⟨by rw [Lib.size_eq, ho]; exact h, by rw [Lib.size_eq, ho]; show 0 < (Spec.uri [c]).length; omega, ?_⟩
        have h3 : 0 < one.size := by rw [Lib.size_eq, ho]; show 0 < (Spec.uri [c]).length; omega
        have := at_list one 0 h3
        rw [hol, h2] at this
        have h4 := Option.some.inj this
        rw [← h4]; rfl)
    have hs2 : (sc ++ ⟨#[122]⟩).size = 2 := by rw [ByteArray.size_append, hscs]; rfl
    have huse : 0 ≤ (u.size : Int) := by omega
    clear hc hsc hscl hu ho hz hul hol hzl
    go_enter Tryd.func7, Tryd.ntmps7
    go_wp2_with fail
    refine (hU1 _).mono ?_
    rintro e w1 ⟨rfl, hb1⟩
    have hbw1 : Below w.heap.size w w1 := ((Below.refl _ w).alloc (Nat.le_refl _) _).trans (hb1.mono (by simp))
    clear hU1 hb1
    go_wp2_with fail
    go_loop [6] (fun v6 => ∃ i : Nat, i ≤ u.size ∧ v6 = .int .i64 i) (fun v6 => u.size - (intOf v6).toNat)
    case atStart => exact ⟨0, Nat.zero_le _, rfl⟩
    case round =>
      obtain ⟨i, hi, rfl⟩ := hrel
      by_cases hp : i < u.size
      · have hpi : (i : Int) < u.size := by omega
        obtain ⟨g1, g2, g3, g4, g5, g6⟩ := hOK.out i hp
        have k1 : ¬ (((u[i]'hp).toNat : Int) ≤ 32) := by omega
        have k2 : ¬ (127 ≤ ((u[i]'hp).toNat : Int)) := by omega
        have k3 : (((u[i]'hp).toNat : Int) == 34) = false := beq_eq_false_iff_ne.2 (by omega)
        have k4 : (((u[i]'hp).toNat : Int) == 60) = false := beq_eq_false_iff_ne.2 (by omega)
        have k5 : (((u[i]'hp).toNat : Int) == 62) = false := beq_eq_false_iff_ne.2 (by omega)
        have k6 : (((u[i]'hp).toNat : Int) == 92) = false := beq_eq_false_iff_ne.2 (by omega)
        clear g1 g2 g3 g4 g5 g6
        go_wp2
        go_round
        case rel => exact ⟨i + 1, by omega, by go_num⟩
        case measure => simp [intOf]; omega
      · have hpi : ¬ (i : Int) < u.size := by omega
        go_wp2_with fail
        refine (hU2 _).mono ?_
        rintro e w2 ⟨rfl, hb2⟩
        have hbw2 := (hbw1.alloc hbw1.size _).trans (hb2.mono (hbw1.alloc hbw1.size _).size)
        clear hb2 hU2 hOK
        rcases hON.out with h1 | ⟨h1, h0, h3⟩
        · have h1i : (one.size : Int) = 1 := by omega
          have HUE := hUE.out
          go_wp2_with fail
          refine (hU3 _).mono ?_
          rintro e w3 ⟨rfl, hb3⟩
          have hbw3 := hbw2.trans (hb3.mono hbw2.size)
          clear hb3 hU3
          go_wp2_with fail
          refine (hR _).mono ?_
          rintro e w4 ⟨rfl, hb4⟩
          have hbw4 := (hbw3.alloc hbw3.size _).trans (hb4.mono (hbw3.alloc hbw3.size _).size)
          clear hb4 hR
          have hoo : (one.toList == one.toList) = true := beq_self_eq_true _
          go_wp2_with fail
          refine (hK _ (hT.below hbw4)).mono ?_
          rintro e w5 ⟨rfl, hb5⟩
          go_wp2
          go_ret
          exact ⟨rfl, hbw4.trans (hb5.mono hbw4.size)⟩
        · have h1i : (one.size : Int) = 3 := by omega
          have h3i : (((one[0]'h0).toNat : Int) == 37) = true := by rw [h3]; rfl
          have h0i : (0 : Int) < one.size := by omega
          have HUE := hUE.out
          clear h3
          go_wp2_with fail
          refine (hU3 _).mono ?_
          rintro e w3 ⟨rfl, hb3⟩
          have hbw3 := hbw2.trans (hb3.mono hbw2.size)
          clear hb3 hU3
          go_wp2_with fail
          refine (hR _).mono ?_
          rintro e w4 ⟨rfl, hb4⟩
          have hbw4 := (hbw3.alloc hbw3.size _).trans (hb4.mono (hbw3.alloc hbw3.size _).size)
          clear hb4 hR
          have hoo : (one.toList == one.toList) = true := beq_self_eq_true _
          go_wp2_with fail
          refine (hK _ (hT.below hbw4)).mono ?_
          rintro e w5 ⟨rfl, hb5⟩
          go_wp2
          go_ret
          exact ⟨rfl, hbw4.trans (hb5.mono hbw4.size)⟩
end Go.Proofs.YtipbmagondoooaaDoor
