/-
  What the law EntHTML answers: true, at every text.
-/
import Derived.Test.YtipbmagondoooaaGreatDoorRepE
import Derived.Test.YtipbmagondoooaaGreatDoorKnown
import Derived.Handy
namespace Go.Proofs.YtipbmagondoooaaGreatDoor
open Go.RowKit

/-! ### plain -/
theorem lk_some (c : UInt8) : (lk reps c).isSome = (c == 38 || c == 60 || c == 62 || c == 34) := by
  have h : ∀ n, n < 256 → (lk reps (UInt8.ofNat n)).isSome = (UInt8.ofNat n == 38 || UInt8.ofNat n == 60 || UInt8.ofNat n == 62 || UInt8.ofNat n == 34) := by decide +kernel
  have := h c.toNat c.toNat_lt
  rwa [UInt8.ofNat_toNat] at this
theorem one_ok (c : UInt8) : ∀ b ∈ one (lk reps c) c, b ≠ 60 ∧ b ≠ 62 ∧ b ≠ 34 := by
  have h : ∀ n, n < 256 → ∀ b ∈ one (lk reps (UInt8.ofNat n)) (UInt8.ofNat n), b ≠ 60 ∧ b ≠ 62 ∧ b ≠ 34 := by decide +kernel
  have := h c.toNat c.toNat_lt
  rwa [UInt8.ofNat_toNat] at this
theorem html_ok (l : List UInt8) : ∀ b ∈ html l, b ≠ 60 ∧ b ≠ 62 ∧ b ≠ 34 := by
  intro b hb
  unfold html at hb
  obtain ⟨c, _, hc⟩ := List.mem_flatMap.1 hb
  exact one_ok c b hc
theorem grow_any (l : List UInt8) (h : anyK 4 l = true) : 0 < growK 4 l := by
  induction l with
  | nil => cases h
  | cons c t ih =>
    have e : growK 4 (c :: t) = ((one (lk reps c) c).length - 1) + growK 4 t := rfl
    have h2 : ((lk reps c).isSome || anyK 4 t) = true := h
    rw [e]
    cases hc : (lk reps c).isSome with
    | false => rw [hc] at h2; have := ih h2; omega
    | true =>
      have hh : ∀ n, n < 256 → (lk reps (UInt8.ofNat n)).isSome = true → 2 ≤ (one (lk reps (UInt8.ofNat n)) (UInt8.ofNat n)).length := by decide +kernel
      have := hh c.toNat c.toNat_lt
      rw [UInt8.ofNat_toNat] at this
      have := this hc
      omega
theorem html_eq (l : List UInt8) : html l = l ↔ anyK 4 l = false := by
  constructor
  · intro h
    cases ha : anyK 4 l with
    | false => rfl
    | true =>
      have h1 := grow_any l ha
      have h2 := html_length l
      rw [h] at h2
      omega
  · exact html_same l
theorem anyK_at (s : ByteArray) (i : Nat) (hi : i < s.size) : anyK 4 (s.data.toList.take (i + 1)) = (anyK 4 (s.data.toList.take i) || ((s[i]'hi) == 38 || (s[i]'hi) == 60 || (s[i]'hi) == 62 || (s[i]'hi) == 34)) := by
  rw [byte_at s i hi, anyK_snoc]
  show (_ || (lk reps _).isSome) = _
  rw [lk_some]
theorem u8_true {a b : UInt8} {x : Int} (h : a = b) (hx : (b.toNat : Int) = x) : ((a.toNat : Int) == x) = true := by rw [h, hx]; exact beq_self_eq_true x
theorem u8_false {a b : UInt8} {x : Int} (h : ¬ a = b) (hx : (b.toNat : Int) = x) : ((a.toNat : Int) == x) = false := beq_eq_false_iff_ne.2 (fun e => h (UInt8.toNat_inj.1 (by omega)))
theorem toList_bytes (s : ByteArray) : s.toList = s.data.toList := Lib.toList_data s
theorem text_beq (a b : ByteArray) (p : Bool) (h : (a.data.toList = b.data.toList) ↔ p = true) : (a.toList == b.toList) = p := by
  rw [toList_bytes, toList_bytes]
  cases p with
  | true => rw [h.2 rfl]; exact beq_self_eq_true _
  | false => exact beq_eq_false_iff_ne.2 (fun e => by cases h.1 e)
set_option maxHeartbeats 16000000 in
set_option maxRecDepth 100000 in
theorem entHTML_law (s : ByteArray) (w : World) (hT : Tabs w) :
    Calls Tryz.prog 3 #[.string s] w fun e w' => e = .returned (.bool true) ∧ Below w.heap.size w w' := by
  by_cases hs : 1500 < s.size
  · go_enter Tryz.func3, Tryz.ntmps3
    go_wp2
    go_ret
    exact ⟨rfl, Below.refl _ _⟩
  · have hH := fun W => html_any s W (by omega)
    have hK := fun W (hW : Tabs W) => known_any W hW
    obtain ⟨h, hh⟩ : ∃ h : ByteArray, h = ⟨(html s.data.toList).toArray⟩ := ⟨_, rfl⟩
    rw [← hh] at hH
    have hl : h.data.toList = html s.data.toList := by rw [hh]
    have hsz : h.size ≤ 10000 := by
      have h1 := html_le s.data.toList
      have h2 : h.size = (html s.data.toList).length := by rw [← hl]; exact Lib.size_eq h
      have h3 : s.size = s.data.toList.length := Lib.size_eq s
      omega
    obtain ⟨p, hp⟩ : ∃ p, p = !anyK 4 s.data.toList := ⟨_, rfl⟩
    have hE : (h.toList == s.toList) = p := text_beq h s p (by
      rw [hl, html_eq, hp]
      cases anyK 4 s.data.toList <;> simp)
    have HL := Lib.hid hl
    have HP := Lib.hid hp
    have HE := Lib.hid hE
    clear hl hp hh hE
    go_enter Tryz.func3, Tryz.ntmps3
    go_wp2_with fail
    refine (hH _).mono ?_
    rintro e w1 ⟨rfl, hb1⟩
    have HB1 := Lib.hid hb1
    clear hH hb1
    go_wp2
    go_loop [4, 5] (fun v4 v5 => ∃ i : Nat, i ≤ s.size ∧ v5 = .int .i64 (i : Int) ∧ ∃ b : Bool, v4 = .bool b ∧ Hid (b = !anyK 4 (s.data.toList.take i))) (fun _ v5 => s.size - (intOf v5).toNat)
    case atStart => exact ⟨0, Nat.zero_le _, rfl, true, rfl, Lib.hid rfl⟩
    case round =>
      obtain ⟨i, hi, rfl, b, rfl, HB⟩ := hrel
      by_cases hpi : i < s.size
      · have hpii : (i : Int) < s.size := by omega
        have hat := anyK_at s i hpi
        cases b with
        | false =>
          have HN : Hid (false = !anyK 4 (s.data.toList.take (i + 1))) := Lib.hid (by
            rw [hat]
            have := HB.out
            cases h : anyK 4 (s.data.toList.take i) with
            | true => rfl
            | false => rw [h] at this; cases this)
          clear hat
          go_wp2
          go_round
          case rel => exact ⟨i + 1, by omega, by go_num, false, rfl, HN⟩
          case measure => simp [intOf]; omega
        | true =>
          have hb0 : anyK 4 (s.data.toList.take i) = false := by
            have := HB.out
            cases h : anyK 4 (s.data.toList.take i) with
            | true => rw [h] at this; cases this
            | false => rfl
          rw [hb0] at hat
          by_cases hc38 : (s[i]'hpi) = 38
          · have e38 : (((s[i]'hpi).toNat : Int) == 38) = true := u8_true hc38 rfl
            have m38 : (((s[i]'hpi).toNat : Int) != 38) = false := by rw [bne, e38]; rfl
            have HN : Hid (false = !anyK 4 (s.data.toList.take (i + 1))) := Lib.hid (by rw [hat]; rw [hc38]; rfl)
            clear hat hb0 hc38
            go_wp2
            go_round
            case rel => exact ⟨i + 1, by omega, by go_num, false, rfl, HN⟩
            case measure => simp [intOf]; omega
          · skip
            by_cases hc60 : (s[i]'hpi) = 60
            · have e38 : (((s[i]'hpi).toNat : Int) == 38) = false := u8_false hc38 rfl
              have m38 : (((s[i]'hpi).toNat : Int) != 38) = true := by rw [bne, e38]; rfl
              have e60 : (((s[i]'hpi).toNat : Int) == 60) = true := u8_true hc60 rfl
              have m60 : (((s[i]'hpi).toNat : Int) != 60) = false := by rw [bne, e60]; rfl
              have HN : Hid (false = !anyK 4 (s.data.toList.take (i + 1))) := Lib.hid (by rw [hat]; rw [hc60]; rfl)
              clear hat hb0 hc38 hc60
              go_wp2
              go_round
              case rel => exact ⟨i + 1, by omega, by go_num, false, rfl, HN⟩
              case measure => simp [intOf]; omega
            · skip
              by_cases hc62 : (s[i]'hpi) = 62
              · have e38 : (((s[i]'hpi).toNat : Int) == 38) = false := u8_false hc38 rfl
                have m38 : (((s[i]'hpi).toNat : Int) != 38) = true := by rw [bne, e38]; rfl
                have e60 : (((s[i]'hpi).toNat : Int) == 60) = false := u8_false hc60 rfl
                have m60 : (((s[i]'hpi).toNat : Int) != 60) = true := by rw [bne, e60]; rfl
                have e62 : (((s[i]'hpi).toNat : Int) == 62) = true := u8_true hc62 rfl
                have m62 : (((s[i]'hpi).toNat : Int) != 62) = false := by rw [bne, e62]; rfl
                have HN : Hid (false = !anyK 4 (s.data.toList.take (i + 1))) := Lib.hid (by rw [hat]; rw [hc62]; rfl)
                clear hat hb0 hc38 hc60 hc62
                go_wp2
                go_round
                case rel => exact ⟨i + 1, by omega, by go_num, false, rfl, HN⟩
                case measure => simp [intOf]; omega
              · skip
                by_cases hc34 : (s[i]'hpi) = 34
                · have e38 : (((s[i]'hpi).toNat : Int) == 38) = false := u8_false hc38 rfl
                  have m38 : (((s[i]'hpi).toNat : Int) != 38) = true := by rw [bne, e38]; rfl
                  have e60 : (((s[i]'hpi).toNat : Int) == 60) = false := u8_false hc60 rfl
                  have m60 : (((s[i]'hpi).toNat : Int) != 60) = true := by rw [bne, e60]; rfl
                  have e62 : (((s[i]'hpi).toNat : Int) == 62) = false := u8_false hc62 rfl
                  have m62 : (((s[i]'hpi).toNat : Int) != 62) = true := by rw [bne, e62]; rfl
                  have e34 : (((s[i]'hpi).toNat : Int) == 34) = true := u8_true hc34 rfl
                  have m34 : (((s[i]'hpi).toNat : Int) != 34) = false := by rw [bne, e34]; rfl
                  have HN : Hid (false = !anyK 4 (s.data.toList.take (i + 1))) := Lib.hid (by rw [hat]; rw [hc34]; rfl)
                  clear hat hb0 hc38 hc60 hc62 hc34
                  go_wp2
                  go_round
                  case rel => exact ⟨i + 1, by omega, by go_num, false, rfl, HN⟩
                  case measure => simp [intOf]; omega
                · skip
                  have e38 : (((s[i]'hpi).toNat : Int) == 38) = false := u8_false hc38 rfl
                  have m38 : (((s[i]'hpi).toNat : Int) != 38) = true := by rw [bne, e38]; rfl
                  have e60 : (((s[i]'hpi).toNat : Int) == 60) = false := u8_false hc60 rfl
                  have m60 : (((s[i]'hpi).toNat : Int) != 60) = true := by rw [bne, e60]; rfl
                  have e62 : (((s[i]'hpi).toNat : Int) == 62) = false := u8_false hc62 rfl
                  have m62 : (((s[i]'hpi).toNat : Int) != 62) = true := by rw [bne, e62]; rfl
                  have e34 : (((s[i]'hpi).toNat : Int) == 34) = false := u8_false hc34 rfl
                  have m34 : (((s[i]'hpi).toNat : Int) != 34) = true := by rw [bne, e34]; rfl
                  have HN : Hid (true = !anyK 4 (s.data.toList.take (i + 1))) := Lib.hid (by rw [hat]; simp [beq_eq_false_iff_ne.2 hc38, beq_eq_false_iff_ne.2 hc60, beq_eq_false_iff_ne.2 hc62, beq_eq_false_iff_ne.2 hc34])
                  clear hat hb0 hc38 hc60 hc62 hc34
                  go_wp2
                  go_round
                  case rel => exact ⟨i + 1, by omega, by go_num, true, rfl, HN⟩
                  case measure => simp [intOf]; omega
      · have hpii : ¬ (i : Int) < s.size := by omega
        have HBP : Hid (b = p) := Lib.hid (by rw [HB.out, HP.out, List.take_of_length_le (by rw [← Lib.size_eq]; omega)])
        have HPE : Hid ((p == b) = true) := Lib.hid (by rw [HBP.out]; exact beq_self_eq_true _)
        clear HB
        go_wp2
        go_loop [6] (fun v6 => ∃ j : Nat, j ≤ h.size ∧ v6 = .int .i64 (j : Int)) (fun v6 => h.size - (intOf v6).toNat)
        case atStart => exact ⟨0, Nat.zero_le _, rfl⟩
        case round =>
          obtain ⟨j, hj, rfl⟩ := hrel
          by_cases hpj : j < h.size
          · have hpji : (j : Int) < h.size := by omega
            have hok := html_ok s.data.toList (h[j]'hpj) (by rw [← HL.out]; exact List.getElem_mem (l := h.data.toList) (n := j) (by rw [← Lib.size_eq]; exact hpj))
            have f60 : (((h[j]'hpj).toNat : Int) == 60) = false := u8_false hok.1 rfl
            have f62 : (((h[j]'hpj).toNat : Int) == 62) = false := u8_false hok.2.1 rfl
            have f34 : (((h[j]'hpj).toNat : Int) == 34) = false := u8_false hok.2.2 rfl
            clear hok
            go_wp2
            go_round
            case rel => exact ⟨j + 1, by omega, by go_num⟩
            case measure => simp [intOf]; omega
          · have hpji : ¬ (j : Int) < h.size := by omega
            have hE := HE.out
            have hPE := HPE.out
            go_wp2_with fail
            refine (hK _ (hT.below HB1.out)).mono ?_
            rintro e w3 ⟨rfl, hb3⟩
            go_wp2
            go_ret
            exact ⟨rfl, HB1.out.trans (hb3.mono HB1.out.size)⟩
end Go.Proofs.YtipbmagondoooaaGreatDoor
