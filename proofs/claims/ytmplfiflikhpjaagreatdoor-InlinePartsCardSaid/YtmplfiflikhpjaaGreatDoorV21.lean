/-
  Texts of one proof, joined: RpD, RpH, RpI, RpC, RpE.
-/
import Derived.Test.YtmplfiflikhpjaaGreatDoorV02
import Derived.Test.YtmplfiflikhpjaaGreatDoorV05
import Derived.Test.YtmplfiflikhpjaaGreatDoorV07
import Derived.Test.YtmplfiflikhpjaaGreatDoorV10
import Derived.Test.YtmplfiflikhpjaaGreatDoorV11
import Derived.Test.YtmplfiflikhpjaaGreatDoorV12
import Derived.Test.YtmplfiflikhpjaaGreatDoorV20
import Derived.Laws.IdiomStrings
import Derived.Lib.ConvBytes
/-
  ref21's scheme, host, mail.
-/
namespace Go.Proofs.YtmplfiflikhpjaaGreatDoor
open Go.RowKit

theorem among_any (c : UInt8) (x : Int) (hx : x = (c.toNat : Int)) (l : ByteArray) (b : Bool) (hb : l.data.toList.contains c = b) (hs : l.size ≤ 1000000) :
    ∀ W, Calls Tryz.prog 94 #[.int .u8 x, .string l] W fun e w' => e = .returned (.bool b) ∧ W = w' := fun W => by
  subst hx hb
  exact (among21_any c l W hs).mono fun e w' h => ⟨h.1, h.2.symm⟩
theorem letter_any (c : UInt8) (x : Int) (hx : x = (c.toNat : Int)) (b : Bool) (hb : Spec.alpha c = b) :
    ∀ W, Calls Tryz.prog 105 #[.int .u8 x] W fun e w' => e = .returned (.bool b) ∧ W = w' := fun W => by
  subst hx hb
  exact (letter21_any c W).mono fun e w' h => ⟨h.1, h.2.symm⟩
theorem word_any (c : UInt8) (x : Int) (hx : x = (c.toNat : Int)) (b : Bool) (hb : (Spec.alpha c || Spec.digit c) = b) :
    ∀ W, Calls Tryz.prog 106 #[.int .u8 x] W fun e w' => e = .returned (.bool b) ∧ W = w' := fun W => by
  subst hx hb
  exact (word21_any c W).mono fun e w' h => ⟨h.1, h.2.symm⟩
theorem schemeC_split (c : UInt8) : Spec.schemeC c = (Spec.alpha c || Spec.digit c || ([43, 46, 45] : List UInt8).contains c) :=
  u8_all (p := Spec.schemeC) (q := fun c => (Spec.alpha c || Spec.digit c || ([43, 46, 45] : List UInt8).contains c)) (by decide +kernel) c

/-- How the count goes on. -/
def schGo (l : List UInt8) (j : Nat) : Nat := if j = 0 then Pl.schN l else j + ((l.drop j).takeWhile Spec.schemeC).length
theorem schN_le (l : List UInt8) : Pl.schN l ≤ l.length := by
  unfold Pl.schN
  split
  · exact Pl.tw_len _ _
  · exact Nat.zero_le _
set_option maxHeartbeats 16000000 in
set_option maxRecDepth 100000 in
theorem scheme21_any (s : ByteArray) (w : World) (hs : s.size ≤ 1000000) :
    Calls Tryz.prog 49 #[.string s] w fun r w' => r = .returned (.int .i64 (Pl.schemeR s.data.toList : Int)) ∧ w = w' := by
  obtain ⟨N, hN⟩ : ∃ N, N = Pl.schN s.data.toList := ⟨_, rfl⟩
  have hNl : N ≤ s.size := by rw [hN, Lib.size_eq]; exact schN_le _
  have HN := Lib.hid (show N = schGo s.data.toList 0 by rw [hN]; rfl)
  -- what the end says
  have hway : (Pl.schemeR s.data.toList = 0 ∧ (N < 2 ∨ (2 ≤ N ∧ 32 < N) ∨ (2 ≤ N ∧ N ≤ 32 ∧ N = s.size) ∨ (2 ≤ N ∧ N ≤ 32 ∧ ∃ h : N < s.size, ¬ s[N]'h = 58))) ∨ (Pl.schemeR s.data.toList = N + 1 ∧ 2 ≤ N ∧ N ≤ 32 ∧ ∃ h : N < s.size, s[N]'h = 58) := by
    unfold Pl.schemeR
    rw [← hN]
    by_cases h1 : N < 2
    · exact .inl ⟨if_neg (fun h => by omega), .inl h1⟩
    · by_cases h2 : 32 < N
      · exact .inl ⟨if_neg (fun h => by omega), .inr (.inl ⟨by omega, h2⟩)⟩
      · by_cases h3 : N < s.size
        · have hat := at_list s N h3
          by_cases h4 : s[N]'h3 = 58
          · exact .inr ⟨if_pos ⟨by omega, by omega, by rw [hat, h4]⟩, by omega, by omega, h3, h4⟩
          · exact .inl ⟨if_neg (fun h => by rw [hat] at h; exact h4 (Option.some.inj h.2.2)), .inr (.inr (.inr ⟨by omega, by omega, h3, h4⟩))⟩
        · refine .inl ⟨if_neg (fun h => ?_), .inr (.inr (.inl ⟨by omega, by omega, by omega⟩))⟩
          rw [List.getElem?_eq_none (by rw [← Lib.size_eq]; omega)] at h
          cases h.2.2
  obtain ⟨R, hR⟩ : ∃ R, R = Pl.schemeR s.data.toList := ⟨_, rfl⟩
  rw [← hR] at hway ⊢
  clear hR hN
  have HW := Lib.hid hway
  clear hway
  have hemp : ∀ (j : Nat) (hp : j < s.size), (j = 0 → Spec.alpha (s[j]'hp) = false → N = 0) ∧ (j = 0 → Spec.alpha (s[j]'hp) = true → schGo s.data.toList j = schGo s.data.toList (j + 1)) ∧ (0 < j → Spec.schemeC (s[j]'hp) = true → schGo s.data.toList j = schGo s.data.toList (j + 1)) ∧ (0 < j → Spec.schemeC (s[j]'hp) = false → schGo s.data.toList j = j) := fun j hp => by
    have htw := takeWn_cons Spec.schemeC (s[j]'hp) (s.data.toList.drop (j + 1))
    rw [← drop_at s j hp] at htw
    refine ⟨fun h0 ha => ?_, fun h0 ha => ?_, fun h0 ha => ?_, fun h0 ha => ?_⟩
    · subst h0
      rw [HN.out]
      show Pl.schN _ = 0
      unfold Pl.schN
      rw [head_cons s hp]
      simp [ha]
    · subst h0
      have hsc : Spec.schemeC (s[0]'hp) = true := by rw [schemeC_split, ha]; rfl
      show Pl.schN _ = _
      unfold Pl.schN schGo
      rw [if_pos (show (s.data.toList.head?.map Spec.alpha) = some true by rw [head_cons s hp]; simp [ha]), if_neg (by omega)]
      rw [List.drop_zero, if_pos hsc] at htw
      rw [htw]
      omega
    · unfold schGo
      rw [if_neg (by omega), if_neg (by omega), htw, if_pos ha]
      omega
    · unfold schGo
      rw [if_neg (by omega), htw, if_neg (by rw [ha]; decide)]
      rfl
  have HE := Lib.hid hemp
  clear hemp
  go_enter Tryz.func49, Tryz.ntmps49
  go_wp2
  go_loop [3] (fun v5 => ∃ j : Nat, j ≤ s.size ∧ v5 = .int .i64 j ∧ Hid (N = schGo s.data.toList j)) (fun v5 => s.size - (intOf v5).toNat)
  case atStart => exact ⟨0, by omega, rfl, HN⟩
  case round =>
    obtain ⟨j, hj, rfl, HJ⟩ := hrel
    have out : ∀ (_ : N = j), Hid ((R = 0 ∧ ((j : Int) < 2 ∨ (¬ (j : Int) < 2 ∧ (32 : Int) < j) ∨ (¬ (j : Int) < 2 ∧ ¬ (32 : Int) < j ∧ ((j : Int) == (s.size : Int)) = true) ∨ (¬ (j : Int) < 2 ∧ ¬ (32 : Int) < j ∧ ((j : Int) == (s.size : Int)) = false ∧ ∃ h : j < s.size, (((s[j]'h).toNat : Int) == 58) = false ∧ (((s[j]'h).toNat : Int) != 58) = true))) ∨ (R = j + 1 ∧ ¬ (j : Int) < 2 ∧ ¬ (32 : Int) < j ∧ ((j : Int) == (s.size : Int)) = false ∧ ∃ h : j < s.size, (((s[j]'h).toNat : Int) == 58) = true ∧ (((s[j]'h).toNat : Int) != 58) = false)) := fun e => Lib.hid (by
      subst e
      rcases HW.out with ⟨h1, h⟩ | ⟨h1, h2, h3, h4, h5⟩
      · refine .inl ⟨h1, ?_⟩
        rcases h with h | ⟨ha, hb⟩ | ⟨ha, hb, hc⟩ | ⟨ha, hb, hc, hd⟩
        · exact .inl (by omega)
        · exact .inr (.inl ⟨by omega, by omega⟩)
        · exact .inr (.inr (.inl ⟨by omega, by omega, beq_iff_eq.2 (by omega)⟩))
        · exact .inr (.inr (.inr ⟨by omega, by omega, beq_eq_false_iff_ne.2 (by omega), hc, u8_false hd rfl, ne_of_eq (u8_false hd rfl)⟩))
      · exact .inr ⟨h1, by omega, by omega, beq_eq_false_iff_ne.2 (by omega), h4, u8_true h5 rfl, ne_of_eq (u8_true h5 rfl)⟩)
    by_cases hp : j < s.size
    · have hpi : (j : Int) < s.size := by omega
      obtain ⟨hE1, hE2, hE3, hE4⟩ := HE.out j hp
      have hL := letter_any (s[j]'hp) _ rfl _ rfl
      have hWd := word_any (s[j]'hp) _ rfl _ rfl
      have hAm := among_any (s[j]'hp) _ rfl ⟨#[43, 46, 45]⟩ _ rfl (by decide)
      have hsc := schemeC_split (s[j]'hp)
      have fin : ∀ (f : Spec.alpha (s[j]'hp) = true ∨ (0 < j ∧ Spec.schemeC (s[j]'hp) = true)), Hid (N = schGo s.data.toList (j + 1)) := fun f => Lib.hid (by
        rw [HJ.out]
        rcases f with f | ⟨f, g⟩
        · by_cases h0 : j = 0
          · exact hE2 h0 f
          · exact hE3 (by omega) (by rw [hsc, f]; rfl)
        · exact hE3 f g)
      have stop : ∀ (f : Spec.alpha (s[j]'hp) = false) (g : j = 0 ∨ (0 < j ∧ Spec.schemeC (s[j]'hp) = false)), N = j := fun f g => by
        rcases g with g | ⟨g, h⟩
        · rw [hE1 g f, g]
        · rw [HJ.out]; exact hE4 g h
      clear hE1 hE2 hE3 hE4
      cases ha : Spec.alpha (s[j]'hp) with
      | true =>
        rw [ha] at hL
        have HF := fin (.inl ha)
        clear fin stop out HJ ha hsc hWd hAm HE
        go_wp2_with (go_at_call 105; refine (hL _).mono ?_; rintro e w1 ⟨rfl, rfl⟩)
        go_round
        case rel => exact ⟨j + 1, by omega, by go_num, HF⟩
        case measure => simp [intOf]; omega
      | false =>
        rw [ha] at hL hWd hsc
        rw [Bool.false_or] at hWd hsc
        by_cases h0 : j = 0
        · have HO := out (stop ha (.inl h0))
          have hji : ¬ (0 : Int) < (j : Int) := by omega
          clear fin stop out HJ ha hsc hWd hAm HE h0
          rcases HO.out with ⟨h1, h | ⟨h, h'⟩ | ⟨h, h', h''⟩ | ⟨h, h', h'', h3, h4, h5⟩⟩ | ⟨h1, h, h', h'', h3, h4, h5⟩
          all_goals
            have HR := Lib.hid h1
            clear h1
            go_wp2_with (go_at_call 105; refine (hL _).mono ?_; rintro e w1 ⟨rfl, rfl⟩)
            all_goals
              go_ret
              exact ⟨ret_int (by rw [HR.out]; rfl), rfl⟩
        · have hji : (0 : Int) < (j : Int) := by omega
          cases hd : Spec.digit (s[j]'hp) with
          | true =>
            rw [hd] at hWd hsc
            have HF := fin (.inr ⟨by omega, by rw [hsc]; rfl⟩)
            clear fin stop out HJ ha hsc hAm HE h0 hd
            go_wp2_with (first | (go_at_call 105; refine (hL _).mono ?_; rintro e w1 ⟨rfl, rfl⟩) | (go_at_call 106; refine (hWd _).mono ?_; rintro e w1 ⟨rfl, rfl⟩))
            go_round
            case rel => exact ⟨j + 1, by omega, by go_num, HF⟩
            case measure => simp [intOf]; omega
          | false =>
            rw [hd] at hWd hsc
            rw [Bool.false_or] at hsc
            cases hm : ([43, 46, 45] : List UInt8).contains (s[j]'hp) with
            | true =>
              rw [hm] at hsc
              have hAm : ∀ W, Calls Tryz.prog 94 #[.int .u8 ((s[j]'hp).toNat : Int), .string ⟨#[43, 46, 45]⟩] W fun e w' => e = .returned (.bool true) ∧ W = w' := by
                have := hAm
                rw [show (⟨#[43, 46, 45]⟩ : ByteArray).data.toList.contains (s[j]'hp) = true from hm] at this
                exact this
              have HF := fin (.inr ⟨by omega, hsc⟩)
              clear fin stop out HJ ha hsc HE h0 hd hm
              go_wp2_with (first | (go_at_call 105; refine (hL _).mono ?_; rintro e w1 ⟨rfl, rfl⟩) | (go_at_call 106; refine (hWd _).mono ?_; rintro e w1 ⟨rfl, rfl⟩) | (go_at_call 94; refine (hAm _).mono ?_; rintro e w1 ⟨rfl, rfl⟩))
              go_round
              case rel => exact ⟨j + 1, by omega, by go_num, HF⟩
              case measure => simp [intOf]; omega
            | false =>
              rw [hm] at hsc
              have hAm : ∀ W, Calls Tryz.prog 94 #[.int .u8 ((s[j]'hp).toNat : Int), .string ⟨#[43, 46, 45]⟩] W fun e w' => e = .returned (.bool false) ∧ W = w' := by
                have := hAm
                rw [show (⟨#[43, 46, 45]⟩ : ByteArray).data.toList.contains (s[j]'hp) = false from hm] at this
                exact this
              have HO := out (stop ha (.inr ⟨by omega, hsc⟩))
              clear fin stop out HJ ha hsc HE h0 hd hm
              rcases HO.out with ⟨h1, h | ⟨h, h'⟩ | ⟨h, h', h''⟩ | ⟨h, h', h'', h3, h4, h5⟩⟩ | ⟨h1, h, h', h'', h3, h4, h5⟩
              all_goals
                have HR := Lib.hid h1
                clear h1
                go_wp2_with (first | (go_at_call 105; refine (hL _).mono ?_; rintro e w1 ⟨rfl, rfl⟩) | (go_at_call 106; refine (hWd _).mono ?_; rintro e w1 ⟨rfl, rfl⟩) | (go_at_call 94; refine (hAm _).mono ?_; rintro e w1 ⟨rfl, rfl⟩))
                go_ret
                exact ⟨ret_int (by rw [HR.out]; rfl), rfl⟩
    · have hpi : ¬ (j : Int) < s.size := by omega
      have hNj : N = j := by
        have h1 : j ≤ N := by
          rw [HJ.out]
          unfold schGo
          split
          · omega
          · omega
        omega
      have HO := out hNj
      clear out HJ HE hNj
      rcases HO.out with ⟨h1, h | ⟨h, h'⟩ | ⟨h, h', h''⟩ | ⟨h, h', h'', h3, h4, h5⟩⟩ | ⟨h1, h, h', h'', h3, h4, h5⟩
      · have HR := Lib.hid h1
        clear h1
        go_wp2
        go_ret
        exact ⟨ret_int (by rw [HR.out]; rfl), rfl⟩
      · have HR := Lib.hid h1
        clear h1
        go_wp2
        go_ret
        exact ⟨ret_int (by rw [HR.out]; rfl), rfl⟩
      · have HR := Lib.hid h1
        clear h1
        go_wp2
        go_ret
        exact ⟨ret_int (by rw [HR.out]; rfl), rfl⟩
      · exact absurd h3 hp
      · exact absurd h3 hp
end Go.Proofs.YtmplfiflikhpjaaGreatDoor
/-
  ref21's host and mail.
-/
namespace Go.Proofs.YtmplfiflikhpjaaGreatDoor
open Go.RowKit

theorem hostC_split (c : UInt8) : Spec.hostC c = (Spec.alpha c || Spec.digit c || c == 45) := rfl
theorem win_snoc (l : List UInt8) (a i : Nat) (h : i < l.length) (ha : a ≤ i) : (l.drop a).take (i - a) ++ [l[i]] = (l.drop a).take (i + 1 - a) := by
  rw [show i + 1 - a = (i - a) + 1 by omega, List.take_succ_eq_append_getElem (by rw [List.length_drop]; omega)]
  simp only [List.getElem_drop]
  congr 3
  omega
theorem last_idx (P : ByteArray) (h : 0 < P.size) : ∀ W, (Instr.index 9 (.string P) (.int .i64 ((P.size : Int) - 1))).run Tryz.prog W = .ok (.int .u8 ((P[P.size - 1]'(by omega)).toNat : Int)) W := fun W => by
  have e : ((P.size : Int) - 1) = ((P.size - 1 : Nat) : Int) := by omega
  have hl : P.size - 1 < P.size := by omega
  rw [e]
  go_simp
theorem partE_of (P : ByteArray) (h : 0 < P.size) : Pl.partE P.data.toList = (decide (P.size ≤ 63) && P[0]'h != 45 && P[P.size - 1]'(by omega) != 45) := by
  unfold Pl.partE
  have hl := lastU_at P h
  rw [hl, ← Lib.size_eq, head_cons P h, Bool.eq_iff_iff]
  simp [h]

set_option maxHeartbeats 16000000 in
set_option maxRecDepth 100000 in
theorem host21_any (s : ByteArray) (w : World) (hs : s.size ≤ 100000) :
    Calls Tryz.prog 107 #[.string s] w fun r w' => r = .returned (.bool (Spec.host s.data.toList)) ∧ w = w' := by
  obtain ⟨S, hS⟩ : ∃ S : ByteArray, S = s ++ ⟨#[46]⟩ := ⟨_, rfl⟩
  have hSl : S.data.toList = s.data.toList ++ [46] := by rw [hS, ByteArray.data_append, Array.toList_append]
  have hSs : S.size = s.size + 1 := by rw [hS, ByteArray.size_append]; rfl
  have hcat : ¬ 9223372036854775807 < s.size + 1 := by omega
  obtain ⟨R, hR⟩ : ∃ R, R = Spec.host s.data.toList := ⟨_, rfl⟩
  rw [← hR]
  have HR : Hid (R = Pl.hostW ((S.data.toList.drop 0).take (0 - 0)) (S.data.toList.drop 0)) := Lib.hid (by rw [hR, Pl.host_hostW, hSl]; rfl)
  clear hR hSl
  have hS1 : S.size ≤ 100001 := by omega
  go_enter Tryz.func107, Tryz.ntmps107
  go_wp2
  rw [← hS]
  clear hS hSs hcat
  go_loop [3, 4] (fun v3 v4 => ∃ a i : Nat, a ≤ i ∧ i ≤ S.size ∧ v3 = .int .i64 a ∧ v4 = .int .i64 i ∧ Hid (R = Pl.hostW ((S.data.toList.drop a).take (i - a)) (S.data.toList.drop i))) (fun _ v4 => S.size - (intOf v4).toNat)
  case atStart => exact ⟨0, 0, Nat.le_refl _, Nat.zero_le _, rfl, rfl, HR⟩
  case round =>
    obtain ⟨a, i, ha, hi, rfl, rfl, HJ⟩ := hrel
    clear HR
    by_cases hp : i < S.size
    · have hpi : (i : Int) < S.size := by omega
      have hd := drop_at S i hp
      have hsn := win_snoc S.data.toList a i (by rw [← Lib.size_eq]; exact hp) ha
      have hgi : S.data.toList[i]'(by rw [← Lib.size_eq]; exact hp) = S[i]'hp := by
        have := at_list S i hp
        rw [List.getElem?_eq_getElem (by rw [← Lib.size_eq]; exact hp)] at this
        exact Option.some.inj this
      rw [hgi] at hsn
      by_cases h46 : S[i]'hp = 46
      · have b46 := u8_true h46 (x := 46) rfl
        have n46 : (((S[i]'hp).toNat : Int) != 46) = false := by rw [bne, b46]; rfl
        have hw := Pl.host_cons_dot ((S.data.toList.drop a).take (i - a)) (S.data.toList.drop (i + 1))
        rw [← h46, ← hd] at hw
        obtain ⟨P, hP⟩ : ∃ P : ByteArray, P = S.extract a i := ⟨_, rfl⟩
        have hPl : P.data.toList = (S.data.toList.drop a).take (i - a) := by rw [hP, mid_text]
        have hPs : P.size = i - a := by rw [Lib.size_eq, hPl, List.length_take, List.length_drop, ← Lib.size_eq]; omega
        have hsl : ∀ W, (Instr.slice 9 (.string S) (some (.int .i64 (a : Int))) (some (.int .i64 (i : Int))) none).run Tryz.prog W = .ok (.string P) W := by
          rw [hP]; exact slice_mid S a i (i : Int) ha hi rfl
        rw [← hPl] at hw
        have HW := Lib.hid hw
        have HJ2 : Hid (R = (Pl.partE P.data.toList && Pl.hostW [] (S.data.toList.drop (i + 1)))) := Lib.hid (by rw [HJ.out, ← hPl, hw])
        clear hw HJ hP hPl hPs hd hsn hgi h46 HW
        by_cases h0 : 0 < P.size
        · have hpe := partE_of P h0
          have hq0 : ¬ (P.size : Int) < 1 := by omega
          have hli := last_idx P h0
          have hP0 : (0 : Int) < P.size := by omega
          by_cases h63 : P.size ≤ 63
          · have hq63 : ¬ (63 : Int) < P.size := by omega
            rw [decide_eq_true h63, Bool.true_and] at hpe
            by_cases h1 : P[0]'h0 = 45
            · have b1 := u8_true h1 (x := 45) rfl
              have HF : Hid (R = false) := Lib.hid (by rw [HJ2.out, hpe, h1]; rfl)
              clear HJ2 hpe h1
              go_wp2
              go_ret
              exact ⟨ret_bool HF.out.symm, rfl⟩
            · have b1 := u8_false h1 (x := 45) rfl
              rw [show (P[0]'h0 != 45) = true from bne_iff_ne.2 h1, Bool.true_and] at hpe
              by_cases h2 : P[P.size - 1]'(by omega) = 45
              · have b2 := u8_true h2 (x := 45) rfl
                have HF : Hid (R = false) := Lib.hid (by rw [HJ2.out, hpe, h2]; rfl)
                clear HJ2 hpe h1 h2
                go_wp2
                go_ret
                exact ⟨ret_bool HF.out.symm, rfl⟩
              · have b2 := u8_false h2 (x := 45) rfl
                rw [show (P[P.size - 1]'(by omega) != 45) = true from bne_iff_ne.2 h2] at hpe
                have HF : Hid (R = Pl.hostW ((S.data.toList.drop (i + 1)).take (i + 1 - (i + 1))) (S.data.toList.drop (i + 1))) := Lib.hid (by rw [HJ2.out, hpe, Bool.true_and, Nat.sub_self, List.take_zero])
                clear HJ2 hpe h1 h2
                go_wp2
                go_round
                case rel => exact ⟨i + 1, i + 1, Nat.le_refl _, by omega, by go_num, by go_num, HF⟩
                case measure => simp [intOf]; omega
          · have hq63 : (63 : Int) < P.size := by omega
            have HF : Hid (R = false) := Lib.hid (by rw [HJ2.out, hpe, decide_eq_false h63]; rfl)
            clear HJ2 hpe hli
            go_wp2
            go_ret
            exact ⟨ret_bool HF.out.symm, rfl⟩
        · have hq0 : (P.size : Int) < 1 := by omega
          have HF : Hid (R = false) := Lib.hid (by
            rw [HJ2.out, text_empty h0]; rfl)
          clear HJ2
          go_wp2
          go_ret
          exact ⟨ret_bool HF.out.symm, rfl⟩
      · have b46 := u8_false h46 (x := 46) rfl
        have n46 : (((S[i]'hp).toNat : Int) != 46) = true := by rw [bne, b46]; rfl
        have hw := Pl.host_cons ((S.data.toList.drop a).take (i - a)) (S.data.toList.drop (i + 1)) _ h46
        rw [← hd, hsn, hostC_split] at hw
        have hWd := word_any (S[i]'hp) _ rfl _ rfl
        cases hwd : (Spec.alpha (S[i]'hp) || Spec.digit (S[i]'hp)) with
        | true =>
          rw [hwd] at hWd hw
          have HF : Hid (R = Pl.hostW ((S.data.toList.drop a).take (i + 1 - a)) (S.data.toList.drop (i + 1))) := Lib.hid (by rw [HJ.out, hw, Bool.true_or, Bool.true_and])
          clear HJ hw hwd hd hsn hgi h46
          go_wp2_with (go_at_call 106; refine (hWd _).mono ?_; rintro e w1 ⟨rfl, rfl⟩)
          go_round
          case rel => exact ⟨a, i + 1, by omega, by omega, rfl, by go_num, HF⟩
          case measure => simp [intOf]; omega
        | false =>
          rw [hwd] at hWd hw
          rw [Bool.false_or] at hw
          by_cases h45 : S[i]'hp = 45
          · have b45 := u8_true h45 (x := 45) rfl
            have n45 : (((S[i]'hp).toNat : Int) != 45) = false := by rw [bne, b45]; rfl
            have HF : Hid (R = Pl.hostW ((S.data.toList.drop a).take (i + 1 - a)) (S.data.toList.drop (i + 1))) := Lib.hid (by rw [HJ.out, hw, beq_iff_eq.2 h45, Bool.true_and])
            clear HJ hw hwd hd hsn hgi h46 h45
            go_wp2_with (go_at_call 106; refine (hWd _).mono ?_; rintro e w1 ⟨rfl, rfl⟩)
            go_round
            case rel => exact ⟨a, i + 1, by omega, by omega, rfl, by go_num, HF⟩
            case measure => simp [intOf]; omega
          · have b45 := u8_false h45 (x := 45) rfl
            have n45 : (((S[i]'hp).toNat : Int) != 45) = true := by rw [bne, b45]; rfl
            have HF : Hid (R = false) := Lib.hid (by rw [HJ.out, hw, beq_eq_false_iff_ne.2 h45, Bool.false_and])
            clear HJ hw hwd hd hsn hgi h46 h45
            go_wp2_with (go_at_call 106; refine (hWd _).mono ?_; rintro e w1 ⟨rfl, rfl⟩)
            go_ret
            exact ⟨ret_bool HF.out.symm, rfl⟩
    · have hpi : ¬ (i : Int) < S.size := by omega
      have HF : Hid (R = true) := Lib.hid (by rw [HJ.out, List.drop_of_length_le (i := i) (by rw [← Lib.size_eq]; omega)]; rfl)
      clear HJ
      go_wp2
      go_ret
      exact ⟨ret_bool HF.out.symm, rfl⟩

theorem mailC_split (c : UInt8) : Spec.mailC c = (Spec.alpha c || Spec.digit c || Spec.mails.contains c) := rfl
set_option maxHeartbeats 16000000 in
set_option maxRecDepth 100000 in
theorem mail21_any (s : ByteArray) (w : World) (hs : s.size ≤ 100000) :
    Calls Tryz.prog 50 #[.string s] w fun r w' => r = .returned (.bool (Spec.mail s.data.toList)) ∧ w = w' := by
  rw [← Pl.mailR_eq]
  obtain ⟨N, hN⟩ : ∃ N, N = Pl.mailN s.data.toList := ⟨_, rfl⟩
  have hNl : N ≤ s.size := by rw [hN, Lib.size_eq]; exact Pl.tw_len _ _
  have HN := Lib.hid (show N = 0 + ((s.data.toList.drop 0).takeWhile Spec.mailC).length by rw [hN, Nat.zero_add]; rfl)
  obtain ⟨R, hR⟩ : ∃ R, R = Pl.mailR s.data.toList := ⟨_, rfl⟩
  rw [← hR]
  have HW : Hid ((R = false ∧ (N = 0 ∨ (0 < N ∧ N = s.size) ∨ (0 < N ∧ ∃ h : N < s.size, ¬ s[N]'h = 64))) ∨ (0 < N ∧ ∃ h : N < s.size, s[N]'h = 64 ∧ (∀ W, Calls Tryz.prog 107 #[.string (s.extract (N + 1) s.size)] W fun r w' => r = .returned (.bool R) ∧ W = w'))) := Lib.hid (by
    unfold Pl.mailR at hR
    rw [← hN] at hR
    by_cases h0 : N = 0
    · exact .inl ⟨by rw [hR, h0]; rfl, .inl h0⟩
    · by_cases h1 : N < s.size
      · have hat := at_list s N h1
        by_cases h2 : s[N]'h1 = 64
        · refine .inr ⟨by omega, h1, h2, fun W => ?_⟩
          have hex : (s.extract (N + 1) s.size).data.toList = s.data.toList.drop (N + 1) := by rw [drop_text s (N + 1) (by omega)]
          have := host21_any (s.extract (N + 1) s.size) W (by rw [Lib.size_eq, hex, List.length_drop, ← Lib.size_eq]; omega)
          rw [hex] at this
          rw [hR, hat, h2, decide_eq_true (show 0 < N by omega)]
          exact this
        · exact .inl ⟨by rw [hR, hat, show ((some (s[N]'h1) : Option UInt8) == some 64) = false from beq_eq_false_iff_ne.2 (fun e => h2 (Option.some.inj e)), Bool.and_false, Bool.false_and], .inr (.inr ⟨by omega, h1, h2⟩)⟩
      · refine .inl ⟨?_, .inr (.inl ⟨by omega, by omega⟩)⟩
        rw [hR, List.getElem?_eq_none (by rw [← Lib.size_eq]; omega)]
        simp)
  clear hN hR
  go_enter Tryz.func50, Tryz.ntmps50
  go_wp2
  go_loop [3] (fun v5 => ∃ j : Nat, j ≤ s.size ∧ v5 = .int .i64 j ∧ Hid (N = j + ((s.data.toList.drop j).takeWhile Spec.mailC).length)) (fun v5 => s.size - (intOf v5).toNat)
  case atStart => exact ⟨0, by omega, rfl, HN⟩
  case round =>
    obtain ⟨j, hj, rfl, HJ⟩ := hrel
    clear HN
    have out : ∀ (_ : N = j), Hid ((R = false ∧ (¬ (0 : Int) < (j : Int) ∨ ((0 : Int) < (j : Int) ∧ ¬ (j : Int) < s.size) ∨ ((0 : Int) < (j : Int) ∧ ∃ h : j < s.size, (((s[j]'h).toNat : Int) == 64) = false))) ∨ ((0 : Int) < (j : Int) ∧ ∃ h : j < s.size, (((s[j]'h).toNat : Int) == 64) = true ∧ (∀ W, Calls Tryz.prog 107 #[.string (s.extract (j + 1) s.size)] W fun r w' => r = .returned (.bool R) ∧ W = w'))) := fun e => Lib.hid (by
      subst e
      rcases HW.out with ⟨h1, h⟩ | ⟨h1, h2, h3, h4⟩
      · refine .inl ⟨h1, ?_⟩
        rcases h with h | ⟨ha, hb⟩ | ⟨ha, hb, hc⟩
        · exact .inl (by omega)
        · exact .inr (.inl ⟨by omega, by omega⟩)
        · exact .inr (.inr ⟨by omega, hb, u8_false hc rfl⟩)
      · exact .inr ⟨by omega, h2, u8_true h3 rfl, h4⟩)
    by_cases hp : j < s.size
    · have hpi : (j : Int) < s.size := by omega
      have htw := takeWn_cons Spec.mailC (s[j]'hp) (s.data.toList.drop (j + 1))
      rw [← drop_at s j hp] at htw
      have hWd := word_any (s[j]'hp) _ rfl _ rfl
      have hAm : ∀ b, Spec.mails.contains (s[j]'hp) = b → ∀ W, Calls Tryz.prog 94 #[.int .u8 ((s[j]'hp).toNat : Int), .string ⟨#[46, 33, 35, 36, 37, 38, 39, 42, 43, 47, 61, 63, 94, 95, 123, 124, 125, 126, 45]⟩] W fun e w' => e = .returned (.bool b) ∧ W = w' := fun b hb => among_any (s[j]'hp) _ rfl ⟨#[46, 33, 35, 36, 37, 38, 39, 42, 43, 47, 61, 63, 94, 95, 123, 124, 125, 126, 45]⟩ b hb (by decide)
      have hmc := mailC_split (s[j]'hp)
      cases hwd : (Spec.alpha (s[j]'hp) || Spec.digit (s[j]'hp)) with
      | true =>
        rw [hwd] at hWd hmc
        rw [if_pos (by rw [hmc]; rfl)] at htw
        have HF : Hid (N = (j + 1) + ((s.data.toList.drop (j + 1)).takeWhile Spec.mailC).length) := Lib.hid (by rw [HJ.out, htw]; omega)
        clear htw HJ hmc hwd out hAm HW
        go_wp2_with (go_at_call 106; refine (hWd _).mono ?_; rintro e w1 ⟨rfl, rfl⟩)
        go_round
        case rel => exact ⟨j + 1, by omega, by go_num, HF⟩
        case measure => simp [intOf]; omega
      | false =>
        rw [hwd] at hWd hmc
        rw [Bool.false_or] at hmc
        cases hm : Spec.mails.contains (s[j]'hp) with
        | true =>
          have hAm := hAm true hm
          rw [if_pos (by rw [hmc]; exact hm)] at htw
          have HF : Hid (N = (j + 1) + ((s.data.toList.drop (j + 1)).takeWhile Spec.mailC).length) := Lib.hid (by rw [HJ.out, htw]; omega)
          clear htw HJ hmc hwd out HW hm
          go_wp2_with (first | (go_at_call 106; refine (hWd _).mono ?_; rintro e w1 ⟨rfl, rfl⟩) | (go_at_call 94; refine (hAm _).mono ?_; rintro e w1 ⟨rfl, rfl⟩))
          go_round
          case rel => exact ⟨j + 1, by omega, by go_num, HF⟩
          case measure => simp [intOf]; omega
        | false =>
          have hAm := hAm false hm
          rw [if_neg (by rw [hmc, hm]; decide)] at htw
          have HO := out (by rw [HJ.out, htw]; rfl)
          clear htw HJ hmc hwd out HW hm
          rcases HO.out with ⟨h1, h | ⟨h, h2⟩ | ⟨h, h2, h3⟩⟩ | ⟨h, h2, h3, h4⟩
          · have HR := Lib.hid h1
            clear h1
            go_wp2_with (first | (go_at_call 106; refine (hWd _).mono ?_; rintro e w1 ⟨rfl, rfl⟩) | (go_at_call 94; refine (hAm _).mono ?_; rintro e w1 ⟨rfl, rfl⟩))
            go_ret
            exact ⟨ret_bool HR.out.symm, rfl⟩
          · exact absurd hpi h2
          · have HR := Lib.hid h1
            clear h1
            go_wp2_with (first | (go_at_call 106; refine (hWd _).mono ?_; rintro e w1 ⟨rfl, rfl⟩) | (go_at_call 94; refine (hAm _).mono ?_; rintro e w1 ⟨rfl, rfl⟩))
            go_ret
            exact ⟨ret_bool HR.out.symm, rfl⟩
          · go_wp2_with (first | (go_at_call 106; refine (hWd _).mono ?_; rintro e w1 ⟨rfl, rfl⟩) | (go_at_call 94; refine (hAm _).mono ?_; rintro e w1 ⟨rfl, rfl⟩) | (go_at_call 107; refine (h4 _).mono ?_; rintro e w1 ⟨rfl, rfl⟩))
            go_ret
            exact ⟨rfl, rfl⟩
    · have hpi : ¬ (j : Int) < s.size := by omega
      have HO := out (by rw [HJ.out, List.drop_of_length_le (i := j) (by rw [← Lib.size_eq]; omega)]; rfl)
      clear out HJ HW
      rcases HO.out with ⟨h1, h | ⟨h, h2⟩ | ⟨h, h2, h3⟩⟩ | ⟨h, h2, h3, h4⟩
      · have HR := Lib.hid h1
        clear h1
        go_wp2
        go_ret
        exact ⟨ret_bool HR.out.symm, rfl⟩
      · have HR := Lib.hid h1
        clear h1
        go_wp2
        go_ret
        exact ⟨ret_bool HR.out.symm, rfl⟩
      · exact absurd h2 hp
      · exact absurd h2 hp
end Go.Proofs.YtmplfiflikhpjaaGreatDoor
/-
  ref21's Auto.
-/
namespace Go.Proofs.YtmplfiflikhpjaaGreatDoor
open Go.RowKit

theorem schemeR_le (l : List UInt8) : Pl.schemeR l ≤ 33 := by
  unfold Pl.schemeR
  split
  · omega
  · omega
set_option maxHeartbeats 16000000 in
set_option maxRecDepth 100000 in
theorem auto21_any (s : ByteArray) (w : World) (hs : s.size ≤ 100000) :
    Calls Tryz.prog 24 #[.string s] w fun r w' => r = .returned (autoRes (Spec.auto s.data.toList)) ∧ Below w.heap.size w w' := by
  by_cases h0 : 0 < s.size
  · have he := isEmpty_false h0
    have h0i : (0 : Int) < s.size := by omega
    have hc := head_cons s h0
    by_cases h60 : s[0]'h0 = 60
    · have b60 : (((s[0]'h0).toNat : Int) != 60) = false := ne_of_eq (u8_true h60 rfl)
      obtain ⟨T, hT⟩ : ∃ T, T = s.data.toList.drop 1 := ⟨_, rfl⟩
      have hau : Spec.auto s.data.toList = Pl.autoR T := by rw [hc, h60, Pl.autoR_eq, hT]
      rw [hau]
      obtain ⟨A, hA⟩ : ∃ A, A = Pl.angN T := ⟨_, rfl⟩
      have hat : ∀ (j : Nat) (hj : j < s.size), 1 ≤ j → T[j - 1]? = some (s[j]'hj) := fun j hj h1 => by
        rw [hT, List.getElem?_drop, show 1 + (j - 1) = j by omega]
        exact at_list s j hj
      have hTl : T.length = s.size - 1 := by rw [hT, List.length_drop, ← Lib.size_eq]
      have HS : Hid (∀ j, s.data.toList.drop (j + 1) = T.drop j) := Lib.hid (fun j => by rw [hT, List.drop_drop]; congr 1; omega)
      have FNO : Hid (T[A]? ≠ some 62 → Ending.returned (.tuple #[.string ⟨#[]⟩, .string ⟨#[]⟩, .int .i64 0]) = Ending.returned (autoRes (Pl.autoR T))) := Lib.hid (fun h => by
        unfold Pl.autoR
        rw [← hA, if_neg h]
        rfl)
      have FYE : Hid (T[A]? = some 62 → Pl.autoR T = (if 0 < Pl.schemeR (T.take A) then (T.take A, Spec.uri (T.take A), A + 2)
          else if Spec.mail (T.take A) = true then (T.take A, Spec.mailto ++ Spec.uri (T.take A), A + 2) else ([], [], 0))) := Lib.hid (fun h => by
        unfold Pl.autoR
        rw [← hA, if_pos h, Pl.mailR_eq])
      have HA0 : Hid (A = (1 - 1) + ((s.data.toList.drop 1).takeWhile Spec.angleC).length) := Lib.hid (by rw [hA, hT]; unfold Pl.angN; omega)
      have HAT := Lib.hid hat
      have HTX : Hid (∀ j, 1 ≤ j → (s.extract 1 j).data.toList = T.take (j - 1)) := Lib.hid (fun j hj => by rw [mid_text, hT])
      clear hau hA hat hT h60 hc
      go_enter Tryz.func24, Tryz.ntmps24
      go_wp2
      go_loop [5] (fun v5 => ∃ j : Nat, 1 ≤ j ∧ j ≤ s.size ∧ v5 = .int .i64 j ∧ Hid (A = (j - 1) + ((s.data.toList.drop j).takeWhile Spec.angleC).length)) (fun v5 => s.size - (intOf v5).toNat)
      case atStart => exact ⟨1, Nat.le_refl _, h0, rfl, HA0⟩
      case round =>
        obtain ⟨j, hj1, hj, rfl, HJ⟩ := hrel
        clear HA0
        by_cases hp : j < s.size
        · have hpi : (j : Int) < s.size := by omega
          have hpe : ((j : Int) == (s.size : Int)) = false := beq_eq_false_iff_ne.2 (by omega)
          have htw := takeWn_cons Spec.angleC (s[j]'hp) (s.data.toList.drop (j + 1))
          rw [← drop_at s j hp] at htw
          cases hac : Spec.angleC (s[j]'hp) with
          | true =>
            obtain ⟨k1, k2, k3⟩ := angleC_true _ hac
            rw [if_pos hac] at htw
            have HJ2 : Hid (A = (j + 1 - 1) + ((s.data.toList.drop (j + 1)).takeWhile Spec.angleC).length) := Lib.hid (by rw [HJ.out, htw]; omega)
            clear htw HJ hac
            go_wp2
            go_round
            case rel => exact ⟨j + 1, by omega, by omega, by go_num, HJ2⟩
            case measure => simp [intOf]; omega
          | false =>
            rw [if_neg (by rw [hac]; decide)] at htw
            have hAj : A = j - 1 := by rw [HJ.out, htw]; rfl
            have hTA : T[A]? = some (s[j]'hp) := by rw [hAj]; exact HAT.out j hp hj1
            have hway := angleC_false _ hac
            by_cases h62 : s[j]'hp = 62
            · have b62 : (((s[j]'hp).toNat : Int) != 62) = false := ne_of_eq (u8_true h62 rfl)
              have k1 : (32 : Int) < ((s[j]'hp).toNat : Int) := by rw [h62]; decide
              have k2 : (((s[j]'hp).toNat : Int) != 60) = true := by rw [h62]; rfl
              have hau := FYE.out (by rw [hTA, h62])
              obtain ⟨X, hX⟩ : ∃ X : ByteArray, X = s.extract 1 j := ⟨_, rfl⟩
              have hXl : X.data.toList = T.take A := by rw [hX, HTX.out j hj1, hAj]
              have hXs : X.size ≤ s.size := by rw [Lib.size_eq, hXl, List.length_take]; omega
              have hsl : ∀ W, (Instr.slice 9 (.string s) (some (.int .i64 1)) (some (.int .i64 (j : Int))) none).run Tryz.prog W = .ok (.string X) W := by
                rw [hX]; exact slice_mid s 1 j (j : Int) hj1 hj rfl
              rw [← hXl] at hau
              have hSc := fun W => scheme21_any X W (by omega)
              have hMa := fun W => mail21_any X W (by omega)
              have hsr := schemeR_le X.data.toList
              have hA2 : ((j : Int) + 1) = ((A + 2 : Nat) : Int) := by omega
              have HAU := Lib.hid hau
              have HA2 := Lib.hid hA2
              obtain ⟨k, hk⟩ : ∃ k, k = Pl.schemeR X.data.toList := ⟨_, rfl⟩
              rw [← hk] at hSc hsr
              have HK := Lib.hid hk
              clear hau hA2 hX hXl hTA hAj hac hway htw HJ h62 FYE FNO HTX HAT HS hTl hk
              by_cases hk0 : 0 < k
              · have hk0i : (0 : Int) < k := by omega
                have hU := fun W => refUri_any X W (by omega)
                have HR : Hid (Ending.returned (.tuple #[.string X, .string ⟨(Spec.uri X.data.toList).toArray⟩, .int .i64 ((j : Int) + 1)]) = Ending.returned (autoRes (Pl.autoR T))) := Lib.hid (by
                  rw [HAU.out, if_pos (by rw [← HK.out]; exact hk0)]
                  exact ret3 (toL X) rfl HA2.out)
                generalize (⟨(Spec.uri X.data.toList).toArray⟩ : ByteArray) = UX at hU HR
                go_wp2_with fail
                refine (hSc _).mono ?_
                rintro e w1 ⟨rfl, rfl⟩
                go_wp2_with fail
                refine (hU _).mono ?_
                rintro e w2 ⟨rfl, hb2⟩
                go_wp2
                go_ret3
                exact ⟨HR.out, hb2⟩
              · have hk0i : ¬ (0 : Int) < k := by omega
                cases hm : Spec.mail X.data.toList with
                | true =>
                  rw [hm] at hMa
                  obtain ⟨UX, hUX⟩ : ∃ UX : ByteArray, UX = ⟨(Spec.uri X.data.toList).toArray⟩ := ⟨_, rfl⟩
                  have hU : ∀ W, Calls Tryz.prog 39 #[.string X] W fun e w' => e = .returned (.string UX) ∧ Below W.heap.size W w' := fun W => by rw [hUX]; exact refUri_any X W (by omega)
                  have hcat : ¬ 9223372036854775807 < 7 + UX.size := by
                    have := uri_len3 X.data.toList
                    rw [← Lib.size_eq] at this
                    rw [hUX, Lib.size_eq]
                    show ¬ 9223372036854775807 < 7 + (Spec.uri X.data.toList).length
                    omega
                  have HR : Hid (∀ Y : ByteArray, Y.data.toList = Spec.mailto ++ UX.data.toList → Ending.returned (.tuple #[.string X, .string Y, .int .i64 ((j : Int) + 1)]) = Ending.returned (autoRes (Pl.autoR T))) := Lib.hid (fun Y hY => by
                    rw [HAU.out, if_neg (by rw [← HK.out]; exact hk0), if_pos hm]
                    exact ret3 (toL X) (by rw [toL Y, hY, hUX]) HA2.out)
                  clear hm hUX HAU
                  go_wp2_with fail
                  refine (hSc _).mono ?_
                  rintro e w1 ⟨rfl, rfl⟩
                  go_wp2_with fail
                  refine (hMa _).mono ?_
                  rintro e w1 ⟨rfl, rfl⟩
                  go_wp2_with fail
                  refine (hU _).mono ?_
                  rintro e w2 ⟨rfl, hb2⟩
                  go_wp2
                  go_ret3
                  exact ⟨HR.out _ (by rw [ByteArray.data_append, Array.toList_append]; rfl), hb2⟩
                | false =>
                  rw [hm] at hMa
                  have HR : Hid (Ending.returned (.tuple #[.string ⟨#[]⟩, .string ⟨#[]⟩, .int .i64 0]) = Ending.returned (autoRes (Pl.autoR T))) := Lib.hid (by
                    rw [HAU.out, if_neg (by rw [← HK.out]; exact hk0), if_neg (by rw [hm]; decide)]
                    rfl)
                  clear hm HAU
                  go_wp2_with fail
                  refine (hSc _).mono ?_
                  rintro e w1 ⟨rfl, rfl⟩
                  go_wp2_with fail
                  refine (hMa _).mono ?_
                  rintro e w1 ⟨rfl, rfl⟩
                  go_wp2
                  go_ret3
                  exact ⟨HR.out, Below.refl _ _⟩
            · have b62 : (((s[j]'hp).toNat : Int) != 62) = true := ne_of_eq (u8_false h62 rfl)
              have HR := Lib.hid (FNO.out (by rw [hTA]; intro e; exact h62 (Option.some.inj e)))
              clear hTA hAj hac htw HJ h62 FYE FNO HTX HAT HS hTl
              rcases hway with k1 | ⟨k1, k2⟩ | ⟨k1, k2, k3⟩
              · go_wp2
                go_ret3
                exact ⟨HR.out, Below.refl _ _⟩
              · go_wp2
                go_ret3
                exact ⟨HR.out, Below.refl _ _⟩
              · rw [b62] at k3
                cases k3
        · have hpi : ¬ (j : Int) < s.size := by omega
          have hpe : ((j : Int) == (s.size : Int)) = true := beq_iff_eq.2 (by omega)
          have HR := Lib.hid (FNO.out (by
            rw [HJ.out, List.drop_of_length_le (i := j) (by rw [← Lib.size_eq]; omega), List.getElem?_eq_none (by rw [hTl]; simp; omega)]
            intro h
            cases h))
          clear HJ FYE FNO HTX HAT HS hTl
          go_wp2
          go_ret3
          exact ⟨HR.out, Below.refl _ _⟩
    · have b60 : (((s[0]'h0).toNat : Int) != 60) = true := ne_of_eq (u8_false h60 rfl)
      rw [auto_no _ (by rw [hc]; intro e; exact h60 (Option.some.inj e))]
      clear hc h60
      go_enter Tryz.func24, Tryz.ntmps24
      go_wp2
      go_ret3
      exact ⟨rfl, Below.refl _ _⟩
  · have he := isEmpty_true h0
    rw [text_empty h0]
    clear h0
    go_enter Tryz.func24, Tryz.ntmps24
    go_wp2
    go_ret3
    exact ⟨rfl, Below.refl _ _⟩
end Go.Proofs.YtmplfiflikhpjaaGreatDoor
/-
  ref21's blanks and Code.
-/
namespace Go.Proofs.YtmplfiflikhpjaaGreatDoor
open Go.RowKit

def nl (c : UInt8) : UInt8 := if c = 10 then 32 else c
def mixed (l : List UInt8) (i : Nat) : List UInt8 := (l.take i).map nl ++ l.drop i
def bcells (l : List UInt8) (p : Nat) : Array Value := (l.map fun b => Value.int .u8 (b.toNat : Int)).toArray ++ Array.replicate p (.int .u8 0)
theorem bcells_size (l : List UInt8) (p : Nat) : (bcells l p).size = l.length + p := by simp [bcells]
theorem bcells_at (l : List UInt8) (p i : Nat) (h : i < l.length) : (bcells l p)[i]? = some (.int .u8 ((l[i]).toNat : Int)) := by
  unfold bcells
  rw [Array.getElem?_append_left (by simpa using h)]
  simp [List.getElem?_eq_getElem h]
theorem bcells_set (l : List UInt8) (p i : Nat) (c : UInt8) (h : i < l.length) : (bcells l p).setIfInBounds i (.int .u8 (c.toNat : Int)) = bcells (l.set i c) p := by
  unfold bcells
  rw [← Array.toList_inj]
  simp [h, List.map_set]
theorem mixed_len (l : List UInt8) (i : Nat) : (mixed l i).length = l.length := by
  unfold mixed
  rw [List.length_append, List.length_map, List.length_take, List.length_drop]
  omega
theorem mixed_at (l : List UInt8) (i : Nat) (h : i < l.length) : (mixed l i)[i]'(by rw [mixed_len]; exact h) = l[i] := by
  have e : (mixed l i)[i]? = some l[i] := by
    unfold mixed
    rw [List.getElem?_append_right (by simp only [List.length_map, List.length_take]; omega)]
    simp only [List.length_map, List.length_take]
    rw [List.getElem?_drop, show i + (i - min i l.length) = i by omega, List.getElem?_eq_getElem h]
  rw [List.getElem?_eq_getElem (by rw [mixed_len]; exact h)] at e
  exact Option.some.inj e
theorem mixed_succ (l : List UInt8) (i : Nat) (h : i < l.length) : mixed l (i + 1) = (mixed l i).set i (nl l[i]) := by
  unfold mixed
  rw [List.take_succ_eq_append_getElem h, List.map_append, List.append_assoc]
  rw [List.set_append_right _ _ (by simp only [List.length_map, List.length_take]; omega)]
  congr 1
  rw [List.drop_eq_getElem_cons h]
  have : i - ((l.take i).map nl).length = 0 := by simp; omega
  rw [this]
  rfl
theorem mixed_same (l : List UInt8) (i : Nat) (h : i < l.length) (h10 : l[i] ≠ 10) : mixed l (i + 1) = mixed l i := by
  rw [mixed_succ l i h]
  have e := mixed_at l i h
  unfold nl
  rw [if_neg h10, ← e]
  exact List.set_getElem_self _
theorem mixed_end (l : List UInt8) : mixed l l.length = l.map nl := by
  unfold mixed
  simp
theorem mixed_all (l : List UInt8) (i : Nat) (h : i < l.length) : ((l.take (i + 1)).map nl).all (· == 32) = (((l.take i).map nl).all (· == 32) && (nl l[i] == 32)) := by
  rw [List.take_succ_eq_append_getElem h, List.map_append, List.all_append]
  simp
/-- A row of bytes of the call's own, with its mark behind it. -/
def BRow (w : World) (g : Nat) (l : List UInt8) : Prop := ∃ p m, l.length ≤ m ∧ w.heap[g]? = some (.cells (bcells l p) 5 (m, m + 1))
theorem BRow.cell {w : World} {g : Nat} {l : List UInt8} (h : BRow w g l) (i : Nat) (hi : i < l.length) : w.cell? ⟨g, i, none⟩ = some (.int .u8 ((l[i]).toNat : Int)) := by
  obtain ⟨p, m, _, hr⟩ := h
  rw [cell_of_row _ _ _ _ _ _ hr, bcells_at l p i hi]
theorem BRow.fz {w : World} {g : Nat} {l : List UInt8} (h : BRow w g l) (i : Nat) (hi : i < l.length) : w.frozen? ⟨g, i, none⟩ = false := by
  obtain ⟨p, m, hm, hr⟩ := h
  unfold World.frozen?
  rw [hr]
  simp
  omega
theorem BRow.set {w : World} {g : Nat} {l : List UInt8} (h : BRow w g l) (i : Nat) (hi : i < l.length) (c : UInt8) : BRow (w.setCell ⟨g, i, none⟩ (.int .u8 (c.toNat : Int))) g (l.set i c) := by
  obtain ⟨p, m, hm, hr⟩ := h
  refine ⟨p, m, by rw [List.length_set]; exact hm, ?_⟩
  rw [← bcells_set l p i c hi]
  simp [World.setCell, Array.getElem?_modify, hr]
theorem BRow.lt {w : World} {g : Nat} {l : List UInt8} (h : BRow w g l) : g < w.heap.size := by
  obtain ⟨p, m, hm, hr⟩ := h
  exact blk_lt hr
theorem brow_fresh (w : World) (s : ByteArray) : BRow (Lib.bytesWorld w 5 s) w.heap.size s.data.toList := by
  refine ⟨grownCap w s.size 0 5 - s.size, (Lib.bytesCells w 5 s).size, ?_, ?_⟩
  · unfold Lib.bytesCells
    rw [← Lib.size_eq]
    simp
  · rw [Lib.bytesWorld_at_new]
    have : Lib.bytesCells w 5 s = bcells s.data.toList (grownCap w s.size 0 5 - s.size) := by
      unfold Lib.bytesCells bcells
      rw [← Array.toList_inj]
      simp
    rw [this]
theorem one8 (w : World) : (Go.sizeOf 5).run Tryz.prog w = .ok 1 w := by kernel_rfl

theorem last_of (M : List UInt8) (k : Nat) (h : M.length = k + 1) : M.getLast? = some (M[k]'(by omega)) := by
  rw [List.getLast?_eq_getElem?, show M.length - 1 = k by omega, List.getElem?_eq_getElem]
theorem all_two (M : List UInt8) (h : M.length = 2) (h0 : M[0]'(by omega) = 32) (h1 : M[1]'(by omega) = 32) : M.all (· == 32) = true := by
  match M, h with
  | [x, y], _ =>
    have e0 : x = 32 := h0
    have e1 : y = 32 := h1
    rw [e0, e1]
    rfl
set_option maxHeartbeats 8000000 in
set_option maxRecDepth 100000 in
theorem blanks_any (s : ByteArray) (w : World) (hs : s.size ≤ 1000000) :
    Calls Tryz.prog 45 #[.string s] w fun r w' => r = .returned (.string ⟨(Spec.codeText s.data.toList).toArray⟩) ∧ Below w.heap.size w w' := by
  have hcv := Lib.run_convert_string_bytes (P := Tryz.prog) w 9 38 5 s (u := .string) Tryz.underlying9 Tryz.underlying38 Tryz.underlying5
  have hbel := bytesW_below w 5 s
  have hrow := brow_fresh w s
  have hcap : s.size ≤ grownCap w s.size 0 5 := grownCap_ge _ _ _ _
  obtain ⟨W1, hW1⟩ : ∃ W1, W1 = Lib.bytesWorld w 5 s := ⟨_, rfl⟩
  obtain ⟨cap, hcapE⟩ : ∃ cap, cap = grownCap w s.size 0 5 := ⟨_, rfl⟩
  rw [← hW1] at hcv hbel hrow
  rw [← hcapE] at hcv hcap
  obtain ⟨l, hl⟩ : ∃ l, l = s.data.toList := ⟨_, rfl⟩
  obtain ⟨n, hn⟩ : ∃ n, n = s.size := ⟨_, rfl⟩
  have hln : l.length = n := by rw [hl, hn, Lib.size_eq]
  rw [← hl] at hrow ⊢
  rw [← hn] at hs hcv hcap
  have HSN := Lib.hid hn
  clear hW1 hcapE hl hn
  have HROW := Lib.hid hrow
  clear hrow
  rw [codeText_eq]
  obtain ⟨M, hM⟩ : ∃ M, M = l.map nl := ⟨_, rfl⟩
  have hMl : M.length = n := by rw [hM, List.length_map, hln]
  rw [show (l.map fun c => if c = 10 then 32 else c) = M from hM.symm]
  have HM := Lib.hid hM
  clear hM
  go_enter Tryz.func45, Tryz.ntmps45
  go_wp2
  go_loopw [4, 5] (fun v4 v5 wr => ∃ (i : Nat) (b : Bool), i ≤ n ∧ v4 = .bool b ∧ v5 = .int .i64 i ∧ Hid (b = ((l.take i).map nl).all (· == 32)) ∧ Hid (BRow wr w.heap.size (mixed l i)) ∧ Below w.heap.size w wr) (fun _ v5 _ => n - (intOf v5).toNat)
  case atStart => exact ⟨0, true, Nat.zero_le _, rfl, rfl, Lib.hid rfl, Lib.hid (by rw [show mixed l 0 = l by simp [mixed]]; exact HROW.out), hbel⟩
  case round =>
    obtain ⟨i, b, hi, rfl, rfl, HA, HB, hbw⟩ := hrel
    clear hcv hbel HROW
    by_cases hp : i < n
    · have hpi : (i : Int) < n := by omega
      have hil : i < l.length := by omega
      have hc := HB.out.cell i (by rw [mixed_len]; exact hil)
      rw [mixed_at l i hil] at hc
      have hz := HB.out.fz i (by rw [mixed_len]; exact hil)
      have hlt := HB.out.lt
      have hall := mixed_all l i hil
      have hms := mixed_succ l i hil
      by_cases h10 : l[i] = 10
      · have HA2 : Hid (b = ((l.take (i + 1)).map nl).all (· == 32)) := Lib.hid (by rw [hall, h10, ← HA.out]; simp [nl])
        have HB2 : Hid (BRow (wr.setCell ⟨w.heap.size, i, none⟩ (.int .u8 32)) w.heap.size (mixed l (i + 1))) := Lib.hid (by
          have := HB.out.set i (by rw [mixed_len]; exact hil) 32
          rw [hms, h10]
          exact this)
        have hb2 := hbw.setCell (p := ⟨w.heap.size, i, none⟩) (Nat.le_refl _) (.int .u8 32)
        rw [h10] at hc
        have hc2 : wr.cell? ⟨w.heap.size, i, none⟩ = some (.int .u8 10) := hc
        clear hall hms HA HB hc h10
        cases b
        all_goals
          go_wp2
          go_roundw
          case rel => exact ⟨i + 1, _, by omega, rfl, by go_num, HA2, HB2, hb2⟩
          case measure => simp [intOf]; omega
      · have HB2 : Hid (BRow wr w.heap.size (mixed l (i + 1))) := Lib.hid (by rw [mixed_same l i hil h10]; exact HB.out)
        have hq10 : (((l[i]).toNat : Int) == 10) = false := u8_false h10 rfl
        have hnl : nl l[i] = l[i] := by unfold nl; rw [if_neg h10]
        rw [hnl, ← HA.out] at hall
        by_cases h32 : l[i] = 32
        · have hq32 : (((l[i]).toNat : Int) == 32) = true := u8_true h32 rfl
          have HA2 : Hid (b = ((l.take (i + 1)).map nl).all (· == 32)) := Lib.hid (by rw [hall, h32]; simp)
          clear hall hms HA HB h10 h32 hnl
          cases b
          all_goals
            go_wp2
            go_roundw
            case rel => exact ⟨i + 1, _, by omega, rfl, by go_num, HA2, HB2, hbw⟩
            case measure => simp [intOf]; omega
        · have hq32 : (((l[i]).toNat : Int) == 32) = false := u8_false h32 rfl
          have HA2 : Hid (false = ((l.take (i + 1)).map nl).all (· == 32)) := Lib.hid (by rw [hall, beq_eq_false_iff_ne.2 h32, Bool.and_false])
          clear hall hms HA HB h10 h32 hnl
          cases b
          all_goals
            go_wp2
            go_roundw
            case rel => exact ⟨i + 1, _, by omega, rfl, by go_num, HA2, HB2, hbw⟩
            case measure => simp [intOf]; omega
    · have hpi : ¬ (i : Int) < n := by omega
      obtain rfl : i = n := by omega
      have HR : BRow wr w.heap.size M := by
        have := HB.out
        rw [← hln, mixed_end, ← HM.out] at this
        exact this
      have HA2 : b = M.all (· == 32) := by
        have := HA.out
        rw [← hln, List.take_length, ← HM.out] at this
        exact this
      clear HA HB hi hp hln
      have hcvb : (convert 38 9 (.slice (some ⟨w.heap.size, 0, none⟩) i cap)).run Tryz.prog wr = .ok (.string ⟨M.toArray⟩) wr := by
        have := run_convert_bytes_back (P := Tryz.prog) wr 38 9 5 ⟨w.heap.size, 0, none⟩ cap M Tryz.underlying38 Tryz.underlying5 Tryz.underlying9 (fun j hj => by rw [addr_add]; exact HR.cell j hj)
        rw [hMl] at this
        exact this
      have FIN : Hid (trimmed M = M → Ending.returned (.string ⟨M.toArray⟩) = Ending.returned (.string ⟨(trimmed M).toArray⟩)) := Lib.hid (fun h => by rw [h])
      cases b with
      | true =>
        have HE : Hid (trimmed M = M) := Lib.hid (by
          unfold trimmed
          rw [if_neg (fun h => by rw [← HA2] at h; exact absurd h.2.2.2 (by decide))])
        clear HR HA2
        go_wp2
        go_ret
        exact ⟨FIN.out HE.out, hbw⟩
      | false =>
        by_cases h1 : 1 < i
        · obtain ⟨k, rfl⟩ : ∃ k, i = k + 2 := ⟨i - 2, by omega⟩
          have hc0 := HR.cell 0 (by omega)
          have hc1 := HR.cell (k + 1) (by omega)
          have hlt := HR.lt
          have hh : M.head? = some (M[0]'(by omega)) := by rw [List.head?_eq_getElem?, List.getElem?_eq_getElem]
          have hl2 : M.getLast? = some (M[k + 1]'(by omega)) := last_of M (k + 1) hMl
          have h1i : (1 : Int) < (k : Int) + 2 := by omega
          have hsub : ((k : Int) + 2 - 1) = ((k + 1 : Nat) : Int) := by omega
          by_cases hA : M[0]'(by omega) = 32
          · have hqA : (((M[0]'(by omega)).toNat : Int) == 32) = true := u8_true hA rfl
            by_cases hZ : M[k + 1]'(by omega) = 32
            · have hqZ : (((M[k + 1]'(by omega)).toNat : Int) == 32) = true := u8_true hZ rfl
              have hk : 0 < k := by
                apply Decidable.byContradiction
                intro hn
                obtain rfl : k = 0 := by omega
                rw [all_two M hMl hA hZ] at HA2
                cases HA2
              have hT : trimmed M = (M.drop 1).take k := by
                unfold trimmed
                rw [if_pos ⟨by omega, by rw [hh, hA], by rw [hl2, hZ], HA2.symm⟩, dropLast_take, hMl]
                rfl
              have hTl : ((M.drop 1).take k).length = k := by rw [List.length_take, List.length_drop]; omega
              have hsl := run_slice_bounds (P := Tryz.prog) (t := 38) Tryz.underlying38 one8 (some ⟨w.heap.size, 0, none⟩) (k + 2) cap 1 (k + 1) 1 ((k : Int) + 2 - 1) rfl (by omega) (by omega) (by omega) wr
              rw [if_neg (by omega), Option.map_some, addr_add, show k + 1 - 1 = k by omega, Nat.one_mul] at hsl
              have hcvt : (convert 38 9 (.slice (some ⟨w.heap.size, 1, none⟩) k (cap - 1))).run Tryz.prog wr = .ok (.string ⟨((M.drop 1).take k).toArray⟩) wr := by
                have := run_convert_bytes_back (P := Tryz.prog) wr 38 9 5 ⟨w.heap.size, 1, none⟩ (cap - 1) ((M.drop 1).take k) Tryz.underlying38 Tryz.underlying5 Tryz.underlying9 (fun j hj => by
                  have e : (⟨w.heap.size, 1, none⟩ : Addr).add j = ⟨w.heap.size, 1 + j, none⟩ := by unfold Addr.add; split <;> simp_all
                  rw [e, HR.cell (1 + j) (by rw [hTl] at hj; omega)]
                  simp only [List.getElem_take, List.getElem_drop])
                rw [hTl] at this
                exact this
              have HE : Hid (Ending.returned (.string ⟨((M.drop 1).take k).toArray⟩) = Ending.returned (.string ⟨(trimmed M).toArray⟩)) := Lib.hid (by rw [hT])
              generalize (⟨((M.drop 1).take k).toArray⟩ : ByteArray) = T at hcvt HE
              clear HR HA2 hA hZ hh hl2 hT hTl
              go_wp2
              go_ret
              exact ⟨HE.out, hbw⟩
            · have hqZ : (((M[k + 1]'(by omega)).toNat : Int) == 32) = false := u8_false hZ rfl
              have HE : Hid (trimmed M = M) := Lib.hid (by
                unfold trimmed
                rw [if_neg (fun h => hZ (by have := h.2.2.1; rw [hl2] at this; exact Option.some.inj this))])
              clear HR HA2 hA hZ hh hl2
              go_wp2
              go_ret
              exact ⟨FIN.out HE.out, hbw⟩
          · have hqA : (((M[0]'(by omega)).toNat : Int) == 32) = false := u8_false hA rfl
            have HE : Hid (trimmed M = M) := Lib.hid (by
              unfold trimmed
              rw [if_neg (fun h => hA (by have := h.2.1; rw [hh] at this; exact Option.some.inj this))])
            clear HR HA2 hA hh hl2
            go_wp2
            go_ret
            exact ⟨FIN.out HE.out, hbw⟩
        · have h1i : ¬ (1 : Int) < i := by omega
          have HE : Hid (trimmed M = M) := Lib.hid (by
            unfold trimmed
            rw [if_neg (fun h => h1 (by rw [hMl] at h; exact h.1))])
          clear HR HA2
          go_wp2
          go_ret
          exact ⟨FIN.out HE.out, hbw⟩
end Go.Proofs.YtmplfiflikhpjaaGreatDoor
/-
  ref21's Code.
-/
namespace Go.Proofs.YtmplfiflikhpjaaGreatDoor
open Go.RowKit

set_option maxHeartbeats 8000000 in
set_option maxRecDepth 100000 in
theorem code21_any (s : ByteArray) (w : World) (hs : s.size ≤ 100000) :
    Calls Tryz.prog 22 #[.string s] w fun r w' => r = .returned (codeRes (Spec.code s.data.toList)) ∧ Below w.heap.size w w' := by
  have hnl := run_le s.data.toList 96
  rw [← Lib.size_eq] at hnl
  obtain ⟨n, hn⟩ : ∃ n, n = Spec.ticks s.data.toList := ⟨_, rfl⟩
  have hns : n ≤ s.size := by rw [hn]; exact hnl
  have hTi : ∀ W, Calls Tryz.prog 44 #[.string s, .int .u8 96] W fun e w' => e = .returned (.int .i64 (n : Int)) ∧ W = w' := fun W => by
    rw [hn]
    exact (many_any s 96 W (by omega)).mono fun e w' h => ⟨h.1, h.2.symm⟩
  clear hnl
  by_cases h0 : n = 0
  · rw [code_zero _ (by omega)]
    subst h0
    clear hn
    go_enter Tryz.func22, Tryz.ntmps22
    go_wp2_with (go_at_call 44; refine (hTi _).mono ?_; rintro e w1 ⟨rfl, rfl⟩)
    go_ret2
    exact ⟨rfl, Below.refl _ _⟩
  · have hcp := code_pos s.data.toList (by omega)
    rw [← hn] at hcp
    have HC := Lib.hid hcp
    have h0i : ((n : Int) == 0) = false := beq_eq_false_iff_ne.2 (by omega)
    have h0j : (0 : Int) < n := by omega
    clear hcp hn h0
    go_enter Tryz.func22, Tryz.ntmps22
    go_wp2_with (go_at_call 44; refine (hTi _).mono ?_; rintro e w1 ⟨rfl, rfl⟩)
    clear hTi
    go_loopw [5] (fun v5 wr => ∃ i f : Nat, i ≤ s.size ∧ n ≤ i ∧ v5 = .int .i64 i ∧ Hid (s.size - i < f ∧ Spec.codeAt n s.data.toList (s.data.toList.length + 1) n = Spec.codeAt n s.data.toList f i) ∧ w = wr) (fun v5 _ => s.size - (intOf v5).toNat)
    case atStart => exact ⟨n, s.data.toList.length + 1, hns, Nat.le_refl _, rfl, Lib.hid ⟨by rw [← Lib.size_eq]; omega, rfl⟩, rfl⟩
    case round =>
      obtain ⟨i, f, hi, hni, rfl, HF, rfl⟩ := hrel
      by_cases hp : i < s.size
      · have hpi : (i : Int) < s.size := by omega
        have hext : (s.extract i s.size).data.toList = s.data.toList.drop i := by rw [drop_text s i (by omega)]
        obtain ⟨k, hk⟩ : ∃ k, k = Spec.ticks (s.data.toList.drop i) := ⟨_, rfl⟩
        have hkl : k ≤ s.size - i := by
          have := run_le (s.data.toList.drop i) 96
          rw [List.length_drop, ← Lib.size_eq] at this
          rw [hk]; exact this
        have hTk : ∀ W, Calls Tryz.prog 44 #[.string (s.extract i s.size), .int .u8 96] W fun e w' => e = .returned (.int .i64 (k : Int)) ∧ W = w' := fun W => by
          have := many_any (s.extract i s.size) 96 W (by rw [Lib.size_eq, hext, List.length_drop, ← Lib.size_eq]; omega)
          rw [hext, show Spec.run (s.data.toList.drop i) 96 = k from hk.symm] at this
          exact this.mono fun e w' h => ⟨h.1, h.2.symm⟩
        obtain ⟨g, rfl⟩ : ∃ g, f = g + 1 := ⟨f - 1, by have := HF.out.1; omega⟩
        clear hext
        by_cases hkn : k = n
        · have hr := codeAt_hit n s.data.toList g i (by rw [← Lib.size_eq]; exact hp) (by omega)
          have hkni : ((k : Int) == n) = true := by rw [hkn]; exact beq_self_eq_true _
          obtain ⟨M, hM⟩ : ∃ M : ByteArray, M = s.extract n i := ⟨_, rfl⟩
          have hMl : M.data.toList = (s.data.toList.take i).drop n := by
            rw [hM, mid_text, List.drop_take]
          have hMs : M.size ≤ 100000 := by
            rw [Lib.size_eq, hMl, List.length_drop, List.length_take, ← Lib.size_eq]; omega
          have hslM : ∀ W, (Instr.slice 9 (.string s) (some (.int .i64 (n : Int))) (some (.int .i64 (i : Int))) none).run Tryz.prog W = .ok (.string M) W := by
            rw [hM]; exact slice_mid s n i (i : Int) hni hi rfl
          have hB := fun W => blanks_any M W (by omega)
          have HR : Hid (Ending.returned (.tuple #[.string ⟨(Spec.codeText M.data.toList).toArray⟩, .int .i64 ((i : Int) + n)]) = Ending.returned (codeRes (Spec.code s.data.toList))) := Lib.hid (by
            rw [HC.out, HF.out.2, hr]
            simp only
            rw [hMl]
            exact ret_adr rfl (by omega))
          generalize (⟨(Spec.codeText M.data.toList).toArray⟩ : ByteArray) = U at hB HR
          clear hk hkn hr hMl hM HC HF
          go_wp2_with fail
          refine (hTk _).mono ?_
          rintro e w1 ⟨rfl, rfl⟩
          go_wp2_with fail
          refine (hB _).mono ?_
          rintro e w1 ⟨rfl, hb1⟩
          go_wp2
          go_ret2
          exact ⟨HR.out, hb1⟩
        · have hr := codeAt_miss n s.data.toList g i (by rw [← Lib.size_eq]; exact hp) (by omega)
          rw [← hk] at hr
          have hkni : ((k : Int) == n) = false := beq_eq_false_iff_ne.2 (by omega)
          have HF2 : Hid (s.size - (i + max 1 k) < g ∧ Spec.codeAt n s.data.toList (s.data.toList.length + 1) n = Spec.codeAt n s.data.toList g (i + max 1 k)) := Lib.hid ⟨by have := HF.out.1; omega, by rw [HF.out.2, hr]⟩
          clear hk hkn hr HF
          go_wp2_with fail
          refine (hTk _).mono ?_
          rintro e w1 ⟨rfl, rfl⟩
          go_wp2
          all_goals
            go_roundw
            case rel => exact ⟨i + max 1 k, g, by omega, by omega, by go_num, HF2, by first | rfl | trivial⟩
            case measure => simp [intOf]; omega
      · have hpi : ¬ (i : Int) < s.size := by omega
        have hr : Spec.codeAt n s.data.toList f i = none := codeAt_end n _ f i (by rw [← Lib.size_eq]; omega)
        have HR : Hid (Spec.code s.data.toList = ([], 0)) := Lib.hid (by rw [HC.out, HF.out.2, hr])
        clear hr HC HF
        go_wp2
        go_ret2
        exact ⟨by rw [HR.out]; rfl, Below.refl _ _⟩
end Go.Proofs.YtmplfiflikhpjaaGreatDoor
