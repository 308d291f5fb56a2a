/-
  Texts of one proof, joined: InI, InJ.
-/
import Derived.Test.YtmplfiflikhpjaaGreatDoorV01
import Derived.Test.YtmplfiflikhpjaaGreatDoorV05
import Derived.Test.YtmplfiflikhpjaaGreatDoorV06
import Derived.Lib.RuneCount
/-
  inline.Auto: the link in angles that a text begins with, at every text.
-/
namespace Go.Proofs.YtmplfiflikhpjaaGreatDoor
open Go.RowKit

theorem below_drewN' {w w' : World} (h : ∃ n, w' = w.drewN n) : Below w.heap.size w w' := by
  obtain ⟨n, rfl⟩ := h
  exact ⟨rfl, rfl, rfl, Nat.le_refl _, fun _ _ => rfl⟩
def mailL : List UInt8 := [97, 98, 99, 100, 101, 102, 103, 104, 105, 106, 107, 108, 109, 110, 111, 112, 113, 114, 115, 116, 117, 118, 119, 120, 121, 122, 65, 66, 67, 68, 69, 70, 71, 72, 73, 74, 75, 76, 77, 78, 79, 80, 81, 82, 83, 84, 85, 86, 87, 88, 89, 90, 48, 49, 50, 51, 52, 53, 54, 55, 56, 57, 46, 33, 35, 36, 37, 38, 39, 42, 43, 47, 61, 63, 94, 95, 123, 124, 125, 126, 45]
theorem mailL_eq (c : UInt8) : mailL.contains c = Spec.mailC c := u8_all (p := (mailL.contains ·)) (q := Spec.mailC) (by decide +kernel) c
theorem trimMail_any (u : ByteArray) (w : World) (hs : u.size ≤ 1000000) :
    Calls Tryz.prog 43 #[.string u, .string ⟨mailL.toArray⟩] w fun e w' => e = .returned (.string ⟨(Lib.trimS u.data.toList mailL).toArray⟩) ∧ Below w.heap.size w w' :=
  Any.strings_Trim_laid Tryz.lays160 (by kernel_rfl) u ⟨mailL.toArray⟩ w (by omega) (by decide) (ascii_of_all (by decide))
theorem cut_any (s : ByteArray) (c : UInt8) (w : World) (hs : s.size ≤ 1000000) (hT : TabsM w) :
    Calls Tryz.prog 47 #[.string s, .string ⟨#[c]⟩] w fun e w' => e = .returned (.tuple #[.string ⟨(Lib.cut s.data.toList [c]).1.toArray⟩, .string ⟨(Lib.cut s.data.toList [c]).2.1.toArray⟩, .bool (Lib.cut s.data.toList [c]).2.2]) ∧ Below w.heap.size w w' := by
  obtain ⟨m, hm⟩ := hT.max
  exact (Tryz.strings_Cut s ⟨#[c]⟩ m w (by omega) hm).mono fun e w' h => ⟨h.1, below_drewN' h.2⟩
theorem cut_le (c : UInt8) (l : List UInt8) : (Lib.cut l [c]).1.length ≤ l.length ∧ (Lib.cut l [c]).2.1.length ≤ l.length := by
  unfold Lib.cut
  split
  · simp only [List.length_take, List.length_drop]; omega
  · simp
def autoRes (p : List UInt8 × List UInt8 × Nat) : Value := .tuple #[.string ⟨p.1.toArray⟩, .string ⟨p.2.1.toArray⟩, .int .i64 (p.2.2 : Int)]
theorem auto_no (l : List UInt8) (h : l.head? ≠ some 60) : Spec.auto l = ([], [], 0) := by
  unfold Spec.auto
  cases l with
  | nil => rfl
  | cons c t =>
    simp only
    rw [if_pos (fun e => h (by rw [e]; rfl))]
theorem auto_scheme (t : List UInt8) (h : 0 < Spec.scheme t ∧ t[Spec.scheme t]? = some 62) : Spec.auto (60 :: t) = (t.take (Spec.scheme t), Spec.uri (t.take (Spec.scheme t)), Spec.scheme t + 2) := by
  unfold Spec.auto
  simp only
  rw [if_neg (by decide), if_pos h]
theorem auto_mail (t : List UInt8) (h : ¬ (0 < Spec.scheme t ∧ t[Spec.scheme t]? = some 62)) : Spec.auto (60 :: t) =
    if (Lib.cut t [62]).2.2 = true ∧ Spec.mail (Lib.cut t [62]).1 = true then ((Lib.cut t [62]).1, Spec.mailto ++ Spec.uri (Lib.cut t [62]).1, (Lib.cut t [62]).1.length + 2) else ([], [], 0) := by
  unfold Spec.auto
  simp only
  rw [if_neg (by decide), if_neg h, cut_eq]
  cases Spec.cutAt 62 t with
  | none => simp
  | some p => obtain ⟨a, b⟩ := p; simp
theorem mail_cut (x : List UInt8) : Spec.mail x = ((Lib.cut x [64]).2.2 && decide (0 < (Lib.cut x [64]).1.length) && (Lib.cut x [64]).1.all Spec.mailC && Spec.host (Lib.cut x [64]).2.1) := by
  unfold Spec.mail
  rw [cut_eq]
  cases Spec.cutAt 64 x with
  | none => simp
  | some p => obtain ⟨a, b⟩ := p; simp
theorem scheme_le (l : List UInt8) : Spec.scheme l ≤ l.length := by
  unfold Spec.scheme
  simp only
  split
  · have h1 := takeW_len Spec.angleC (l.drop (l.takeWhile Spec.schemeC).length)
    have h2 := takeW_len Spec.schemeC l
    rw [List.length_drop] at h1
    omega
  · omega
theorem uri_len3 : ∀ l : List UInt8, (Spec.uri l).length ≤ 3 * l.length
  | [] => Nat.le_refl _
  | c :: t => by
    have := uri_len3 t
    by_cases hst : stands c t
    · rw [uri_cons c t hst, List.length_append, List.length_cons]; simp only [List.length_cons, List.length_nil]; omega
    · rw [uri_cons' c t hst, List.length_append, List.length_cons]; simp only [List.length_cons, List.length_nil]; omega

set_option maxHeartbeats 16000000 in
set_option maxRecDepth 100000 in
theorem auto_any (s : ByteArray) (w : World) (hs : s.size ≤ 100000) (hT : TabsM w) :
    Calls Tryz.prog 23 #[.string s] w fun r w' => r = .returned (autoRes (Spec.auto s.data.toList)) ∧ Below w.heap.size w w' := by
  by_cases h60 : s.data.toList.head? = some 60
  · have h0 : 0 < s.size := by
      apply Decidable.byContradiction
      intro h
      rw [text_empty h] at h60; cases h60
    have hc := head_cons s h0
    have h60' : (s[0]'h0) = 60 := by rw [hc] at h60; exact Option.some.inj h60
    have hb60 := u8_true h60' (x := 60) rfl
    have hb60n := ne_of_eq hb60
    have he := isEmpty_false h0
    have h0i : (0 : Int) < s.size := by omega
    have h1i : (1 : Int) ≤ s.size := by omega
    obtain ⟨t, ht⟩ : ∃ t : ByteArray, t = s.extract 1 s.size := ⟨_, rfl⟩
    have htl : t.data.toList = s.data.toList.drop 1 := by rw [ht, drop_text s 1 (by omega)]
    have hts : t.size = s.size - 1 := by rw [Lib.size_eq, htl, List.length_drop, ← Lib.size_eq]
    have hsl1 : ∀ W, (Instr.slice 9 (.string s) (some (.int .i64 1)) none none).run Tryz.prog W = .ok (.string t) W := fun W => by
      rw [run_slice_string_from_if W _ _ .i64 _ Tryz.underlying9, if_pos ⟨by omega, by omega⟩, ht]
      rfl
    rw [hc, h60', ← htl]
    have hSc := fun W => scheme_any t W (by omega)
    have hkl := scheme_le t.data.toList
    rw [← Lib.size_eq] at hkl
    obtain ⟨k, hk⟩ : ∃ k, k = Spec.scheme t.data.toList := ⟨_, rfl⟩
    have hA := auto_scheme t.data.toList
    have hM := auto_mail t.data.toList
    rw [← hk] at hSc hkl hA hM
    have hat : t.data.toList[k]? = s.data.toList[k + 1]? := by rw [htl, List.getElem?_drop, Nat.add_comm]
    have hkb : (k : Int) ≤ 100000 := by omega
    clear hc h60' hk h60
    by_cases hyes : 0 < k ∧ t.data.toList[k]? = some 62
    · have hk1 : k + 1 < s.size := by
        have h2 := hyes.2
        rw [hat] at h2
        have := (List.getElem?_eq_some_iff.1 h2).1
        rw [← Lib.size_eq] at this
        exact this
      have hk1i : (k : Int) + 1 < s.size := by omega
      have hki : (0 : Int) < k := by omega
      have hb62 := u8_true (show (s[k + 1]'hk1) = 62 by have h2 := hyes.2; rw [hat, at_list s (k + 1) hk1] at h2; exact Option.some.inj h2) (x := 62) rfl
      rw [hA hyes]
      obtain ⟨X, hX⟩ : ∃ X : ByteArray, X = s.extract 1 (k + 1) := ⟨_, rfl⟩
      have hXl : X.data.toList = t.data.toList.take k := by rw [hX, mid_text, htl]; rfl
      have hXs : X.size ≤ 100000 := by rw [Lib.size_eq, hXl, List.length_take, ← Lib.size_eq]; omega
      have hslX : ∀ W, (Instr.slice 9 (.string s) (some (.int .i64 1)) (some (.int .i64 ((k : Int) + 1))) none).run Tryz.prog W = .ok (.string X) W := by
        rw [hX]; exact slice_mid s 1 (k + 1) ((k : Int) + 1) (by omega) (by omega) (by omega)
      have hU : ∀ W, Calls Tryz.prog 33 #[.string X] W fun e w' => e = .returned (.string ⟨(Spec.uri X.data.toList).toArray⟩) ∧ Below W.heap.size W w' := fun W => uri_any X W (by omega)
      rw [← hXl]
      clear hX hXl hyes hA hM hat ht htl hts hkl
      go_enter Tryz.func23, Tryz.ntmps23
      go_wp2_with fail
      refine (hSc _).mono ?_
      rintro e w1 ⟨rfl, hb1⟩
      go_wp2_with fail
      refine (hU _).mono ?_
      rintro e w2 ⟨rfl, hb2⟩
      go_wp2
      go_ret3
      exact ⟨ret3 (toL' X) rfl (by show (k : Int) + 2 = ((k + 2 : Nat) : Int); omega), hb1.trans (hb2.mono hb1.size)⟩
    · rw [hM hyes]
      have hcase : ¬ (0 : Int) < k ∨ ((0 : Int) < k ∧ ¬ (k : Int) + 1 < s.size) ∨ ((0 : Int) < k ∧ (k : Int) + 1 < s.size ∧ ∃ h : k + 1 < s.size, (((s[k + 1]'h).toNat : Int) == 62) = false) := by
        by_cases a : 0 < k
        · by_cases b : k + 1 < s.size
          · refine .inr (.inr ⟨by omega, by omega, b, u8_false (b := 62) (fun e => hyes ⟨a, ?_⟩) rfl⟩)
            rw [hat, at_list s (k + 1) b, e]
          · exact .inr (.inl ⟨by omega, by omega⟩)
        · exact .inl (by omega)
      obtain ⟨X, hX⟩ : ∃ X : ByteArray, X = ⟨(Lib.cut t.data.toList [62]).1.toArray⟩ := ⟨_, rfl⟩
      obtain ⟨Y, hY⟩ : ∃ Y : ByteArray, Y = ⟨(Lib.cut t.data.toList [62]).2.1.toArray⟩ := ⟨_, rfl⟩
      obtain ⟨ok, hok⟩ : ∃ ok, ok = (Lib.cut t.data.toList [62]).2.2 := ⟨_, rfl⟩
      have hXl : X.data.toList = (Lib.cut t.data.toList [62]).1 := by rw [hX]
      have hXs : X.size ≤ 100000 := by
        have := (cut_le 62 t.data.toList).1
        rw [← Lib.size_eq] at this
        rw [Lib.size_eq, hXl]; omega
      have hC1 := fun W (hW : TabsM W) => cut_any t 62 W (by omega) hW
      rw [← hX, ← hY, ← hok] at hC1
      rw [← hXl, ← hok]
      clear hX hY hok hXl hyes hA hM hat ht htl hts hkl
      obtain ⟨N1, hN1⟩ : ∃ X1 : ByteArray, X1 = ⟨(Lib.cut X.data.toList [64]).1.toArray⟩ := ⟨_, rfl⟩
      obtain ⟨N2, hN2⟩ : ∃ Y1 : ByteArray, Y1 = ⟨(Lib.cut X.data.toList [64]).2.1.toArray⟩ := ⟨_, rfl⟩
      obtain ⟨aok, haok⟩ : ∃ b, b = (Lib.cut X.data.toList [64]).2.2 := ⟨_, rfl⟩
      have hN1l : N1.data.toList = (Lib.cut X.data.toList [64]).1 := by rw [hN1]
      have hN2l : N2.data.toList = (Lib.cut X.data.toList [64]).2.1 := by rw [hN2]
      have hN1s : N1.size ≤ 100000 := by
        have := (cut_le 64 X.data.toList).1
        rw [← Lib.size_eq] at this
        rw [Lib.size_eq, hN1l]; omega
      have hN2s : N2.size ≤ 100000 := by
        have := (cut_le 64 X.data.toList).2
        rw [← Lib.size_eq] at this
        rw [Lib.size_eq, hN2l]; omega
      have hC2 := fun W (hW : TabsM W) => cut_any X 64 W (by omega) hW
      rw [← hN1, ← hN2, ← haok] at hC2
      have hml := mail_cut X.data.toList
      rw [← hN1l, ← hN2l, ← haok, ← Lib.size_eq] at hml
      have HML := Lib.hid hml
      clear hml hN1 hN2 haok hN1l hN2l
      cases ok with
      | false =>
        rw [if_neg (fun h => by cases h.1)]
        rcases hcase with k1 | ⟨k1, k2⟩ | ⟨k1, k2, k3, k4⟩
        all_goals
          go_enter Tryz.func23, Tryz.ntmps23
          go_wp2_with fail
          refine (hSc _).mono ?_
          rintro e w1 ⟨rfl, hb1⟩
          have hT1 := hT.below hb1
          go_wp2_with fail
          refine (hC1 _ hT1).mono ?_
          rintro e w2 ⟨rfl, hb2⟩
          have hbw2 := hb1.trans (hb2.mono hb1.size)
          have hT2 := hT.below hbw2
          go_wp2_with fail
          refine (hC2 _ hT2).mono ?_
          rintro e w3 ⟨rfl, hb3⟩
          have hbw3 := hbw2.trans (hb3.mono hbw2.size)
          have hT3 := hT.below hbw3
          clear hb1 hb2 hb3 hT1 hT2 hbw2
          go_wp2
          go_ret3
          exact ⟨rfl, hbw3⟩
      | true =>
        cases aok with
        | false =>
          rw [if_neg (fun h => by rw [HML.out] at h; simp at h)]
          rcases hcase with k1 | ⟨k1, k2⟩ | ⟨k1, k2, k3, k4⟩
          all_goals
            go_enter Tryz.func23, Tryz.ntmps23
            go_wp2_with fail
            refine (hSc _).mono ?_
            rintro e w1 ⟨rfl, hb1⟩
            have hT1 := hT.below hb1
            go_wp2_with fail
            refine (hC1 _ hT1).mono ?_
            rintro e w2 ⟨rfl, hb2⟩
            have hbw2 := hb1.trans (hb2.mono hb1.size)
            have hT2 := hT.below hbw2
            go_wp2_with fail
            refine (hC2 _ hT2).mono ?_
            rintro e w3 ⟨rfl, hb3⟩
            have hbw3 := hbw2.trans (hb3.mono hbw2.size)
            have hT3 := hT.below hbw3
            clear hb1 hb2 hb3 hT1 hT2 hbw2
            go_wp2
            go_ret3
            exact ⟨rfl, hbw3⟩
        | true =>
          by_cases hn0 : 0 < N1.size
          · have hne := isEmpty_false hn0
            have hTr := fun W => trimMail_any N1 W (by omega)
            have hte := trimS_empty N1 mailL
            rw [show (fun x => mailL.contains x) = Spec.mailC from funext mailL_eq] at hte
            generalize (⟨(Lib.trimS N1.data.toList mailL).toArray⟩ : ByteArray) = Q at hTr hte
            unfold mailL at hTr
            cases hall : N1.data.toList.all Spec.mailC with
            | false =>
              rw [hall] at hte
              rw [if_neg (fun h => by rw [HML.out, hall] at h; simp at h)]
              clear hall
              rcases hcase with k1 | ⟨k1, k2⟩ | ⟨k1, k2, k3, k4⟩
              all_goals
                go_enter Tryz.func23, Tryz.ntmps23
                go_wp2_with fail
                refine (hSc _).mono ?_
                rintro e w1 ⟨rfl, hb1⟩
                have hT1 := hT.below hb1
                go_wp2_with fail
                refine (hC1 _ hT1).mono ?_
                rintro e w2 ⟨rfl, hb2⟩
                have hbw2 := hb1.trans (hb2.mono hb1.size)
                have hT2 := hT.below hbw2
                go_wp2_with fail
                refine (hC2 _ hT2).mono ?_
                rintro e w3 ⟨rfl, hb3⟩
                have hbw3 := hbw2.trans (hb3.mono hbw2.size)
                have hT3 := hT.below hbw3
                clear hb1 hb2 hb3 hT1 hT2 hbw2
                go_wp2_with fail
                refine (hTr _).mono ?_
                rintro e w4 ⟨rfl, hb4⟩
                have hbw4 := hbw3.trans (hb4.mono hbw3.size)
                have hT4 := hT.below hbw4
                clear hb4 hbw3 hT3
                go_wp2
                go_ret3
                exact ⟨rfl, hbw4⟩
            | true =>
              rw [hall] at hte
              have hIH := fun W (hW : TabsM W) => isHost_any N2 W (by omega) hW
              cases hho : Spec.host N2.data.toList with
              | false =>
                rw [hho] at hIH
                rw [if_neg (fun h => by rw [HML.out, hho] at h; simp at h)]
                clear hall hho
                rcases hcase with k1 | ⟨k1, k2⟩ | ⟨k1, k2, k3, k4⟩
                all_goals
                  go_enter Tryz.func23, Tryz.ntmps23
                  go_wp2_with fail
                  refine (hSc _).mono ?_
                  rintro e w1 ⟨rfl, hb1⟩
                  have hT1 := hT.below hb1
                  go_wp2_with fail
                  refine (hC1 _ hT1).mono ?_
                  rintro e w2 ⟨rfl, hb2⟩
                  have hbw2 := hb1.trans (hb2.mono hb1.size)
                  have hT2 := hT.below hbw2
                  go_wp2_with fail
                  refine (hC2 _ hT2).mono ?_
                  rintro e w3 ⟨rfl, hb3⟩
                  have hbw3 := hbw2.trans (hb3.mono hbw2.size)
                  have hT3 := hT.below hbw3
                  clear hb1 hb2 hb3 hT1 hT2 hbw2
                  go_wp2_with fail
                  refine (hTr _).mono ?_
                  rintro e w4 ⟨rfl, hb4⟩
                  have hbw4 := hbw3.trans (hb4.mono hbw3.size)
                  have hT4 := hT.below hbw4
                  clear hb4 hbw3 hT3
                  go_wp2_with fail
                  refine (hIH _ hT4).mono ?_
                  rintro e w5 ⟨rfl, hb5⟩
                  have hbw5 := hbw4.trans (hb5.mono hbw4.size)
                  have hT5 := hT.below hbw5
                  clear hb5 hbw4 hT4
                  go_wp2
                  go_ret3
                  exact ⟨rfl, hbw5⟩
              | true =>
                rw [hho] at hIH
                rw [if_pos ⟨rfl, by rw [HML.out, hall, hho, decide_eq_true hn0]; rfl⟩]
                obtain ⟨UX, hUX⟩ : ∃ UX : ByteArray, UX = ⟨(Spec.uri X.data.toList).toArray⟩ := ⟨_, rfl⟩
                have hU : ∀ W, Calls Tryz.prog 33 #[.string X] W fun e w' => e = .returned (.string UX) ∧ Below W.heap.size W w' := fun W => by rw [hUX]; exact uri_any X W (by omega)
                have hcat : ¬ 9223372036854775807 < 7 + UX.size := by
                  have := uri_len3 X.data.toList
                  rw [← Lib.size_eq] at this
                  rw [hUX, Lib.size_eq]
                  show ¬ 9223372036854775807 < 7 + (Spec.uri X.data.toList).length
                  omega
                have HUX := Lib.hid hUX
                clear hall hho hUX
                rcases hcase with k1 | ⟨k1, k2⟩ | ⟨k1, k2, k3, k4⟩
                all_goals
                  go_enter Tryz.func23, Tryz.ntmps23
                  go_wp2_with fail
                  refine (hSc _).mono ?_
                  rintro e w1 ⟨rfl, hb1⟩
                  have hT1 := hT.below hb1
                  go_wp2_with fail
                  refine (hC1 _ hT1).mono ?_
                  rintro e w2 ⟨rfl, hb2⟩
                  have hbw2 := hb1.trans (hb2.mono hb1.size)
                  have hT2 := hT.below hbw2
                  go_wp2_with fail
                  refine (hC2 _ hT2).mono ?_
                  rintro e w3 ⟨rfl, hb3⟩
                  have hbw3 := hbw2.trans (hb3.mono hbw2.size)
                  have hT3 := hT.below hbw3
                  clear hb1 hb2 hb3 hT1 hT2 hbw2
                  go_wp2_with fail
                  refine (hTr _).mono ?_
                  rintro e w4 ⟨rfl, hb4⟩
                  have hbw4 := hbw3.trans (hb4.mono hbw3.size)
                  have hT4 := hT.below hbw4
                  clear hb4 hbw3 hT3
                  go_wp2_with fail
                  refine (hIH _ hT4).mono ?_
                  rintro e w5 ⟨rfl, hb5⟩
                  have hbw5 := hbw4.trans (hb5.mono hbw4.size)
                  have hT5 := hT.below hbw5
                  clear hb5 hbw4 hT4
                  go_wp2_with fail
                  refine (hU _).mono ?_
                  rintro e w6 ⟨rfl, hb6⟩
                  have hbw6 := hbw5.trans (hb6.mono hbw5.size)
                  have hT6 := hT.below hbw6
                  clear hb6 hbw5 hT5
                  go_wp2
                  go_ret3
                  exact ⟨ret3 (toL' X) (by rw [HUX.out]; exact toL' _) (by rw [← Lib.size_eq]; show (X.size : Int) + 2 = ((X.size + 2 : Nat) : Int); omega), hbw6⟩
          · have hne := isEmpty_true hn0
            rw [if_neg (fun h => by rw [HML.out, decide_eq_false hn0] at h; simp at h)]
            rcases hcase with k1 | ⟨k1, k2⟩ | ⟨k1, k2, k3, k4⟩
            all_goals
              go_enter Tryz.func23, Tryz.ntmps23
              go_wp2_with fail
              refine (hSc _).mono ?_
              rintro e w1 ⟨rfl, hb1⟩
              have hT1 := hT.below hb1
              go_wp2_with fail
              refine (hC1 _ hT1).mono ?_
              rintro e w2 ⟨rfl, hb2⟩
              have hbw2 := hb1.trans (hb2.mono hb1.size)
              have hT2 := hT.below hbw2
              go_wp2_with fail
              refine (hC2 _ hT2).mono ?_
              rintro e w3 ⟨rfl, hb3⟩
              have hbw3 := hbw2.trans (hb3.mono hbw2.size)
              have hT3 := hT.below hbw3
              clear hb1 hb2 hb3 hT1 hT2 hbw2
              go_wp2
              go_ret3
              exact ⟨rfl, hbw3⟩
  · rw [auto_no _ h60]
    have hcase : s.toList.isEmpty = true ∨ (s.toList.isEmpty = false ∧ ∃ h : 0 < s.size, (((s[0]'h).toNat : Int) == 60) = false ∧ (((s[0]'h).toNat : Int) != 60) = true) := by
      by_cases hr0 : 0 < s.size
      · have hb := u8_false (a := s[0]'hr0) (b := 60) (fun e => h60 (by rw [head_cons s hr0, e]; rfl)) (x := 60) rfl
        exact .inr ⟨isEmpty_false hr0, hr0, hb, ne_of_eq hb⟩
      · exact .inl (isEmpty_true hr0)
    clear h60
    rcases hcase with hre | ⟨hre, hr0, hb60, hb60n⟩
    all_goals
      go_enter Tryz.func23, Tryz.ntmps23
      go_wp2
      go_ret3
      exact ⟨rfl, Below.refl _ _⟩
end Go.Proofs.YtmplfiflikhpjaaGreatDoor
/-
  inline's plain and last; class's First, Blank, Punct.
-/
namespace Go.Proofs.YtmplfiflikhpjaaGreatDoor
open Go.RowKit

theorem takeWn_cons (p : UInt8 → Bool) (c : UInt8) (t : List UInt8) : ((c :: t).takeWhile p).length = if p c = true then (t.takeWhile p).length + 1 else 0 := by
  rw [List.takeWhile_cons]
  split <;> rfl
set_option maxHeartbeats 4000000 in
set_option maxRecDepth 100000 in
theorem plain_any (s : ByteArray) (w : World) (hs : s.size ≤ 1000000) (h0 : 0 < s.size) :
    Calls Tryz.prog 63 #[.string s] w fun r w' => r = .returned (.int .i64 ((1 + ((s.data.toList.drop 1).takeWhile fun d => !Spec.meant.contains d).length : Nat) : Int)) ∧ w = w' := by
  obtain ⟨N, hN⟩ : ∃ N, N = 1 + ((s.data.toList.drop 1).takeWhile fun d => !Spec.meant.contains d).length := ⟨_, rfl⟩
  rw [← hN]
  have HN := Lib.hid hN
  clear hN
  go_enter Tryz.func63, Tryz.ntmps63
  go_wp2
  go_loop [3] (fun v3 => ∃ j : Nat, j ≤ s.size ∧ v3 = .int .i64 j ∧ Hid (N = j + ((s.data.toList.drop j).takeWhile fun d => !Spec.meant.contains d).length)) (fun v3 => s.size - (intOf v3).toNat)
  case atStart => exact ⟨1, by omega, rfl, HN⟩
  case round =>
    obtain ⟨j, hj, rfl, HJ⟩ := hrel
    by_cases hp : j < s.size
    · have hpi : (j : Int) < s.size := by omega
      have htw := takeWn_cons (fun d => !Spec.meant.contains d) (s[j]'hp) (s.data.toList.drop (j + 1))
      rw [← drop_at s j hp] at htw
      have hI : ∀ W, Calls Tryz.prog 85 #[.int .u8 ((s[j]'hp).toNat : Int), .string ⟨#[92, 96, 60, 38, 42, 95, 33, 91, 93, 10]⟩] W fun e w' => e = .returned (.bool (Spec.meant.contains (s[j]'hp))) ∧ W = w' := fun W => (is_any (s[j]'hp) ⟨#[92, 96, 60, 38, 42, 95, 33, 91, 93, 10]⟩ W).mono fun e w' h => ⟨h.1, h.2.symm⟩
      cases hA : Spec.meant.contains (s[j]'hp) with
      | false =>
        rw [hA] at hI
        rw [if_pos (by rw [hA]; rfl)] at htw
        have HJ2 : Hid (N = (j + 1) + ((s.data.toList.drop (j + 1)).takeWhile fun d => !Spec.meant.contains d).length) := Lib.hid (by rw [HJ.out, htw]; omega)
        clear htw hA HJ HN
        go_wp2_with (go_at_call 85; refine (hI _).mono ?_; rintro e w2 ⟨rfl, rfl⟩)
        go_round
        case rel => exact ⟨j + 1, by omega, by go_num, HJ2⟩
        case measure => simp [intOf]; omega
      | true =>
        rw [hA] at hI
        rw [if_neg (by rw [hA]; decide)] at htw
        have HJ2 : Hid (N = j) := Lib.hid (by rw [HJ.out, htw]; rfl)
        clear htw hA HJ HN
        go_wp2_with (go_at_call 85; refine (hI _).mono ?_; rintro e w2 ⟨rfl, rfl⟩)
        go_ret
        exact ⟨ret_int (by rw [HJ2.out]), rfl⟩
    · have hpi : ¬ (j : Int) < s.size := by omega
      have HJ2 : Hid (N = j) := Lib.hid (by rw [HJ.out, List.drop_of_length_le (by rw [← Lib.size_eq]; omega)]; rfl)
      clear HJ HN
      go_wp2
      go_ret
      exact ⟨ret_int (by rw [HJ2.out]), rfl⟩

/-! ### the rune that a text begins with; the last one -/
set_option maxHeartbeats 4000000 in
set_option maxRecDepth 1000000 in
theorem first_any (s : ByteArray) (w : World) (_hs : s.size ≤ 1000000) :
    Calls Tryz.prog 59 #[.string s] w fun r w' => r = .returned (.int .i32 (firstR s : Int)) ∧ Below w.heap.size w w' := by
  go_enter Tryz.func59, Tryz.ntmps59
  go_wp2
  go_loopw [] (fun wr => wr.heap[w.heap.size]? = some (.stringIter s 0) ∧ Below w.heap.size w wr) (fun _ => 0)
  case atStart => exact ⟨World.iter_heap w s 0, (Below.refl _ w).alloc (Nat.le_refl _) _⟩
  case round =>
    obtain ⟨hit, hbw⟩ := hrel
    obtain ⟨wq, rfl⟩ : ∃ wq : World, wq = wr := ⟨_, rfl⟩
    by_cases hp : 0 < s.size
    · have hnx : ∀ ty, (Instr.next (.pointer (some ⟨w.heap.size, 0, none⟩)) true ty).run Tryz.prog wq = _ := fun ty => Lib.run_next_any_at wq w.heap.size s 0 ty hit hp
      have HF : Hid (firstR s = (Utf8.decode s 0).1) := Lib.hid (by unfold firstR; rw [if_pos hp])
      have hbw2 := Lib.below_iterAt hbw (k := w.heap.size) (Nat.le_refl _) s (0 + (Utf8.decode s 0).2)
      obtain ⟨wo, hwo⟩ : ∃ wo : World, wo = wq.iterAt w.heap.size s (0 + (Utf8.decode s 0).2) := ⟨_, rfl⟩
      rw [← hwo] at hnx hbw2
      clear hwo
      obtain ⟨r, hr⟩ : ∃ r : Nat, r = (Utf8.decode s 0).1 := ⟨_, rfl⟩
      rw [← hr] at hnx HF
      clear hr hit
      go_wp2
      go_ret
      exact ⟨ret_int (by rw [HF.out]), hbw2⟩
    · have hnx : ∀ ty, (Instr.next (.pointer (some ⟨w.heap.size, 0, none⟩)) true ty).run Tryz.prog wq = _ := fun ty => Lib.run_next_end_at wq w.heap.size s 0 ty hit hp
      have HF : Hid (firstR s = 10) := Lib.hid (by unfold firstR; rw [if_neg hp])
      clear hit
      go_wp2
      go_ret
      exact ⟨ret_int (by rw [HF.out]; rfl), hbw⟩

set_option maxHeartbeats 4000000 in
set_option maxRecDepth 1000000 in
theorem last_any (s : ByteArray) (w : World) (hs : s.size ≤ 1000000) :
    Calls Tryz.prog 58 #[.string s] w fun r w' => r = .returned (.int .i32 (lastR (last16 s) : Int)) ∧ Below w.heap.size w w' := by
  obtain ⟨u, hu⟩ : ∃ u, u = last16 s := ⟨_, rfl⟩
  rw [← hu]
  have HU : Hid (s.extract (max 0 ((s.size : Int) - 16)).toNat s.size = u) := Lib.hid (by
    rw [hu]
    unfold last16
    congr 1
    omega)
  clear hu
  have hm0 : 0 ≤ max 0 ((s.size : Int) - 16) := by omega
  have hm1 : max 0 ((s.size : Int) - 16) ≤ s.size := by omega
  · go_enter Tryz.func58, Tryz.ntmps58
    go_wp2
    try rw [HU.out]
    go_loopw [3] (fun v3 wr => ∃ (pos acc f : Nat), v3 = .int .i32 (acc : Int) ∧ wr.heap[w.heap.size]? = some (.stringIter u pos) ∧ Below w.heap.size w wr ∧ Hid (u.size - pos ≤ f ∧ lastR u = lastFrom u f pos acc)) (fun _ wr => u.size - wr.iterPos w.heap.size)
    case atStart => exact ⟨0, 10, u.size, rfl, (by first | exact World.iter_heap w u 0 | (rw [HU.out]; exact World.iter_heap w u 0)), (Below.refl _ w).alloc (Nat.le_refl _) _, Lib.hid ⟨by omega, rfl⟩⟩
    case round =>
      obtain ⟨pos, acc, f, rfl, hit, hbw, HL⟩ := hrel
      obtain ⟨wq, rfl⟩ : ∃ wq : World, wq = wr := ⟨_, rfl⟩
      have hpm : wq.iterPos w.heap.size = pos := by simp only [World.iterPos, hit]
      have HP : Hid (wq.iterPos w.heap.size = pos) := Lib.hid hpm
      clear hpm
      by_cases hp : pos < u.size
      · have hnx : ∀ ty, (Instr.next (.pointer (some ⟨w.heap.size, 0, none⟩)) true ty).run Tryz.prog wq = _ := fun ty => Lib.run_next_any_at wq w.heap.size u pos ty hit hp
        have hd1 := decode_le u pos
        have hd0 := Lib.decode_width_pos u pos hp
        have hit2 := Lib.iterAt_heap wq w.heap.size u pos (pos + (Utf8.decode u pos).2) hit
        have hbw2 := Lib.below_iterAt hbw (k := w.heap.size) (Nat.le_refl _) u (pos + (Utf8.decode u pos).2)
        obtain ⟨wo, hwo⟩ : ∃ wo : World, wo = wq.iterAt w.heap.size u (pos + (Utf8.decode u pos).2) := ⟨_, rfl⟩
        rw [← hwo] at hnx hbw2 hit2
        clear hwo
        obtain ⟨g, rfl⟩ : ∃ g, f = g + 1 := ⟨f - 1, by have := HL.out.1; omega⟩
        have hl2 : lastR u = lastFrom u g (pos + (Utf8.decode u pos).2) (Utf8.decode u pos).1 := by rw [HL.out.2, lastFrom, if_pos hp]
        have HL1 := Lib.hid HL.out.1
        obtain ⟨r, hr⟩ : ∃ r : Nat, r = (Utf8.decode u pos).1 := ⟨_, rfl⟩
        obtain ⟨q, hq⟩ : ∃ q : Nat, q = (Utf8.decode u pos).2 := ⟨_, rfl⟩
        rw [← hr] at hnx hl2 hd1
        rw [← hq] at hl2 hit2 hd0
        have HL2 : Hid (u.size - (pos + q) ≤ g ∧ lastR u = lastFrom u g (pos + q) r) := Lib.hid ⟨by have := HL1.out; omega, hl2⟩
        have HI : Hid (wo.heap[w.heap.size]? = some (.stringIter u (pos + q))) := Lib.hid hit2
        have HM2 : Hid (wo.iterPos w.heap.size = pos + q) := Lib.hid (by simp only [World.iterPos, hit2])
        clear hr hq hit hit2 hl2 HL
        go_wp2
        go_roundw
        case rel => exact ⟨pos + q, r, g, rfl, HI.out, hbw2, HL2⟩
        case measure => rw [HP.out, HM2.out]; omega
      · have hnx : ∀ ty, (Instr.next (.pointer (some ⟨w.heap.size, 0, none⟩)) true ty).run Tryz.prog wq = _ := fun ty => Lib.run_next_end_at wq w.heap.size u pos ty hit hp
        have HF : Hid (lastR u = acc) := Lib.hid (by rw [HL.out.2, lastFrom_end _ _ _ _ (by omega)])
        clear hit HL HP
        go_wp2
        go_ret
        exact ⟨ret_int (by rw [HF.out]), hbw⟩

/-! ### Blank, Punct -/
theorem within_nat (r : Nat) : ∀ l : List Nat, withinZ (r : Int) (l.map fun (x : Nat) => (x : Int)) = Spec.within r l
  | [] => rfl
  | [_] => rfl
  | a :: b :: t => by
    rw [List.map_cons, List.map_cons, withinZ, Spec.within, within_nat r t]
    congr 1
    rw [Bool.eq_iff_iff]
    simp
theorem arr_get (l : List Int) (j : Nat) (hj : j < l.length) : (l.map (Value.int .i32)).toArray[j]? = some (.int .i32 (l.getD j 0)) := by
  simp [List.getD, List.getElem?_eq_getElem hj]
def blankZ : List Int := [9, 10, 12, 13, 32, 32, 160, 160, 5760, 5760, 8192, 8202, 8239, 8239, 8287, 8287, 12288, 12288]
def punctZ : List Int := [161, 169, 171, 172, 174, 177, 180, 180, 182, 184, 187, 187, 191, 191, 215, 215, 247, 247, 8208, 8231, 8240, 8286, 8352, 8384, 8592, 11263, 12289, 12291, 12296, 12320]
theorem blankZ_eq (r : Nat) : withinZ (r : Int) blankZ = Spec.blankR r := within_nat r [9, 10, 12, 13, 32, 32, 160, 160, 5760, 5760, 8192, 8202, 8239, 8239, 8287, 8287, 12288, 12288]
set_option maxHeartbeats 4000000 in
set_option maxRecDepth 100000 in
theorem blank_any (r : Nat) (w : World) :
    Calls Tryz.prog 112 #[.int .i32 (r : Int)] w fun e w' => e = .returned (.bool (Spec.blankR r)) ∧ Below w.heap.size w w' := by
  rw [← blankZ_eq]
  generalize (r : Int) = x
  have hW := fun W h => within_any x blankZ w.heap.size 18 18 W rfl (by omega) h
  obtain ⟨b, hb⟩ : ∃ b, b = withinZ x blankZ := ⟨_, rfl⟩
  rw [← hb] at hW ⊢
  clear hb
  go_enter Tryz.func112, Tryz.ntmps112
  go_wp2_with fail
  refine (hW _ (fun j hj => cell_fresh w _ _ j _ ?_)).mono ?_
  · exact arr_get blankZ j hj
  rintro e w1 ⟨rfl, rfl⟩
  go_wp2
  go_ret
  exact ⟨rfl, (Below.refl _ w).alloc (Nat.le_refl _) _⟩
theorem punctZ_eq (r : Nat) (h : ¬ r < 128) : withinZ (r : Int) punctZ = Spec.punctR r := by
  unfold Spec.punctR
  rw [if_neg h]
  exact within_nat r [161, 169, 171, 172, 174, 177, 180, 180, 182, 184, 187, 187, 191, 191, 215, 215, 247, 247, 8208, 8231, 8240, 8286, 8352, 8384, 8592, 11263, 12289, 12291, 12296, 12320]
set_option maxHeartbeats 4000000 in
set_option maxRecDepth 100000 in
theorem punct_any (r : Nat) (w : World) :
    Calls Tryz.prog 113 #[.int .i32 (r : Int)] w fun e w' => e = .returned (.bool (Spec.punctR r)) ∧ Below w.heap.size w w' := by
  by_cases h : r < 128
  · have hS := fun W => sign_any r.toUInt8 W
    rw [show Spec.sign r.toUInt8 = Spec.punctR r by unfold Spec.punctR; rw [if_pos h]] at hS
    have hx : ((r.toUInt8.toNat : Nat) : Int) = (r : Int) := by
      rw [Nat.toUInt8, UInt8.toNat_ofNat_of_lt' (by show r < 256; omega)]
    rw [hx] at hS
    obtain ⟨x, he⟩ : ∃ x : Int, x = (r : Int) := ⟨_, rfl⟩
    have x0 : 0 ≤ x := by omega
    have x1 : x < 128 := by omega
    rw [← he] at hS ⊢
    clear hx he
    go_enter Tryz.func113, Tryz.ntmps113
    go_wp2_with (go_at_call 92; refine (hS _).mono ?_; rintro e w1 ⟨rfl, hb⟩)
    go_ret
    exact ⟨rfl, hb⟩
  · rw [← punctZ_eq r h]
    obtain ⟨x, he⟩ : ∃ x : Int, x = (r : Int) := ⟨_, rfl⟩
    have x0 : 0 ≤ x := by omega
    have x1 : ¬ x < 128 := by omega
    rw [← he]
    clear he
    have hW := fun W h => within_any x punctZ w.heap.size 30 30 W rfl (by omega) h
    obtain ⟨b, hb⟩ : ∃ b, b = withinZ x punctZ := ⟨_, rfl⟩
    rw [← hb] at hW ⊢
    clear hb
    go_enter Tryz.func113, Tryz.ntmps113
    go_wp2_with fail
    refine (hW _ (fun j hj => cell_fresh w _ _ j _ ?_)).mono ?_
    · exact arr_get punctZ j hj
    rintro e w1 ⟨rfl, rfl⟩
    go_wp2
    go_ret
    exact ⟨rfl, (Below.refl _ w).alloc (Nat.le_refl _) _⟩
end Go.Proofs.YtmplfiflikhpjaaGreatDoor
