/-
  The law InlineBreaks: it returns true, whatever its arguments.
-/
import Derived.Test.YtmplfiflikhpjaaGreatDoorV19
namespace Go.Proofs.YtmplfiflikhpjaaGreatDoor
open Go.RowKit

theorem blanks_snoc (i : Nat) : Pl.blanksL (i + 1) = Pl.blanksL i ++ [32] := by unfold Pl.blanksL; rw [List.replicate_succ']
theorem plainw_ne {s : ByteArray} (h : PlainW s) : s.data.toList ≠ [] := fun e => by
  have := h.pos
  rw [Lib.size_eq, e] at this
  simp at this
theorem plainw_wordy {s : ByteArray} (h : PlainW s) : ∀ c ∈ s.data.toList, Pl.Wordy c := fun c hc => by
  obtain ⟨j, hj⟩ := List.mem_iff_getElem.1 hc
  obtain ⟨hj, rfl⟩ := hj
  rw [← Lib.size_eq] at hj
  exact wordy_of _ (h.all j hj)
/-- Three nodes, as they are laid. -/
def lit3 (a : ByteArray) (kd : Nat) (b : ByteArray) : Array Value :=
  #[.int .i64 10, .int .i64 0, .bool false, .bool false, .string a, .string ⟨#[]⟩, .string ⟨#[]⟩, .slice none 0 0, .int .i64 (kd : Int), .int .i64 0, .bool false, .bool false, .string ⟨#[]⟩, .string ⟨#[]⟩, .string ⟨#[]⟩, .slice none 0 0, .int .i64 10, .int .i64 0, .bool false, .bool false, .string b, .string ⟨#[]⟩, .string ⟨#[]⟩, .slice none 0 0]
theorem nodeCells_txt (t : ByteArray) : nodeCells (Spec.txt t.data.toList) (.slice none 0 0) = [.int .i64 10, .int .i64 0, .bool false, .bool false, .string t, .string ⟨#[]⟩, .string ⟨#[]⟩, .slice none 0 0] := by
  unfold nodeCells Spec.txt
  rw [show (⟨(Spec.Node.mk 10 t.data.toList [] [] []).text.toArray⟩ : ByteArray) = t from str_eq rfl]
  rfl
theorem lit3_cells (a : ByteArray) (kd : Nat) (b : ByteArray) : (lit3 a kd b).toList = [Spec.txt a.data.toList, .mk kd [] [] [] [], Spec.txt b.data.toList].flatMap fun k => nodeCells k (.slice none 0 0) := by
  simp only [List.flatMap_cons, List.flatMap_nil, nodeCells_txt]
  rfl

set_option maxHeartbeats 32000000 in
set_option maxRecDepth 100000 in
theorem breaksT (a b : ByteArray) (n m : Nat) (hn : n ≤ 20) (hm : m ≤ 20) (w : World) (hsa : a.size ≤ 140737488351232) (hsb : b.size ≤ 140737488351232) (hT : TabsM w) :
    Calls Tryz.prog 11 #[.string a, .int .i64 (n : Int), .bool true, .int .i64 (m : Int), .string b] w fun e w' => e = .returned (.bool true) ∧ Below w.heap.size w w' := by
  have hK := fun W (hb : Below w.heap.size w W) => known_any W (hT.below hb)
  have hP := fun W (hb : Below w.heap.size w W) (t : ByteArray) (ht : t.size ≤ 20000) => parse_any W t ht (hT.below hb)
  have HK := Lib.hid hK
  have HP := Lib.hid hP
  clear hK hT hP
  have q1 : ¬ (n : Int) < 0 := by omega
  have q2 : ¬ (20 : Int) < (n : Int) := by omega
  have q3 : ¬ (m : Int) < 0 := by omega
  have q4 : ¬ (20 : Int) < (m : Int) := by omega
  go_enter Tryz.func11, Tryz.ntmps11
  go_wp2_with fail
  refine (plainL_any a w hsa).mono ?_
  rintro e w1 ⟨ba, rfl, rfl, hwa⟩
  cases ba with
  | false =>
    clear hwa
    go_wp2_with fail
    refine (HK.out w (Below.refl _ _)).mono ?_
    rintro e w3 ⟨rfl, hb3⟩
    have HB := Lib.hid hb3
    clear hb3
    go_wp2
    go_ret
    exact ⟨rfl, HB.out⟩
  | true =>
    have HWA := Lib.hid (hwa rfl)
    clear hwa
    go_wp2_with fail
    refine (plainL_any b w hsb).mono ?_
    rintro e w1 ⟨bb, rfl, rfl, hwb⟩
    cases bb with
    | false =>
      clear hwb
      go_wp2_with fail
      refine (HK.out w (Below.refl _ _)).mono ?_
      rintro e w3 ⟨rfl, hb3⟩
      have HB := Lib.hid hb3
      clear hb3
      go_wp2
      go_ret
      exact ⟨rfl, HB.out⟩
    | true =>
      have HWB := Lib.hid (hwb rfl)
      clear hwb
      have za : a.size < 60 := HWA.out.lt
      have zb : b.size < 60 := HWB.out.lt
      clear hsa hsb
      go_wp2
      go_loopw [11, 13] (fun v11 v13 wr => ∃ (i : Nat) (t : ByteArray), i ≤ n ∧ v11 = .string t ∧ v13 = .int .i64 (i : Int) ∧ w = wr ∧ Hid (t.data.toList = a.data.toList ++ Pl.blanksL i ∧ t.size = a.size + i)) (fun _ v13 _ => n - (intOf v13).toNat)
      case atStart => exact ⟨0, _, Nat.zero_le _, rfl, rfl, rfl, Lib.hid ⟨by simp [Pl.blanksL], rfl⟩⟩
      case round =>
        obtain ⟨i, t, hi, rfl, rfl, rfl, HT⟩ := hrel
        have zt := HT.out.2
        have hcat : ¬ 9223372036854775807 < t.size + 1 := by omega
        by_cases hin : i < n
        · have hini : (i : Int) < n := by omega
          have hN : Hid ((t ++ ⟨#[32]⟩).data.toList = a.data.toList ++ Pl.blanksL (i + 1) ∧ (t ++ ⟨#[32]⟩).size = a.size + (i + 1)) := Lib.hid (by
            refine ⟨?_, ?_⟩
            · rw [ByteArray.data_append, Array.toList_append, HT.out.1, blanks_snoc, List.append_assoc]
            · rw [ByteArray.size_append, zt]; rfl)
          clear zt
          go_wp2
          go_roundw
          case rel => exact ⟨i + 1, _, by omega, rfl, by go_num, trivial, hN⟩
          case measure => simp [intOf]; omega
        · have hini : ¬ (i : Int) < n := by omega
          obtain rfl : i = n := by omega
          have hcat1 : ¬ 9223372036854775807 < t.size + 1 + 1 := by omega
          obtain ⟨tz, htz⟩ : ∃ tz, tz = t.size := ⟨_, rfl⟩
          clear zt
          go_wp2
          go_loopw [11, 15] (fun v11 v15 wr => ∃ (j : Nat) (t2 : ByteArray), j ≤ m ∧ v11 = .string t2 ∧ v15 = .int .i64 (j : Int) ∧ w = wr ∧ Hid (t2.data.toList = (a.data.toList ++ Pl.blanksL i) ++ (92 :: 10 :: Pl.blanksL j) ∧ t2.size = a.size + i + 2 + j)) (fun _ v15 _ => m - (intOf v15).toNat)
          case atStart => exact ⟨0, _, Nat.zero_le _, rfl, rfl, rfl, Lib.hid ⟨by rw [ByteArray.data_append, ByteArray.data_append, Array.toList_append, Array.toList_append, HT.out.1, List.append_assoc]; rfl, by rw [ByteArray.size_append, ByteArray.size_append, HT.out.2]; rfl⟩⟩
          case round =>
            obtain ⟨j, t2, hj, rfl, rfl, rfl, HT2⟩ := hrel
            have zt2 := HT2.out.2
            have hcat2 : ¬ 9223372036854775807 < t2.size + 1 := by omega
            by_cases hjn : j < m
            · have hjni : (j : Int) < m := by omega
              have hN : Hid ((t2 ++ ⟨#[32]⟩).data.toList = (a.data.toList ++ Pl.blanksL i) ++ (92 :: 10 :: Pl.blanksL (j + 1)) ∧ (t2 ++ ⟨#[32]⟩).size = a.size + i + 2 + (j + 1)) := Lib.hid (by
                refine ⟨?_, ?_⟩
                · rw [ByteArray.data_append, Array.toList_append, HT2.out.1, blanks_snoc]
                  simp
                · rw [ByteArray.size_append, zt2]; rfl)
              clear zt2
              go_wp2
              go_roundw
              case rel => exact ⟨j + 1, _, by omega, rfl, by go_num, trivial, hN⟩
              case measure => simp [intOf]; omega
            · have hjni : ¬ (j : Int) < m := by omega
              obtain rfl : j = m := by omega
              have hcat3 : ¬ 9223372036854775807 < t2.size + b.size := by omega
              have hz : (t2 ++ b).size ≤ 20000 := by rw [ByteArray.size_append]; omega
              have hP := HP.out w (Below.refl _ _) (t2 ++ b) hz
              have hx : (t2 ++ b).data.toList = (a.data.toList ++ Pl.blanksL i) ++ (92 :: 10 :: (Pl.blanksL j ++ b.data.toList)) := by
                rw [ByteArray.data_append, Array.toList_append, HT2.out.1]
                simp
              have hpp := (Pl.parse_breaks a.data.toList b.data.toList i j (plainw_ne HWA.out) (plainw_ne HWB.out) (plainw_wordy HWA.out) (plainw_wordy HWB.out)).2
              rw [hx, hpp, ← HT.out.1] at hP
              have hKR := fun W => krep_lits W [Spec.txt t.data.toList, .mk 12 [] [] [] [], Spec.txt b.data.toList] (by intro k hk; simp only [List.mem_cons, List.not_mem_nil, or_false] at hk; rcases hk with rfl | rfl | rfl <;> rfl) (lit3 t 12 b) (lit3_cells _ _ _)
              have hSm := sm_lits [Spec.txt t.data.toList, .mk 12 [] [] [] [], Spec.txt b.data.toList] (show 3 ≤ 1000000 by omega) (by intro k hk; simp only [List.mem_cons, List.not_mem_nil, or_false] at hk; rcases hk with rfl | rfl | rfl <;> rfl)
              have HKR := Lib.hid (And.intro hKR hSm)
              clear hx hpp hKR hSm zt2 hz
              go_wp2_with fail
              refine hP.mono ?_
              rintro e w1 ⟨kv, rfl, hk, hb⟩
              have hb2 : Below w1.heap.size w1 (w1.alloc (.cells (lit3 t 12 b) 27)) := (Below.refl _ _).alloc (Nat.le_refl _) _
              have hS := same_any HKR.out.2 _ _ _ (hk.on hb2) (HKR.out.1 w1)
              have HB := Lib.hid (hb.trans (hb2.mono hb.size))
              clear hk hb hb2 hP
              go_wp2_with fail
              refine hS.mono ?_
              rintro e w3 ⟨rfl, hb3⟩
              have hK := HK.out w3 (HB.out.trans (hb3.mono HB.out.size))
              have HB := Lib.hid (HB.out.trans (hb3.mono HB.out.size))
              clear hb3 hS
              go_wp2_with fail
              refine hK.mono ?_
              rintro e w4 ⟨rfl, hb4⟩
              have HB := Lib.hid (HB.out.trans (hb4.mono HB.out.size))
              clear hb4 hK
              go_wp2
              go_ret
              exact ⟨rfl, HB.out⟩
set_option maxHeartbeats 32000000 in
set_option maxRecDepth 100000 in
theorem breaksF (a b : ByteArray) (n m : Nat) (hn : n ≤ 20) (hm : m ≤ 20) (w : World) (kd : Nat) (hkd : kd = if 2 ≤ n then 12 else 11) (hsa : a.size ≤ 140737488351232) (hsb : b.size ≤ 140737488351232) (hT : TabsM w) :
    Calls Tryz.prog 11 #[.string a, .int .i64 (n : Int), .bool false, .int .i64 (m : Int), .string b] w fun e w' => e = .returned (.bool true) ∧ Below w.heap.size w w' := by
  have hK := fun W (hb : Below w.heap.size w W) => known_any W (hT.below hb)
  have hP := fun W (hb : Below w.heap.size w W) (t : ByteArray) (ht : t.size ≤ 20000) => parse_any W t ht (hT.below hb)
  have HK := Lib.hid hK
  have HP := Lib.hid hP
  clear hK hT hP
  have q1 : ¬ (n : Int) < 0 := by omega
  have q2 : ¬ (20 : Int) < (n : Int) := by omega
  have q3 : ¬ (m : Int) < 0 := by omega
  have q4 : ¬ (20 : Int) < (m : Int) := by omega
  by_cases h2 : 2 ≤ n
  · have h2i : (2 : Int) ≤ n := by omega
    obtain rfl : kd = 12 := by rw [hkd, if_pos h2]
    have HKD := Lib.hid hkd
    clear hkd
    go_enter Tryz.func11, Tryz.ntmps11
    go_wp2_with fail
    refine (plainL_any a w hsa).mono ?_
    rintro e w1 ⟨ba, rfl, rfl, hwa⟩
    cases ba with
    | false =>
      clear hwa
      go_wp2_with fail
      refine (HK.out w (Below.refl _ _)).mono ?_
      rintro e w3 ⟨rfl, hb3⟩
      have HB := Lib.hid hb3
      clear hb3
      go_wp2
      go_ret
      exact ⟨rfl, HB.out⟩
    | true =>
      have HWA := Lib.hid (hwa rfl)
      clear hwa
      go_wp2_with fail
      refine (plainL_any b w hsb).mono ?_
      rintro e w1 ⟨bb, rfl, rfl, hwb⟩
      cases bb with
      | false =>
        clear hwb
        go_wp2_with fail
        refine (HK.out w (Below.refl _ _)).mono ?_
        rintro e w3 ⟨rfl, hb3⟩
        have HB := Lib.hid hb3
        clear hb3
        go_wp2
        go_ret
        exact ⟨rfl, HB.out⟩
      | true =>
        have HWB := Lib.hid (hwb rfl)
        clear hwb
        have za : a.size < 60 := HWA.out.lt
        have zb : b.size < 60 := HWB.out.lt
        clear hsa hsb
        go_wp2
        go_loopw [11, 13] (fun v11 v13 wr => ∃ (i : Nat) (t : ByteArray), i ≤ n ∧ v11 = .string t ∧ v13 = .int .i64 (i : Int) ∧ w = wr ∧ Hid (t.data.toList = a.data.toList ++ Pl.blanksL i ∧ t.size = a.size + i)) (fun _ v13 _ => n - (intOf v13).toNat)
        case atStart => exact ⟨0, _, Nat.zero_le _, rfl, rfl, rfl, Lib.hid ⟨by simp [Pl.blanksL], rfl⟩⟩
        case round =>
          obtain ⟨i, t, hi, rfl, rfl, rfl, HT⟩ := hrel
          have zt := HT.out.2
          have hcat : ¬ 9223372036854775807 < t.size + 1 := by omega
          by_cases hin : i < n
          · have hini : (i : Int) < n := by omega
            have hN : Hid ((t ++ ⟨#[32]⟩).data.toList = a.data.toList ++ Pl.blanksL (i + 1) ∧ (t ++ ⟨#[32]⟩).size = a.size + (i + 1)) := Lib.hid (by
              refine ⟨?_, ?_⟩
              · rw [ByteArray.data_append, Array.toList_append, HT.out.1, blanks_snoc, List.append_assoc]
              · rw [ByteArray.size_append, zt]; rfl)
            clear zt
            go_wp2
            go_roundw
            case rel => exact ⟨i + 1, _, by omega, rfl, by go_num, trivial, hN⟩
            case measure => simp [intOf]; omega
          · have hini : ¬ (i : Int) < n := by omega
            obtain rfl : i = n := by omega
            have hcat1 : ¬ 9223372036854775807 < t.size + 1 + 1 := by omega
            obtain ⟨tz, htz⟩ : ∃ tz, tz = t.size := ⟨_, rfl⟩
            clear zt
            go_wp2
            go_loopw [11, 15] (fun v11 v15 wr => ∃ (j : Nat) (t2 : ByteArray), j ≤ m ∧ v11 = .string t2 ∧ v15 = .int .i64 (j : Int) ∧ w = wr ∧ Hid (t2.data.toList = (a.data.toList ++ Pl.blanksL i) ++ (10 :: Pl.blanksL j) ∧ t2.size = a.size + i + 1 + j)) (fun _ v15 _ => m - (intOf v15).toNat)
            case atStart => exact ⟨0, _, Nat.zero_le _, rfl, rfl, rfl, Lib.hid ⟨by rw [ByteArray.data_append, Array.toList_append, HT.out.1]; rfl, by rw [ByteArray.size_append, HT.out.2]; rfl⟩⟩
            case round =>
              obtain ⟨j, t2, hj, rfl, rfl, rfl, HT2⟩ := hrel
              have zt2 := HT2.out.2
              have hcat2 : ¬ 9223372036854775807 < t2.size + 1 := by omega
              by_cases hjn : j < m
              · have hjni : (j : Int) < m := by omega
                have hN : Hid ((t2 ++ ⟨#[32]⟩).data.toList = (a.data.toList ++ Pl.blanksL i) ++ (10 :: Pl.blanksL (j + 1)) ∧ (t2 ++ ⟨#[32]⟩).size = a.size + i + 1 + (j + 1)) := Lib.hid (by
                  refine ⟨?_, ?_⟩
                  · rw [ByteArray.data_append, Array.toList_append, HT2.out.1, blanks_snoc]
                    simp
                  · rw [ByteArray.size_append, zt2]; rfl)
                clear zt2
                go_wp2
                go_roundw
                case rel => exact ⟨j + 1, _, by omega, rfl, by go_num, trivial, hN⟩
                case measure => simp [intOf]; omega
              · have hjni : ¬ (j : Int) < m := by omega
                obtain rfl : j = m := by omega
                have hcat3 : ¬ 9223372036854775807 < t2.size + b.size := by omega
                have hz : (t2 ++ b).size ≤ 20000 := by rw [ByteArray.size_append]; omega
                have hP := HP.out w (Below.refl _ _) (t2 ++ b) hz
                have hx : (t2 ++ b).data.toList = (a.data.toList ++ Pl.blanksL i) ++ (10 :: (Pl.blanksL j ++ b.data.toList)) := by
                  rw [ByteArray.data_append, Array.toList_append, HT2.out.1]
                  simp
                have hpp := (Pl.parse_breaks a.data.toList b.data.toList i j (plainw_ne HWA.out) (plainw_ne HWB.out) (plainw_wordy HWA.out) (plainw_wordy HWB.out)).1
                rw [hx, hpp, ← HKD.out] at hP
                have hKR := fun W => krep_lits W [Spec.txt a.data.toList, .mk 12 [] [] [] [], Spec.txt b.data.toList] (by intro k hk; simp only [List.mem_cons, List.not_mem_nil, or_false] at hk; rcases hk with rfl | rfl | rfl <;> rfl) (lit3 a 12 b) (lit3_cells _ _ _)
                have hSm := sm_lits [Spec.txt a.data.toList, .mk 12 [] [] [] [], Spec.txt b.data.toList] (show 3 ≤ 1000000 by omega) (by intro k hk; simp only [List.mem_cons, List.not_mem_nil, or_false] at hk; rcases hk with rfl | rfl | rfl <;> rfl)
                have HKR := Lib.hid (And.intro hKR hSm)
                clear hx hpp hKR hSm zt2 hz
                go_wp2_with fail
                refine hP.mono ?_
                rintro e w1 ⟨kv, rfl, hk, hb⟩
                have hb2 : Below w1.heap.size w1 (w1.alloc (.cells (lit3 a 12 b) 27)) := (Below.refl _ _).alloc (Nat.le_refl _) _
                have hS := same_any HKR.out.2 _ _ _ (hk.on hb2) (HKR.out.1 w1)
                have HB := Lib.hid (hb.trans (hb2.mono hb.size))
                clear hk hb hb2 hP
                go_wp2_with fail
                refine hS.mono ?_
                rintro e w3 ⟨rfl, hb3⟩
                have hK := HK.out w3 (HB.out.trans (hb3.mono HB.out.size))
                have HB := Lib.hid (HB.out.trans (hb3.mono HB.out.size))
                clear hb3 hS
                go_wp2_with fail
                refine hK.mono ?_
                rintro e w4 ⟨rfl, hb4⟩
                have HB := Lib.hid (HB.out.trans (hb4.mono HB.out.size))
                clear hb4 hK
                go_wp2
                go_ret
                exact ⟨rfl, HB.out⟩
  · have h2i : ¬ (2 : Int) ≤ n := by omega
    obtain rfl : kd = 11 := by rw [hkd, if_neg h2]
    have HKD := Lib.hid hkd
    clear hkd
    go_enter Tryz.func11, Tryz.ntmps11
    go_wp2_with fail
    refine (plainL_any a w hsa).mono ?_
    rintro e w1 ⟨ba, rfl, rfl, hwa⟩
    cases ba with
    | false =>
      clear hwa
      go_wp2_with fail
      refine (HK.out w (Below.refl _ _)).mono ?_
      rintro e w3 ⟨rfl, hb3⟩
      have HB := Lib.hid hb3
      clear hb3
      go_wp2
      go_ret
      exact ⟨rfl, HB.out⟩
    | true =>
      have HWA := Lib.hid (hwa rfl)
      clear hwa
      go_wp2_with fail
      refine (plainL_any b w hsb).mono ?_
      rintro e w1 ⟨bb, rfl, rfl, hwb⟩
      cases bb with
      | false =>
        clear hwb
        go_wp2_with fail
        refine (HK.out w (Below.refl _ _)).mono ?_
        rintro e w3 ⟨rfl, hb3⟩
        have HB := Lib.hid hb3
        clear hb3
        go_wp2
        go_ret
        exact ⟨rfl, HB.out⟩
      | true =>
        have HWB := Lib.hid (hwb rfl)
        clear hwb
        have za : a.size < 60 := HWA.out.lt
        have zb : b.size < 60 := HWB.out.lt
        clear hsa hsb
        go_wp2
        go_loopw [11, 13] (fun v11 v13 wr => ∃ (i : Nat) (t : ByteArray), i ≤ n ∧ v11 = .string t ∧ v13 = .int .i64 (i : Int) ∧ w = wr ∧ Hid (t.data.toList = a.data.toList ++ Pl.blanksL i ∧ t.size = a.size + i)) (fun _ v13 _ => n - (intOf v13).toNat)
        case atStart => exact ⟨0, _, Nat.zero_le _, rfl, rfl, rfl, Lib.hid ⟨by simp [Pl.blanksL], rfl⟩⟩
        case round =>
          obtain ⟨i, t, hi, rfl, rfl, rfl, HT⟩ := hrel
          have zt := HT.out.2
          have hcat : ¬ 9223372036854775807 < t.size + 1 := by omega
          by_cases hin : i < n
          · have hini : (i : Int) < n := by omega
            have hN : Hid ((t ++ ⟨#[32]⟩).data.toList = a.data.toList ++ Pl.blanksL (i + 1) ∧ (t ++ ⟨#[32]⟩).size = a.size + (i + 1)) := Lib.hid (by
              refine ⟨?_, ?_⟩
              · rw [ByteArray.data_append, Array.toList_append, HT.out.1, blanks_snoc, List.append_assoc]
              · rw [ByteArray.size_append, zt]; rfl)
            clear zt
            go_wp2
            go_roundw
            case rel => exact ⟨i + 1, _, by omega, rfl, by go_num, trivial, hN⟩
            case measure => simp [intOf]; omega
          · have hini : ¬ (i : Int) < n := by omega
            obtain rfl : i = n := by omega
            have hcat1 : ¬ 9223372036854775807 < t.size + 1 + 1 := by omega
            obtain ⟨tz, htz⟩ : ∃ tz, tz = t.size := ⟨_, rfl⟩
            clear zt
            go_wp2
            go_loopw [11, 15] (fun v11 v15 wr => ∃ (j : Nat) (t2 : ByteArray), j ≤ m ∧ v11 = .string t2 ∧ v15 = .int .i64 (j : Int) ∧ w = wr ∧ Hid (t2.data.toList = (a.data.toList ++ Pl.blanksL i) ++ (10 :: Pl.blanksL j) ∧ t2.size = a.size + i + 1 + j)) (fun _ v15 _ => m - (intOf v15).toNat)
            case atStart => exact ⟨0, _, Nat.zero_le _, rfl, rfl, rfl, Lib.hid ⟨by rw [ByteArray.data_append, Array.toList_append, HT.out.1]; rfl, by rw [ByteArray.size_append, HT.out.2]; rfl⟩⟩
            case round =>
              obtain ⟨j, t2, hj, rfl, rfl, rfl, HT2⟩ := hrel
              have zt2 := HT2.out.2
              have hcat2 : ¬ 9223372036854775807 < t2.size + 1 := by omega
              by_cases hjn : j < m
              · have hjni : (j : Int) < m := by omega
                have hN : Hid ((t2 ++ ⟨#[32]⟩).data.toList = (a.data.toList ++ Pl.blanksL i) ++ (10 :: Pl.blanksL (j + 1)) ∧ (t2 ++ ⟨#[32]⟩).size = a.size + i + 1 + (j + 1)) := Lib.hid (by
                  refine ⟨?_, ?_⟩
                  · rw [ByteArray.data_append, Array.toList_append, HT2.out.1, blanks_snoc]
                    simp
                  · rw [ByteArray.size_append, zt2]; rfl)
                clear zt2
                go_wp2
                go_roundw
                case rel => exact ⟨j + 1, _, by omega, rfl, by go_num, trivial, hN⟩
                case measure => simp [intOf]; omega
              · have hjni : ¬ (j : Int) < m := by omega
                obtain rfl : j = m := by omega
                have hcat3 : ¬ 9223372036854775807 < t2.size + b.size := by omega
                have hz : (t2 ++ b).size ≤ 20000 := by rw [ByteArray.size_append]; omega
                have hP := HP.out w (Below.refl _ _) (t2 ++ b) hz
                have hx : (t2 ++ b).data.toList = (a.data.toList ++ Pl.blanksL i) ++ (10 :: (Pl.blanksL j ++ b.data.toList)) := by
                  rw [ByteArray.data_append, Array.toList_append, HT2.out.1]
                  simp
                have hpp := (Pl.parse_breaks a.data.toList b.data.toList i j (plainw_ne HWA.out) (plainw_ne HWB.out) (plainw_wordy HWA.out) (plainw_wordy HWB.out)).1
                rw [hx, hpp, ← HKD.out] at hP
                have hKR := fun W => krep_lits W [Spec.txt a.data.toList, .mk 11 [] [] [] [], Spec.txt b.data.toList] (by intro k hk; simp only [List.mem_cons, List.not_mem_nil, or_false] at hk; rcases hk with rfl | rfl | rfl <;> rfl) (lit3 a 11 b) (lit3_cells _ _ _)
                have hSm := sm_lits [Spec.txt a.data.toList, .mk 11 [] [] [] [], Spec.txt b.data.toList] (show 3 ≤ 1000000 by omega) (by intro k hk; simp only [List.mem_cons, List.not_mem_nil, or_false] at hk; rcases hk with rfl | rfl | rfl <;> rfl)
                have HKR := Lib.hid (And.intro hKR hSm)
                clear hx hpp hKR hSm zt2 hz
                go_wp2_with fail
                refine hP.mono ?_
                rintro e w1 ⟨kv, rfl, hk, hb⟩
                have hb2 : Below w1.heap.size w1 (w1.alloc (.cells (lit3 a 11 b) 27)) := (Below.refl _ _).alloc (Nat.le_refl _) _
                have hS := same_any HKR.out.2 _ _ _ (hk.on hb2) (HKR.out.1 w1)
                have HB := Lib.hid (hb.trans (hb2.mono hb.size))
                clear hk hb hb2 hP
                go_wp2_with fail
                refine hS.mono ?_
                rintro e w3 ⟨rfl, hb3⟩
                have hK := HK.out w3 (HB.out.trans (hb3.mono HB.out.size))
                have HB := Lib.hid (HB.out.trans (hb3.mono HB.out.size))
                clear hb3 hS
                go_wp2_with fail
                refine hK.mono ?_
                rintro e w4 ⟨rfl, hb4⟩
                have HB := Lib.hid (HB.out.trans (hb4.mono HB.out.size))
                clear hb4 hK
                go_wp2
                go_ret
                exact ⟨rfl, HB.out⟩
set_option maxHeartbeats 32000000 in
set_option maxRecDepth 100000 in
theorem inlineBreaks_law (a : ByteArray) (n : Int) (o : Bool) (m : Int) (b : ByteArray) (w : World) (hsa : a.size ≤ 140737488351232) (hn0 : -9223372036854775808 ≤ n) (hn1 : n ≤ 9223372036854775807) (hm0 : -9223372036854775808 ≤ m) (hm1 : m ≤ 9223372036854775807) (hsb : b.size ≤ 140737488351232) (hT : TabsM w) :
    Calls Tryz.prog 11 #[.string a, .int .i64 n, .bool o, .int .i64 m, .string b] w fun e w' => e = .returned (.bool true) ∧ Below w.heap.size w w' := by
  by_cases hg : 0 ≤ n ∧ n ≤ 20 ∧ 0 ≤ m ∧ m ≤ 20
  · obtain ⟨n, rfl⟩ := Int.eq_ofNat_of_zero_le hg.1
    obtain ⟨m, rfl⟩ := Int.eq_ofNat_of_zero_le hg.2.2.1
    cases o with
    | true => exact breaksT a b n m (by omega) (by omega) w hsa hsb hT
    | false => exact breaksF a b n m (by omega) (by omega) w _ rfl hsa hsb hT
  · have hK := fun W (hb : Below w.heap.size w W) => known_any W (hT.below hb)
    have HK := Lib.hid hK
    clear hK hT
    go_enter Tryz.func11, Tryz.ntmps11
    go_wp2_with fail
    refine (plainL_any a w hsa).mono ?_
    rintro e w1 ⟨ba, rfl, rfl, hwa⟩
    clear hwa
    cases ba with
    | false =>
      go_wp2_with fail
      refine (HK.out w (Below.refl _ _)).mono ?_
      rintro e w3 ⟨rfl, hb3⟩
      have HB := Lib.hid hb3
      clear hb3
      go_wp2
      go_ret
      exact ⟨rfl, HB.out⟩
    | true =>
      go_wp2_with fail
      refine (plainL_any b w hsb).mono ?_
      rintro e w1 ⟨bb, rfl, rfl, hwb⟩
      clear hwb
      cases bb with
      | false =>
        go_wp2_with fail
        refine (HK.out w (Below.refl _ _)).mono ?_
        rintro e w3 ⟨rfl, hb3⟩
        have HB := Lib.hid hb3
        clear hb3
        go_wp2
        go_ret
        exact ⟨rfl, HB.out⟩
      | true =>
        rcases (show n < 0 ∨ (¬ n < 0 ∧ 20 < n) ∨ (¬ n < 0 ∧ ¬ 20 < n ∧ m < 0) ∨ (¬ n < 0 ∧ ¬ 20 < n ∧ ¬ m < 0 ∧ 20 < m) by omega) with h1 | ⟨h1, h2⟩ | ⟨h1, h2, h3⟩ | ⟨h1, h2, h3, h4⟩
        all_goals
          clear hg
          go_wp2_with fail
          refine (HK.out w (Below.refl _ _)).mono ?_
          rintro e w3 ⟨rfl, hb3⟩
          have HB := Lib.hid hb3
          clear hb3
          go_wp2
          go_ret
          exact ⟨rfl, HB.out⟩
end Go.Proofs.YtmplfiflikhpjaaGreatDoor
