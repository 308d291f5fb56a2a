/-
  The law InlineCode: it returns true, whatever its arguments.
-/
import Derived.Test.YtmplfiflikhpjaaGreatDoorV19
import Derived.Test.YtmplfiflikhpjaaGreatDoorV01
import Derived.Test.YtmplfiflikhpjaaGreatDoorV05
namespace Go.Proofs.YtmplfiflikhpjaaGreatDoor
open Go.RowKit

/-- Are the first so many bytes blanks? -/
def allB (l : List UInt8) (i : Nat) : Bool := (l.take i).all (· == 32)
theorem allB_step (l : List UInt8) (i : Nat) (h : i < l.length) : allB l (i + 1) = (allB l i && (l[i] == 32)) := by
  unfold allB
  rw [List.take_add_one, List.getElem?_eq_getElem h, Option.toList_some, List.all_append]
  simp
theorem marks_snoc (i : Nat) : Pl.marksL (i + 1) = Pl.marksL i ++ [96] := by unfold Pl.marksL; rw [List.replicate_succ']
theorem head_at (s : ByteArray) (h : 0 < s.size) : s.data.toList.head? = some (s[0]'h) := by rw [head_cons s h]; rfl
theorem cut_ends (s : ByteArray) (_h : 1 < s.size) : s.extract 1 (s.size - 1) = ⟨((s.data.toList.drop 1).dropLast).toArray⟩ := by
  rw [Lib.extract_eq]
  congr 2
  rw [List.dropLast_eq_take, List.length_drop, ← Lib.size_eq]
/-- What the law wants. -/
theorem want_yes (s : ByteArray) (h : 1 < s.size) (hb : allB s.data.toList s.size = false) (h0 : s[0]'(by omega) = 32) (h1 : s[s.size - 1]'(by omega) = 32) : (⟨(Pl.wanted s.data.toList).toArray⟩ : ByteArray) = s.extract 1 (s.size - 1) := by
  unfold Pl.wanted
  unfold allB at hb
  rw [List.take_of_length_le (by rw [← Lib.size_eq]; exact Nat.le_refl _)] at hb
  rw [if_pos ⟨by rw [← Lib.size_eq]; exact h, by rw [head_at s (by omega), h0], by rw [lastU_at s (by omega), h1], hb⟩, cut_ends s h]
theorem want_no (s : ByteArray) (h : ¬ (1 < s.size ∧ allB s.data.toList s.size = false ∧ ∃ h : 0 < s.size, s[0]'h = 32 ∧ s[s.size - 1]'(by omega) = 32)) : (⟨(Pl.wanted s.data.toList).toArray⟩ : ByteArray) = s := by
  have e : Pl.wanted s.data.toList = s.data.toList := by
    unfold Pl.wanted
    apply if_neg
    rintro ⟨h1, h2, h3, h4⟩
    rw [← Lib.size_eq] at h1
    rw [head_at s (by omega)] at h2
    rw [lastU_at s (by omega)] at h3
    refine h ⟨h1, ?_, by omega, Option.some.inj h2, Option.some.inj h3⟩
    unfold allB
    rw [List.take_of_length_le (by rw [← Lib.size_eq]; exact Nat.le_refl _)]
    exact h4
  rw [e]
theorem code_res {a : List UInt8} {k : Nat} {R : ByteArray} {x j : Nat} (hR : (⟨a.toArray⟩ : ByteArray) = R) (hk : k + 2 * j = x + 2 * j) : codeRes (a, k + 2 * j) = .tuple #[.string R, .int .i64 ((x : Int) + 2 * (j : Int))] := by
  unfold codeRes
  rw [hR, hk]
  rw [show ((x + 2 * j : Nat) : Int) = (x : Int) + 2 * (j : Int) by omega]

set_option maxHeartbeats 32000000 in
set_option maxRecDepth 100000 in
theorem inlineCode_law (s : ByteArray) (n : Int) (w : World) (hn0 : -9223372036854775808 ≤ n) (hn1 : n ≤ 9223372036854775807) (hT : TabsM w) :
    Calls Tryz.prog 9 #[.string s, .int .i64 n] w fun e w' => e = .returned (.bool true) ∧ Below w.heap.size w w' := by
  by_cases hg : ¬ 400 < s.size ∧ 0 < s.size ∧ 1 ≤ n ∧ n ≤ 20
  · obtain ⟨h1, h0, h2, h3⟩ := hg
    obtain ⟨n, rfl⟩ := Int.eq_ofNat_of_zero_le (show 0 ≤ n by omega)
    have h1i : ¬ (400 : Int) < s.size := by omega
    have he := isEmpty_false h0
    have h2i : ¬ (n : Int) < 1 := by omega
    have h3i : ¬ (20 : Int) < n := by omega
    have hK := fun W (hb : Below w.heap.size w W) => known_any W (hT.below hb)
    have hC := fun W (hb : Below w.heap.size w W) (t : ByteArray) (ht : t.size ≤ 100000) => code_any t W ht (hT.below hb)
    have HK := Lib.hid hK
    have HC := Lib.hid hC
    clear hK hC hT hn0 hn1
    go_enter Tryz.func9, Tryz.ntmps9
    go_wp2
    go_loopw [5, 6] (fun v5 v6 wr => ∃ (i : Nat) (bl : Bool), i ≤ s.size ∧ v5 = .bool bl ∧ v6 = .int .i64 (i : Int) ∧ w = wr ∧ Hid (bl = allB s.data.toList i ∧ ∀ j (h : j < s.size), j < i → (s[j]'h) ≠ 96 ∧ (s[j]'h) ≠ 10)) (fun _ v6 _ => s.size - (intOf v6).toNat)
    case atStart => exact ⟨0, true, Nat.zero_le _, rfl, rfl, rfl, Lib.hid ⟨rfl, fun j h h2 => absurd h2 (by omega)⟩⟩
    case round =>
      obtain ⟨i, bl, hi, rfl, rfl, rfl, HD⟩ := hrel
      by_cases hin : i < s.size
      · have hini : (i : Int) < s.size := by omega
        by_cases hc1 : s[i]'hin = 96
        · have e96 : (((s[i]'hin).toNat : Int) == 96) = true := by rw [hc1]; rfl
          clear hc1
          go_wp2_with fail
          refine (HK.out w (Below.refl _ _)).mono ?_
          rintro e w3 ⟨rfl, hb3⟩
          have HB := Lib.hid hb3
          clear hb3
          go_wp2
          go_ret
          exact ⟨rfl, HB.out⟩
        · have e96 : (((s[i]'hin).toNat : Int) == 96) = false := u8_false hc1 rfl
          by_cases hc2 : s[i]'hin = 10
          · have e10 : (((s[i]'hin).toNat : Int) == 10) = true := by rw [hc2]; rfl
            clear hc1 hc2
            go_wp2_with fail
            refine (HK.out w (Below.refl _ _)).mono ?_
            rintro e w3 ⟨rfl, hb3⟩
            have HB := Lib.hid hb3
            clear hb3
            go_wp2
            go_ret
            exact ⟨rfl, HB.out⟩
          · have e10 : (((s[i]'hin).toNat : Int) == 10) = false := u8_false hc2 rfl
            have hstep := allB_step s.data.toList i (by rw [← Lib.size_eq]; exact hin)
            have hall : ∀ j (h : j < s.size), j < i + 1 → (s[j]'h) ≠ 96 ∧ (s[j]'h) ≠ 10 := fun j h hj => by
              by_cases e : j < i
              · exact HD.out.2 j h e
              · obtain rfl : j = i := by omega
                exact ⟨hc1, hc2⟩
            have HS := Lib.hid (And.intro hstep hall)
            clear hc1 hc2 hstep hall
            cases bl with
            | false =>
              have hN : Hid (false = allB s.data.toList (i + 1) ∧ ∀ j (h : j < s.size), j < i + 1 → (s[j]'h) ≠ 96 ∧ (s[j]'h) ≠ 10) := Lib.hid ⟨by rw [HS.out.1, ← HD.out.1]; rfl, HS.out.2⟩
              go_wp2
              go_roundw
              case rel => exact ⟨i + 1, false, by omega, rfl, by go_num, trivial, hN⟩
              case measure => simp [intOf]; omega
            | true =>
              by_cases hc3 : s[i]'hin = 32
              · have e32 : (((s[i]'hin).toNat : Int) == 32) = true := by rw [hc3]; rfl
                have hN : Hid (true = allB s.data.toList (i + 1) ∧ ∀ j (h : j < s.size), j < i + 1 → (s[j]'h) ≠ 96 ∧ (s[j]'h) ≠ 10) := Lib.hid ⟨by rw [HS.out.1, ← HD.out.1]; show true = (true && ((s[i]'hin) == 32)); rw [hc3]; rfl, HS.out.2⟩
                clear hc3
                go_wp2
                go_roundw
                case rel => exact ⟨i + 1, true, by omega, rfl, by go_num, trivial, hN⟩
                case measure => simp [intOf]; omega
              · have e32 : (((s[i]'hin).toNat : Int) == 32) = false := u8_false hc3 rfl
                have hN : Hid (false = allB s.data.toList (i + 1) ∧ ∀ j (h : j < s.size), j < i + 1 → (s[j]'h) ≠ 96 ∧ (s[j]'h) ≠ 10) := Lib.hid ⟨by rw [HS.out.1, ← HD.out.1]; show false = (true && ((s[i]'hin) == 32)); rw [beq_eq_false_iff_ne.2 hc3]; rfl, HS.out.2⟩
                clear hc3
                go_wp2
                go_roundw
                case rel => exact ⟨i + 1, false, by omega, rfl, by go_num, trivial, hN⟩
                case measure => simp [intOf]; omega
      · have hini : ¬ (i : Int) < s.size := by omega
        obtain rfl : i = s.size := by omega
        have hlist : ∀ c ∈ s.data.toList, c ≠ 96 ∧ c ≠ 10 := fun c hc => by
          obtain ⟨j, hj⟩ := List.mem_iff_getElem.1 hc
          obtain ⟨hj, rfl⟩ := hj
          rw [← Lib.size_eq] at hj
          exact HD.out.2 j hj hj
        have HL := Lib.hid hlist
        clear hlist
        go_wp2
        go_loopw [7, 8] (fun v7 v8 wr => ∃ (j : Nat) (f : ByteArray), j ≤ n ∧ v7 = .string f ∧ v8 = .int .i64 (j : Int) ∧ w = wr ∧ Hid (f.data.toList = Pl.marksL j ∧ f.size = j)) (fun _ v8 _ => n - (intOf v8).toNat)
        case atStart => exact ⟨0, _, Nat.zero_le _, rfl, rfl, rfl, Lib.hid ⟨rfl, rfl⟩⟩
        case round =>
          obtain ⟨j, f, hj, rfl, rfl, rfl, HF⟩ := hrel
          have zf := HF.out.2
          by_cases hjn : j < n
          · have hjni : (j : Int) < n := by omega
            have hcat : ¬ 9223372036854775807 < f.size + 1 := by omega
            have hN : Hid ((f ++ ⟨#[96]⟩).data.toList = Pl.marksL (j + 1) ∧ (f ++ ⟨#[96]⟩).size = j + 1) := Lib.hid (by
              refine ⟨?_, ?_⟩
              · rw [ByteArray.data_append, Array.toList_append, HF.out.1, marks_snoc]
              · rw [ByteArray.size_append, zf]; rfl)
            clear zf
            go_wp2
            go_roundw
            case rel => exact ⟨j + 1, _, by omega, rfl, by go_num, trivial, hN⟩
            case measure => simp [intOf]; omega
          · have hjni : ¬ (j : Int) < n := by omega
            obtain rfl : j = n := by omega
            have hcase : (bl = false ∧ ∃ h : 1 < s.size, s[0]'(by omega) = 32 ∧ s[s.size - 1]'(by omega) = 32) ∨ (bl = true ∨ (bl = false ∧ ¬ 1 < s.size) ∨ (bl = false ∧ ∃ h : 1 < s.size, s[0]'(by omega) ≠ 32) ∨ (bl = false ∧ ∃ h : 1 < s.size, s[0]'(by omega) = 32 ∧ s[s.size - 1]'(by omega) ≠ 32)) := by
              cases bl with
              | true => exact .inr (.inl rfl)
              | false =>
                by_cases q1 : 1 < s.size
                · by_cases q2 : s[0]'(by omega) = 32
                  · by_cases q3 : s[s.size - 1]'(by omega) = 32
                    · exact .inl ⟨rfl, q1, q2, q3⟩
                    · exact .inr (.inr (.inr (.inr ⟨rfl, q1, q2, q3⟩)))
                  · exact .inr (.inr (.inr (.inl ⟨rfl, q1, q2⟩)))
                · exact .inr (.inr (.inl ⟨rfl, q1⟩))
            have hs0 : s.data.toList ≠ [] := fun e => by rw [Lib.size_eq, e] at h0; simp at h0
            have hcf := Pl.code_found j (by omega) s.data.toList [120] hs0 (fun c hc => (HL.out c hc).1) (fun c hc => (HL.out c hc).2) (by decide)
            have hcl := Pl.code_lost j (by omega) s.data.toList hs0 (fun c hc => (HL.out c hc).1)
            have hx1 : (f ++ s ++ f ++ ⟨#[120]⟩).data.toList = Pl.marksL j ++ s.data.toList ++ (Pl.marksL j ++ [120]) := by
              rw [ByteArray.data_append, ByteArray.data_append, ByteArray.data_append, Array.toList_append, Array.toList_append, Array.toList_append, HF.out.1, List.append_assoc, List.append_assoc]
            have hx2 : (f ++ s ++ f ++ ⟨#[96]⟩).data.toList = Pl.marksL j ++ s.data.toList ++ Pl.marksL (j + 1) := by
              rw [ByteArray.data_append, ByteArray.data_append, ByteArray.data_append, Array.toList_append, Array.toList_append, Array.toList_append, HF.out.1, marks_snoc, List.append_assoc, List.append_assoc]
            have hz1 : (f ++ s ++ f ++ ⟨#[120]⟩).size ≤ 100000 := by rw [ByteArray.size_append, ByteArray.size_append, ByteArray.size_append]; show f.size + s.size + f.size + 1 ≤ _; omega
            have hz2 : (f ++ s ++ f ++ ⟨#[96]⟩).size ≤ 100000 := by rw [ByteArray.size_append, ByteArray.size_append, ByteArray.size_append]; show f.size + s.size + f.size + 1 ≤ _; omega
            have hcat1 : ¬ 9223372036854775807 < f.size + s.size := by omega
            have hcat2 : ¬ 9223372036854775807 < f.size + s.size + f.size := by omega
            have hcat3 : ¬ 9223372036854775807 < f.size + s.size + f.size + 1 := by omega
            have hjk : s.data.toList.length + 2 * j = s.size + 2 * j := by rw [Lib.size_eq]
            have s1 : IntKind.i64.wrap (2 * (j : Int)) = 2 * (j : Int) := IntWalk.i64_in _ (by omega)
            have s2 : IntKind.i64.wrap ((s.size : Int) + 2 * (j : Int)) = (s.size : Int) + 2 * (j : Int) := IntWalk.i64_in _ (by omega)
            have hbl := HD.out.1
            have hl1 : s.size - 1 < s.size := by omega
            clear zf hs0
            rcases hcase with ⟨rfl, q1, q2, q3⟩ | hcase
            · have hR := want_yes s q1 hbl.symm q2 q3
              have q1i : (1 : Int) < s.size := by omega
              have e0 := u8_true q2 (x := 32) rfl
              have e1 := u8_true q3 (x := 32) rfl
              have hidx : ∀ W, (Instr.index 9 (.string s) (.int .i64 ((s.size : Int) - 1))).run Tryz.prog W = .ok (.int .u8 ((s[s.size - 1]'hl1).toNat : Int)) W := fun W => by
                have e : ((s.size : Int) - 1) = ((s.size - 1 : Nat) : Int) := by omega
                rw [e]
                go_simp
              obtain ⟨V, hV⟩ : ∃ V : ByteArray, V = s.extract 1 (s.size - 1) := ⟨_, rfl⟩
              have hslV : ∀ W, (Instr.slice 9 (.string s) (some (.int .i64 1)) (some (.int .i64 ((s.size : Int) - 1))) none).run Tryz.prog W = .ok (.string V) W := by
                rw [hV]; exact slice_mid s 1 (s.size - 1) ((s.size : Int) - 1) (by omega) (by omega) (by omega)
              rw [← hV] at hR
              clear hV hbl q2 q3
              have hC1 := HC.out w (Below.refl _ _) (f ++ s ++ f ++ ⟨#[120]⟩) hz1
              rw [hx1, hcf, show codeRes (Pl.wanted s.data.toList, s.data.toList.length + 2 * j) = .tuple #[.string V, .int .i64 ((s.size : Int) + 2 * (j : Int))] from code_res hR hjk] at hC1
              have HX2 := Lib.hid (And.intro hx2 (And.intro hcl hz2))
              clear hx1 hx2 hcf hcl hR hjk hz1 hz2
              go_wp2_with fail
              refine hC1.mono ?_
              rintro e w1 ⟨rfl, hb1⟩
              have hC2 := HC.out w1 hb1 (f ++ s ++ f ++ ⟨#[96]⟩) HX2.out.2.2
              obtain ⟨c2, hc2⟩ : ∃ c2, c2 = Spec.code (f ++ s ++ f ++ ⟨#[96]⟩).data.toList := ⟨_, rfl⟩
              have hc20 : c2.2 = 0 := by rw [hc2, HX2.out.1]; exact HX2.out.2.1
              rw [← hc2] at hC2
              obtain ⟨ca, cb⟩ := c2
              obtain rfl : cb = 0 := hc20
              unfold codeRes at hC2
              have HB1 := Lib.hid hb1
              clear hC1 hb1 hc2
              go_wp2_with fail
              refine hC2.mono ?_
              rintro e w2 ⟨rfl, hb2⟩
              have HB := Lib.hid (HB1.out.trans (hb2.mono HB1.out.size))
              have hK := HK.out w2 HB.out
              clear hb2 hC2
              go_wp2_with fail
              refine hK.mono ?_
              rintro e w3 ⟨rfl, hb3⟩
              have HB := Lib.hid (HB.out.trans (hb3.mono HB.out.size))
              clear hb3 hK
              go_wp2
              go_ret
              exact ⟨rfl, HB.out⟩
            · have hR := want_no s (fun ⟨q1, q2, q3, q4, q5⟩ => by
                rcases hcase with rfl | ⟨rfl, h⟩ | ⟨rfl, h, h'⟩ | ⟨rfl, h, h', h''⟩
                · rw [q2] at hbl; cases hbl
                · exact h q1
                · exact h' q4
                · exact h'' q5)
              rcases hcase with rfl | ⟨rfl, q1⟩ | ⟨rfl, q1, q2⟩ | ⟨rfl, q1, q2, q3⟩
              · clear hbl
                have hC1 := HC.out w (Below.refl _ _) (f ++ s ++ f ++ ⟨#[120]⟩) hz1
                rw [hx1, hcf, show codeRes (Pl.wanted s.data.toList, s.data.toList.length + 2 * j) = .tuple #[.string s, .int .i64 ((s.size : Int) + 2 * (j : Int))] from code_res hR hjk] at hC1
                have HX2 := Lib.hid (And.intro hx2 (And.intro hcl hz2))
                clear hx1 hx2 hcf hcl hR hjk hz1 hz2
                go_wp2_with fail
                refine hC1.mono ?_
                rintro e w1 ⟨rfl, hb1⟩
                have hC2 := HC.out w1 hb1 (f ++ s ++ f ++ ⟨#[96]⟩) HX2.out.2.2
                obtain ⟨c2, hc2⟩ : ∃ c2, c2 = Spec.code (f ++ s ++ f ++ ⟨#[96]⟩).data.toList := ⟨_, rfl⟩
                have hc20 : c2.2 = 0 := by rw [hc2, HX2.out.1]; exact HX2.out.2.1
                rw [← hc2] at hC2
                obtain ⟨ca, cb⟩ := c2
                obtain rfl : cb = 0 := hc20
                unfold codeRes at hC2
                have HB1 := Lib.hid hb1
                clear hC1 hb1 hc2
                go_wp2_with fail
                refine hC2.mono ?_
                rintro e w2 ⟨rfl, hb2⟩
                have HB := Lib.hid (HB1.out.trans (hb2.mono HB1.out.size))
                have hK := HK.out w2 HB.out
                clear hb2 hC2
                go_wp2_with fail
                refine hK.mono ?_
                rintro e w3 ⟨rfl, hb3⟩
                have HB := Lib.hid (HB.out.trans (hb3.mono HB.out.size))
                clear hb3 hK
                go_wp2
                go_ret
                exact ⟨rfl, HB.out⟩
              · have q1i : ¬ (1 : Int) < s.size := by omega
                clear hbl
                have hC1 := HC.out w (Below.refl _ _) (f ++ s ++ f ++ ⟨#[120]⟩) hz1
                rw [hx1, hcf, show codeRes (Pl.wanted s.data.toList, s.data.toList.length + 2 * j) = .tuple #[.string s, .int .i64 ((s.size : Int) + 2 * (j : Int))] from code_res hR hjk] at hC1
                have HX2 := Lib.hid (And.intro hx2 (And.intro hcl hz2))
                clear hx1 hx2 hcf hcl hR hjk hz1 hz2
                go_wp2_with fail
                refine hC1.mono ?_
                rintro e w1 ⟨rfl, hb1⟩
                have hC2 := HC.out w1 hb1 (f ++ s ++ f ++ ⟨#[96]⟩) HX2.out.2.2
                obtain ⟨c2, hc2⟩ : ∃ c2, c2 = Spec.code (f ++ s ++ f ++ ⟨#[96]⟩).data.toList := ⟨_, rfl⟩
                have hc20 : c2.2 = 0 := by rw [hc2, HX2.out.1]; exact HX2.out.2.1
                rw [← hc2] at hC2
                obtain ⟨ca, cb⟩ := c2
                obtain rfl : cb = 0 := hc20
                unfold codeRes at hC2
                have HB1 := Lib.hid hb1
                clear hC1 hb1 hc2
                go_wp2_with fail
                refine hC2.mono ?_
                rintro e w2 ⟨rfl, hb2⟩
                have HB := Lib.hid (HB1.out.trans (hb2.mono HB1.out.size))
                have hK := HK.out w2 HB.out
                clear hb2 hC2
                go_wp2_with fail
                refine hK.mono ?_
                rintro e w3 ⟨rfl, hb3⟩
                have HB := Lib.hid (HB.out.trans (hb3.mono HB.out.size))
                clear hb3 hK
                go_wp2
                go_ret
                exact ⟨rfl, HB.out⟩
              · have q1i : (1 : Int) < s.size := by omega
                have e0 := u8_false q2 (x := 32) rfl
                clear hbl q2
                have hC1 := HC.out w (Below.refl _ _) (f ++ s ++ f ++ ⟨#[120]⟩) hz1
                rw [hx1, hcf, show codeRes (Pl.wanted s.data.toList, s.data.toList.length + 2 * j) = .tuple #[.string s, .int .i64 ((s.size : Int) + 2 * (j : Int))] from code_res hR hjk] at hC1
                have HX2 := Lib.hid (And.intro hx2 (And.intro hcl hz2))
                clear hx1 hx2 hcf hcl hR hjk hz1 hz2
                go_wp2_with fail
                refine hC1.mono ?_
                rintro e w1 ⟨rfl, hb1⟩
                have hC2 := HC.out w1 hb1 (f ++ s ++ f ++ ⟨#[96]⟩) HX2.out.2.2
                obtain ⟨c2, hc2⟩ : ∃ c2, c2 = Spec.code (f ++ s ++ f ++ ⟨#[96]⟩).data.toList := ⟨_, rfl⟩
                have hc20 : c2.2 = 0 := by rw [hc2, HX2.out.1]; exact HX2.out.2.1
                rw [← hc2] at hC2
                obtain ⟨ca, cb⟩ := c2
                obtain rfl : cb = 0 := hc20
                unfold codeRes at hC2
                have HB1 := Lib.hid hb1
                clear hC1 hb1 hc2
                go_wp2_with fail
                refine hC2.mono ?_
                rintro e w2 ⟨rfl, hb2⟩
                have HB := Lib.hid (HB1.out.trans (hb2.mono HB1.out.size))
                have hK := HK.out w2 HB.out
                clear hb2 hC2
                go_wp2_with fail
                refine hK.mono ?_
                rintro e w3 ⟨rfl, hb3⟩
                have HB := Lib.hid (HB.out.trans (hb3.mono HB.out.size))
                clear hb3 hK
                go_wp2
                go_ret
                exact ⟨rfl, HB.out⟩
              · have q1i : (1 : Int) < s.size := by omega
                have e0 := u8_true q2 (x := 32) rfl
                have e1 := u8_false q3 (x := 32) rfl
                have hidx : ∀ W, (Instr.index 9 (.string s) (.int .i64 ((s.size : Int) - 1))).run Tryz.prog W = .ok (.int .u8 ((s[s.size - 1]'hl1).toNat : Int)) W := fun W => by
                  have e : ((s.size : Int) - 1) = ((s.size - 1 : Nat) : Int) := by omega
                  rw [e]
                  go_simp
                clear hbl q2 q3
                have hC1 := HC.out w (Below.refl _ _) (f ++ s ++ f ++ ⟨#[120]⟩) hz1
                rw [hx1, hcf, show codeRes (Pl.wanted s.data.toList, s.data.toList.length + 2 * j) = .tuple #[.string s, .int .i64 ((s.size : Int) + 2 * (j : Int))] from code_res hR hjk] at hC1
                have HX2 := Lib.hid (And.intro hx2 (And.intro hcl hz2))
                clear hx1 hx2 hcf hcl hR hjk hz1 hz2
                go_wp2_with fail
                refine hC1.mono ?_
                rintro e w1 ⟨rfl, hb1⟩
                have hC2 := HC.out w1 hb1 (f ++ s ++ f ++ ⟨#[96]⟩) HX2.out.2.2
                obtain ⟨c2, hc2⟩ : ∃ c2, c2 = Spec.code (f ++ s ++ f ++ ⟨#[96]⟩).data.toList := ⟨_, rfl⟩
                have hc20 : c2.2 = 0 := by rw [hc2, HX2.out.1]; exact HX2.out.2.1
                rw [← hc2] at hC2
                obtain ⟨ca, cb⟩ := c2
                obtain rfl : cb = 0 := hc20
                unfold codeRes at hC2
                have HB1 := Lib.hid hb1
                clear hC1 hb1 hc2
                go_wp2_with fail
                refine hC2.mono ?_
                rintro e w2 ⟨rfl, hb2⟩
                have HB := Lib.hid (HB1.out.trans (hb2.mono HB1.out.size))
                have hK := HK.out w2 HB.out
                clear hb2 hC2
                go_wp2_with fail
                refine hK.mono ?_
                rintro e w3 ⟨rfl, hb3⟩
                have HB := Lib.hid (HB.out.trans (hb3.mono HB.out.size))
                clear hb3 hK
                go_wp2
                go_ret
                exact ⟨rfl, HB.out⟩
  · have hcases : 400 < s.size ∨ (¬ 400 < s.size ∧ ¬ 0 < s.size) ∨ (¬ 400 < s.size ∧ 0 < s.size ∧ n < 1) ∨ (¬ 400 < s.size ∧ 0 < s.size ∧ ¬ n < 1 ∧ 20 < n) := by omega
    clear hg
    rcases hcases with g1 | ⟨g1, g2⟩ | ⟨g1, g2, g3⟩ | ⟨g1, g2, g3, g4⟩
    · have g1i : (400 : Int) < s.size := by omega
      go_enter Tryz.func9, Tryz.ntmps9
      go_wp2
      go_ret
      exact ⟨rfl, Below.refl _ _⟩
    · have g1i : ¬ (400 : Int) < s.size := by omega
      have he := isEmpty_true g2
      go_enter Tryz.func9, Tryz.ntmps9
      go_wp2
      go_ret
      exact ⟨rfl, Below.refl _ _⟩
    · have g1i : ¬ (400 : Int) < s.size := by omega
      have he := isEmpty_false g2
      go_enter Tryz.func9, Tryz.ntmps9
      go_wp2
      go_ret
      exact ⟨rfl, Below.refl _ _⟩
    · have g1i : ¬ (400 : Int) < s.size := by omega
      have he := isEmpty_false g2
      go_enter Tryz.func9, Tryz.ntmps9
      go_wp2
      go_ret
      exact ⟨rfl, Below.refl _ _⟩
end Go.Proofs.YtmplfiflikhpjaaGreatDoor
