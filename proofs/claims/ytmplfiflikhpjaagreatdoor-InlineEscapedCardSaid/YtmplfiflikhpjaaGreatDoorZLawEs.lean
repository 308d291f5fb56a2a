/-
  The law InlineEscaped: it returns true, whatever the text.
-/
import Derived.Test.YtmplfiflikhpjaaGreatDoorV19
import Derived.Test.YtmplfiflikhpjaaGreatDoorV01
namespace Go.Proofs.YtmplfiflikhpjaaGreatDoor
open Go.RowKit

def signI (x : Int) : Prop := ((33 ≤ x ∧ x ≤ 47) ∨ (58 ≤ x ∧ x ≤ 64)) ∨ (91 ≤ x ∧ x ≤ 96) ∨ (123 ≤ x ∧ x ≤ 126)
theorem sign_of (c : UInt8) (h : signI (c.toNat : Int)) : Spec.sign c = true := by
  unfold Spec.sign
  unfold signI at h
  simp only [Bool.or_eq_true, Bool.and_eq_true, decide_eq_true_eq]
  omega
theorem escaped_snoc (l : List UInt8) (i : Nat) (h : i < l.length) : Pl.escaped (l.take (i + 1)) = Pl.escaped (l.take i) ++ [92, l[i]] := by
  rw [List.take_add_one, List.getElem?_eq_getElem h, Option.toList_some]
  unfold Pl.escaped
  rw [List.flatMap_append]
  rfl

set_option maxHeartbeats 32000000 in
set_option maxRecDepth 100000 in
theorem inlineEscaped_law (s : ByteArray) (w : World) (hT : TabsM w) :
    Calls Tryz.prog 8 #[.string s] w fun e w' => e = .returned (.bool true) ∧ Below w.heap.size w w' := by
  by_cases h1 : 200 < s.size
  · have h1i : (200 : Int) < s.size := by omega
    go_enter Tryz.func8, Tryz.ntmps8
    go_wp2
    go_ret
    exact ⟨rfl, Below.refl _ _⟩
  · have h1i : ¬ (200 : Int) < s.size := by omega
    by_cases h0 : 0 < s.size
    · have he := isEmpty_false h0
      have hK := fun W (hb : Below w.heap.size w W) => known_any W (hT.below hb)
      have hP := fun W (hb : Below w.heap.size w W) (t : ByteArray) (ht : t.size ≤ 20000) => parse_any W t ht (hT.below hb)
      have HK := Lib.hid hK
      have HP := Lib.hid hP
      clear hK hT hP
      go_enter Tryz.func8, Tryz.ntmps8
      go_wp2
      go_loopw [3, 4, 5] (fun v3 v4 v5 wr => ∃ (i : Nat) (t : ByteArray), i ≤ s.size ∧ v3 = .string t ∧ v4 = .int .i64 (i : Int) ∧ Hid (Below w.heap.size w wr) ∧ Hid (t.data.toList = Pl.escaped (s.data.toList.take i) ∧ t.size = 2 * i ∧ ∀ j (h : j < s.size), j < i → signI ((s[j]'h).toNat : Int))) (fun _ v4 _ _ => s.size - (intOf v4).toNat)
      case atStart => exact ⟨0, _, Nat.zero_le _, rfl, rfl, Lib.hid (Below.refl _ _), Lib.hid ⟨rfl, rfl, fun j h h2 => absurd h2 (by omega)⟩⟩
      case round =>
        obtain ⟨i, t, hi, rfl, rfl, HB, HD⟩ := hrel
        by_cases hin : i < s.size
        · have hini : (i : Int) < s.size := by omega
          have hcat : ¬ 9223372036854775807 < t.size + 1 := by have := HD.out.2.1; omega
          have hcat2 : ¬ 9223372036854775807 < t.size + 1 + 1 := by have := HD.out.2.1; omega
          have hcv := conv_one wr (s[i]'hin)
          go_upto_region 8 with fail
          generalize hx : ((s[i]'hin).toNat : Int) = x at hcv ⊢
          have HX := Lib.hid hx
          have HB2 := Lib.hid (HB.out.alloc HB.out.size (.cells #[.int .u8 x] 5))
          clear hx
          go_wp2_with fail
          all_goals try (refine (HK.out _ HB.out).mono ?_; rintro e w3 ⟨rfl, hb3⟩; have HB := Lib.hid (HB.out.trans (hb3.mono HB.out.size)); clear hb3; go_wp2; go_ret; exact ⟨rfl, HB.out⟩)
          all_goals
            have hpl : signI x := by
              unfold signI
              first
                | omega
                | (rename_i hh; simp at hh; omega)
            have hN : Hid ((t ++ ⟨#[92]⟩ ++ ⟨#[s[i]'hin]⟩).data.toList = Pl.escaped (s.data.toList.take (i + 1)) ∧ (t ++ ⟨#[92]⟩ ++ ⟨#[s[i]'hin]⟩).size = 2 * (i + 1) ∧ ∀ j (h : j < s.size), j < i + 1 → signI ((s[j]'h).toNat : Int)) := Lib.hid (by
              refine ⟨?_, ?_, fun j h hj => ?_⟩
              · rw [escaped_snoc _ _ (by rw [← Lib.size_eq]; exact hin), ← HD.out.1, ByteArray.data_append, ByteArray.data_append, Array.toList_append, Array.toList_append, List.append_assoc]
                rfl
              · rw [ByteArray.size_append, ByteArray.size_append, HD.out.2.1]
                show 2 * i + 1 + 1 = _
                omega
              · by_cases e : j < i
                · exact HD.out.2.2 j h e
                · obtain rfl : j = i := by omega
                  rw [HX.out]
                  exact hpl)
            clear hpl
            go_roundw
            case rel => exact ⟨i + 1, _, by omega, rfl, by go_num, HB2, hN⟩
            case measure => simp [intOf]; omega
        · have hini : ¬ (i : Int) < s.size := by omega
          obtain rfl : i = s.size := by omega
          have hpp := Pl.parse_escaped s.data.toList (fun e => by rw [Lib.size_eq, e] at h0; simp at h0) (fun c hc => by
            obtain ⟨j, hj⟩ := List.mem_iff_getElem.1 hc
            obtain ⟨hj, rfl⟩ := hj
            rw [← Lib.size_eq] at hj
            exact sign_of _ (HD.out.2.2 j hj hj))
          have hP := HP.out wr HB.out t (by have := HD.out.2.1; omega)
          have ht := HD.out.1
          rw [List.take_of_length_le (by rw [← Lib.size_eq]; exact Nat.le_refl _)] at ht
          rw [ht, hpp] at hP
          clear hpp ht
          go_wp2_with fail
          refine hP.mono ?_
          rintro e w1 ⟨kv, rfl, hk, hb⟩
          have hb2 : Below w1.heap.size w1 (w1.alloc (.cells #[.int .i64 10, .int .i64 0, .bool false, .bool false, .string s, .string ⟨#[]⟩, .string ⟨#[]⟩, .slice none 0 0] 27)) := (Below.refl _ _).alloc (Nat.le_refl _) _
          have hS := same_any (sm_txt s.data.toList) _ _ _ (hk.on hb2) (krep_txt w1 s)
          have hb := HB.out.trans (hb.mono HB.out.size)
          have HB := Lib.hid (hb.trans (hb2.mono hb.size))
          clear hk hb hb2 hP
          go_wp2_with fail
          refine hS.mono ?_
          rintro e w3 ⟨rfl, hb3⟩
          have hK := HK.out w3 (HB.out.trans (hb3.mono HB.out.size))
          have HB := Lib.hid (HB.out.trans (hb3.mono HB.out.size))
          clear hb3 hS
          go_wp2_with fail
          refine hK.mono ?_
          rintro e w4 ⟨rfl, hb4⟩
          have HB := Lib.hid (HB.out.trans (hb4.mono HB.out.size))
          clear hb4 hK
          go_wp2
          go_ret
          exact ⟨rfl, HB.out⟩
    · have he := isEmpty_true h0
      go_enter Tryz.func8, Tryz.ntmps8
      go_wp2
      go_ret
      exact ⟨rfl, Below.refl _ _⟩
end Go.Proofs.YtmplfiflikhpjaaGreatDoor
