/-
  The law InlinePlain: it returns true, whatever the text.
-/
import Derived.Test.YtmplfiflikhpjaaGreatDoorV19
import Derived.Test.YtmplfiflikhpjaaGreatDoorV01
namespace Go.Proofs.YtmplfiflikhpjaaGreatDoor
open Go.RowKit

def plainI (x : Int) : Prop := (97 ≤ x ∧ x ≤ 122) ∨ (65 ≤ x ∧ x ≤ 90) ∨ (48 ≤ x ∧ x ≤ 57) ∨ x = 32 ∨ 128 ≤ x
theorem dull_of (c : UInt8) (h : plainI (c.toNat : Int)) : Pl.Dull c := by
  unfold Pl.Dull Spec.meant
  simp only [List.contains_eq_mem, decide_eq_false_iff_not, List.mem_cons, List.not_mem_nil, or_false, not_or]
  unfold plainI at h
  refine ⟨?_, ?_, ?_, ?_, ?_, ?_, ?_, ?_, ?_, ?_⟩ <;> (rintro rfl; revert h; decide)

set_option maxHeartbeats 32000000 in
set_option maxRecDepth 100000 in
theorem inlinePlain_law (s : ByteArray) (w : World) (hT : TabsM w) :
    Calls Tryz.prog 7 #[.string s] w fun e w' => e = .returned (.bool true) ∧ Below w.heap.size w w' := by
  by_cases h1 : 400 < s.size
  · have h1i : (400 : Int) < s.size := by omega
    go_enter Tryz.func7, Tryz.ntmps7
    go_wp2
    go_ret
    exact ⟨rfl, Below.refl _ _⟩
  · have h1i : ¬ (400 : Int) < s.size := by omega
    by_cases h0 : 0 < s.size
    · have he := isEmpty_false h0
      have hK := fun W (hb : Below w.heap.size w W) => known_any W (hT.below hb)
      have hP := parse_any w s (by omega) hT
      have HK := Lib.hid hK
      have HT := Lib.hid hT
      clear hK hT
      go_enter Tryz.func7, Tryz.ntmps7
      go_wp2
      go_loopw [3, 4] (fun v3 v4 wr => ∃ i : Nat, i ≤ s.size ∧ v3 = .int .i64 (i : Int) ∧ w = wr ∧ Hid (∀ j (h : j < s.size), j < i → plainI ((s[j]'h).toNat : Int))) (fun v3 _ _ => s.size - (intOf v3).toNat)
      case atStart => exact ⟨0, Nat.zero_le _, rfl, rfl, Lib.hid (fun j h h2 => absurd h2 (by omega))⟩
      case round =>
        obtain ⟨i, hi, rfl, rfl, HD⟩ := hrel
        by_cases hin : i < s.size
        · have hini : (i : Int) < s.size := by omega
          go_upto_region 7 with fail
          generalize hx : ((s[i]'hin).toNat : Int) = x
          have HX := Lib.hid hx
          clear hx hP
          go_wp2_with fail
          all_goals try (refine (HK.out w (Below.refl _ _)).mono ?_; rintro e w3 ⟨rfl, hb3⟩; have HB := Lib.hid hb3; clear hb3; go_wp2; go_ret; exact ⟨rfl, HB.out⟩)
          all_goals
            have hpl : plainI x := by
              unfold plainI
              first
                | omega
                | (rename_i hh; simp at hh; omega)
            have hN : Hid (∀ j (h : j < s.size), j < i + 1 → plainI ((s[j]'h).toNat : Int)) := Lib.hid (fun j h hj => by
              by_cases e : j < i
              · exact HD.out j h e
              · obtain rfl : j = i := by omega
                rw [HX.out]
                exact hpl)
            clear hpl
            go_roundw
            case rel => exact ⟨i + 1, by omega, by go_num, trivial, hN⟩
            case measure => simp [intOf]; omega
        · have hini : ¬ (i : Int) < s.size := by omega
          obtain rfl : i = s.size := by omega
          have hpp := Pl.parse_plain s.data.toList (fun e => by rw [Lib.size_eq, e] at h0; simp at h0) (fun c hc => by
            obtain ⟨j, hj⟩ := List.mem_iff_getElem.1 hc
            obtain ⟨hj, rfl⟩ := hj
            rw [← Lib.size_eq] at hj
            exact dull_of _ (HD.out j hj hj))
          rw [hpp] at hP
          clear hpp
          go_wp2_with fail
          refine hP.mono ?_
          rintro e w1 ⟨kv, rfl, hk, hb⟩
          have hb2 : Below w1.heap.size w1 (w1.alloc (.cells #[.int .i64 10, .int .i64 0, .bool false, .bool false, .string s, .string ⟨#[]⟩, .string ⟨#[]⟩, .slice none 0 0] 27)) := (Below.refl _ _).alloc (Nat.le_refl _) _
          have hS := same_any (sm_txt s.data.toList) _ _ _ (hk.on hb2) (krep_txt w1 s)
          have HB := Lib.hid (hb.trans (hb2.mono hb.size))
          clear hk hb hb2 hP
          go_wp2_with fail
          refine hS.mono ?_
          rintro e w3 ⟨rfl, hb3⟩
          have hK := HK.out w3 (HB.out.trans (hb3.mono HB.out.size))
          have HB := Lib.hid (HB.out.trans (hb3.mono HB.out.size))
          clear hb3 hS
          go_wp2_with fail
          refine hK.mono ?_
          rintro e w4 ⟨rfl, hb4⟩
          have HB := Lib.hid (HB.out.trans (hb4.mono HB.out.size))
          clear hb4 hK
          go_wp2
          go_ret
          exact ⟨rfl, HB.out⟩
    · have he := isEmpty_true h0
      go_enter Tryz.func7, Tryz.ntmps7
      go_wp2
      go_ret
      exact ⟨rfl, Below.refl _ _⟩
end Go.Proofs.YtmplfiflikhpjaaGreatDoor
