/-
  The law InlineDest: it returns true, whatever its arguments.
-/
import Derived.Test.YtmplfiflikhpjaaGreatDoorV19
import Derived.Test.YtmplfiflikhpjaaGreatDoorV01
namespace Go.Proofs.YtmplfiflikhpjaaGreatDoor
open Go.RowKit

def urlI (x : Int) : Prop := (97 ≤ x ∧ x ≤ 122) ∨ (48 ≤ x ∧ x ≤ 57) ∨ x = 47 ∨ x = 58 ∨ x = 46
theorem url_of (c : UInt8) (h : urlI (c.toNat : Int)) : Pl.urlC c := by
  unfold urlI at h
  unfold Pl.urlC
  rcases h with h | h | h | h | h
  · exact .inl ⟨by omega, by omega⟩
  · exact .inr (.inl ⟨by omega, by omega⟩)
  · exact .inr (.inr (.inl (UInt8.toNat_inj.1 (by show c.toNat = 47; omega))))
  · exact .inr (.inr (.inr (.inl (UInt8.toNat_inj.1 (by show c.toNat = 58; omega)))))
  · exact .inr (.inr (.inr (.inr (UInt8.toNat_inj.1 (by show c.toNat = 46; omega)))))
theorem dest_res {u t : ByteArray} {k n : Nat} (h : k = n) : destRes (u.data.toList, t.data.toList, k) = .tuple #[.string u, .string t, .int .i64 (n : Int)] := by
  subst h; rfl
theorem dest_res0 {u : ByteArray} {k n : Nat} (h : k = n + 2) : destRes (u.data.toList, [], k) = .tuple #[.string u, .string ⟨#[]⟩, .int .i64 ((n : Int) + 2)] := by
  subst h; rfl

set_option maxHeartbeats 32000000 in
set_option maxRecDepth 100000 in
theorem inlineDest_law (url title : ByteArray) (o : Bool) (w : World) (hsu : url.size ≤ 140737488351232) (hst : title.size ≤ 140737488351232) (hT : TabsM w) :
    Calls Tryz.prog 10 #[.string url, .string title, .bool o] w fun e w' => e = .returned (.bool true) ∧ Below w.heap.size w w' := by
  by_cases h1 : 200 < url.size + title.size
  · have h1i : (200 : Int) < (url.size : Int) + title.size := by omega
    go_enter Tryz.func10, Tryz.ntmps10
    go_wp2
    go_ret
    exact ⟨rfl, Below.refl _ _⟩
  · have h1i : ¬ (200 : Int) < (url.size : Int) + title.size := by omega
    have hzu : url.size ≤ 200 := by omega
    have hzt : title.size ≤ 200 := by omega
    have hK := fun W (hb : Below w.heap.size w W) => known_any W (hT.below hb)
    have hD := fun W (hb : Below w.heap.size w W) (t : ByteArray) (ht : t.size ≤ 100000) => dest_any t W ht (hT.below hb).tabs
    have HK := Lib.hid hK
    have HD := Lib.hid hD
    clear hK hD hT hsu hst h1
    go_enter Tryz.func10, Tryz.ntmps10
    go_wp2
    go_loopw [7, 8] (fun v7 v8 wr => ∃ i : Nat, i ≤ url.size ∧ v7 = .int .i64 (i : Int) ∧ w = wr ∧ Hid (∀ j (h : j < url.size), j < i → urlI ((url[j]'h).toNat : Int))) (fun v7 _ _ => url.size - (intOf v7).toNat)
    case atStart => exact ⟨0, Nat.zero_le _, rfl, rfl, Lib.hid (fun j h h2 => absurd h2 (by omega))⟩
    case round =>
      obtain ⟨i, hi, rfl, rfl, HU⟩ := hrel
      by_cases hin : i < url.size
      · have hini : (i : Int) < url.size := by omega
        go_upto_region 7 with fail
        generalize hx : ((url[i]'hin).toNat : Int) = x
        have HX := Lib.hid hx
        clear hx
        go_wp2_with fail
        all_goals try (refine (HK.out w (Below.refl _ _)).mono ?_; rintro e w3 ⟨rfl, hb3⟩; have HB := Lib.hid hb3; clear hb3; go_wp2; go_ret; exact ⟨rfl, HB.out⟩)
        all_goals
          have hpl : urlI x := by
            unfold urlI
            first
              | omega
              | (rename_i hh; simp at hh; omega)
          have hN : Hid (∀ j (h : j < url.size), j < i + 1 → urlI ((url[j]'h).toNat : Int)) := Lib.hid (fun j h hj => by
            by_cases e : j < i
            · exact HU.out j h e
            · obtain rfl : j = i := by omega
              rw [HX.out]
              exact hpl)
          clear hpl
          go_roundw
          case rel => exact ⟨i + 1, by omega, by go_num, trivial, hN⟩
          case measure => simp [intOf]; omega
      · have hini : ¬ (i : Int) < url.size := by omega
        obtain rfl : i = url.size := by omega
        have hul : ∀ c ∈ url.data.toList, Pl.urlC c := fun c hc => by
          obtain ⟨j, hj⟩ := List.mem_iff_getElem.1 hc
          obtain ⟨hj, rfl⟩ := hj
          rw [← Lib.size_eq] at hj
          exact url_of _ (HU.out j hj hj)
        have HUL := Lib.hid hul
        clear hul HU
        go_wp2
        go_loopw [9, 10] (fun v9 v10 wr => ∃ j : Nat, j ≤ title.size ∧ v9 = .int .i64 (j : Int) ∧ w = wr ∧ Hid (∀ q (h : q < title.size), q < j → (title[q]'h) ≠ 34 ∧ (title[q]'h) ≠ 92 ∧ (title[q]'h) ≠ 38)) (fun v9 _ _ => title.size - (intOf v9).toNat)
        case atStart => exact ⟨0, Nat.zero_le _, rfl, rfl, Lib.hid (fun j h h2 => absurd h2 (by omega))⟩
        case round =>
          obtain ⟨j, hj, rfl, rfl, HQ⟩ := hrel
          by_cases hjn : j < title.size
          · have hjni : (j : Int) < title.size := by omega
            by_cases c1 : title[j]'hjn = 34 ∨ title[j]'hjn = 92 ∨ title[j]'hjn = 38
            · have hc : (((title[j]'hjn).toNat : Int) == 34) = true ∨ ((((title[j]'hjn).toNat : Int) == 34) = false ∧ (((title[j]'hjn).toNat : Int) == 92) = true) ∨ ((((title[j]'hjn).toNat : Int) == 34) = false ∧ (((title[j]'hjn).toNat : Int) == 92) = false ∧ (((title[j]'hjn).toNat : Int) == 38) = true) := by
                rcases c1 with c | c | c <;> rw [c] <;> decide
              clear c1
              rcases hc with c1 | ⟨c1, c2⟩ | ⟨c1, c2, c3⟩
              all_goals
                go_wp2_with fail
                refine (HK.out w (Below.refl _ _)).mono ?_
                rintro e w3 ⟨rfl, hb3⟩
                have HB := Lib.hid hb3
                clear hb3
                go_wp2
                go_ret
                exact ⟨rfl, HB.out⟩
            · have d1 := u8_false (fun e => c1 (.inl e)) (x := 34) rfl
              have d2 := u8_false (fun e => c1 (.inr (.inl e))) (x := 92) rfl
              have d3 := u8_false (fun e => c1 (.inr (.inr e))) (x := 38) rfl
              have hN : Hid (∀ q (h : q < title.size), q < j + 1 → (title[q]'h) ≠ 34 ∧ (title[q]'h) ≠ 92 ∧ (title[q]'h) ≠ 38) := Lib.hid (fun q h hq => by
                by_cases e : q < j
                · exact HQ.out q h e
                · obtain rfl : q = j := by omega
                  exact ⟨fun e => c1 (.inl e), fun e => c1 (.inr (.inl e)), fun e => c1 (.inr (.inr e))⟩)
              clear c1
              go_wp2
              go_roundw
              case rel => exact ⟨j + 1, by omega, by go_num, trivial, hN⟩
              case measure => simp [intOf]; omega
          · have hjni : ¬ (j : Int) < title.size := by omega
            obtain rfl : j = title.size := by omega
            have htl : ∀ c ∈ title.data.toList, c ≠ 34 ∧ c ≠ 92 ∧ c ≠ 38 := fun c hc => by
              obtain ⟨q, hq⟩ := List.mem_iff_getElem.1 hc
              obtain ⟨hq, rfl⟩ := hq
              rw [← Lib.size_eq] at hq
              exact HQ.out q hq hq
            have HTL := Lib.hid htl
            clear htl HQ
            cases o with
            | true =>
              have hcat7 : ¬ 9223372036854775807 < 1 + url.size := by omega
              have hcat8 : ¬ 9223372036854775807 < 1 + url.size + 1 := by omega
              go_upto_region 18 with fail
              obtain ⟨U, hUd⟩ : ∃ U : ByteArray, U = (⟨#[60]⟩ : ByteArray) ++ url ++ ⟨#[62]⟩ := ⟨_, rfl⟩
              rw [← hUd]
              have hU : U.data.toList = Pl.angled true url.data.toList ∧ U.size = url.size + 2 := by
                refine ⟨?_, ?_⟩
                · rw [hUd, ByteArray.data_append, ByteArray.data_append, Array.toList_append, Array.toList_append]
                  rfl
                · rw [hUd, ByteArray.size_append, ByteArray.size_append]
                  show 1 + url.size + 1 = _
                  omega
              have hUz : U.size ≤ 202 := by have := hU.2; omega
              have hUe := isEmpty_false (s := U) (by have := hU.2; omega)
              have hane : Pl.angled true url.data.toList ≠ [] := by rw [← hU.1]; intro e; have h2 := hU.2; rw [Lib.size_eq, e] at h2; simp at h2
              clear hUd hcat7 hcat8
              have HUU := Lib.hid hU
              clear hU
              have hcat1 : ¬ 9223372036854775807 < 1 + U.size := by omega
              have hcat2 : ¬ 9223372036854775807 < 1 + U.size + 2 := by omega
              have hcat3 : ¬ 9223372036854775807 < 1 + U.size + 2 + title.size := by omega
              have hcat4 : ¬ 9223372036854775807 < 1 + U.size + 2 + title.size + 2 := by omega
              go_upto_region 19 with fail
              obtain ⟨S, hS⟩ : ∃ S : ByteArray, S = (⟨#[40]⟩ : ByteArray) ++ U ++ ⟨#[32, 34]⟩ ++ title ++ ⟨#[34, 41]⟩ := ⟨_, rfl⟩
              rw [← hS]
              have hSl : S.data.toList = 40 :: (Pl.angled true url.data.toList ++ (32 :: 34 :: (title.data.toList ++ [34, 41]))) := by
                rw [hS, ByteArray.data_append, ByteArray.data_append, ByteArray.data_append, ByteArray.data_append, Array.toList_append, Array.toList_append, Array.toList_append, Array.toList_append, HUU.out.1]
                simp
              have hSz : S.size = U.size + title.size + 5 := by
                rw [hS, ByteArray.size_append, ByteArray.size_append, ByteArray.size_append, ByteArray.size_append]
                show 1 + U.size + 2 + title.size + 2 = _
                omega
              have hcat5 : ¬ 9223372036854775807 < S.size + 1 := by omega
              have hx1 : (S ++ ⟨#[120]⟩).data.toList = 40 :: (Pl.angled true url.data.toList ++ (32 :: 34 :: (title.data.toList ++ (34 :: 41 :: [120])))) := by
                rw [ByteArray.data_append, Array.toList_append, hSl]
                simp
              have hx2 : ((⟨#[40]⟩ : ByteArray) ++ U ++ ⟨#[41]⟩).data.toList = 40 :: (Pl.angled true url.data.toList ++ (41 :: [])) := by
                rw [ByteArray.data_append, ByteArray.data_append, Array.toList_append, Array.toList_append, HUU.out.1]
                simp
              have hz1 : (S ++ ⟨#[120]⟩).size ≤ 100000 := by rw [ByteArray.size_append]; show S.size + 1 ≤ _; omega
              have hz2 : ((⟨#[40]⟩ : ByteArray) ++ U ++ ⟨#[41]⟩).size ≤ 100000 := by rw [ByteArray.size_append, ByteArray.size_append]; show 1 + U.size + 1 ≤ _; omega
              have hcat6 : ¬ 9223372036854775807 < 1 + U.size + 1 := by omega
              have hal : (Pl.angled true url.data.toList).length = U.size := by rw [← HUU.out.1, Lib.size_eq]
              have hd1 := Pl.dest_said true url.data.toList title.data.toList [120] HUL.out hane HTL.out
              have hd2 := Pl.dest_bare true url.data.toList [] HUL.out hane
              have hC1 := HD.out w (Below.refl _ _) (S ++ ⟨#[120]⟩) hz1
              rw [hx1, hd1, dest_res (n := S.size) (by rw [hal, hSz, ← Lib.size_eq])] at hC1
              have hC2 := fun W (hb : Below w.heap.size w W) => HD.out W hb ((⟨#[40]⟩ : ByteArray) ++ U ++ ⟨#[41]⟩) hz2
              rw [hx2, hd2, dest_res0 (n := U.size) (by rw [hal])] at hC2
              have s1 : IntKind.i64.wrap ((U.size : Int) + 2) = (U.size : Int) + 2 := IntWalk.i64_in _ (by omega)
              have HC2 := Lib.hid hC2
              clear hx1 hx2 hd1 hd2 hz1 hz2 hal hS hSl hC2 hane hSz hcat1 hcat2 hcat3 hcat4
              go_wp2_with fail
              refine hC1.mono ?_
              rintro e w1 ⟨rfl, hb1⟩
              have hC2 := HC2.out w1 hb1
              have HB1 := Lib.hid hb1
              clear hC1 hb1
              go_wp2_with fail
              refine hC2.mono ?_
              rintro e w2 ⟨rfl, hb2⟩
              have HB := Lib.hid (HB1.out.trans (hb2.mono HB1.out.size))
              have hK := HK.out w2 HB.out
              clear hb2 hC2
              go_wp2_with fail
              refine hK.mono ?_
              rintro e w3 ⟨rfl, hb3⟩
              have HB := Lib.hid (HB.out.trans (hb3.mono HB.out.size))
              clear hb3 hK
              go_wp2
              go_ret
              exact ⟨rfl, HB.out⟩
            | false =>
              by_cases hu0 : 0 < url.size
              · have hUe := isEmpty_false hu0
                have hU : url.data.toList = Pl.angled false url.data.toList ∧ url.size = url.size := ⟨rfl, rfl⟩
                have hane : Pl.angled false url.data.toList ≠ [] := by rw [← hU.1]; intro e; rw [Lib.size_eq, e] at hu0; simp at hu0
                have HUU := Lib.hid hU
                clear hU
                have hcat1 : ¬ 9223372036854775807 < 1 + url.size := by omega
                have hcat2 : ¬ 9223372036854775807 < 1 + url.size + 2 := by omega
                have hcat3 : ¬ 9223372036854775807 < 1 + url.size + 2 + title.size := by omega
                have hcat4 : ¬ 9223372036854775807 < 1 + url.size + 2 + title.size + 2 := by omega
                go_upto_region 19 with fail
                obtain ⟨S, hS⟩ : ∃ S : ByteArray, S = (⟨#[40]⟩ : ByteArray) ++ url ++ ⟨#[32, 34]⟩ ++ title ++ ⟨#[34, 41]⟩ := ⟨_, rfl⟩
                rw [← hS]
                have hSl : S.data.toList = 40 :: (Pl.angled false url.data.toList ++ (32 :: 34 :: (title.data.toList ++ [34, 41]))) := by
                  rw [hS, ByteArray.data_append, ByteArray.data_append, ByteArray.data_append, ByteArray.data_append, Array.toList_append, Array.toList_append, Array.toList_append, Array.toList_append]
                  simp [Pl.angled]
                have hSz : S.size = url.size + title.size + 5 := by
                  rw [hS, ByteArray.size_append, ByteArray.size_append, ByteArray.size_append, ByteArray.size_append]
                  show 1 + url.size + 2 + title.size + 2 = _
                  omega
                have hcat5 : ¬ 9223372036854775807 < S.size + 1 := by omega
                have hx1 : (S ++ ⟨#[120]⟩).data.toList = 40 :: (Pl.angled false url.data.toList ++ (32 :: 34 :: (title.data.toList ++ (34 :: 41 :: [120])))) := by
                  rw [ByteArray.data_append, Array.toList_append, hSl]
                  simp
                have hx2 : ((⟨#[40]⟩ : ByteArray) ++ url ++ ⟨#[41]⟩).data.toList = 40 :: (Pl.angled false url.data.toList ++ (41 :: [])) := by
                  rw [ByteArray.data_append, ByteArray.data_append, Array.toList_append, Array.toList_append]
                  simp [Pl.angled]
                have hz1 : (S ++ ⟨#[120]⟩).size ≤ 100000 := by rw [ByteArray.size_append]; show S.size + 1 ≤ _; omega
                have hz2 : ((⟨#[40]⟩ : ByteArray) ++ url ++ ⟨#[41]⟩).size ≤ 100000 := by rw [ByteArray.size_append, ByteArray.size_append]; show 1 + url.size + 1 ≤ _; omega
                have hcat6 : ¬ 9223372036854775807 < 1 + url.size + 1 := by omega
                have hal : (Pl.angled false url.data.toList).length = url.size := by rw [← HUU.out.1, Lib.size_eq]
                have hd1 := Pl.dest_said false url.data.toList title.data.toList [120] HUL.out hane HTL.out
                have hd2 := Pl.dest_bare false url.data.toList [] HUL.out hane
                have hC1 := HD.out w (Below.refl _ _) (S ++ ⟨#[120]⟩) hz1
                rw [hx1, hd1, dest_res (n := S.size) (by rw [hal, hSz, ← Lib.size_eq])] at hC1
                have hC2 := fun W (hb : Below w.heap.size w W) => HD.out W hb ((⟨#[40]⟩ : ByteArray) ++ url ++ ⟨#[41]⟩) hz2
                rw [hx2, hd2, dest_res0 (n := url.size) (by rw [hal])] at hC2
                have s1 : IntKind.i64.wrap ((url.size : Int) + 2) = (url.size : Int) + 2 := IntWalk.i64_in _ (by omega)
                have HC2 := Lib.hid hC2
                clear hx1 hx2 hd1 hd2 hz1 hz2 hal hS hSl hC2 hane hSz hcat1 hcat2 hcat3 hcat4
                go_wp2_with fail
                refine hC1.mono ?_
                rintro e w1 ⟨rfl, hb1⟩
                have hC2 := HC2.out w1 hb1
                have HB1 := Lib.hid hb1
                clear hC1 hb1
                go_wp2_with fail
                refine hC2.mono ?_
                rintro e w2 ⟨rfl, hb2⟩
                have HB := Lib.hid (HB1.out.trans (hb2.mono HB1.out.size))
                have hK := HK.out w2 HB.out
                clear hb2 hC2
                go_wp2_with fail
                refine hK.mono ?_
                rintro e w3 ⟨rfl, hb3⟩
                have HB := Lib.hid (HB.out.trans (hb3.mono HB.out.size))
                clear hb3 hK
                go_wp2
                go_ret
                exact ⟨rfl, HB.out⟩
              · have hUe := isEmpty_true hu0
                have hcat1 : ¬ 9223372036854775807 < 1 + url.size := by omega
                have hcat2 : ¬ 9223372036854775807 < 1 + url.size + 2 := by omega
                have hcat3 : ¬ 9223372036854775807 < 1 + url.size + 2 + title.size := by omega
                have hcat4 : ¬ 9223372036854775807 < 1 + url.size + 2 + title.size + 2 := by omega
                go_wp2_with fail
                refine (HK.out w (Below.refl _ _)).mono ?_
                rintro e w3 ⟨rfl, hb3⟩
                have HB := Lib.hid hb3
                clear hb3
                go_wp2
                go_ret
                exact ⟨rfl, HB.out⟩
end Go.Proofs.YtmplfiflikhpjaaGreatDoor
