/-
  Texts of one proof, joined: RefUn, RpB, RpF, RpG, RefUri, RpJ.
-/
import Derived.Test.YtmplfiflikhpjaaGreatDoorV04
import Derived.Test.YtmplfiflikhpjaaGreatDoorV05
import Derived.Test.YtmplfiflikhpjaaGreatDoorV06
import Derived.Test.YtmplfiflikhpjaaGreatDoorV19
import Derived.Deep.RegionLaw
import Derived.Handy
import Derived.Lib.FrozenHead2
/-
  The reference's class of signs, and its Unescape: it answers as the program's own, at every text.
-/
namespace Go.Proofs.YtmplfiflikhpjaaGreatDoor
open Go.RowKit

set_option maxHeartbeats 4000000 in
set_option maxRecDepth 100000 in
theorem refSign_any (c : UInt8) (w : World) :
    Calls Tryz.prog 97 #[.int .u8 (c.toNat : Int)] w fun e w' => e = .returned (.bool (Spec.sign c)) ∧ w' = w := by
  rw [← sign_within]
  obtain ⟨x, hx⟩ : ∃ x : Int, x = (c.toNat : Int) := ⟨_, rfl⟩
  have x0 : 0 ≤ x := by omega
  have x1 : x ≤ 255 := by have := c.toNat_lt; omega
  rw [← hx]
  clear hx
  have hway : x < 33 ∨ (33 ≤ x ∧ x ≤ 47) ∨ (47 < x ∧ x < 58) ∨ (58 ≤ x ∧ x ≤ 64) ∨ (64 < x ∧ x < 91) ∨ (91 ≤ x ∧ x ≤ 96) ∨ (96 < x ∧ x < 123) ∨ (123 ≤ x ∧ x ≤ 126) ∨ 126 < x := by omega
  obtain ⟨b, hb⟩ : ∃ b, b = withinZ x [33, 47, 58, 64, 91, 96, 123, 126] := ⟨_, rfl⟩
  rw [← hb]
  simp only [withinZ, Bool.or_false] at hb
  rcases hway with h | ⟨h, h'⟩ | ⟨h, h'⟩ | ⟨h, h'⟩ | ⟨h, h'⟩ | ⟨h, h'⟩ | ⟨h, h'⟩ | ⟨h, h'⟩ | h
  all_goals first
    | (have HF : Hid (b = true) := Lib.hid (by rw [hb]; simp only [Bool.or_eq_true, Bool.and_eq_true, decide_eq_true_eq]; omega)
       clear hb
       go_enter Tryz.func97, Tryz.ntmps97
       go_wp2
       go_ret
       exact ⟨by first | (rw [HF.out]; rfl) | exact ret_bool (by rw [HF.out]; simp only [Bool.or_eq_false_iff, Bool.and_eq_false_iff, Bool.or_eq_true, Bool.and_eq_true, decide_eq_false_iff_not, decide_eq_true_eq]; omega), rfl⟩)
    | (have HF : Hid (b = false) := Lib.hid (by rw [hb]; simp only [Bool.or_eq_false_iff, Bool.and_eq_false_iff, decide_eq_false_iff_not]; omega)
       clear hb
       go_enter Tryz.func97, Tryz.ntmps97
       go_wp2
       go_ret
       exact ⟨by first | (rw [HF.out]; rfl) | exact ret_bool (by rw [HF.out]; simp only [Bool.or_eq_false_iff, decide_eq_false_iff_not]; omega), rfl⟩)

set_option maxHeartbeats 8000000 in
set_option maxRecDepth 1000000 in
theorem refUnescape_any (s : ByteArray) (w : World) (hs : s.size ≤ 1000000) :
    Calls Tryz.prog 40 #[.string s] w fun e w' => e = .returned (.string ⟨(Spec.unesc s.data.toList).toArray⟩) ∧ Below w.heap.size w w' := by
  obtain ⟨i0, hi, hz0, hz1, hz2⟩ := info_parts infoByte
  go_enter Tryz.func40, Tryz.ntmps40
  go_wp2
  go_loopw [3, 4] (fun vb vi wr => ∃ (pos : Nat) (acc : List UInt8), pos ≤ s.size ∧ vi = .int .i64 pos ∧ wr.ownsRowF w.heap.size 5 1 vb acc.length (Lib.byteCells acc) ∧ Below w.heap.size w wr ∧ Hid (UnescAt s w wr pos acc)) (fun _ vi _ => s.size - (intOf vi).toNat)
  case atStart =>
    exact ⟨0, [], Nat.zero_le _, rfl, World.ownsRowF_nil _ _ _ _, Below.refl _ w, Lib.hid ⟨rfl, Nat.zero_le _⟩⟩
  case round =>
    obtain ⟨pos, acc, hpl, rfl, hI, hbw, HU⟩ := hrel
    have hsz : w.heap.size ≤ wr.heap.size := hbw.size
    have hal : acc.length ≤ 4 * pos := HU.out.2
    by_cases hp : pos < s.size
    · have hpi : (pos : Int) < s.size := by omega
      have hdrop : s.data.toList.drop pos = (s[pos]'hp) :: s.data.toList.drop (pos + 1) := by
        rw [List.drop_eq_getElem_cons (by simpa using hp)]; rfl
      have hstep := step_le (s[pos]'hp) (s.data.toList.drop (pos + 1))
      have huc := unesc_cons (s[pos]'hp) (s.data.toList.drop (pos + 1))
      rw [← hdrop] at hstep huc
      rw [List.drop_drop] at huc
      have hlen : (s.data.toList.drop pos).length = s.size - pos := by rw [List.length_drop, ← Lib.size_eq]
      rw [hlen] at hstep
      obtain ⟨u, hu⟩ : ∃ u, u = (Spec.step (s.data.toList.drop pos)).1 := ⟨_, rfl⟩
      obtain ⟨n, hn⟩ : ∃ n, n = (Spec.step (s.data.toList.drop pos)).2 := ⟨_, rfl⟩
      rw [← hu, ← hn] at hstep huc
      -- what the round leaves
      have hnext : ∀ W v k, k = (acc ++ u).length → W.ownsRowF w.heap.size 5 1 v k (Lib.byteCells (acc ++ u)) → Below w.heap.size w W →
          (∃ (p2 : Nat) (acc2 : List UInt8), p2 ≤ s.size ∧ Value.int .i64 ((pos + n : Nat) : Int) = .int .i64 p2 ∧ W.ownsRowF w.heap.size 5 1 v acc2.length (Lib.byteCells acc2) ∧ Below w.heap.size w W ∧ Hid (UnescAt s w W p2 acc2)) := fun W v k hk h1 h2 =>
        ⟨pos + n, acc ++ u, by omega, rfl, by rw [← hk]; exact h1, h2, Lib.hid ⟨by rw [List.append_assoc, ← huc]; exact HU.out.1, by rw [List.length_append]; omega⟩⟩
      have HX := Lib.hid hnext
      have hmes : 1 ≤ n := hstep.1
      clear hnext huc HU hstep
      obtain ⟨x, hx⟩ : ∃ x, x = s.extract pos s.size := ⟨_, rfl⟩
      have hxl : x.data.toList = s.data.toList.drop pos := by rw [hx, drop_text s pos (by omega)]
      have hxs : x.size ≤ 1000000 := by rw [Lib.size_eq, hxl, hlen]; omega
      by_cases hsg : s[pos]'hp = 92 ∧ Spec.signed (s.data.toList.drop (pos + 1)) = true
      · -- a stroke ahead of a sign
        have hp1 : pos + 1 < s.size := by
          apply Decidable.byContradiction
          intro h
          rw [List.drop_of_length_le (by rw [← Lib.size_eq]; omega)] at hsg
          exact absurd hsg.2 (by decide)
        have hd1 : s.data.toList.drop (pos + 1) = (s[pos + 1]'hp1) :: s.data.toList.drop (pos + 2) := by
          rw [List.drop_eq_getElem_cons (by simpa using hp1)]; rfl
        have hst : Spec.step (s.data.toList.drop pos) = ([s[pos + 1]'hp1], 2) := by
          rw [hdrop]
          unfold Spec.step
          simp only
          rw [if_pos hsg, hd1]
          rfl
        have hn2 : n = 2 := by rw [hn, hst]
        have hu2 : u = [s[pos + 1]'hp1] := by rw [hu, hst]
        subst hn2; subst hu2
        have h92 : (((s[pos]'hp).toNat : Int) == 92) = true := by rw [hsg.1]; decide
        have hS : ∀ W, Calls Tryz.prog 97 #[.int .u8 ((s[pos + 1]'hp1).toNat : Int)] W fun e w' => e = .returned (.bool true) ∧ w' = W := fun W => by
          have := refSign_any (s[pos + 1]'hp1) W
          rw [show Spec.sign (s[pos + 1]'hp1) = true by have := hsg.2; rw [hd1] at this; exact this] at this
          exact this
        have hpi1 : (pos : Int) + 1 < s.size := by omega
        have hll : acc.length ≤ 4000000 := by omega
        obtain ⟨cc, hcc⟩ : ∃ cc : Int, cc = ((s[pos + 1]'hp1).toNat : Int) := ⟨_, rfl⟩
        clear hst hu hn hd1 hsg hxl hx hdrop hlen
        go_wp2_with fail
        refine (hS _).mono ?_
        rintro e w1 ⟨rfl, rfl⟩
        go_wp2_with (at_builtin; refine wpList_append_ownF _ rfl _ _ 38 rfl w.heap.size 5 i0 (.int .u8 0) 1 1 Tryz.underlying38 hi hz0 hz1 hz2 rfl (by decide) _ _ _ rfl (hI.alloc _) ⟨w1.heap.size, 0, none⟩ 1 1 [.int .u8 ((s[pos + 1]'hp1).toNat : Int)] rfl rfl ?c1 ?c2 ?c3 ?c4 ?c5 ?_)
        case c1 =>
          intro j u hj
          match j, hj with
          | 0, hj => simp at hj; subst hj; simp [Addr.add]
        case c2 => intro u hu; simp at hu; subst hu; rfl
        case c3 => unfold maxLen; omega
        case c4 => omega
        case c5 => simp; omega
        intro v2 w2 hI2 hgrow _
        rw [byteCells_snoc] at hI2
        have hbb : Below w.heap.size w w2 := (hbw.alloc hsz _).grown hgrow (by simp; omega) (fun k hk => (hI.lt k hk).1)
        have HI2 := Lib.hid hI2
        clear hI2 hI hS hgrow
        go_wp2
        go_roundw
        case rel => exact HX.out w2 v2 _ (by simp) HI2.out hbb
        case measure => simp [intOf]; omega
      · -- no stroke ahead of a sign
        have HNS : Hid (∀ hp1 : pos + 1 < s.size, (s[pos]'hp).toNat = 92 → Spec.sign (s[pos + 1]'hp1) = false) := Lib.hid (fun hp1 h92 => by
          have hd1 : s.data.toList.drop (pos + 1) = (s[pos + 1]'hp1) :: s.data.toList.drop (pos + 2) := by
            rw [List.drop_eq_getElem_cons (by simpa using hp1)]; rfl
          cases h : Spec.sign (s[pos + 1]'hp1) with
          | false => rfl
          | true => exact absurd ⟨UInt8.toNat_inj.1 h92, by rw [hd1]; exact h⟩ hsg)
        have hst : Spec.step (s.data.toList.drop pos) = if 0 < (Spec.ent (s.data.toList.drop pos)).2 then Spec.ent (s.data.toList.drop pos) else ([s[pos]'hp], 1) := by
          rw [hdrop]
          unfold Spec.step
          simp only
          rw [if_neg hsg]
        have hA := fun W => refAt_any x W hxs
        rw [hxl] at hA
        have hA : ∀ W, Calls Tryz.prog 98 #[.string (s.extract pos s.size)] W fun e w' => e = .returned (entRes (Spec.ent (s.data.toList.drop pos))) ∧ Below W.heap.size W w' := fun W => by rw [← hx]; exact hA W
        clear hxl hxs hx hlen
        by_cases h0 : 0 < (Spec.ent (s.data.toList.drop pos)).2
        · rw [if_pos h0] at hst
          have hn2 : n = (Spec.ent (s.data.toList.drop pos)).2 := by rw [hn, hst]
          have hu2 : u = (Spec.ent (s.data.toList.drop pos)).1 := by rw [hu, hst]
          have hus : (⟨u.toArray⟩ : ByteArray).size = u.length := by rw [Lib.size_eq]
          have hul : u.length ≤ 4000000 := by
            have h1 := ent_le (s.data.toList.drop pos)
            rw [List.length_drop, ← Lib.size_eq] at h1
            rw [hu2]
            omega
          have hns : n ≤ 1000000 := by
            have h1 := ent_le (s.data.toList.drop pos)
            rw [List.length_drop, ← Lib.size_eq] at h1
            omega
          have hA : ∀ W, Calls Tryz.prog 98 #[.string (s.extract pos s.size)] W fun e w' => e = .returned (.tuple #[.string ⟨u.toArray⟩, .int .i64 (n : Int)]) ∧ Below W.heap.size W w' := fun W => by rw [hn2, hu2]; exact hA W
          have HUS := Lib.hid hus
          have hn0 : ((n : Int) == 0) = false := beq_eq_false_iff_ne.2 (by omega)
          clear hst hn hu hn2 hu2 h0 hsg hdrop hus
          have hS : ∀ (hp1 : pos + 1 < s.size) W, (s[pos]'hp).toNat = 92 → Calls Tryz.prog 97 #[.int .u8 ((s[pos + 1]'hp1).toNat : Int)] W fun e w' => e = .returned (.bool false) ∧ w' = W := fun hp1 W h92 => by
            have := refSign_any (s[pos + 1]'hp1) W
            rw [HNS.out hp1 h92] at this
            exact this
          clear HNS
          by_cases h92 : (s[pos]'hp).toNat = 92
          · have h92b : (((s[pos]'hp).toNat : Int) == 92) = true := beq_iff_eq.2 (by omega)
            by_cases hp1 : pos + 1 < s.size
            · have hpi1 : (pos : Int) + 1 < s.size := by omega
              have hS := fun W => hS hp1 W h92
              clear h92
              go_wp2_with fail
              refine (hS _).mono ?_
              rintro e w1 ⟨rfl, rfl⟩
              clear hS
              go_wp2_with fail
              refine (hA _).mono ?_
              rintro e wa ⟨rfl, hba⟩
              have hIa := row_below hI hba
              have hbwa := hbw.trans (hba.mono hsz)
              have hsa : w.heap.size ≤ wa.heap.size := hbwa.size
              clear hA hba hI hbw
              go_wp2_with (at_builtin; refine Lib.wpList_append_own_stringF _ rfl _ _ 38 9 rfl w.heap.size 5 i0 Tryz.underlying38 Tryz.underlying9 hi hz0 hz1 hz2 _ _ _ rfl hIa (⟨u.toArray⟩ : ByteArray) rfl ?c3 ?c4 ?c5 ?_)
              case c3 => unfold maxLen; rw [HUS.out]; omega
              case c4 => rw [HUS.out]; omega
              case c5 => omega
              intro v2 w2 hI2 hgrow _
              have hI3 : w2.ownsRowF w.heap.size 5 1 v2 (acc.length + (⟨u.toArray⟩ : ByteArray).size) (Lib.byteCells (acc ++ u)) := by
                rw [strCells_bytes, ← Lib.byteCells_append] at hI2
                exact hI2
              have hbb : Below w.heap.size w w2 := hbwa.grown hgrow hsa (fun k hk => (hIa.lt k hk).1)
              have HI2 := Lib.hid hI3
              clear hI2 hI3 hIa hgrow
              go_wp2
              go_roundw
              case rel => exact HX.out w2 v2 _ (by rw [HUS.out]; simp) HI2.out hbb
              case measure => simp [intOf]; omega
            · have hpi1 : ¬ (pos : Int) + 1 < s.size := by omega
              clear h92 hS
              go_wp2_with fail
              refine (hA _).mono ?_
              rintro e wa ⟨rfl, hba⟩
              have hIa := row_below hI hba
              have hbwa := hbw.trans (hba.mono hsz)
              have hsa : w.heap.size ≤ wa.heap.size := hbwa.size
              clear hA hba hI hbw
              go_wp2_with (at_builtin; refine Lib.wpList_append_own_stringF _ rfl _ _ 38 9 rfl w.heap.size 5 i0 Tryz.underlying38 Tryz.underlying9 hi hz0 hz1 hz2 _ _ _ rfl hIa (⟨u.toArray⟩ : ByteArray) rfl ?c3 ?c4 ?c5 ?_)
              case c3 => unfold maxLen; rw [HUS.out]; omega
              case c4 => rw [HUS.out]; omega
              case c5 => omega
              intro v2 w2 hI2 hgrow _
              have hI3 : w2.ownsRowF w.heap.size 5 1 v2 (acc.length + (⟨u.toArray⟩ : ByteArray).size) (Lib.byteCells (acc ++ u)) := by
                rw [strCells_bytes, ← Lib.byteCells_append] at hI2
                exact hI2
              have hbb : Below w.heap.size w w2 := hbwa.grown hgrow hsa (fun k hk => (hIa.lt k hk).1)
              have HI2 := Lib.hid hI3
              clear hI2 hI3 hIa hgrow
              go_wp2
              go_roundw
              case rel => exact HX.out w2 v2 _ (by rw [HUS.out]; simp) HI2.out hbb
              case measure => simp [intOf]; omega
          · have h92b : (((s[pos]'hp).toNat : Int) == 92) = false := beq_eq_false_iff_ne.2 (by omega)
            clear h92 hS
            go_wp2_with fail
            refine (hA _).mono ?_
            rintro e wa ⟨rfl, hba⟩
            have hIa := row_below hI hba
            have hbwa := hbw.trans (hba.mono hsz)
            have hsa : w.heap.size ≤ wa.heap.size := hbwa.size
            clear hA hba hI hbw
            go_wp2_with (at_builtin; refine Lib.wpList_append_own_stringF _ rfl _ _ 38 9 rfl w.heap.size 5 i0 Tryz.underlying38 Tryz.underlying9 hi hz0 hz1 hz2 _ _ _ rfl hIa (⟨u.toArray⟩ : ByteArray) rfl ?c3 ?c4 ?c5 ?_)
            case c3 => unfold maxLen; rw [HUS.out]; omega
            case c4 => rw [HUS.out]; omega
            case c5 => omega
            intro v2 w2 hI2 hgrow _
            have hI3 : w2.ownsRowF w.heap.size 5 1 v2 (acc.length + (⟨u.toArray⟩ : ByteArray).size) (Lib.byteCells (acc ++ u)) := by
              rw [strCells_bytes, ← Lib.byteCells_append] at hI2
              exact hI2
            have hbb : Below w.heap.size w w2 := hbwa.grown hgrow hsa (fun k hk => (hIa.lt k hk).1)
            have HI2 := Lib.hid hI3
            clear hI2 hI3 hIa hgrow
            go_wp2
            go_roundw
            case rel => exact HX.out w2 v2 _ (by rw [HUS.out]; simp) HI2.out hbb
            case measure => simp [intOf]; omega
        · rw [if_neg h0] at hst
          have hn2 : n = 1 := by rw [hn, hst]
          have hu2 : u = [s[pos]'hp] := by rw [hu, hst]
          subst hn2; subst hu2
          have hA : ∀ W, Calls Tryz.prog 98 #[.string (s.extract pos s.size)] W fun e w' => e = .returned (.tuple #[.string ⟨(Spec.ent (s.data.toList.drop pos)).1.toArray⟩, .int .i64 0]) ∧ Below W.heap.size W w' := fun W => by
            have h2 : (Spec.ent (s.data.toList.drop pos)).2 = 0 := by omega
            have := hA W
            unfold entRes at this
            rw [h2] at this
            exact this
          generalize (Spec.ent (s.data.toList.drop pos)).1 = junk at hA
          have HT : Hid ((s.extract pos (pos + 1)).data.toList = [s[pos]'hp]) := Lib.hid (one_text s pos hp)
          have hsl : ∀ W, (Instr.slice 9 (.string s) (some (.int .i64 (pos : Int))) (some (.int .i64 ((pos : Int) + 1))) none).run Tryz.prog W = .ok (.string (s.extract pos (pos + 1))) W := fun W => by
            rw [run_slice_string W _ _ .i64 .i64 _ _ Tryz.underlying9 (by omega) (by omega) (by omega)]
            rfl
          have HTS : Hid ((s.extract pos (pos + 1)).size = 1) := Lib.hid (by rw [Lib.size_eq, HT.out]; rfl)
          clear hst hn hu h0 hsg hdrop
          have hS : ∀ (hp1 : pos + 1 < s.size) W, (s[pos]'hp).toNat = 92 → Calls Tryz.prog 97 #[.int .u8 ((s[pos + 1]'hp1).toNat : Int)] W fun e w' => e = .returned (.bool false) ∧ w' = W := fun hp1 W h92 => by
            have := refSign_any (s[pos + 1]'hp1) W
            rw [HNS.out hp1 h92] at this
            exact this
          clear HNS
          by_cases h92 : (s[pos]'hp).toNat = 92
          · have h92b : (((s[pos]'hp).toNat : Int) == 92) = true := beq_iff_eq.2 (by omega)
            by_cases hp1 : pos + 1 < s.size
            · have hpi1 : (pos : Int) + 1 < s.size := by omega
              have hS := fun W => hS hp1 W h92
              clear h92
              go_wp2_with fail
              refine (hS _).mono ?_
              rintro e w1 ⟨rfl, rfl⟩
              clear hS
              go_wp2_with fail
              refine (hA _).mono ?_
              rintro e wa ⟨rfl, hba⟩
              have hIa := row_below hI hba
              have hbwa := hbw.trans (hba.mono hsz)
              have hsa : w.heap.size ≤ wa.heap.size := hbwa.size
              clear hA hba hI hbw
              go_wp2_with (at_builtin; refine Lib.wpList_append_own_stringF _ rfl _ _ 38 9 rfl w.heap.size 5 i0 Tryz.underlying38 Tryz.underlying9 hi hz0 hz1 hz2 _ _ _ rfl hIa (s.extract pos (pos + 1)) rfl ?c3 ?c4 ?c5 ?_)
              case c3 => unfold maxLen; rw [HTS.out]; omega
              case c4 => rw [HTS.out]; omega
              case c5 => omega
              intro v2 w2 hI2 hgrow _
              have hI3 : w2.ownsRowF w.heap.size 5 1 v2 (acc.length + (s.extract pos (pos + 1)).size) (Lib.byteCells (acc ++ [s[pos]'hp])) := by
                rw [strCells_bytes, ← Lib.byteCells_append] at hI2
                rw [HT.out] at hI2; rw [ByteArray.size_extract]; exact hI2
              have hbb : Below w.heap.size w w2 := hbwa.grown hgrow hsa (fun k hk => (hIa.lt k hk).1)
              have HI2 := Lib.hid hI3
              clear hI2 hI3 hIa hgrow
              go_wp2
              go_roundw
              case rel => exact HX.out w2 v2 _ (by rw [HTS.out]; simp) HI2.out hbb
              case measure => simp [intOf]; omega
            · have hpi1 : ¬ (pos : Int) + 1 < s.size := by omega
              clear h92 hS
              go_wp2_with fail
              refine (hA _).mono ?_
              rintro e wa ⟨rfl, hba⟩
              have hIa := row_below hI hba
              have hbwa := hbw.trans (hba.mono hsz)
              have hsa : w.heap.size ≤ wa.heap.size := hbwa.size
              clear hA hba hI hbw
              go_wp2_with (at_builtin; refine Lib.wpList_append_own_stringF _ rfl _ _ 38 9 rfl w.heap.size 5 i0 Tryz.underlying38 Tryz.underlying9 hi hz0 hz1 hz2 _ _ _ rfl hIa (s.extract pos (pos + 1)) rfl ?c3 ?c4 ?c5 ?_)
              case c3 => unfold maxLen; rw [HTS.out]; omega
              case c4 => rw [HTS.out]; omega
              case c5 => omega
              intro v2 w2 hI2 hgrow _
              have hI3 : w2.ownsRowF w.heap.size 5 1 v2 (acc.length + (s.extract pos (pos + 1)).size) (Lib.byteCells (acc ++ [s[pos]'hp])) := by
                rw [strCells_bytes, ← Lib.byteCells_append] at hI2
                rw [HT.out] at hI2; rw [ByteArray.size_extract]; exact hI2
              have hbb : Below w.heap.size w w2 := hbwa.grown hgrow hsa (fun k hk => (hIa.lt k hk).1)
              have HI2 := Lib.hid hI3
              clear hI2 hI3 hIa hgrow
              go_wp2
              go_roundw
              case rel => exact HX.out w2 v2 _ (by rw [HTS.out]; simp) HI2.out hbb
              case measure => simp [intOf]; omega
          · have h92b : (((s[pos]'hp).toNat : Int) == 92) = false := beq_eq_false_iff_ne.2 (by omega)
            clear h92 hS
            go_wp2_with fail
            refine (hA _).mono ?_
            rintro e wa ⟨rfl, hba⟩
            have hIa := row_below hI hba
            have hbwa := hbw.trans (hba.mono hsz)
            have hsa : w.heap.size ≤ wa.heap.size := hbwa.size
            clear hA hba hI hbw
            go_wp2_with (at_builtin; refine Lib.wpList_append_own_stringF _ rfl _ _ 38 9 rfl w.heap.size 5 i0 Tryz.underlying38 Tryz.underlying9 hi hz0 hz1 hz2 _ _ _ rfl hIa (s.extract pos (pos + 1)) rfl ?c3 ?c4 ?c5 ?_)
            case c3 => unfold maxLen; rw [HTS.out]; omega
            case c4 => rw [HTS.out]; omega
            case c5 => omega
            intro v2 w2 hI2 hgrow _
            have hI3 : w2.ownsRowF w.heap.size 5 1 v2 (acc.length + (s.extract pos (pos + 1)).size) (Lib.byteCells (acc ++ [s[pos]'hp])) := by
              rw [strCells_bytes, ← Lib.byteCells_append] at hI2
              rw [HT.out] at hI2; rw [ByteArray.size_extract]; exact hI2
            have hbb : Below w.heap.size w w2 := hbwa.grown hgrow hsa (fun k hk => (hIa.lt k hk).1)
            have HI2 := Lib.hid hI3
            clear hI2 hI3 hIa hgrow
            go_wp2
            go_roundw
            case rel => exact HX.out w2 v2 _ (by rw [HTS.out]; simp) HI2.out hbb
            case measure => simp [intOf]; omega
    · -- the text is through
      have hpe : pos = s.size := by omega
      have hfin : acc = Spec.unesc s.data.toList := by
        have := HU.out.1
        rw [List.drop_of_length_le (by rw [← Lib.size_eq]; omega), unesc_nil, List.append_nil] at this
        exact this
      have HF := Lib.hid hfin
      have HP : Hid (pos = s.size) := Lib.hid hpe
      clear hpe hfin HU
      have hpi : ¬ (pos : Int) < s.size := by omega
      have hc := row_str acc hI
      go_wp2
      go_ret
      exact ⟨ret_str (by rw [HF.out]), hbw⟩
end Go.Proofs.YtmplfiflikhpjaaGreatDoor
/-
  ref21's step, letter, word, among.
-/
namespace Go.Proofs.YtmplfiflikhpjaaGreatDoor
open Go.RowKit

def stepI (l : List UInt8) : Nat := if Spec.pair l = true then 2 else 1
set_option maxHeartbeats 4000000 in
set_option maxRecDepth 100000 in
theorem step21_any (s : ByteArray) (w : World) (hs : s.size ≤ 1000000) :
    Calls Tryz.prog 93 #[.string s] w fun e w' => e = .returned (.int .i64 (stepI s.data.toList : Int)) ∧ w' = w := by
  by_cases h1 : 1 < s.size
  · have h1i : (1 : Int) < s.size := by omega
    have h0i : (0 : Int) < s.size := by omega
    have hd : s.data.toList = (s[0]'(by omega)) :: (s[1]'h1) :: s.data.toList.drop 2 := by
      have e0 := drop_at s 0 (by omega)
      have e1 := drop_at s 1 h1
      rw [List.drop_zero, e1] at e0
      exact e0
    have hS := fun W => refSign_any (s[1]'h1) W
    unfold stepI
    rw [hd, pair_cons]
    by_cases h92 : (s[0]'(by omega)) = 92
    · have hb : (((s[0]'(by omega)).toNat : Int) == 92) = true := u8_true h92 rfl
      rw [h92]
      cases hsg : Spec.sign (s[1]'h1) with
      | true =>
        rw [hsg] at hS
        rw [if_pos (by decide)]
        clear h92 hd hsg
        go_enter Tryz.func93, Tryz.ntmps93
        go_wp2_with (go_at_call 97; refine (hS _).mono ?_; rintro e w1 ⟨rfl, rfl⟩)
        go_ret
        exact ⟨rfl, rfl⟩
      | false =>
        rw [hsg] at hS
        rw [if_neg (by decide)]
        clear h92 hd hsg
        go_enter Tryz.func93, Tryz.ntmps93
        go_wp2_with (go_at_call 97; refine (hS _).mono ?_; rintro e w1 ⟨rfl, rfl⟩)
        go_ret
        exact ⟨rfl, rfl⟩
    · have hb : (((s[0]'(by omega)).toNat : Int) == 92) = false := u8_false h92 rfl
      rw [beq_eq_false_iff_ne.2 h92, Bool.false_and, if_neg (by decide)]
      clear h92 hd hS
      go_enter Tryz.func93, Tryz.ntmps93
      go_wp2
      go_ret
      exact ⟨rfl, rfl⟩
  · have h1i : ¬ (1 : Int) < s.size := by omega
    have hp : Spec.pair s.data.toList = false := by
      have hl : s.data.toList.length ≤ 1 := by rw [← Lib.size_eq]; omega
      match s.data.toList, hl with
      | [], _ => rfl
      | [_], _ => rfl
    unfold stepI
    rw [hp, if_neg (by decide)]
    clear hp
    go_enter Tryz.func93, Tryz.ntmps93
    go_wp2
    go_ret
    exact ⟨rfl, rfl⟩

set_option maxHeartbeats 4000000 in
set_option maxRecDepth 100000 in
theorem letter21_any (c : UInt8) (w : World) :
    Calls Tryz.prog 105 #[.int .u8 (c.toNat : Int)] w fun e w' => e = .returned (.bool (Spec.alpha c)) ∧ w' = w := by
  obtain ⟨x, hx⟩ : ∃ x : Int, x = (c.toNat : Int) := ⟨_, rfl⟩
  have x0 : 0 ≤ x := by omega
  have x1 : x ≤ 255 := by have := c.toNat_lt; omega
  obtain ⟨b, hb⟩ : ∃ b, b = Spec.alpha c := ⟨_, rfl⟩
  have hway : x < 65 ∨ (65 ≤ x ∧ x ≤ 90) ∨ (90 < x ∧ x < 97) ∨ (97 ≤ x ∧ x ≤ 122) ∨ 122 < x := by omega
  rw [← hb, ← hx]
  unfold Spec.alpha at hb
  rcases hway with h | ⟨h, h'⟩ | ⟨h, h'⟩ | ⟨h, h'⟩ | h
  all_goals first
    | (have HF : Hid (b = true) := Lib.hid (by rw [hb]; simp only [Bool.or_eq_true, Bool.and_eq_true, decide_eq_true_eq]; omega)
       clear hb hx
       go_enter Tryz.func105, Tryz.ntmps105
       go_wp2
       go_ret
       exact ⟨by first | (rw [HF.out]; rfl) | exact ret_bool (by rw [HF.out]; simp only [Bool.or_eq_false_iff, Bool.and_eq_false_iff, Bool.or_eq_true, Bool.and_eq_true, decide_eq_false_iff_not, decide_eq_true_eq]; omega), rfl⟩)
    | (have HF : Hid (b = false) := Lib.hid (by rw [hb]; simp only [Bool.or_eq_false_iff, Bool.and_eq_false_iff, decide_eq_false_iff_not]; omega)
       clear hb hx
       go_enter Tryz.func105, Tryz.ntmps105
       go_wp2
       go_ret
       exact ⟨by first | (rw [HF.out]; rfl) | exact ret_bool (by rw [HF.out]; simp only [Bool.or_eq_false_iff, decide_eq_false_iff_not]; omega), rfl⟩)

set_option maxHeartbeats 4000000 in
set_option maxRecDepth 100000 in
theorem word21_any (c : UInt8) (w : World) :
    Calls Tryz.prog 106 #[.int .u8 (c.toNat : Int)] w fun e w' => e = .returned (.bool (Spec.alpha c || Spec.digit c)) ∧ w' = w := by
  have hL := fun W => letter21_any c W
  obtain ⟨x, hx⟩ : ∃ x : Int, x = (c.toNat : Int) := ⟨_, rfl⟩
  have x0 : 0 ≤ x := by omega
  have x1 : x ≤ 255 := by have := c.toNat_lt; omega
  cases ha : Spec.alpha c with
  | true =>
    rw [ha] at hL
    rw [← hx] at hL ⊢
    clear hx ha
    go_enter Tryz.func106, Tryz.ntmps106
    go_wp2_with (go_at_call 105; refine (hL _).mono ?_; rintro e w1 ⟨rfl, rfl⟩)
    go_ret
    exact ⟨rfl, rfl⟩
  | false =>
    rw [ha] at hL
    obtain ⟨b, hb⟩ : ∃ b, b = (false || Spec.digit c) := ⟨_, rfl⟩
    rw [← hx] at hL ⊢
    rw [← hb]
    rw [Bool.false_or] at hb
    unfold Spec.digit at hb
    have hway : x < 48 ∨ (48 ≤ x ∧ x ≤ 57) ∨ 57 < x := by omega
    clear ha
    rcases hway with h | ⟨h, h'⟩ | h
    all_goals first
      | (have HF : Hid (b = true) := Lib.hid (by rw [hb]; simp only [Bool.and_eq_true, decide_eq_true_eq]; omega)
         clear hb hx
         go_enter Tryz.func106, Tryz.ntmps106
         go_wp2_with (go_at_call 105; refine (hL _).mono ?_; rintro e w1 ⟨rfl, rfl⟩)
         go_ret
         exact ⟨by first | (rw [HF.out]; rfl) | exact ret_bool (by rw [HF.out]; simp only [decide_eq_false_iff_not]; omega), rfl⟩)
      | (have HF : Hid (b = false) := Lib.hid (by rw [hb]; simp only [Bool.and_eq_false_iff, decide_eq_false_iff_not]; omega)
         clear hb hx
         go_enter Tryz.func106, Tryz.ntmps106
         go_wp2_with (go_at_call 105; refine (hL _).mono ?_; rintro e w1 ⟨rfl, rfl⟩)
         go_ret
         exact ⟨by first | (rw [HF.out]; rfl) | exact ret_bool (by rw [HF.out]; simp only [decide_eq_false_iff_not]; omega), rfl⟩)

set_option maxHeartbeats 4000000 in
set_option maxRecDepth 100000 in
theorem among21_any (c : UInt8) (s : ByteArray) (w : World) (hs : s.size ≤ 1000000) :
    Calls Tryz.prog 94 #[.int .u8 (c.toNat : Int), .string s] w fun e w' => e = .returned (.bool (s.data.toList.contains c)) ∧ w' = w := by
  obtain ⟨R, hR⟩ : ∃ R, R = s.data.toList.contains c := ⟨_, rfl⟩
  rw [← hR]
  have HR := Lib.hid (show R = (s.data.toList.drop 0).contains c by rw [hR]; rfl)
  clear hR
  obtain ⟨x, hx⟩ : ∃ x : Int, x = (c.toNat : Int) := ⟨_, rfl⟩
  rw [← hx]
  have HX := Lib.hid hx
  clear hx
  go_enter Tryz.func94, Tryz.ntmps94
  go_wp2
  go_loop [5] (fun v4 => ∃ j : Nat, j ≤ s.size ∧ v4 = .int .i64 j ∧ Hid (R = (s.data.toList.drop j).contains c)) (fun v4 => s.size - (intOf v4).toNat)
  case atStart => exact ⟨0, by omega, rfl, HR⟩
  case round =>
    obtain ⟨j, hj, rfl, HJ⟩ := hrel
    clear HR
    by_cases hp : j < s.size
    · have hpi : (j : Int) < s.size := by omega
      have hd := drop_at s j hp
      by_cases he : s[j]'hp = c
      · have HJ2 : Hid (R = true) := Lib.hid (by rw [HJ.out, hd, List.contains_cons, he]; simp)
        have hq2 : (((s[j]'hp).toNat : Int) == x) = true := by rw [HX.out, he]; simp
        have hq : ((s[j]'hp).toNat : Int) = x := by rw [HX.out, he]
        clear hd HJ he
        go_wp2
        go_ret
        exact ⟨ret_bool HJ2.out.symm, rfl⟩
      · have HJ2 : Hid (R = (s.data.toList.drop (j + 1)).contains c) := Lib.hid (by
          rw [HJ.out, hd, List.contains_cons, show (c == s[j]'hp) = false from beq_eq_false_iff_ne.2 (Ne.symm he), Bool.false_or])
        have hq : ¬ ((s[j]'hp).toNat : Int) = x := by
          rw [HX.out]
          intro h
          exact he (UInt8.toNat_inj.1 (by omega))
        have hq2 : (((s[j]'hp).toNat : Int) == x) = false := by simpa using hq
        clear hd HJ he
        go_wp2
        go_round
        case rel => exact ⟨j + 1, by omega, by go_num, HJ2⟩
        case measure => simp [intOf]; omega
    · have hpi : ¬ (j : Int) < s.size := by omega
      have HJ2 : Hid (R = false) := Lib.hid (by rw [HJ.out, List.drop_of_length_le (by rw [← Lib.size_eq]; omega)]; rfl)
      clear HJ
      go_wp2
      go_ret
      exact ⟨ret_bool HJ2.out.symm, rfl⟩
end Go.Proofs.YtmplfiflikhpjaaGreatDoor
/-
  ref21's angled, bare, said.
-/
namespace Go.Proofs.YtmplfiflikhpjaaGreatDoor
open Go.RowKit

theorem ext_list (s : ByteArray) (i : Nat) (hi : i ≤ s.size) : (s.extract i s.size).data.toList = s.data.toList.drop i := by rw [drop_text s i hi]
theorem step21_at (s : ByteArray) (i : Nat) (hi : i ≤ s.size) (hs : s.size ≤ 1000000) (k : Nat) (hk : stepI (s.data.toList.drop i) = k) :
    ∀ W, Calls Tryz.prog 93 #[.string (s.extract i s.size)] W fun e w' => e = .returned (.int .i64 (k : Int)) ∧ W = w' := fun W => by
  have := step21_any (s.extract i s.size) W (by rw [Lib.size_eq, ext_list s i hi, List.length_drop, ← Lib.size_eq]; omega)
  rw [ext_list s i hi, hk] at this
  exact this.mono fun e w' h => ⟨h.1, h.2.symm⟩
theorem pair_len (l : List UInt8) (h : Spec.pair l = true) : 2 ≤ l.length := by
  match l, h with
  | [], h => cases h
  | [_], h => cases h
  | _ :: _ :: _, _ => simp
theorem pair_head (c : UInt8) (t : List UInt8) (h : Spec.pair (c :: t) = true) : c = 92 := by
  cases t with
  | nil => cases h
  | cons d u =>
    rw [pair_cons, Bool.and_eq_true, beq_iff_eq] at h
    exact h.1
def optS (t : List UInt8) : Option Nat → List UInt8 × Nat
  | some n => (t.take n, n + 2)
  | none => ([], 0)

set_option maxHeartbeats 8000000 in
set_option maxRecDepth 100000 in
theorem angled21_any (s : ByteArray) (w : World) (hs : s.size ≤ 1000000) :
    Calls Tryz.prog 36 #[.string s] w fun r w' => r = .returned (saidRes (optS (s.data.toList.drop 1) (Spec.until_ 62 [60, 10] (s.data.toList.drop 1)))) ∧ w = w' := by
  have FNO : Hid (Spec.until_ 62 [60, 10] (s.data.toList.drop 1) = none → Ending.returned (.tuple #[.string ⟨#[]⟩, .int .i64 0]) = Ending.returned (saidRes (optS (s.data.toList.drop 1) (Spec.until_ 62 [60, 10] (s.data.toList.drop 1))))) := Lib.hid (fun h => by rw [h]; rfl)
  have FIN : Hid (∀ i : Nat, 1 ≤ i → Spec.until_ 62 [60, 10] (s.data.toList.drop 1) = some (i - 1) → Ending.returned (.tuple #[.string (s.extract 1 i), .int .i64 ((i : Int) + 1)]) = Ending.returned (saidRes (optS (s.data.toList.drop 1) (Spec.until_ 62 [60, 10] (s.data.toList.drop 1))))) := Lib.hid (fun i hi h => by
    rw [h, mid_text]
    refine ret_adr rfl ?_
    show (i : Int) + 1 = ((i - 1 + 2 : Nat) : Int)
    omega)
  generalize hE : Ending.returned (saidRes (optS (s.data.toList.drop 1) (Spec.until_ 62 [60, 10] (s.data.toList.drop 1)))) = E at FNO FIN ⊢
  clear hE
  by_cases h1 : 1 ≤ s.size
  · go_enter Tryz.func36, Tryz.ntmps36
    go_wp2
    go_loop [4] (fun v4 => ∃ i : Nat, 1 ≤ i ∧ i ≤ s.size ∧ v4 = .int .i64 i ∧ Hid (Spec.until_ 62 [60, 10] (s.data.toList.drop 1) = (Spec.until_ 62 [60, 10] (s.data.toList.drop i)).map (· + (i - 1)))) (fun v4 => s.size - (intOf v4).toNat)
    case atStart => exact ⟨1, Nat.le_refl _, h1, rfl, Lib.hid (by simp)⟩
    case round =>
      obtain ⟨i, hi1, hi, rfl, HU⟩ := hrel
      by_cases hp : i < s.size
      · have hpi : (i : Int) < s.size := by omega
        have huc := until_cons 62 [60, 10] (s[i]'hp) (s.data.toList.drop (i + 1))
        rw [← drop_at s i hp] at huc
        have hS := step21_at s i hi hs _ rfl
        cases hb : Spec.pair (s.data.toList.drop i) with
        | true =>
          rw [show stepI (s.data.toList.drop i) = 2 by unfold stepI; rw [if_pos hb]] at hS
          rw [if_pos hb, List.drop_drop] at huc
          have hi2 : i + 2 ≤ s.size := by
            have := pair_len _ hb
            rw [List.length_drop, ← Lib.size_eq] at this
            omega
          have h92 : s[i]'hp = 92 := pair_head _ _ (by rw [← drop_at s i hp]; exact hb)
          have b1 : (((s[i]'hp).toNat : Int) == 62) = false := by rw [h92]; rfl
          have b2 : (((s[i]'hp).toNat : Int) == 60) = false := by rw [h92]; rfl
          have b3 : (((s[i]'hp).toNat : Int) == 10) = false := by rw [h92]; rfl
          have HU2 : Hid (Spec.until_ 62 [60, 10] (s.data.toList.drop 1) = (Spec.until_ 62 [60, 10] (s.data.toList.drop (i + 2))).map (· + (i + 2 - 1))) := Lib.hid (by
            rw [HU.out, huc, Option.map_map]
            congr 1
            funext k
            simp only [Function.comp]
            omega)
          clear huc HU hb h92
          go_wp2_with (go_at_call 93; refine (hS _).mono ?_; rintro r w1 ⟨rfl, rfl⟩)
          go_round
          case rel => exact ⟨i + 2, by omega, hi2, by go_num, HU2⟩
          case measure => simp [intOf]; omega
        | false =>
          rw [show stepI (s.data.toList.drop i) = 1 by unfold stepI; rw [if_neg (by rw [hb]; decide)]] at hS
          rw [if_neg (by rw [hb]; decide)] at huc
          clear hb
          by_cases he : (s[i]'hp) = 62
          · rw [if_pos he] at huc
            have b1 := u8_true he (x := 62) rfl
            have HR : Hid (Spec.until_ 62 [60, 10] (s.data.toList.drop 1) = some (i - 1)) := Lib.hid (by rw [HU.out, huc]; simp)
            have hsl := slice_mid s 1 i (i : Int) hi1 hi rfl
            clear huc HU he
            go_wp2
            go_ret2
            exact ⟨FIN.out i hi1 HR.out, rfl⟩
          · rw [if_neg he] at huc
            have b1 := u8_false he (x := 62) rfl
            by_cases h60 : (s[i]'hp) = 60
            · have b2 := u8_true h60 (x := 60) rfl
              rw [if_pos (by rw [h60]; rfl)] at huc
              have HR : Hid (Spec.until_ 62 [60, 10] (s.data.toList.drop 1) = none) := Lib.hid (by rw [HU.out, huc]; rfl)
              clear huc HU he h60
              go_wp2
              go_ret2
              exact ⟨FNO.out HR.out, rfl⟩
            · have b2 := u8_false h60 (x := 60) rfl
              by_cases h10 : (s[i]'hp) = 10
              · have b3 := u8_true h10 (x := 10) rfl
                rw [if_pos (by rw [h10]; rfl)] at huc
                have HR : Hid (Spec.until_ 62 [60, 10] (s.data.toList.drop 1) = none) := Lib.hid (by rw [HU.out, huc]; rfl)
                clear huc HU he h60 h10
                go_wp2
                go_ret2
                exact ⟨FNO.out HR.out, rfl⟩
              · have b3 := u8_false h10 (x := 10) rfl
                rw [if_neg (by
                  rw [List.contains_iff_mem]
                  intro hm
                  simp only [List.mem_cons, List.not_mem_nil, or_false] at hm
                  rcases hm with h | h
                  · exact h60 h
                  · exact h10 h)] at huc
                have HU2 : Hid (Spec.until_ 62 [60, 10] (s.data.toList.drop 1) = (Spec.until_ 62 [60, 10] (s.data.toList.drop (i + 1))).map (· + (i + 1 - 1))) := Lib.hid (by
                  rw [HU.out, huc, Option.map_map]
                  congr 1
                  funext k
                  simp only [Function.comp]
                  omega)
                clear huc HU he h60 h10
                go_wp2_with (go_at_call 93; refine (hS _).mono ?_; rintro r w1 ⟨rfl, rfl⟩)
                go_round
                case rel => exact ⟨i + 1, by omega, by omega, by go_num, HU2⟩
                case measure => simp [intOf]; omega
      · have hpi : ¬ (i : Int) < s.size := by omega
        have HR : Hid (Spec.until_ 62 [60, 10] (s.data.toList.drop 1) = none) := Lib.hid (by
          rw [HU.out, List.drop_of_length_le (l := s.data.toList) (i := i) (by rw [← Lib.size_eq]; omega)]; rfl)
        clear HU
        go_wp2
        go_ret2
        exact ⟨FNO.out HR.out, rfl⟩
  · have h1i : ¬ (1 : Int) < s.size := by omega
    have HR : Hid (Spec.until_ 62 [60, 10] (s.data.toList.drop 1) = none) := Lib.hid (by
      rw [List.drop_of_length_le (by rw [← Lib.size_eq]; omega)]; rfl)
    go_enter Tryz.func36, Tryz.ntmps36
    go_wp2
    go_loop [4] (fun v4 => v4 = .int .i64 1) (fun v4 => 0)
    case atStart => rfl
    case round =>
      obtain rfl := hrel
      go_wp2
      go_ret2
      exact ⟨FNO.out HR.out, rfl⟩

set_option maxHeartbeats 8000000 in
set_option maxRecDepth 100000 in
theorem bare21_any (s : ByteArray) (w : World) (hs : s.size ≤ 1000000) :
    Calls Tryz.prog 37 #[.string s] w fun r w' => r = .returned (.int .i64 (optI (Spec.bare 0 s.data.toList))) ∧ w = w' := by
  go_enter Tryz.func37, Tryz.ntmps37
  go_wp2
  go_loop [3, 4] (fun v5 v6 => ∃ deep i : Nat, i ≤ s.size ∧ deep ≤ i ∧ v5 = .int .i64 deep ∧ v6 = .int .i64 i ∧ Hid (Spec.bare 0 s.data.toList = (Spec.bare deep (s.data.toList.drop i)).map (· + i))) (fun _ v6 => s.size - (intOf v6).toNat)
  case atStart => exact ⟨0, 0, Nat.zero_le _, Nat.le_refl _, rfl, rfl, Lib.hid (by rw [List.drop_zero]; simp)⟩
  case round =>
    obtain ⟨deep, i, hi, hdi, rfl, rfl, HB⟩ := hrel
    by_cases hp : i < s.size
    · have hpi : (i : Int) < s.size := by omega
      have hbc := bare_cons deep (s[i]'hp) (s.data.toList.drop (i + 1))
      rw [← drop_at s i hp] at hbc
      by_cases h32 : (s[i]'hp).toNat ≤ 32
      · have h32i : ¬ (32 : Int) < ((s[i]'hp).toNat : Int) := by omega
        rw [if_pos h32] at hbc
        clear h32
        by_cases hd : 0 < deep
        · have hdi2 : ((deep : Int) == 0) = false := beq_eq_false_iff_ne.2 (by omega)
          rw [if_pos hd] at hbc
          have HN : Hid (optI (Spec.bare 0 s.data.toList) = -1) := Lib.hid (by rw [HB.out, hbc]; rfl)
          clear hbc HB
          go_wp2
          go_ret
          exact ⟨ret_int HN.out.symm, rfl⟩
        · have hdi2 : ((deep : Int) == 0) = true := beq_iff_eq.2 (by omega)
          rw [if_neg hd] at hbc
          have HN : Hid (optI (Spec.bare 0 s.data.toList) = (i : Int)) := Lib.hid (by rw [HB.out, hbc]; simp [optI])
          clear hbc HB
          go_wp2
          go_ret
          exact ⟨ret_int HN.out.symm, rfl⟩
      · have h32i : (32 : Int) < ((s[i]'hp).toNat : Int) := by omega
        rw [if_neg h32] at hbc
        clear h32
        have hS := step21_at s i hi hs _ rfl
        cases hb : Spec.pair (s.data.toList.drop i) with
        | true =>
          rw [show stepI (s.data.toList.drop i) = 2 by unfold stepI; rw [if_pos hb]] at hS
          rw [if_pos hb, List.drop_drop] at hbc
          have hi2 : i + 2 ≤ s.size := by
            have := pair_len _ hb
            rw [List.length_drop, ← Lib.size_eq] at this
            omega
          have h92 : s[i]'hp = 92 := pair_head _ _ (by rw [← drop_at s i hp]; exact hb)
          have b1 : (((s[i]'hp).toNat : Int) == 40) = false := by rw [h92]; rfl
          have b2 : (((s[i]'hp).toNat : Int) == 41) = false := by rw [h92]; rfl
          have HB2 : Hid (Spec.bare 0 s.data.toList = (Spec.bare deep (s.data.toList.drop (i + 2))).map (· + (i + 2))) := Lib.hid (by
            rw [HB.out, hbc]
            cases Spec.bare deep (s.data.toList.drop (i + 2)) <;> simp [Nat.add_comm, Nat.add_left_comm])
          have hmin : ¬ ((s.size : Int) < (i : Int) + 2) := by omega
          have hmin2 : (i : Int) + 2 ≤ (s.size : Int) := by omega
          clear hbc HB hb h92
          go_wp2_with (go_at_call 93; refine (hS _).mono ?_; rintro r w1 ⟨rfl, rfl⟩)
          go_round
          case rel => exact ⟨deep, i + 2, by omega, by omega, rfl, by go_num, HB2⟩
          case measure => simp [intOf]; omega
        | false =>
          rw [show stepI (s.data.toList.drop i) = 1 by unfold stepI; rw [if_neg (by rw [hb]; decide)]] at hS
          rw [if_neg (by rw [hb]; decide)] at hbc
          have hmin : ¬ ((s.size : Int) < (i : Int) + 1) := by omega
          have hmin2 : (i : Int) + 1 ≤ (s.size : Int) := by omega
          clear hb
          by_cases h40 : (s[i]'hp) = 40
          · rw [if_pos h40] at hbc
            have hb40 := u8_true h40 (x := 40) rfl
            have hb41 : (((s[i]'hp).toNat : Int) == 41) = false := by rw [h40]; rfl
            have HB2 : Hid (Spec.bare 0 s.data.toList = (Spec.bare (deep + 1) (s.data.toList.drop (i + 1))).map (· + (i + 1))) := Lib.hid (by
              rw [HB.out, hbc]
              cases Spec.bare (deep + 1) (s.data.toList.drop (i + 1)) <;> simp [Nat.add_comm, Nat.add_left_comm])
            clear hbc HB h40
            go_wp2_with (go_at_call 93; refine (hS _).mono ?_; rintro r w1 ⟨rfl, rfl⟩)
            go_round
            case rel => exact ⟨deep + 1, i + 1, by omega, by omega, by go_num, by go_num, HB2⟩
            case measure => simp [intOf]; omega
          · rw [if_neg h40] at hbc
            have hb40 := u8_false h40 (x := 40) rfl
            clear h40
            by_cases h41 : (s[i]'hp) = 41
            · rw [if_pos h41] at hbc
              have hb41 := u8_true h41 (x := 41) rfl
              clear h41
              by_cases hd0 : deep = 0
              · subst hd0
                rw [if_pos rfl] at hbc
                have HN : Hid (optI (Spec.bare 0 s.data.toList) = (i : Int)) := Lib.hid (by rw [HB.out, hbc]; simp [optI])
                clear hbc HB
                go_wp2
                go_ret
                exact ⟨ret_int HN.out.symm, rfl⟩
              · rw [if_neg hd0] at hbc
                obtain ⟨dd, rfl⟩ : ∃ dd, deep = dd + 1 := ⟨deep - 1, by omega⟩
                have HB2 : Hid (Spec.bare 0 s.data.toList = (Spec.bare dd (s.data.toList.drop (i + 1))).map (· + (i + 1))) := Lib.hid (by
                  rw [HB.out, hbc, Nat.add_sub_cancel]
                  cases Spec.bare dd (s.data.toList.drop (i + 1)) <;> simp [Nat.add_comm, Nat.add_left_comm])
                have hnn : ((dd : Int) + 1 == 0) = false := beq_eq_false_iff_ne.2 (by omega)
                have hnn2 : ¬ ((dd : Int) + 1 = 0) := by omega
                clear hbc HB hd0
                go_wp2_with (go_at_call 93; refine (hS _).mono ?_; rintro r w1 ⟨rfl, rfl⟩)
                go_round
                case rel => exact ⟨dd, i + 1, by omega, by omega, by go_num, by go_num, HB2⟩
                case measure => simp [intOf]; omega
            · rw [if_neg h41] at hbc
              have hb41 := u8_false h41 (x := 41) rfl
              have HB2 : Hid (Spec.bare 0 s.data.toList = (Spec.bare deep (s.data.toList.drop (i + 1))).map (· + (i + 1))) := Lib.hid (by
                rw [HB.out, hbc]
                cases Spec.bare deep (s.data.toList.drop (i + 1)) <;> simp [Nat.add_comm, Nat.add_left_comm])
              clear hbc HB h41
              go_wp2_with (go_at_call 93; refine (hS _).mono ?_; rintro r w1 ⟨rfl, rfl⟩)
              go_round
              case rel => exact ⟨deep, i + 1, by omega, by omega, rfl, by go_num, HB2⟩
              case measure => simp [intOf]; omega
    · have hpi : ¬ (i : Int) < s.size := by omega
      have hnil : s.data.toList.drop i = [] := List.drop_of_length_le (by rw [← Lib.size_eq]; omega)
      by_cases hd : 0 < deep
      · have hdi2 : ((deep : Int) == 0) = false := beq_eq_false_iff_ne.2 (by omega)
        have HN : Hid (optI (Spec.bare 0 s.data.toList) = -1) := Lib.hid (by rw [HB.out, hnil, bare_nil, if_pos hd]; rfl)
        clear hnil HB
        go_wp2
        go_ret
        exact ⟨ret_int HN.out.symm, rfl⟩
      · have hdi2 : ((deep : Int) == 0) = true := beq_iff_eq.2 (by omega)
        have HN : Hid (optI (Spec.bare 0 s.data.toList) = (i : Int)) := Lib.hid (by rw [HB.out, hnil, bare_nil, if_neg hd]; simp [optI])
        clear hnil HB
        go_wp2
        go_ret
        exact ⟨ret_int HN.out.symm, rfl⟩
end Go.Proofs.YtmplfiflikhpjaaGreatDoor
/-
  ref21's said.
-/
namespace Go.Proofs.YtmplfiflikhpjaaGreatDoor
open Go.RowKit

theorem said_quote (c : UInt8) (t : List UInt8) (h : c = 34 ∨ c = 39) : Spec.said (c :: t) = optS t (Spec.until_ c [] t) := by
  unfold Spec.said
  simp only
  rw [if_pos h]
  rfl
theorem said_paren (t : List UInt8) : Spec.said (40 :: t) = optS t (Spec.until_ 41 [40] t) := by
  unfold Spec.said
  simp only
  rw [if_neg (by decide), if_pos trivial]
  rfl
theorem said_none (c : UInt8) (t : List UInt8) (h : ([34, 39, 40] : List UInt8).contains c = false) : Spec.said (c :: t) = ([], 0) := by
  have hm : ¬ c ∈ ([34, 39, 40] : List UInt8) := by
    intro hm
    rw [List.contains_iff_mem.2 hm] at h
    cases h
  simp only [List.mem_cons, List.not_mem_nil, or_false, not_or] at hm
  unfold Spec.said
  simp only
  rw [if_neg (by rintro (h | h); exact hm.1 h; exact hm.2.1 h), if_neg hm.2.2]

set_option maxHeartbeats 8000000 in
set_option maxRecDepth 100000 in
theorem saidQuote21 (s : ByteArray) (w : World) (hs : s.size ≤ 1000000) (h0 : 0 < s.size) (hq : s[0]'h0 = 34 ∨ s[0]'h0 = 39) :
    Calls Tryz.prog 38 #[.string s] w fun r w' => r = .returned (saidRes (optS (s.data.toList.drop 1) (Spec.until_ (s[0]'h0) [] (s.data.toList.drop 1)))) ∧ w = w' := by
  have FNO : Hid (Spec.until_ (s[0]'h0) [] (s.data.toList.drop 1) = none → Ending.returned (.tuple #[.string ⟨#[]⟩, .int .i64 0]) = Ending.returned (saidRes (optS (s.data.toList.drop 1) (Spec.until_ (s[0]'h0) [] (s.data.toList.drop 1))))) := Lib.hid (fun h => by rw [h]; rfl)
  have FIN : Hid (∀ i : Nat, 1 ≤ i → Spec.until_ (s[0]'h0) [] (s.data.toList.drop 1) = some (i - 1) → Ending.returned (.tuple #[.string (s.extract 1 i), .int .i64 ((i : Int) + 1)]) = Ending.returned (saidRes (optS (s.data.toList.drop 1) (Spec.until_ (s[0]'h0) [] (s.data.toList.drop 1))))) := Lib.hid (fun i hi h => by
    rw [h, mid_text]
    refine ret_adr rfl ?_
    show (i : Int) + 1 = ((i - 1 + 2 : Nat) : Int)
    omega)
  generalize hE : Ending.returned (saidRes (optS (s.data.toList.drop 1) (Spec.until_ (s[0]'h0) [] (s.data.toList.drop 1)))) = E at FNO FIN ⊢
  clear hE
  have he := isEmpty_false h0
  have h0i : (0 : Int) < s.size := by omega
  have hA : ∀ W, Calls Tryz.prog 94 #[.int .u8 ((s[0]'h0).toNat : Int), .string ⟨#[34, 39, 40]⟩] W fun e w' => e = .returned (.bool true) ∧ W = w' := fun W => by
    have := among21_any (s[0]'h0) ⟨#[34, 39, 40]⟩ W (by decide)
    rw [show (⟨#[34, 39, 40]⟩ : ByteArray).data.toList.contains (s[0]'h0) = true by rcases hq with h | h <;> rw [h] <;> rfl] at this
    exact this.mono fun e w' h => ⟨h.1, h.2.symm⟩
  have hp0 : (((s[0]'h0).toNat : Int) == 40) = false := by rcases hq with h | h <;> rw [h] <;> rfl
  have hne92 : ¬ (92 : UInt8) = (s[0]'h0) := by intro h; rcases hq with hq | hq <;> rw [hq] at h <;> cases h
  clear hq
  go_enter Tryz.func38, Tryz.ntmps38
  go_wp2_with (go_at_call 94; refine (hA _).mono ?_; rintro r w1 ⟨rfl, rfl⟩)
  clear hA
  go_loop [5] (fun v4 => ∃ i : Nat, 1 ≤ i ∧ i ≤ s.size ∧ v4 = .int .i64 i ∧ Hid (Spec.until_ (s[0]'h0) [] (s.data.toList.drop 1) = (Spec.until_ (s[0]'h0) [] (s.data.toList.drop i)).map (· + (i - 1)))) (fun v4 => s.size - (intOf v4).toNat)
  case atStart => exact ⟨1, Nat.le_refl _, h0, rfl, Lib.hid (by simp)⟩
  case round =>
    obtain ⟨i, hi1, hi, rfl, HU⟩ := hrel
    by_cases hp : i < s.size
    · have hpi : (i : Int) < s.size := by omega
      have huc := until_cons ((s[0]'h0)) [] (s[i]'hp) (s.data.toList.drop (i + 1))
      rw [← drop_at s i hp] at huc
      have hS := step21_at s i hi hs _ rfl
      cases hb : Spec.pair (s.data.toList.drop i) with
      | true =>
        rw [show stepI (s.data.toList.drop i) = 2 by unfold stepI; rw [if_pos hb]] at hS
        rw [if_pos hb, List.drop_drop] at huc
        have hi2 : i + 2 ≤ s.size := by
          have := pair_len _ hb
          rw [List.length_drop, ← Lib.size_eq] at this
          omega
        have h92 : s[i]'hp = 92 := pair_head _ _ (by rw [← drop_at s i hp]; exact hb)
        have b1 : (((s[i]'hp).toNat : Int) == ((s[0]'h0).toNat : Int)) = false := u8_false (show ¬ s[i]'hp = (s[0]'h0) by rw [h92]; exact hne92) rfl
        have HU2 : Hid (Spec.until_ (s[0]'h0) [] (s.data.toList.drop 1) = (Spec.until_ (s[0]'h0) [] (s.data.toList.drop (i + 2))).map (· + (i + 2 - 1))) := Lib.hid (by
          rw [HU.out, huc, Option.map_map]
          congr 1
          funext k
          simp only [Function.comp]
          omega)
        clear huc HU hb h92
        go_wp2_with (go_at_call 93; refine (hS _).mono ?_; rintro r w1 ⟨rfl, rfl⟩)
        go_round
        case rel => exact ⟨i + 2, by omega, hi2, by go_num, HU2⟩
        case measure => simp [intOf]; omega
      | false =>
        rw [show stepI (s.data.toList.drop i) = 1 by unfold stepI; rw [if_neg (by rw [hb]; decide)]] at hS
        rw [if_neg (by rw [hb]; decide)] at huc
        clear hb
        by_cases he2 : (s[i]'hp) = (s[0]'h0)
        · rw [if_pos he2] at huc
          have b1 : (((s[i]'hp).toNat : Int) == ((s[0]'h0).toNat : Int)) = true := u8_true he2 rfl
          have HR : Hid (Spec.until_ (s[0]'h0) [] (s.data.toList.drop 1) = some (i - 1)) := Lib.hid (by rw [HU.out, huc]; simp)
          have hsl := slice_mid s 1 i (i : Int) hi1 hi rfl
          clear huc HU he2
          go_wp2
          go_ret2
          exact ⟨FIN.out i hi1 HR.out, rfl⟩
        · rw [if_neg he2] at huc
          have b1 : (((s[i]'hp).toNat : Int) == ((s[0]'h0).toNat : Int)) = false := u8_false he2 rfl
          · rw [if_neg (by rw [List.contains_nil]; decide)] at huc
            have HU2 : Hid (Spec.until_ (s[0]'h0) [] (s.data.toList.drop 1) = (Spec.until_ (s[0]'h0) [] (s.data.toList.drop (i + 1))).map (· + (i + 1 - 1))) := Lib.hid (by
              rw [HU.out, huc, Option.map_map]
              congr 1
              funext k
              simp only [Function.comp]
              omega)
            clear huc HU he2
            go_wp2_with (go_at_call 93; refine (hS _).mono ?_; rintro r w1 ⟨rfl, rfl⟩)
            go_round
            case rel => exact ⟨i + 1, by omega, by omega, by go_num, HU2⟩
            case measure => simp [intOf]; omega
    · have hpi : ¬ (i : Int) < s.size := by omega
      have HR : Hid (Spec.until_ (s[0]'h0) [] (s.data.toList.drop 1) = none) := Lib.hid (by
        rw [HU.out, List.drop_of_length_le (l := s.data.toList) (i := i) (by rw [← Lib.size_eq]; omega)]; rfl)
      clear HU
      go_wp2
      go_ret2
      exact ⟨FNO.out HR.out, rfl⟩

set_option maxHeartbeats 8000000 in
set_option maxRecDepth 100000 in
theorem saidParen21 (s : ByteArray) (w : World) (hs : s.size ≤ 1000000) (h0 : 0 < s.size) (hq : s[0]'h0 = 40) :
    Calls Tryz.prog 38 #[.string s] w fun r w' => r = .returned (saidRes (optS (s.data.toList.drop 1) (Spec.until_ 41 [40] (s.data.toList.drop 1)))) ∧ w = w' := by
  have FNO : Hid (Spec.until_ 41 [40] (s.data.toList.drop 1) = none → Ending.returned (.tuple #[.string ⟨#[]⟩, .int .i64 0]) = Ending.returned (saidRes (optS (s.data.toList.drop 1) (Spec.until_ 41 [40] (s.data.toList.drop 1))))) := Lib.hid (fun h => by rw [h]; rfl)
  have FIN : Hid (∀ i : Nat, 1 ≤ i → Spec.until_ 41 [40] (s.data.toList.drop 1) = some (i - 1) → Ending.returned (.tuple #[.string (s.extract 1 i), .int .i64 ((i : Int) + 1)]) = Ending.returned (saidRes (optS (s.data.toList.drop 1) (Spec.until_ 41 [40] (s.data.toList.drop 1))))) := Lib.hid (fun i hi h => by
    rw [h, mid_text]
    refine ret_adr rfl ?_
    show (i : Int) + 1 = ((i - 1 + 2 : Nat) : Int)
    omega)
  generalize hE : Ending.returned (saidRes (optS (s.data.toList.drop 1) (Spec.until_ 41 [40] (s.data.toList.drop 1)))) = E at FNO FIN ⊢
  clear hE
  have he := isEmpty_false h0
  have h0i : (0 : Int) < s.size := by omega
  have hA : ∀ W, Calls Tryz.prog 94 #[.int .u8 ((s[0]'h0).toNat : Int), .string ⟨#[34, 39, 40]⟩] W fun e w' => e = .returned (.bool true) ∧ W = w' := fun W => by
    have := among21_any (s[0]'h0) ⟨#[34, 39, 40]⟩ W (by decide)
    rw [show (⟨#[34, 39, 40]⟩ : ByteArray).data.toList.contains (s[0]'h0) = true by rw [hq]; rfl] at this
    exact this.mono fun e w' h => ⟨h.1, h.2.symm⟩
  have hp0 : (((s[0]'h0).toNat : Int) == 40) = true := by rw [hq]; rfl
  have hne92 : ¬ (92 : UInt8) = 41 := by decide
  clear hq
  go_enter Tryz.func38, Tryz.ntmps38
  go_wp2_with (go_at_call 94; refine (hA _).mono ?_; rintro r w1 ⟨rfl, rfl⟩)
  clear hA
  go_loop [5] (fun v4 => ∃ i : Nat, 1 ≤ i ∧ i ≤ s.size ∧ v4 = .int .i64 i ∧ Hid (Spec.until_ 41 [40] (s.data.toList.drop 1) = (Spec.until_ 41 [40] (s.data.toList.drop i)).map (· + (i - 1)))) (fun v4 => s.size - (intOf v4).toNat)
  case atStart => exact ⟨1, Nat.le_refl _, h0, rfl, Lib.hid (by simp)⟩
  case round =>
    obtain ⟨i, hi1, hi, rfl, HU⟩ := hrel
    by_cases hp : i < s.size
    · have hpi : (i : Int) < s.size := by omega
      have huc := until_cons (41) [40] (s[i]'hp) (s.data.toList.drop (i + 1))
      rw [← drop_at s i hp] at huc
      have hS := step21_at s i hi hs _ rfl
      cases hb : Spec.pair (s.data.toList.drop i) with
      | true =>
        rw [show stepI (s.data.toList.drop i) = 2 by unfold stepI; rw [if_pos hb]] at hS
        rw [if_pos hb, List.drop_drop] at huc
        have hi2 : i + 2 ≤ s.size := by
          have := pair_len _ hb
          rw [List.length_drop, ← Lib.size_eq] at this
          omega
        have h92 : s[i]'hp = 92 := pair_head _ _ (by rw [← drop_at s i hp]; exact hb)
        have b1 : (((s[i]'hp).toNat : Int) == 41) = false := u8_false (show ¬ s[i]'hp = 41 by rw [h92]; exact hne92) rfl
        have b2 : (((s[i]'hp).toNat : Int) == 40) = false := by rw [h92]; rfl
        have HU2 : Hid (Spec.until_ 41 [40] (s.data.toList.drop 1) = (Spec.until_ 41 [40] (s.data.toList.drop (i + 2))).map (· + (i + 2 - 1))) := Lib.hid (by
          rw [HU.out, huc, Option.map_map]
          congr 1
          funext k
          simp only [Function.comp]
          omega)
        clear huc HU hb h92
        go_wp2_with (go_at_call 93; refine (hS _).mono ?_; rintro r w1 ⟨rfl, rfl⟩)
        go_round
        case rel => exact ⟨i + 2, by omega, hi2, by go_num, HU2⟩
        case measure => simp [intOf]; omega
      | false =>
        rw [show stepI (s.data.toList.drop i) = 1 by unfold stepI; rw [if_neg (by rw [hb]; decide)]] at hS
        rw [if_neg (by rw [hb]; decide)] at huc
        clear hb
        by_cases he2 : (s[i]'hp) = 41
        · rw [if_pos he2] at huc
          have b1 : (((s[i]'hp).toNat : Int) == 41) = true := u8_true he2 rfl
          have HR : Hid (Spec.until_ 41 [40] (s.data.toList.drop 1) = some (i - 1)) := Lib.hid (by rw [HU.out, huc]; simp)
          have hsl := slice_mid s 1 i (i : Int) hi1 hi rfl
          clear huc HU he2
          go_wp2
          go_ret2
          exact ⟨FIN.out i hi1 HR.out, rfl⟩
        · rw [if_neg he2] at huc
          have b1 : (((s[i]'hp).toNat : Int) == 41) = false := u8_false he2 rfl
          by_cases h40 : (s[i]'hp) = 40
          · have b2 := u8_true h40 (x := 40) rfl
            rw [if_pos (by rw [h40]; rfl)] at huc
            have HR : Hid (Spec.until_ 41 [40] (s.data.toList.drop 1) = none) := Lib.hid (by rw [HU.out, huc]; rfl)
            clear huc HU he2 h40
            go_wp2
            go_ret2
            exact ⟨FNO.out HR.out, rfl⟩
          · have b2 := u8_false h40 (x := 40) rfl
            rw [if_neg (by
              rw [List.contains_iff_mem]
              intro hm
              rw [List.mem_singleton] at hm
              exact h40 hm)] at huc
            have HU2 : Hid (Spec.until_ 41 [40] (s.data.toList.drop 1) = (Spec.until_ 41 [40] (s.data.toList.drop (i + 1))).map (· + (i + 1 - 1))) := Lib.hid (by
              rw [HU.out, huc, Option.map_map]
              congr 1
              funext k
              simp only [Function.comp]
              omega)
            clear huc HU he2
            go_wp2_with (go_at_call 93; refine (hS _).mono ?_; rintro r w1 ⟨rfl, rfl⟩)
            go_round
            case rel => exact ⟨i + 1, by omega, by omega, by go_num, HU2⟩
            case measure => simp [intOf]; omega
    · have hpi : ¬ (i : Int) < s.size := by omega
      have HR : Hid (Spec.until_ 41 [40] (s.data.toList.drop 1) = none) := Lib.hid (by
        rw [HU.out, List.drop_of_length_le (l := s.data.toList) (i := i) (by rw [← Lib.size_eq]; omega)]; rfl)
      clear HU
      go_wp2
      go_ret2
      exact ⟨FNO.out HR.out, rfl⟩

set_option maxHeartbeats 8000000 in
set_option maxRecDepth 100000 in
theorem said21_any (s : ByteArray) (w : World) (hs : s.size ≤ 1000000) :
    Calls Tryz.prog 38 #[.string s] w fun r w' => r = .returned (saidRes (Spec.said s.data.toList)) ∧ w = w' := by
  by_cases h0 : 0 < s.size
  · have hc := head_cons s h0
    by_cases hq : s[0]'h0 = 34 ∨ s[0]'h0 = 39
    · have := saidQuote21 s w hs h0 hq
      rw [← said_quote _ _ hq, ← hc] at this
      exact this
    · by_cases h40 : s[0]'h0 = 40
      · have := saidParen21 s w hs h0 h40
        rw [← said_paren, ← h40, ← hc] at this
        exact this
      · have hno : ([34, 39, 40] : List UInt8).contains (s[0]'h0) = false := by
          rw [← Bool.not_eq_true, List.contains_iff_mem]
          intro hm
          simp only [List.mem_cons, List.not_mem_nil, or_false] at hm
          rcases hm with h | h | h
          · exact hq (.inl h)
          · exact hq (.inr h)
          · exact h40 h
        have hA : ∀ W, Calls Tryz.prog 94 #[.int .u8 ((s[0]'h0).toNat : Int), .string ⟨#[34, 39, 40]⟩] W fun e w' => e = .returned (.bool false) ∧ W = w' := fun W => by
          have := among21_any (s[0]'h0) ⟨#[34, 39, 40]⟩ W (by decide)
          rw [show (⟨#[34, 39, 40]⟩ : ByteArray).data.toList.contains (s[0]'h0) = false from hno] at this
          exact this.mono fun e w' h => ⟨h.1, h.2.symm⟩
        rw [hc, said_none _ _ hno]
        have he := isEmpty_false h0
        have h0i : (0 : Int) < s.size := by omega
        clear hc hq h40 hno
        go_enter Tryz.func38, Tryz.ntmps38
        go_wp2_with (go_at_call 94; refine (hA _).mono ?_; rintro r w1 ⟨rfl, rfl⟩)
        go_ret2
        exact ⟨rfl, rfl⟩
  · have he := isEmpty_true h0
    rw [text_empty h0]
    clear h0
    go_enter Tryz.func38, Tryz.ntmps38
    go_wp2
    go_ret2
    exact ⟨rfl, rfl⟩
end Go.Proofs.YtmplfiflikhpjaaGreatDoor
/-
  The reference's addresses: it answers as the program's own, at every text.
-/
namespace Go.Proofs.YtmplfiflikhpjaaGreatDoor
open Go.RowKit

theorem plainB_at (i : Nat) (h : i < 20) (c : UInt8) : (Spec.plains.drop i).contains c = ((((⟨#[59, 47, 63, 58, 64, 38, 61, 43, 36, 44, 45, 95, 46, 33, 126, 42, 39, 40, 41, 35]⟩ : ByteArray)[i]'h).toNat : Int) == (c.toNat : Int) || (Spec.plains.drop (i + 1)).contains c) := by
  have hb : Spec.plains.drop i = ((⟨#[59, 47, 63, 58, 64, 38, 61, 43, 36, 44, 45, 95, 46, 33, 126, 42, 39, 40, 41, 35]⟩ : ByteArray)[i]'h) :: Spec.plains.drop (i + 1) := by
    rw [List.drop_eq_getElem_cons (show i < Spec.plains.length from h)]; rfl
  rw [hb, List.contains_cons]
  congr 1
  rw [Bool.eq_iff_iff, beq_iff_eq, beq_iff_eq]
  constructor
  · intro e; rw [e]
  · intro e; exact (UInt8.toNat_inj.1 (by omega)).symm
set_option maxHeartbeats 4000000 in
set_option maxRecDepth 100000 in
theorem refPlain_any (c : UInt8) (w : World) :
    Calls Tryz.prog 95 #[.int .u8 (c.toNat : Int)] w fun e w' => e = .returned (.bool (Spec.letter c || Spec.plains.contains c)) ∧ w' = w := by
  obtain ⟨x, hx⟩ : ∃ x : Int, x = (c.toNat : Int) := ⟨_, rfl⟩
  have x0 : 0 ≤ x := by omega
  have x1 : x ≤ 255 := by have := c.toNat_lt; omega
  obtain ⟨b, hb⟩ : ∃ b, b = Spec.letter c := ⟨_, rfl⟩
  have hway : x < 48 ∨ (48 ≤ x ∧ x ≤ 57) ∨ (57 < x ∧ x < 65) ∨ (65 ≤ x ∧ x ≤ 90) ∨ (90 < x ∧ x < 97) ∨ (97 ≤ x ∧ x ≤ 122) ∨ 122 < x := by omega
  have HC : Hid (∀ i (h : i < 20), (Spec.plains.drop i).contains c = ((((⟨#[59, 47, 63, 58, 64, 38, 61, 43, 36, 44, 45, 95, 46, 33, 126, 42, 39, 40, 41, 35]⟩ : ByteArray)[i]'h).toNat : Int) == x || (Spec.plains.drop (i + 1)).contains c)) := Lib.hid (by rw [hx]; exact fun i h => plainB_at i h c)
  rw [← hb, ← hx]
  unfold Spec.letter at hb
  rcases hway with h | ⟨h, h'⟩ | ⟨h, h'⟩ | ⟨h, h'⟩ | ⟨h, h'⟩ | ⟨h, h'⟩ | h
  all_goals first
    | (have HF : Hid (b = true) := Lib.hid (by rw [hb]; simp only [Bool.or_eq_true, Bool.and_eq_true, decide_eq_true_eq]; omega)
       clear hb hx HC
       go_enter Tryz.func95, Tryz.ntmps95
       go_wp2
       go_ret
       exact ⟨by rw [HF.out]; rfl, rfl⟩)
    | (have HF : Hid (b = false) := Lib.hid (by rw [hb]; simp only [Bool.or_eq_false_iff, Bool.and_eq_false_iff, decide_eq_false_iff_not]; omega)
       have HR : Hid ((b || Spec.plains.contains c) = (Spec.plains.drop 0).contains c) := Lib.hid (by rw [HF.out]; rfl)
       clear hb hx
       generalize hr : (b || Spec.plains.contains c) = r at HR ⊢
       clear hr HF
       go_enter Tryz.func95, Tryz.ntmps95
       go_wp2
       go_loop [4] (fun v4 => ∃ i : Nat, i ≤ 20 ∧ v4 = .int .i64 i ∧ Hid (r = (Spec.plains.drop i).contains c)) (fun v4 => 20 - (intOf v4).toNat)
       case atStart => exact ⟨0, by omega, rfl, HR⟩
       case round =>
         obtain ⟨i, hi, rfl, HR⟩ := hrel
         by_cases h20 : i < 20
         · have hi20 : (i : Int) < 20 := by omega
           have hi0 : (0 : Int) ≤ i := by omega
           have HC1 := HC.out i h20
           obtain ⟨y, hy⟩ : ∃ y : Int, y = (((⟨#[59, 47, 63, 58, 64, 38, 61, 43, 36, 44, 45, 95, 46, 33, 126, 42, 39, 40, 41, 35]⟩ : ByteArray)[i]'h20).toNat : Int) := ⟨_, rfl⟩
           rw [← hy] at HC1
           have hix : ∀ W, (Instr.index 9 (.string ⟨#[59, 47, 63, 58, 64, 38, 61, 43, 36, 44, 45, 95, 46, 33, 126, 42, 39, 40, 41, 35]⟩) (.int .i64 (i : Int))).run Tryz.prog W = .ok (.int .u8 y) W := fun W => by
             rw [hy]
             rw [run_index_string _ _ _ _ _ Tryz.underlying9, dif_pos ⟨by omega, by show (i : Int) < 20; omega⟩]
             rfl
           cases he : y == x with
           | true =>
             rw [he, Bool.true_or] at HC1
             have HF : Hid (r = true) := Lib.hid (by rw [HR.out, HC1])
             clear HC1 HR HC hy
             go_wp2
             go_ret
             exact ⟨by rw [HF.out]; rfl, rfl⟩
           | false =>
             rw [he, Bool.false_or] at HC1
             have HF : Hid (r = (Spec.plains.drop (i + 1)).contains c) := Lib.hid (by rw [HR.out, HC1])
             clear HC1 HR HC hy
             go_wp2
             go_round
             case rel => exact ⟨i + 1, by omega, by go_num, HF⟩
             case measure => simp [intOf]; omega
         · have hi20 : ¬ (i : Int) < 20 := by omega
           have HF : Hid (r = false) := Lib.hid (by rw [HR.out, show i = 20 by omega]; rfl)
           clear HR HC
           go_wp2
           go_ret
           exact ⟨by rw [HF.out]; rfl, rfl⟩)

theorem dig_hex (c : UInt8) : Spec.hexs.contains c = decide (0 ≤ digZ c) := by
  have h : ∀ n, n < 256 → Spec.hexs.contains (UInt8.ofNat n) = decide (0 ≤ digZ (UInt8.ofNat n)) := by decide +kernel
  have := h c.toNat c.toNat_lt
  rwa [UInt8.ofNat_toNat] at this
theorem capB_at : ∀ n : Nat, ∀ h : n < 16, (⟨#[48, 49, 50, 51, 52, 53, 54, 55, 56, 57, 65, 66, 67, 68, 69, 70]⟩ : ByteArray)[n]'h = Spec.cap n := by
  intro n hn
  match n, hn with
  | 0, _ | 1, _ | 2, _ | 3, _ | 4, _ | 5, _ | 6, _ | 7, _ | 8, _ | 9, _ | 10, _ | 11, _ | 12, _ | 13, _ | 14, _ | 15, _ => rfl
  | n + 16, h => exact absurd h (by show ¬ n + 16 < 16; omega)

theorem isHex_drop (s : ByteArray) (pos : Nat) (h : pos + 2 < s.size) : Spec.isHex (s.data.toList.drop (pos + 1)) = (decide (0 ≤ digZ (s[pos + 1]'(by omega))) && decide (0 ≤ digZ (s[pos + 2]'h))) := by
  have h1 : s.data.toList.drop (pos + 1) = (s[pos + 1]'(by omega)) :: (s[pos + 2]'h) :: s.data.toList.drop (pos + 3) := by
    rw [List.drop_eq_getElem_cons (show pos + 1 < s.data.toList.length by rw [← Lib.size_eq]; omega), List.drop_eq_getElem_cons (show pos + 1 + 1 < s.data.toList.length by rw [← Lib.size_eq]; omega)]; rfl
  rw [h1, Spec.isHex, dig_hex, dig_hex]
theorem one3 (x y : Int) : ∀ u ∈ [Value.int .u8 37, Value.int .u8 x, Value.int .u8 y], u.oneCell' = true := by
  intro u hu
  simp only [List.mem_cons, List.mem_nil_iff, or_false] at hu
  rcases hu with rfl | rfl | rfl <;> rfl
theorem one1 (x : Int) : ∀ u ∈ [Value.int .u8 x], u.oneCell' = true := by
  intro u hu
  simp only [List.mem_cons, List.mem_nil_iff, or_false] at hu
  rw [hu]; rfl
theorem cells1 (w : World) (x : Value) (t : TypeId) : ∀ (j : Nat) (u : Value), [x][j]? = some u → (w.alloc (.cells #[x] t)).cell? ((⟨w.heap.size, 0, none⟩ : Addr).add j) = some u := by
  intro j u h
  have hadd : (⟨w.heap.size, 0, none⟩ : Addr).add j = ⟨w.heap.size, j, none⟩ := by unfold Addr.add; split <;> simp_all
  rw [hadd]
  exact cell_fresh w _ _ j u (by simpa using h)
theorem cells3 (w : World) (x y z : Value) (t : TypeId) : ∀ (j : Nat) (u : Value), [x, y, z][j]? = some u → (w.alloc (.cells #[x, y, z] t)).cell? ((⟨w.heap.size, 0, none⟩ : Addr).add j) = some u := by
  intro j u h
  have hadd : (⟨w.heap.size, 0, none⟩ : Addr).add j = ⟨w.heap.size, j, none⟩ := by unfold Addr.add; split <;> simp_all
  rw [hadd]
  exact cell_fresh w _ _ j u (by simpa using h)
/-- append as one step of a region that draws: to a row that the call owns. -/
theorem step_append_row {P : Program} {ops : Array Oper} {o : Oper} {a : Act} {w : World} {K : Act → World → Prop} {Q : Exit → Act → World → Prop} {E : Prop} (hgd : o.guard = none) (s x : Operand) (t : TypeId)
    (ho : o.op = .call { callee := .builtin .append, args := #[s, x], argTypes := #[t, t] })
    (base : Nat) (e : TypeId) (i : TypeInfo) (z : Value) (size bytes : Nat) (ht : P.underlying t = some (.slice e)) (hi : P.info? e = some i) (hz : i.zero = some z)
    (hsize : i.size = size) (hby : i.bytes = bytes) (hzs : z.cells.size = size) (hsz : 0 < size)
    (v : Value) (n : Nat) (xs : List Value) (hs : a.eval s = v) (hown : w.ownsRowF base e size v n xs)
    (ad : Addr) (m c : Nat) (news : List Value) (hx : a.eval x = .slice (some ad) m c) (hl : news.length = m * size) (hnews : ∀ j u, news[j]? = some u → w.cell? (ad.add j) = some u) (h1 : ∀ u ∈ news, u.oneCell' = true)
    (h63 : n + m ≤ maxLen) (hbytes : (n + m) * bytes ≤ 140737488355328) (hbase : base ≤ w.heap.size)
    (h : ∀ v' w', w'.ownsRowF base e size v' (n + m) (xs ++ news) → w.grownBy w' v.ownBlock → K (a.put o.dst v') w') :
    if Region.wanted o (yielded ops a.tmps) = true then Oper.wp P o a w K Q else E := by
  have hw : Region.wanted o (yielded ops a.tmps) = true := by simp [Region.wanted, hgd]
  rw [if_pos hw]
  obtain ⟨v', w', hr, h2, h3, _⟩ := run_append_ownF (P := P) w base t o.type e i z size bytes ht hi hz hsize hby hzs hsz v n xs hown ad m c news hl hnews h1 h63 hbytes hbase
  unfold Oper.wp execOp
  simp only [ho, resolve, invoke, builtin, Sem.run_bind, Sem.run_pure, Result.andThen_ok, List.map_toArray, List.map_cons, List.map_nil, hs, hx, hr]
  exact h v' w' h2 h3

set_option maxHeartbeats 1000000 in
set_option maxRecDepth 1000000 in
theorem refUri_any (s : ByteArray) (w : World) (hs : s.size ≤ 1000000) :
    Calls Tryz.prog 39 #[.string s] w fun e w' => e = .returned (.string ⟨(Spec.uri s.data.toList).toArray⟩) ∧ Below w.heap.size w w' := by
  obtain ⟨i0, hi, hz0, hz1, hz2⟩ := info_parts infoByte
  go_enter Tryz.func39, Tryz.ntmps39
  go_wp2
  go_loopw [3, 4] (fun vb vi wr => ∃ (pos : Nat) (acc : List UInt8), pos ≤ s.size ∧ vi = .int .i64 pos ∧ wr.ownsRowF w.heap.size 5 1 vb acc.length (Lib.byteCells acc) ∧ Below w.heap.size w wr ∧ Hid (UriAt s pos acc)) (fun _ vi _ => s.size - (intOf vi).toNat)
  case atStart =>
    exact ⟨0, [], Nat.zero_le _, rfl, World.ownsRowF_nil _ _ _ _, Below.refl _ w, Lib.hid ⟨rfl, Nat.zero_le _⟩⟩
  case round =>
    obtain ⟨pos, acc, hpl, rfl, hI, hbw, HU⟩ := hrel
    have hsz : w.heap.size ≤ wr.heap.size := hbw.size
    have hal : acc.length ≤ 3 * pos := HU.out.2
    by_cases hp : pos < s.size
    · have hpi : (pos : Int) < s.size := by omega
      have hdrop : s.data.toList.drop pos = (s[pos]'hp) :: s.data.toList.drop (pos + 1) := by
        rw [List.drop_eq_getElem_cons (by simpa using hp)]; rfl
      obtain ⟨c, hc⟩ : ∃ c, c = s[pos]'hp := ⟨_, rfl⟩
      have hL := fun W => refPlain_any c W
      rw [← hc] at hdrop
      have hN : Hid (∀ u : List UInt8, Spec.uri (c :: s.data.toList.drop (pos + 1)) = u ++ Spec.uri (s.data.toList.drop (pos + 1)) → u.length ≤ 3 → ∀ W v k, k = (acc ++ u).length → W.ownsRowF w.heap.size 5 1 v k (Lib.byteCells (acc ++ u)) → Below w.heap.size w W →
          (∃ (p2 : Nat) (acc2 : List UInt8), p2 ≤ s.size ∧ Value.int .i64 ((pos : Int) + 1) = .int .i64 p2 ∧ W.ownsRowF w.heap.size 5 1 v acc2.length (Lib.byteCells acc2) ∧ Below w.heap.size w W ∧ Hid (UriAt s p2 acc2))) := Lib.hid fun u hu hul W v k hk h1 h2 =>
        ⟨pos + 1, acc ++ u, by omega, rfl, by rw [← hk]; exact h1, h2, Lib.hid ⟨by rw [List.append_assoc, ← hu, ← hdrop]; exact HU.out.1, by rw [List.length_append]; omega⟩⟩
      have hcx : (c.toNat : Int) ≤ 255 := by have := c.toNat_lt; omega
      have hc0 : 0 ≤ (c.toNat : Int) := by omega
      clear HU hdrop
      by_cases hst : stands c (s.data.toList.drop (pos + 1))
      · have HX := Lib.hid (hN.out _ (uri_cons c _ hst) (by simp))
        clear hN
        cases hl : (Spec.letter c || Spec.plains.contains c) with
        | true =>
          rw [hl] at hL
          clear hst hl
          go_wp2_with fail
          go_at_call 95
          rw [← hc]
          refine (hL _).mono ?_
          rintro e w1 ⟨rfl, rfl⟩
          go_wp2_with (at_builtin; refine wpList_append_ownF _ rfl _ _ 38 rfl w.heap.size 5 i0 (.int .u8 0) 1 1 Tryz.underlying38 hi hz0 hz1 hz2 rfl (by decide) _ _ _ rfl (hI.alloc _) ⟨_, 0, none⟩ 1 1 [.int .u8 ((s[pos]'hp).toNat : Int)] rfl rfl (cells1 _ _ _) (one1 _) (by unfold maxLen; omega) (by omega) (by simp; omega) ?_; intro v2 w2 hI2 hgrow _)
          rw [← hc, byteCells_snoc] at hI2
          have hbb : Below w.heap.size w w2 := (hbw.alloc hsz _).grown hgrow (by simp; omega) (fun k hk => (hI.lt k hk).1)
          have HI2 := Lib.hid hI2
          clear hI2 hI hgrow
          go_wp2
          go_roundw
          case rel => exact HX.out w2 v2 _ (by simp) HI2.out hbb
          case measure => simp [intOf]; omega
        | false =>
          rw [hl] at hL
          rw [Bool.or_eq_false_iff] at hl
          obtain ⟨h37, hh⟩ : c = 37 ∧ Spec.isHex (s.data.toList.drop (pos + 1)) = true := by
            rcases hst with h | h | h
            · rw [hl.1] at h; cases h
            · rw [hl.2] at h; cases h
            · exact h
          have h37b : (((s[pos]'hp).toNat : Int) == 37) = true := by rw [← hc, h37]; rfl
          have hp2 : pos + 2 < s.size := by
            apply Decidable.byContradiction
            intro h
            have hlen : (s.data.toList.drop (pos + 1)).length < 2 := by rw [List.length_drop, ← Lib.size_eq]; omega
            match s.data.toList.drop (pos + 1), hlen, hh with
            | [], _, hh => cases hh
            | [_], _, hh => cases hh
          have hpi2 : (pos : Int) + 2 < s.size := by omega
          have hD1 := fun W => digit_any (s[pos + 1]'(by omega)) W
          have hD2 := fun W => digit_any (s[pos + 2]'hp2) W
          have hx2 := isHex_drop s pos hp2
          rw [hh] at hx2
          obtain ⟨d1, hd1⟩ : ∃ d1, d1 = digZ (s[pos + 1]'(by omega)) := ⟨_, rfl⟩
          obtain ⟨d2, hd2⟩ : ∃ d2, d2 = digZ (s[pos + 2]'hp2) := ⟨_, rfl⟩
          rw [← hd1, ← hd2] at hx2
          rw [← hd1] at hD1
          rw [← hd2] at hD2
          have hx3 := hx2.symm
          rw [Bool.and_eq_true, decide_eq_true_eq, decide_eq_true_eq] at hx3
          have hn1 := hx3.1
          have hn2 := hx3.2
          clear hd1 hd2 hx2 hx3 hh h37 hst hl
          go_wp2_with fail
          go_at_call 95
          rw [← hc]
          refine (hL _).mono ?_
          rintro e w1 ⟨rfl, rfl⟩
          go_wp2_with fail
          refine (hD1 _).mono ?_
          rintro e w1 ⟨rfl, rfl⟩
          go_wp2_with fail
          refine (hD2 _).mono ?_
          rintro e w1 ⟨rfl, rfl⟩
          go_wp2_with (at_builtin; refine wpList_append_ownF _ rfl _ _ 38 rfl w.heap.size 5 i0 (.int .u8 0) 1 1 Tryz.underlying38 hi hz0 hz1 hz2 rfl (by decide) _ _ _ rfl (hI.alloc _) ⟨_, 0, none⟩ 1 1 [.int .u8 ((s[pos]'hp).toNat : Int)] rfl rfl (cells1 _ _ _) (one1 _) (by unfold maxLen; omega) (by omega) (by simp; omega) ?_; intro v2 w2 hI2 hgrow _)
          rw [← hc, byteCells_snoc] at hI2
          have hbb : Below w.heap.size w w2 := (hbw.alloc hsz _).grown hgrow (by simp; omega) (fun k hk => (hI.lt k hk).1)
          have HI2 := Lib.hid hI2
          clear hI2 hI hgrow
          go_wp2
          go_roundw
          case rel => exact HX.out w2 v2 _ (by simp) HI2.out hbb
          case measure => simp [intOf]; omega
      · have HX := Lib.hid (hN.out _ (uri_cons' c _ hst) (by simp))
        clear hN
        have hl : (Spec.letter c || Spec.plains.contains c) = false := by
          rw [Bool.or_eq_false_iff]
          constructor
          · cases h : Spec.letter c
            · rfl
            · exact absurd (.inl h) hst
          · cases h : Spec.plains.contains c
            · rfl
            · exact absurd (.inr (.inl h)) hst
        rw [hl] at hL
        obtain ⟨hh, hhh⟩ : ∃ hh : Nat, hh = c.toNat / 16 := ⟨_, rfl⟩
        obtain ⟨lo, hlo⟩ : ∃ lo : Nat, lo = c.toNat % 16 := ⟨_, rfl⟩
        rw [← hhh, ← hlo] at HX
        have hhi16 : hh < 16 := by have := c.toNat_lt; omega
        have hlo16 : lo < 16 := by omega
        have hhe : ((s[pos]'hp).toNat : Int) / 16 = (hh : Int) := by rw [← hc]; omega
        have hle : bits .and .u8 ((s[pos]'hp).toNat : Int) 15 = (lo : Int) := by rw [← hc, u8_and15 _ hc0 (by omega)]; omega
        have hs1 : ∀ W, (Instr.index 9 (.string ⟨#[48, 49, 50, 51, 52, 53, 54, 55, 56, 57, 65, 66, 67, 68, 69, 70]⟩) (.int .u8 (hh : Int))).run Tryz.prog W = .ok (.int .u8 ((Spec.cap hh).toNat : Int)) W := fun W => by
          rw [run_index_string _ _ _ _ _ Tryz.underlying9, dif_pos ⟨by omega, by show (hh : Int) < 16; omega⟩, ← capB_at hh hhi16]
          rfl
        have hs2 : ∀ W, (Instr.index 9 (.string ⟨#[48, 49, 50, 51, 52, 53, 54, 55, 56, 57, 65, 66, 67, 68, 69, 70]⟩) (.int .u8 (lo : Int))).run Tryz.prog W = .ok (.int .u8 ((Spec.cap lo).toNat : Int)) W := fun W => by
          rw [run_index_string _ _ _ _ _ Tryz.underlying9, dif_pos ⟨by omega, by show (lo : Int) < 16; omega⟩, ← capB_at lo hlo16]
          rfl
        obtain ⟨y1, hy1⟩ : ∃ y1 : Int, y1 = ((Spec.cap hh).toNat : Int) := ⟨_, rfl⟩
        obtain ⟨y2, hy2⟩ : ∃ y2 : Int, y2 = ((Spec.cap lo).toNat : Int) := ⟨_, rfl⟩
        rw [← hy1] at hs1
        rw [← hy2] at hs2
        have HB : Hid (∀ l : List UInt8, Lib.byteCells l ++ [.int .u8 37, .int .u8 y1, .int .u8 y2] = Lib.byteCells (l ++ [37, Spec.cap hh, Spec.cap lo])) := Lib.hid fun l => by rw [Lib.byteCells_append, hy1, hy2]; rfl
        clear hhh hlo hl hy1 hy2
        by_cases h37 : c = 37
        · have h37b : (((s[pos]'hp).toNat : Int) == 37) = true := by rw [← hc, h37]; rfl
          have HH : Hid (Spec.isHex (s.data.toList.drop (pos + 1)) = false) := Lib.hid (by
            cases h : Spec.isHex (s.data.toList.drop (pos + 1))
            · rfl
            · exact absurd (.inr (.inr ⟨h37, h⟩)) hst)
          clear hst h37
          by_cases hp2 : pos + 2 < s.size
          · have hpi2 : (pos : Int) + 2 < s.size := by omega
            have hD1 := fun W => digit_any (s[pos + 1]'(by omega)) W
            have hD2 := fun W => digit_any (s[pos + 2]'hp2) W
            have hx2 := isHex_drop s pos hp2
            rw [HH.out] at hx2
            obtain ⟨d1, hd1⟩ : ∃ d1, d1 = digZ (s[pos + 1]'(by omega)) := ⟨_, rfl⟩
            obtain ⟨d2, hd2⟩ : ∃ d2, d2 = digZ (s[pos + 2]'hp2) := ⟨_, rfl⟩
            rw [← hd1, ← hd2] at hx2
            rw [← hd1] at hD1
            rw [← hd2] at hD2
            have hway : d1 < 0 ∨ (0 ≤ d1 ∧ d2 < 0) := by
              by_cases h1 : 0 ≤ d1
              · rw [decide_eq_true h1, Bool.true_and] at hx2
                have := of_decide_eq_false hx2.symm
                exact .inr ⟨h1, by omega⟩
              · exact .inl (by omega)
            clear hd1 hd2 hx2 HH
            rcases hway with hn1 | ⟨hn1, hn2⟩
            · go_wp2_with (first | (go_at_call 95; rw [← hc]; refine (hL _).mono ?_; rintro e w1 ⟨rfl, rfl⟩) | (go_at_call 96; first | (with_reducible refine (hD1 _).mono ?_); rintro e w1 ⟨rfl, rfl⟩))
              have hId := row_below hI (below_drew (Below.refl _ _))
              have hbd := below_drew hbw
              have hszd : w.heap.size ≤ w1.drew.heap.size := hbd.size
              go_region_law (refine step_append_row rfl _ _ 38 rfl w.heap.size 5 i0 (.int .u8 0) 1 1 Tryz.underlying38 hi hz0 hz1 hz2 rfl (by decide) _ _ _ rfl (hId.alloc _) ⟨w1.heap.size, 0, none⟩ 3 3 [.int .u8 37, .int .u8 y1, .int .u8 y2] rfl rfl (cells3 _ _ _ _ _) (one3 _ _) (by unfold maxLen; omega) (by omega) (by simp; omega) ?_; intro v2 w2 hI2 hgrow)
              all_goals
                rw [HB.out] at hI2
                have hbb : Below w.heap.size w w2 := (hbd.alloc hszd _).grown hgrow (by simp; omega) (fun k hk => (hId.lt k hk).1)
                have HI2 := Lib.hid hI2
                clear hI2 hgrow
                go_wp2
                go_roundw
                case rel => exact HX.out w2 v2 _ (by simp) HI2.out hbb
                case measure => simp [intOf]; omega
            · go_wp2_with (first | (go_at_call 95; rw [← hc]; refine (hL _).mono ?_; rintro e w1 ⟨rfl, rfl⟩) | (go_at_call 96; with_reducible refine (hD1 _).mono ?_; rintro e w1 ⟨rfl, rfl⟩) | (go_at_call 96; with_reducible refine (hD2 _).mono ?_; rintro e w1 ⟨rfl, rfl⟩))
              have hId := row_below hI (below_drew (Below.refl _ _))
              have hbd := below_drew hbw
              have hszd : w.heap.size ≤ w1.drew.heap.size := hbd.size
              go_region_law (refine step_append_row rfl _ _ 38 rfl w.heap.size 5 i0 (.int .u8 0) 1 1 Tryz.underlying38 hi hz0 hz1 hz2 rfl (by decide) _ _ _ rfl (hId.alloc _) ⟨w1.heap.size, 0, none⟩ 3 3 [.int .u8 37, .int .u8 y1, .int .u8 y2] rfl rfl (cells3 _ _ _ _ _) (one3 _ _) (by unfold maxLen; omega) (by omega) (by simp; omega) ?_; intro v2 w2 hI2 hgrow)
              all_goals
                rw [HB.out] at hI2
                have hbb : Below w.heap.size w w2 := (hbd.alloc hszd _).grown hgrow (by simp; omega) (fun k hk => (hId.lt k hk).1)
                have HI2 := Lib.hid hI2
                clear hI2 hgrow
                go_wp2
                go_roundw
                case rel => exact HX.out w2 v2 _ (by simp) HI2.out hbb
                case measure => simp [intOf]; omega
          · have hpi2 : ¬ (pos : Int) + 2 < s.size := by omega
            clear HH
            go_wp2_with (go_at_call 95; rw [← hc]; refine (hL _).mono ?_; rintro e w1 ⟨rfl, rfl⟩)
            have hId := row_below hI (below_drew (Below.refl _ _))
            have hbd := below_drew hbw
            have hszd : w.heap.size ≤ w1.drew.heap.size := hbd.size
            go_region_law (refine step_append_row rfl _ _ 38 rfl w.heap.size 5 i0 (.int .u8 0) 1 1 Tryz.underlying38 hi hz0 hz1 hz2 rfl (by decide) _ _ _ rfl (hId.alloc _) ⟨w1.heap.size, 0, none⟩ 3 3 [.int .u8 37, .int .u8 y1, .int .u8 y2] rfl rfl (cells3 _ _ _ _ _) (one3 _ _) (by unfold maxLen; omega) (by omega) (by simp; omega) ?_; intro v2 w2 hI2 hgrow)
            all_goals
              rw [HB.out] at hI2
              have hbb : Below w.heap.size w w2 := (hbd.alloc hszd _).grown hgrow (by simp; omega) (fun k hk => (hId.lt k hk).1)
              have HI2 := Lib.hid hI2
              clear hI2 hgrow
              go_wp2
              go_roundw
              case rel => exact HX.out w2 v2 _ (by simp) HI2.out hbb
              case measure => simp [intOf]; omega
        · have h37b : (((s[pos]'hp).toNat : Int) == 37) = false := beq_eq_false_iff_ne.2 (fun e => h37 (UInt8.toNat_inj.1 (by rw [← hc] at e; have : (37 : UInt8).toNat = 37 := rfl; omega)))
          clear hst h37
          go_wp2_with (go_at_call 95; rw [← hc]; refine (hL _).mono ?_; rintro e w1 ⟨rfl, rfl⟩)
          have hId := row_below hI (below_drew (Below.refl _ _))
          have hbd := below_drew hbw
          have hszd : w.heap.size ≤ w1.drew.heap.size := hbd.size
          go_region_law (refine step_append_row rfl _ _ 38 rfl w.heap.size 5 i0 (.int .u8 0) 1 1 Tryz.underlying38 hi hz0 hz1 hz2 rfl (by decide) _ _ _ rfl (hId.alloc _) ⟨w1.heap.size, 0, none⟩ 3 3 [.int .u8 37, .int .u8 y1, .int .u8 y2] rfl rfl (cells3 _ _ _ _ _) (one3 _ _) (by unfold maxLen; omega) (by omega) (by simp; omega) ?_; intro v2 w2 hI2 hgrow)
          all_goals
            rw [HB.out] at hI2
            have hbb : Below w.heap.size w w2 := (hbd.alloc hszd _).grown hgrow (by simp; omega) (fun k hk => (hId.lt k hk).1)
            have HI2 := Lib.hid hI2
            clear hI2 hgrow
            go_wp2
            go_roundw
            case rel => exact HX.out w2 v2 _ (by simp) HI2.out hbb
            case measure => simp [intOf]; omega
    · -- the text is through
      have hpe : pos = s.size := by omega
      have hfin : acc = Spec.uri s.data.toList := by
        have := HU.out.1
        rw [List.drop_of_length_le (by rw [← Lib.size_eq]; omega), Spec.uri, List.append_nil] at this
        exact this
      have HF := Lib.hid hfin
      have HP : Hid (pos = s.size) := Lib.hid hpe
      clear hpe hfin HU
      have hpi : ¬ (pos : Int) < s.size := by omega
      have hcv := row_str acc hI
      go_wp2
      go_ret
      exact ⟨ret_str (by rw [HF.out]), hbw⟩
end Go.Proofs.YtmplfiflikhpjaaGreatDoor
/-
  ref21's Dest.
-/
namespace Go.Proofs.YtmplfiflikhpjaaGreatDoor
open Go.RowKit

theorem whites_skip (l : List UInt8) : Spec.skipW l = l.drop (whites l) := by
  unfold Spec.skipW whites
  induction l with
  | nil => rfl
  | cons c t ih =>
    by_cases h : Spec.whiteC c = true
    · rw [List.dropWhile_cons, if_pos h, List.takeWhile_cons, if_pos h, ih, List.length_cons, List.drop_succ_cons]
    · rw [List.dropWhile_cons, if_neg h, List.takeWhile_cons, if_neg h]; rfl
theorem whites_le (l : List UInt8) : whites l ≤ l.length := (List.takeWhile_sublist _).length_le
theorem white_at (s : ByteArray) (i : Nat) (hi : i ≤ s.size) (hs : s.size ≤ 1000000) (k : Nat) (hk : whites (s.data.toList.drop i) = k) :
    ∀ W, Calls Tryz.prog 35 #[.string (s.extract i s.size)] W fun e w' => e = .returned (.int .i64 (k : Int)) ∧ W = w' := fun W => by
  have := white_any (s.extract i s.size) W (by rw [Lib.size_eq, ext_list s i hi, List.length_drop, ← Lib.size_eq]; omega)
  rw [ext_list s i hi, hk] at this
  exact this.mono fun e w' h => ⟨h.1, h.2.symm⟩
theorem said_at (s : ByteArray) (i : Nat) (hi : i ≤ s.size) (hs : s.size ≤ 1000000) (u : ByteArray) (m : Nat) (hk : Spec.said (s.data.toList.drop i) = (u.data.toList, m)) :
    ∀ W, Calls Tryz.prog 38 #[.string (s.extract i s.size)] W fun e w' => e = .returned (.tuple #[.string u, .int .i64 (m : Int)]) ∧ W = w' := fun W => by
  have := said21_any (s.extract i s.size) W (by rw [Lib.size_eq, ext_list s i hi, List.length_drop, ← Lib.size_eq]; omega)
  rw [ext_list s i hi, hk] at this
  exact this.mono fun e w' h => ⟨h.1.trans (ret_adr (toL' u).symm rfl), h.2⟩
theorem angled_at (s : ByteArray) (i : Nat) (hi : i ≤ s.size) (hs : s.size ≤ 1000000) (u : ByteArray) (m : Nat) (hk : optS ((s.data.toList.drop i).drop 1) (Spec.until_ 62 [60, 10] ((s.data.toList.drop i).drop 1)) = (u.data.toList, m)) :
    ∀ W, Calls Tryz.prog 36 #[.string (s.extract i s.size)] W fun e w' => e = .returned (.tuple #[.string u, .int .i64 (m : Int)]) ∧ W = w' := fun W => by
  have := angled21_any (s.extract i s.size) W (by rw [Lib.size_eq, ext_list s i hi, List.length_drop, ← Lib.size_eq]; omega)
  rw [ext_list s i hi, hk] at this
  exact this.mono fun e w' h => ⟨h.1.trans (ret_adr (toL' u).symm rfl), h.2⟩
theorem bare_at (s : ByteArray) (i : Nat) (hi : i ≤ s.size) (hs : s.size ≤ 1000000) (z : Int) (hk : optI (Spec.bare 0 (s.data.toList.drop i)) = z) :
    ∀ W, Calls Tryz.prog 37 #[.string (s.extract i s.size)] W fun e w' => e = .returned (.int .i64 z) ∧ W = w' := fun W => by
  have := bare21_any (s.extract i s.size) W (by rw [Lib.size_eq, ext_list s i hi, List.length_drop, ← Lib.size_eq]; omega)
  rw [ext_list s i hi, hk] at this
  exact this
/-- Where a link leads, by places. -/
theorem dest_pos (L a : List UInt8) (hL : L.head? = some 40) (at0 k w p1 : Nat) (h0 : at0 = 1 + whites (L.drop 1)) (ha : Spec.address (L.drop at0) = some (a, k)) (hp1 : p1 = at0 + k) (hw : w = whites (L.drop p1)) :
    (0 < w → ∀ u m p2 p3 p4, p2 = p1 + w → Spec.said (L.drop p2) = (u, m) → p3 = p2 + m → p4 = p3 + whites (L.drop p3) → Spec.dest L = destEnd L.length a u (L.drop p4)) ∧ (w = 0 → Spec.dest L = destEnd L.length a [] (L.drop p1)) := by
  cases L with
  | nil => cases hL
  | cons c t =>
    obtain rfl : c = 40 := Option.some.inj hL
    have e0 : Spec.skipW t = (40 :: t).drop at0 := by rw [whites_skip, h0, Nat.add_comm, List.drop_succ_cons]; rfl
    have e1 : (Spec.skipW t).drop k = (40 :: t).drop p1 := by rw [e0, List.drop_drop, hp1]
    have hwl : w ≤ (40 :: t).length - p1 := by
      rw [hw]
      have := whites_le ((40 :: t).drop p1)
      rw [List.length_drop] at this
      exact this
    have e2 : Spec.skipW ((40 :: t).drop p1) = (40 :: t).drop (p1 + w) := by rw [whites_skip, List.drop_drop, ← hw]
    rw [dest_cons, e0, ha]
    simp only
    rw [← e0, e1, e2, List.length_drop, List.length_drop]
    constructor
    · intro h u m p2 p3 p4 h2 hs h3 h4
      rw [if_pos (by omega), ← h2, hs]
      simp only
      have e3 : Spec.skipW (((40 :: t).drop p2).drop m) = (40 :: t).drop p4 := by rw [List.drop_drop, ← h3, whites_skip, List.drop_drop, ← h4]
      rw [e3]
      rfl
    · intro h
      rw [if_neg (by omega)]
      rfl
theorem dest_none (L : List UInt8) (hL : L.head? = some 40) (at0 : Nat) (h0 : at0 = 1 + whites (L.drop 1)) (ha : Spec.address (L.drop at0) = none) : Spec.dest L = ([], [], 0) := by
  cases L with
  | nil => cases hL
  | cons c t =>
    obtain rfl : c = 40 := Option.some.inj hL
    have e0 : Spec.skipW t = (40 :: t).drop at0 := by rw [whites_skip, h0, Nat.add_comm, List.drop_succ_cons]; rfl
    rw [dest_cons, e0, ha]
theorem destEnd_yes (L a u : List UInt8) (p : Nat) (h : L[p]? = some 41) : destEnd L.length a u (L.drop p) = (Spec.uri (Spec.unesc a), Spec.unesc u, p + 1) := by
  have hp : p < L.length := by
    apply Decidable.byContradiction
    intro hn
    rw [List.getElem?_eq_none (by omega)] at h
    cases h
  unfold destEnd
  rw [List.head?_drop, if_pos h, List.length_drop]
  refine Prod.ext rfl (Prod.ext rfl ?_)
  show L.length - (L.length - p) + 1 = p + 1
  omega
theorem destEnd_no (L a u : List UInt8) (p : Nat) (h : L[p]? ≠ some 41) : destEnd L.length a u (L.drop p) = ([], [], 0) := by
  unfold destEnd
  rw [List.head?_drop, if_neg h]
/-- What the end wants of the reference's own functions. -/
theorem dest_ends (s : ByteArray) (hs : s.size ≤ 100000) (aB tB : ByteArray) (ha : aB.size ≤ s.size) (ht : tB.size ≤ s.size) :
    (∀ W, Calls Tryz.prog 40 #[.string tB] W fun e w' => e = .returned (.string ⟨(Spec.unesc tB.data.toList).toArray⟩) ∧ Below W.heap.size W w') ∧
    (∀ W, Calls Tryz.prog 40 #[.string aB] W fun e w' => e = .returned (.string ⟨(Spec.unesc aB.data.toList).toArray⟩) ∧ Below W.heap.size W w') ∧
    (∀ W, Calls Tryz.prog 39 #[.string ⟨(Spec.unesc aB.data.toList).toArray⟩] W fun e w' => e = .returned (.string ⟨(Spec.uri (Spec.unesc aB.data.toList)).toArray⟩) ∧ Below W.heap.size W w') := by
  refine ⟨fun W => refUnescape_any tB W (by omega), fun W => refUnescape_any aB W (by omega), fun W => ?_⟩
  have := refUri_any ⟨(Spec.unesc aB.data.toList).toArray⟩ W (by
    rw [Lib.size_eq]
    have h4 := unesc_len4 aB.data.toList
    rw [← Lib.size_eq] at h4
    show (Spec.unesc aB.data.toList).length ≤ _
    omega)
  exact this

set_option maxHeartbeats 16000000 in
set_option maxRecDepth 100000 in
theorem dest21_any (s : ByteArray) (w : World) (hs : s.size ≤ 100000) :
    Calls Tryz.prog 20 #[.string s] w fun r w' => r = .returned (destRes (Spec.dest s.data.toList)) ∧ Below w.heap.size w w' := by
  have enter0 : Hid (Spec.dest s.data.toList = ([], [], 0) → Ending.returned (.tuple #[.string ⟨#[]⟩, .string ⟨#[]⟩, .int .i64 0]) = Ending.returned (destRes (Spec.dest s.data.toList))) := Lib.hid (fun h => by rw [h]; rfl)
  by_cases h0 : 0 < s.size
  · have he := isEmpty_false h0
    have h0i : (0 : Int) < s.size := by omega
    have h1i : (1 : Int) ≤ s.size := by omega
    have hc := head_cons s h0
    by_cases h40 : s[0]'h0 = 40
    · have b40 : (((s[0]'h0).toNat : Int) != 40) = false := ne_of_eq (u8_true h40 rfl)
      have HL : Hid (s.data.toList.head? = some 40) := Lib.hid (by rw [hc, h40]; rfl)
      obtain ⟨w0, hw0⟩ : ∃ w0, w0 = whites (s.data.toList.drop 1) := ⟨_, rfl⟩
      have hW0 := white_at s 1 h0 (by omega) w0 hw0.symm
      obtain ⟨at0, hat0⟩ : ∃ at0, at0 = 1 + w0 := ⟨_, rfl⟩
      have hat0s : at0 ≤ s.size := by
        have := whites_le (s.data.toList.drop 1)
        rw [List.length_drop, ← Lib.size_eq] at this
        omega
      have H0 : Hid (at0 = 1 + whites (s.data.toList.drop 1)) := Lib.hid (by rw [hat0, hw0])
      have hi0 : (1 : Int) + (w0 : Int) = (at0 : Int) := by omega
      have hat0i : (at0 : Int) ≤ s.size := by omega
      have FNO : Hid (Spec.address (s.data.toList.drop at0) = none → Ending.returned (.tuple #[.string ⟨#[]⟩, .string ⟨#[]⟩, .int .i64 0]) = Ending.returned (destRes (Spec.dest s.data.toList))) := Lib.hid (fun h => enter0.out (dest_none _ HL.out at0 H0.out h))
      have hlen : s.data.toList.length = s.size := (Lib.size_eq s).symm
      have HP : Hid (∀ (aB : ByteArray) (k w p1 : Nat), Spec.address (s.data.toList.drop at0) = some (aB.data.toList, k) → p1 = at0 + k → w = whites (s.data.toList.drop p1) →
          (0 < w → ∀ (u : ByteArray) m p2 p3 p4, p2 = p1 + w → Spec.said (s.data.toList.drop p2) = (u.data.toList, m) → p3 = p2 + m → p4 = p3 + whites (s.data.toList.drop p3) → Spec.dest s.data.toList = destEnd s.data.toList.length aB.data.toList u.data.toList (s.data.toList.drop p4)) ∧ (w = 0 → Spec.dest s.data.toList = destEnd s.data.toList.length aB.data.toList [] (s.data.toList.drop p1))) := Lib.hid (fun aB k w p1 ha hp hw =>
        ⟨fun h u m p2 p3 p4 => (dest_pos s.data.toList aB.data.toList HL.out at0 k w p1 H0.out ha hp hw).1 h u.data.toList m p2 p3 p4, (dest_pos s.data.toList aB.data.toList HL.out at0 k w p1 H0.out ha hp hw).2⟩)
      -- the end, for whatever was found
      have FIN : Hid (∀ (aB tB : ByteArray) (p : Nat), Spec.dest s.data.toList = destEnd s.data.toList.length aB.data.toList tB.data.toList (s.data.toList.drop p) → p ≤ s.size →
          ((((p : Int) == (s.size : Int)) = true ∨ (((p : Int) == (s.size : Int)) = false ∧ ∃ h : p < s.size, (((s[p]'h).toNat : Int) != 41) = true)) ∧ Ending.returned (.tuple #[.string ⟨#[]⟩, .string ⟨#[]⟩, .int .i64 0]) = Ending.returned (destRes (Spec.dest s.data.toList))) ∨
          ((((p : Int) == (s.size : Int)) = false ∧ ∃ h : p < s.size, (((s[p]'h).toNat : Int) != 41) = false) ∧ Ending.returned (.tuple #[.string ⟨(Spec.uri (Spec.unesc aB.data.toList)).toArray⟩, .string ⟨(Spec.unesc tB.data.toList).toArray⟩, .int .i64 ((p : Int) + 1)]) = Ending.returned (destRes (Spec.dest s.data.toList)))) := Lib.hid (fun aB tB p hd hp => by
        by_cases h1 : p < s.size
        · have hat := at_list s p h1
          by_cases h2 : s[p]'h1 = 41
          · refine .inr ⟨⟨beq_eq_false_iff_ne.2 (by omega), h1, ne_of_eq (u8_true h2 rfl)⟩, ?_⟩
            rw [hd, destEnd_yes _ _ _ p (by rw [hat, h2])]
            exact ret3 rfl rfl rfl
          · refine .inl ⟨.inr ⟨beq_eq_false_iff_ne.2 (by omega), h1, ne_of_eq (u8_false h2 rfl)⟩, enter0.out ?_⟩
            rw [hd, destEnd_no _ _ _ p (by rw [hat]; intro e; exact h2 (Option.some.inj e))]
        · refine .inl ⟨.inl (beq_iff_eq.2 (by omega)), enter0.out ?_⟩
          rw [hd, destEnd_no _ _ _ p (by rw [List.getElem?_eq_none (by omega)]; intro e; cases e)])
      clear hw0 h40 hc hlen hat0
      have hA60 := fun (h : at0 < s.size) (h60 : s[at0]'h = 60) => (show Spec.address (s.data.toList.drop at0) = (Spec.until_ 62 [60, 10] ((s.data.toList.drop at0).drop 1)).map fun n => (((s.data.toList.drop at0).drop 1).take n, n + 2) by
        rw [drop_at s at0 h, h60, address_angle]; rfl)
      have hA0 := fun (h : s.data.toList.drop at0 = [] ∨ ∃ h : at0 < s.size, ¬ s[at0]'h = 60) => address_bare (s.data.toList.drop at0) (by
        rcases h with h | ⟨h, h2⟩
        · rw [h]; intro e; cases e
        · rw [drop_at s at0 h]; intro e; exact h2 (Option.some.inj e))
      by_cases h60 : ∃ h : at0 < s.size, s[at0]'h = 60
      · obtain ⟨hl0, h60⟩ := h60
        have hl0i : (at0 : Int) < s.size := by omega
        have b60 := u8_true h60 (x := 60) rfl
        have hA := hA60 hl0 h60
        clear hA60 hA0 h60
        cases hu : Spec.until_ 62 [60, 10] ((s.data.toList.drop at0).drop 1) with
        | none =>
          rw [hu] at hA
          have hAn := angled_at s at0 hat0s (by omega) ⟨#[]⟩ 0 (by rw [hu]; rfl)
          have HR := Lib.hid (FNO.out hA)
          clear hA hu HP FIN
          go_enter Tryz.func20, Tryz.ntmps20
          go_wp2_with fail
          refine (hW0 _).mono ?_
          rintro e w1 ⟨rfl, rfl⟩
          go_wp2_with fail
          refine (hAn _).mono ?_
          rintro e w1 ⟨rfl, rfl⟩
          go_wp2
          go_ret3
          exact ⟨HR.out, Below.refl _ _⟩
        | some n =>
          rw [hu] at hA
          obtain ⟨aB, haB⟩ : ∃ aB : ByteArray, aB = ⟨(((s.data.toList.drop at0).drop 1).take n).toArray⟩ := ⟨_, rfl⟩
          have haL : aB.data.toList = ((s.data.toList.drop at0).drop 1).take n := by rw [haB]
          have hAn := angled_at s at0 hat0s (by omega) aB (n + 2) (by rw [hu, haL]; rfl)
          have hA2 : Spec.address (s.data.toList.drop at0) = some (aB.data.toList, n + 2) := by rw [hA, haL]; rfl
          have hle := address_le _ _ _ hA2
          rw [List.length_drop, ← Lib.size_eq, ← Lib.size_eq] at hle
          obtain ⟨k, hk⟩ : ∃ k, k = n + 2 := ⟨_, rfl⟩
          rw [← hk] at hAn hA2 hle
          have hkz : ((k : Int) == 0) = false := beq_eq_false_iff_ne.2 (by omega)
          clear hA hu haB haL hk FNO
          obtain ⟨p1, hp1⟩ : ∃ p1, p1 = at0 + k := ⟨_, rfl⟩
          obtain ⟨w1, hw1⟩ : ∃ w1, w1 = whites (s.data.toList.drop p1) := ⟨_, rfl⟩
          have hP := HP.out aB k w1 p1 hA2 hp1 hw1
          have hp1l : p1 ≤ s.size := by omega
          have hw1l : w1 ≤ s.size - p1 := by
            have := whites_le (s.data.toList.drop p1)
            rw [List.length_drop, ← Lib.size_eq] at this
            omega
          have hW1 := white_at s p1 hp1l (by omega) w1 hw1.symm
          have hi1 : (at0 : Int) + (k : Int) = (p1 : Int) := by omega
          have hp1i : (p1 : Int) ≤ s.size := by omega
          obtain ⟨p2, hp2⟩ : ∃ p2, p2 = p1 + w1 := ⟨_, rfl⟩
          have hi2 : (p1 : Int) + (w1 : Int) = (p2 : Int) := by omega
          have hp2l : p2 ≤ s.size := by omega
          have hp2i : (p2 : Int) ≤ s.size := by omega
          have HA2L := Lib.hid hle
          have HP2 := Lib.hid hp2
          clear HP hw1 hA2 hp1 hle hw1l hp2
          by_cases hwp : 0 < w1
          · have hwpi : (0 : Int) < w1 := by omega
            obtain ⟨tB, htB⟩ : ∃ tB : ByteArray, tB = ⟨(Spec.said (s.data.toList.drop p2)).1.toArray⟩ := ⟨_, rfl⟩
            have htL : tB.data.toList = (Spec.said (s.data.toList.drop p2)).1 := by rw [htB]
            obtain ⟨m, hm⟩ : ∃ m, m = (Spec.said (s.data.toList.drop p2)).2 := ⟨_, rfl⟩
            have hsd : Spec.said (s.data.toList.drop p2) = (tB.data.toList, m) := by rw [htL, hm]
            have hml := said_le (s.data.toList.drop p2)
            have htl := said_fst_le (s.data.toList.drop p2)
            rw [hsd, List.length_drop, ← Lib.size_eq] at hml htl
            simp only at hml htl
            rw [← Lib.size_eq] at htl
            have hSa := said_at s p2 hp2l (by omega) tB m hsd
            obtain ⟨p3, hp3⟩ : ∃ p3, p3 = p2 + m := ⟨_, rfl⟩
            have hi3 : (p2 : Int) + (m : Int) = (p3 : Int) := by omega
            have hp3l : p3 ≤ s.size := by omega
            have hp3i : (p3 : Int) ≤ s.size := by omega
            obtain ⟨w3, hw3⟩ : ∃ w3, w3 = whites (s.data.toList.drop p3) := ⟨_, rfl⟩
            have hw3l : w3 ≤ s.size - p3 := by
              have := whites_le (s.data.toList.drop p3)
              rw [List.length_drop, ← Lib.size_eq] at this
              omega
            have hW3 := white_at s p3 hp3l (by omega) w3 hw3.symm
            obtain ⟨p4, hp4⟩ : ∃ p4, p4 = p3 + w3 := ⟨_, rfl⟩
            have hi4 : (p3 : Int) + (w3 : Int) = (p4 : Int) := by omega
            have hp4l : p4 ≤ s.size := by omega
            have hp4i : (p4 : Int) ≤ s.size := by omega
            have hD := hP.1 hwp tB m p2 p3 p4 HP2.out hsd hp3 (by rw [hp4, hw3])
            obtain ⟨hUT, hUA, hUR⟩ := dest_ends s hs aB tB (by have := HA2L.out; omega) (by omega)
            clear hP hsd htB htL hm hw3 hp3 hp4 hml htl hw3l HP2
            rcases FIN.out aB tB p4 hD (by omega) with ⟨hq | ⟨hq, hlp, b41⟩, hE⟩ | ⟨⟨hq, hlp, b41⟩, hE⟩
            · have HE := Lib.hid hE
              clear hE hD FIN hUT hUA hUR
              go_enter Tryz.func20, Tryz.ntmps20
              go_wp2_with fail
              refine (hW0 _).mono ?_
              rintro e w1 ⟨rfl, rfl⟩
              go_wp2_with fail
              refine (hAn _).mono ?_
              rintro e w1 ⟨rfl, rfl⟩
              go_wp2_with fail
              refine (hW1 _).mono ?_
              rintro e w1 ⟨rfl, rfl⟩
              go_wp2_with fail
              refine (hSa _).mono ?_
              rintro e w1 ⟨rfl, rfl⟩
              go_wp2_with fail
              refine (hW3 _).mono ?_
              rintro e w1 ⟨rfl, rfl⟩
              go_wp2
              go_ret3
              exact ⟨HE.out, Below.refl _ _⟩
            · have HE := Lib.hid hE
              clear hE hD FIN hUT hUA hUR
              go_enter Tryz.func20, Tryz.ntmps20
              go_wp2_with fail
              refine (hW0 _).mono ?_
              rintro e w1 ⟨rfl, rfl⟩
              go_wp2_with fail
              refine (hAn _).mono ?_
              rintro e w1 ⟨rfl, rfl⟩
              go_wp2_with fail
              refine (hW1 _).mono ?_
              rintro e w1 ⟨rfl, rfl⟩
              go_wp2_with fail
              refine (hSa _).mono ?_
              rintro e w1 ⟨rfl, rfl⟩
              go_wp2_with fail
              refine (hW3 _).mono ?_
              rintro e w1 ⟨rfl, rfl⟩
              go_wp2
              go_ret3
              exact ⟨HE.out, Below.refl _ _⟩
            · have HE := Lib.hid hE
              clear hE hD FIN
              generalize (⟨(Spec.uri (Spec.unesc aB.data.toList)).toArray⟩ : ByteArray) = UA at hUR HE
              generalize (⟨(Spec.unesc aB.data.toList).toArray⟩ : ByteArray) = EA at hUA hUR
              generalize (⟨(Spec.unesc tB.data.toList).toArray⟩ : ByteArray) = ET at hUT HE
              go_enter Tryz.func20, Tryz.ntmps20
              go_wp2_with fail
              refine (hW0 _).mono ?_
              rintro e w1 ⟨rfl, rfl⟩
              go_wp2_with fail
              refine (hAn _).mono ?_
              rintro e w1 ⟨rfl, rfl⟩
              go_wp2_with fail
              refine (hW1 _).mono ?_
              rintro e w1 ⟨rfl, rfl⟩
              go_wp2_with fail
              refine (hSa _).mono ?_
              rintro e w1 ⟨rfl, rfl⟩
              go_wp2_with fail
              refine (hW3 _).mono ?_
              rintro e w1 ⟨rfl, rfl⟩
              go_wp2_with fail
              refine (hUA _).mono ?_
              rintro e w6 ⟨rfl, hb6⟩
              go_wp2_with fail
              refine (hUR _).mono ?_
              rintro e w7 ⟨rfl, hb7⟩
              have hbw7 := hb6.trans (hb7.mono hb6.size)
              clear hb6 hb7
              go_wp2_with fail
              refine (hUT _).mono ?_
              rintro e w8 ⟨rfl, hb8⟩
              have hbw8 := hbw7.trans (hb8.mono hbw7.size)
              clear hb8
              go_wp2
              go_ret3
              exact ⟨HE.out, hbw8⟩
          · have hwpi : ¬ (0 : Int) < w1 := by omega
            obtain rfl : w1 = 0 := by omega
            obtain rfl : p2 = p1 := HP2.out
            obtain ⟨tB, htB⟩ : ∃ tB : ByteArray, tB = ⟨#[]⟩ := ⟨_, rfl⟩
            have hD := hP.2 rfl
            rw [show ([] : List UInt8) = tB.data.toList by rw [htB]] at hD
            have hts : tB.size = 0 := by rw [htB]; rfl
            obtain ⟨hUT, hUA, hUR⟩ := dest_ends s hs aB tB (by have := HA2L.out; omega) (by omega)
            subst htB
            clear hP hts hi2 HP2
            rcases FIN.out aB ⟨#[]⟩ p2 hD (by omega) with ⟨hq | ⟨hq, hlp, b41⟩, hE⟩ | ⟨⟨hq, hlp, b41⟩, hE⟩
            · have HE := Lib.hid hE
              clear hE hD FIN hUT hUA hUR
              go_enter Tryz.func20, Tryz.ntmps20
              go_wp2_with fail
              refine (hW0 _).mono ?_
              rintro e w1 ⟨rfl, rfl⟩
              go_wp2_with fail
              refine (hAn _).mono ?_
              rintro e w1 ⟨rfl, rfl⟩
              go_wp2_with fail
              refine (hW1 _).mono ?_
              rintro e w1 ⟨rfl, rfl⟩
              go_wp2
              go_ret3
              exact ⟨HE.out, Below.refl _ _⟩
            · have HE := Lib.hid hE
              clear hE hD FIN hUT hUA hUR
              go_enter Tryz.func20, Tryz.ntmps20
              go_wp2_with fail
              refine (hW0 _).mono ?_
              rintro e w1 ⟨rfl, rfl⟩
              go_wp2_with fail
              refine (hAn _).mono ?_
              rintro e w1 ⟨rfl, rfl⟩
              go_wp2_with fail
              refine (hW1 _).mono ?_
              rintro e w1 ⟨rfl, rfl⟩
              go_wp2
              go_ret3
              exact ⟨HE.out, Below.refl _ _⟩
            · have HE := Lib.hid hE
              clear hE hD FIN
              generalize (⟨(Spec.uri (Spec.unesc aB.data.toList)).toArray⟩ : ByteArray) = UA at hUR HE
              generalize (⟨(Spec.unesc aB.data.toList).toArray⟩ : ByteArray) = EA at hUA hUR
              generalize (⟨(Spec.unesc (⟨#[]⟩ : ByteArray).data.toList).toArray⟩ : ByteArray) = ET at hUT HE
              go_enter Tryz.func20, Tryz.ntmps20
              go_wp2_with fail
              refine (hW0 _).mono ?_
              rintro e w1 ⟨rfl, rfl⟩
              go_wp2_with fail
              refine (hAn _).mono ?_
              rintro e w1 ⟨rfl, rfl⟩
              go_wp2_with fail
              refine (hW1 _).mono ?_
              rintro e w1 ⟨rfl, rfl⟩
              go_wp2_with fail
              refine (hUA _).mono ?_
              rintro e w6 ⟨rfl, hb6⟩
              go_wp2_with fail
              refine (hUR _).mono ?_
              rintro e w7 ⟨rfl, hb7⟩
              have hbw7 := hb6.trans (hb7.mono hb6.size)
              clear hb6 hb7
              go_wp2_with fail
              refine (hUT _).mono ?_
              rintro e w8 ⟨rfl, hb8⟩
              have hbw8 := hbw7.trans (hb8.mono hbw7.size)
              clear hb8
              go_wp2
              go_ret3
              exact ⟨HE.out, hbw8⟩
      · by_cases hl0 : at0 < s.size
        rotate_left
        · -- nothing stands there
          have hnil : s.data.toList.drop at0 = [] := List.drop_of_length_le (by rw [← Lib.size_eq]; omega)
          have hA := hA0 (.inl hnil)
          rw [hnil] at hA
          have hBn := bare_at s at0 hat0s (by omega) 0 (by rw [hnil]; rfl)
          have hW1 := white_at s at0 hat0s (by omega) 0 (by rw [hnil]; rfl)
          have hD := (HP.out ⟨#[]⟩ 0 0 at0 (by rw [hnil, hA]; rfl) rfl (by rw [hnil]; rfl)).2 rfl
          have hsl : ∀ W, (Instr.slice 9 (.string s) (some (.int .i64 (at0 : Int))) (some (.int .i64 (at0 : Int))) none).run Tryz.prog W = .ok (.string (s.extract at0 at0)) W := slice_mid s at0 at0 (at0 : Int) (by omega) hat0s rfl
          obtain ⟨aB, haB⟩ : ∃ aB : ByteArray, aB = s.extract at0 at0 := ⟨_, rfl⟩
          rw [← haB] at hsl
          have HR : Hid (Ending.returned (.tuple #[.string ⟨#[]⟩, .string ⟨#[]⟩, .int .i64 0]) = Ending.returned (destRes (Spec.dest s.data.toList))) := Lib.hid (by
            rcases FIN.out ⟨#[]⟩ ⟨#[]⟩ at0 hD hat0s with ⟨_, hE⟩ | ⟨⟨_, h, _⟩, _⟩
            · exact hE
            · exact absurd h hl0)
          have hq : ((at0 : Int) == (s.size : Int)) = true := beq_iff_eq.2 (by omega)
          have hq2 : ¬ (at0 : Int) < s.size := by omega
          clear hA60 hA0 h60 hnil hA hD haB HP FIN FNO hl0
          go_enter Tryz.func20, Tryz.ntmps20
          go_wp2_with fail
          refine (hW0 _).mono ?_
          rintro e w1 ⟨rfl, rfl⟩
          go_wp2_with fail
          refine (hBn _).mono ?_
          rintro e w1 ⟨rfl, rfl⟩
          go_wp2_with fail
          refine (hW1 _).mono ?_
          rintro e w1 ⟨rfl, rfl⟩
          go_wp2
          go_ret3
          exact ⟨HR.out, Below.refl _ _⟩
        have hA := hA0 (.inr ⟨hl0, fun e => h60 ⟨hl0, e⟩⟩)
        have b60 : (((s[at0]'hl0).toNat : Int) == 60) = false := u8_false (fun e => h60 ⟨hl0, e⟩) rfl
        have hl0i : (at0 : Int) < s.size := by omega
        clear hA60 hA0 h60
        unfold bareRes at hA
        cases hu : Spec.bare 0 (s.data.toList.drop at0) with
        | none =>
          rw [hu] at hA
          have hBn := bare_at s at0 hat0s (by omega) (-1) (by rw [hu]; rfl)
          have HR := Lib.hid (FNO.out hA)
          clear hA hu HP FIN
          · go_enter Tryz.func20, Tryz.ntmps20
            go_wp2_with fail
            refine (hW0 _).mono ?_
            rintro e w1 ⟨rfl, rfl⟩
            go_wp2_with fail
            refine (hBn _).mono ?_
            rintro e w1 ⟨rfl, rfl⟩
            go_wp2
            go_ret3
            exact ⟨HR.out, Below.refl _ _⟩
        | some k =>
          rw [hu] at hA
          obtain ⟨aB, haB⟩ : ∃ aB : ByteArray, aB = s.extract at0 (at0 + k) := ⟨_, rfl⟩
          have haL : aB.data.toList = (s.data.toList.drop at0).take k := by rw [haB, mid_text, show at0 + k - at0 = k by omega]
          have hBn := bare_at s at0 hat0s (by omega) (k : Int) (by rw [hu]; rfl)
          have hA2 : Spec.address (s.data.toList.drop at0) = some (aB.data.toList, k) := by rw [hA, haL]; rfl
          have hle := address_le _ _ _ hA2
          rw [List.length_drop, ← Lib.size_eq, ← Lib.size_eq] at hle
          have hsl : ∀ W, (Instr.slice 9 (.string s) (some (.int .i64 (at0 : Int))) (some (.int .i64 ((at0 : Int) + k))) none).run Tryz.prog W = .ok (.string aB) W := by
            rw [haB]; exact slice_mid s at0 (at0 + k) ((at0 : Int) + k) (by omega) (by omega) (by omega)
          have hkz : ¬ (k : Int) < 0 := by omega
          clear hA hu haB haL FNO
          obtain ⟨p1, hp1⟩ : ∃ p1, p1 = at0 + k := ⟨_, rfl⟩
          obtain ⟨w1, hw1⟩ : ∃ w1, w1 = whites (s.data.toList.drop p1) := ⟨_, rfl⟩
          have hP := HP.out aB k w1 p1 hA2 hp1 hw1
          have hp1l : p1 ≤ s.size := by omega
          have hw1l : w1 ≤ s.size - p1 := by
            have := whites_le (s.data.toList.drop p1)
            rw [List.length_drop, ← Lib.size_eq] at this
            omega
          have hW1 := white_at s p1 hp1l (by omega) w1 hw1.symm
          have hi1 : (at0 : Int) + (k : Int) = (p1 : Int) := by omega
          have hp1i : (p1 : Int) ≤ s.size := by omega
          simp only [hi1] at hsl
          obtain ⟨p2, hp2⟩ : ∃ p2, p2 = p1 + w1 := ⟨_, rfl⟩
          have hi2 : (p1 : Int) + (w1 : Int) = (p2 : Int) := by omega
          have hp2l : p2 ≤ s.size := by omega
          have hp2i : (p2 : Int) ≤ s.size := by omega
          have HA2L := Lib.hid hle
          have HP2 := Lib.hid hp2
          clear HP hw1 hA2 hp1 hle hw1l hp2
          by_cases hwp : 0 < w1
          · have hwpi : (0 : Int) < w1 := by omega
            obtain ⟨tB, htB⟩ : ∃ tB : ByteArray, tB = ⟨(Spec.said (s.data.toList.drop p2)).1.toArray⟩ := ⟨_, rfl⟩
            have htL : tB.data.toList = (Spec.said (s.data.toList.drop p2)).1 := by rw [htB]
            obtain ⟨m, hm⟩ : ∃ m, m = (Spec.said (s.data.toList.drop p2)).2 := ⟨_, rfl⟩
            have hsd : Spec.said (s.data.toList.drop p2) = (tB.data.toList, m) := by rw [htL, hm]
            have hml := said_le (s.data.toList.drop p2)
            have htl := said_fst_le (s.data.toList.drop p2)
            rw [hsd, List.length_drop, ← Lib.size_eq] at hml htl
            simp only at hml htl
            rw [← Lib.size_eq] at htl
            have hSa := said_at s p2 hp2l (by omega) tB m hsd
            obtain ⟨p3, hp3⟩ : ∃ p3, p3 = p2 + m := ⟨_, rfl⟩
            have hi3 : (p2 : Int) + (m : Int) = (p3 : Int) := by omega
            have hp3l : p3 ≤ s.size := by omega
            have hp3i : (p3 : Int) ≤ s.size := by omega
            obtain ⟨w3, hw3⟩ : ∃ w3, w3 = whites (s.data.toList.drop p3) := ⟨_, rfl⟩
            have hw3l : w3 ≤ s.size - p3 := by
              have := whites_le (s.data.toList.drop p3)
              rw [List.length_drop, ← Lib.size_eq] at this
              omega
            have hW3 := white_at s p3 hp3l (by omega) w3 hw3.symm
            obtain ⟨p4, hp4⟩ : ∃ p4, p4 = p3 + w3 := ⟨_, rfl⟩
            have hi4 : (p3 : Int) + (w3 : Int) = (p4 : Int) := by omega
            have hp4l : p4 ≤ s.size := by omega
            have hp4i : (p4 : Int) ≤ s.size := by omega
            have hD := hP.1 hwp tB m p2 p3 p4 HP2.out hsd hp3 (by rw [hp4, hw3])
            obtain ⟨hUT, hUA, hUR⟩ := dest_ends s hs aB tB (by have := HA2L.out; omega) (by omega)
            clear hP hsd htB htL hm hw3 hp3 hp4 hml htl hw3l HP2
            rcases FIN.out aB tB p4 hD (by omega) with ⟨hq | ⟨hq, hlp, b41⟩, hE⟩ | ⟨⟨hq, hlp, b41⟩, hE⟩
            · have HE := Lib.hid hE
              clear hE hD FIN hUT hUA hUR
              go_enter Tryz.func20, Tryz.ntmps20
              go_wp2_with fail
              refine (hW0 _).mono ?_
              rintro e w1 ⟨rfl, rfl⟩
              go_wp2_with fail
              refine (hBn _).mono ?_
              rintro e w1 ⟨rfl, rfl⟩
              go_wp2_with fail
              refine (hW1 _).mono ?_
              rintro e w1 ⟨rfl, rfl⟩
              go_wp2_with fail
              refine (hSa _).mono ?_
              rintro e w1 ⟨rfl, rfl⟩
              go_wp2_with fail
              refine (hW3 _).mono ?_
              rintro e w1 ⟨rfl, rfl⟩
              go_wp2
              go_ret3
              exact ⟨HE.out, Below.refl _ _⟩
            · have HE := Lib.hid hE
              clear hE hD FIN hUT hUA hUR
              go_enter Tryz.func20, Tryz.ntmps20
              go_wp2_with fail
              refine (hW0 _).mono ?_
              rintro e w1 ⟨rfl, rfl⟩
              go_wp2_with fail
              refine (hBn _).mono ?_
              rintro e w1 ⟨rfl, rfl⟩
              go_wp2_with fail
              refine (hW1 _).mono ?_
              rintro e w1 ⟨rfl, rfl⟩
              go_wp2_with fail
              refine (hSa _).mono ?_
              rintro e w1 ⟨rfl, rfl⟩
              go_wp2_with fail
              refine (hW3 _).mono ?_
              rintro e w1 ⟨rfl, rfl⟩
              go_wp2
              go_ret3
              exact ⟨HE.out, Below.refl _ _⟩
            · have HE := Lib.hid hE
              clear hE hD FIN
              generalize (⟨(Spec.uri (Spec.unesc aB.data.toList)).toArray⟩ : ByteArray) = UA at hUR HE
              generalize (⟨(Spec.unesc aB.data.toList).toArray⟩ : ByteArray) = EA at hUA hUR
              generalize (⟨(Spec.unesc tB.data.toList).toArray⟩ : ByteArray) = ET at hUT HE
              go_enter Tryz.func20, Tryz.ntmps20
              go_wp2_with fail
              refine (hW0 _).mono ?_
              rintro e w1 ⟨rfl, rfl⟩
              go_wp2_with fail
              refine (hBn _).mono ?_
              rintro e w1 ⟨rfl, rfl⟩
              go_wp2_with fail
              refine (hW1 _).mono ?_
              rintro e w1 ⟨rfl, rfl⟩
              go_wp2_with fail
              refine (hSa _).mono ?_
              rintro e w1 ⟨rfl, rfl⟩
              go_wp2_with fail
              refine (hW3 _).mono ?_
              rintro e w1 ⟨rfl, rfl⟩
              go_wp2_with fail
              refine (hUA _).mono ?_
              rintro e w6 ⟨rfl, hb6⟩
              go_wp2_with fail
              refine (hUR _).mono ?_
              rintro e w7 ⟨rfl, hb7⟩
              have hbw7 := hb6.trans (hb7.mono hb6.size)
              clear hb6 hb7
              go_wp2_with fail
              refine (hUT _).mono ?_
              rintro e w8 ⟨rfl, hb8⟩
              have hbw8 := hbw7.trans (hb8.mono hbw7.size)
              clear hb8
              go_wp2
              go_ret3
              exact ⟨HE.out, hbw8⟩
          · have hwpi : ¬ (0 : Int) < w1 := by omega
            obtain rfl : w1 = 0 := by omega
            obtain rfl : p2 = p1 := HP2.out
            obtain ⟨tB, htB⟩ : ∃ tB : ByteArray, tB = ⟨#[]⟩ := ⟨_, rfl⟩
            have hD := hP.2 rfl
            rw [show ([] : List UInt8) = tB.data.toList by rw [htB]] at hD
            have hts : tB.size = 0 := by rw [htB]; rfl
            obtain ⟨hUT, hUA, hUR⟩ := dest_ends s hs aB tB (by have := HA2L.out; omega) (by omega)
            subst htB
            clear hP hts hi2 HP2
            rcases FIN.out aB ⟨#[]⟩ p2 hD (by omega) with ⟨hq | ⟨hq, hlp, b41⟩, hE⟩ | ⟨⟨hq, hlp, b41⟩, hE⟩
            · have HE := Lib.hid hE
              clear hE hD FIN hUT hUA hUR
              go_enter Tryz.func20, Tryz.ntmps20
              go_wp2_with fail
              refine (hW0 _).mono ?_
              rintro e w1 ⟨rfl, rfl⟩
              go_wp2_with fail
              refine (hBn _).mono ?_
              rintro e w1 ⟨rfl, rfl⟩
              go_wp2_with fail
              refine (hW1 _).mono ?_
              rintro e w1 ⟨rfl, rfl⟩
              go_wp2
              go_ret3
              exact ⟨HE.out, Below.refl _ _⟩
            · have HE := Lib.hid hE
              clear hE hD FIN hUT hUA hUR
              go_enter Tryz.func20, Tryz.ntmps20
              go_wp2_with fail
              refine (hW0 _).mono ?_
              rintro e w1 ⟨rfl, rfl⟩
              go_wp2_with fail
              refine (hBn _).mono ?_
              rintro e w1 ⟨rfl, rfl⟩
              go_wp2_with fail
              refine (hW1 _).mono ?_
              rintro e w1 ⟨rfl, rfl⟩
              go_wp2
              go_ret3
              exact ⟨HE.out, Below.refl _ _⟩
            · have HE := Lib.hid hE
              clear hE hD FIN
              generalize (⟨(Spec.uri (Spec.unesc aB.data.toList)).toArray⟩ : ByteArray) = UA at hUR HE
              generalize (⟨(Spec.unesc aB.data.toList).toArray⟩ : ByteArray) = EA at hUA hUR
              generalize (⟨(Spec.unesc (⟨#[]⟩ : ByteArray).data.toList).toArray⟩ : ByteArray) = ET at hUT HE
              go_enter Tryz.func20, Tryz.ntmps20
              go_wp2_with fail
              refine (hW0 _).mono ?_
              rintro e w1 ⟨rfl, rfl⟩
              go_wp2_with fail
              refine (hBn _).mono ?_
              rintro e w1 ⟨rfl, rfl⟩
              go_wp2_with fail
              refine (hW1 _).mono ?_
              rintro e w1 ⟨rfl, rfl⟩
              go_wp2_with fail
              refine (hUA _).mono ?_
              rintro e w6 ⟨rfl, hb6⟩
              go_wp2_with fail
              refine (hUR _).mono ?_
              rintro e w7 ⟨rfl, hb7⟩
              have hbw7 := hb6.trans (hb7.mono hb6.size)
              clear hb6 hb7
              go_wp2_with fail
              refine (hUT _).mono ?_
              rintro e w8 ⟨rfl, hb8⟩
              have hbw8 := hbw7.trans (hb8.mono hbw7.size)
              clear hb8
              go_wp2
              go_ret3
              exact ⟨HE.out, hbw8⟩
    · have b40 : (((s[0]'h0).toNat : Int) != 40) = true := ne_of_eq (u8_false h40 rfl)
      have HR := Lib.hid (enter0.out (dest_no _ (by rw [hc]; intro e; exact h40 (Option.some.inj e))))
      clear hc h40 enter0
      go_enter Tryz.func20, Tryz.ntmps20
      go_wp2
      go_ret3
      exact ⟨HR.out, Below.refl _ _⟩
  · have he := isEmpty_true h0
    have HR := Lib.hid (enter0.out (by rw [text_empty h0]; rfl))
    clear h0 enter0
    go_enter Tryz.func20, Tryz.ntmps20
    go_wp2
    go_ret3
    exact ⟨HR.out, Below.refl _ _⟩
end Go.Proofs.YtmplfiflikhpjaaGreatDoor
