/-
  The reference's class of signs, and its Unescape: it answers as the program's own, at every text.
-/
import Derived.Test.YtipbmagondoooaaDoorUnesc
import Derived.Test.YtipbmagondoooaaDoorLawAt
import Derived.Test.YtipbmagondoooaaDoorRow
namespace Go.Proofs.YtipbmagondoooaaDoor
open Go.RowKit

set_option maxHeartbeats 4000000 in
set_option maxRecDepth 100000 in
theorem refSign_any (c : UInt8) (w : World) :
    Calls Tryd.prog 15 #[.int .u8 (c.toNat : Int)] w fun e w' => e = .returned (.bool (Spec.sign c)) ∧ w' = w := by
  rw [← sign_within]
  obtain ⟨x, hx⟩ : ∃ x : Int, x = (c.toNat : Int) := ⟨_, rfl⟩
  have x0 : 0 ≤ x := by omega
  have x1 : x ≤ 255 := by have := c.toNat_lt; omega
  rw [← hx]
  clear hx
  have hway : x < 33 ∨ (33 ≤ x ∧ x ≤ 47) ∨ (47 < x ∧ x < 58) ∨ (58 ≤ x ∧ x ≤ 64) ∨ (64 < x ∧ x < 91) ∨ (91 ≤ x ∧ x ≤ 96) ∨ (96 < x ∧ x < 123) ∨ (123 ≤ x ∧ x ≤ 126) ∨ 126 < x := by omega
  obtain ⟨b, hb⟩ : ∃ b, b = withinZ x [33, 47, 58, 64, 91, 96, 123, 126] := ⟨_, rfl⟩
  rw [← hb]
  simp only [withinZ, Bool.or_false] at hb
  rcases hway with h | ⟨h, h'⟩ | ⟨h, h'⟩ | ⟨h, h'⟩ | ⟨h, h'⟩ | ⟨h, h'⟩ | ⟨h, h'⟩ | ⟨h, h'⟩ | h
  all_goals first
    | (have HF : Hid (b = true) := Lib.hid (by rw [hb]; simp only [Bool.or_eq_true, Bool.and_eq_true, decide_eq_true_eq]; omega)
       clear hb
       go_enter Tryd.func15, Tryd.ntmps15
       go_wp2
       go_ret
       exact ⟨by first | (rw [HF.out]; rfl) | exact ret_bool (by rw [HF.out]; simp only [Bool.or_eq_false_iff, Bool.and_eq_false_iff, Bool.or_eq_true, Bool.and_eq_true, decide_eq_false_iff_not, decide_eq_true_eq]; omega), rfl⟩)
    | (have HF : Hid (b = false) := Lib.hid (by rw [hb]; simp only [Bool.or_eq_false_iff, Bool.and_eq_false_iff, decide_eq_false_iff_not]; omega)
       clear hb
       go_enter Tryd.func15, Tryd.ntmps15
       go_wp2
       go_ret
       exact ⟨by first | (rw [HF.out]; rfl) | exact ret_bool (by rw [HF.out]; simp only [Bool.or_eq_false_iff, Bool.and_eq_false_iff, Bool.or_eq_true, Bool.and_eq_true, decide_eq_false_iff_not, decide_eq_true_eq]; omega), rfl⟩)

set_option maxHeartbeats 8000000 in
set_option maxRecDepth 1000000 in
theorem refUnescape_any (s : ByteArray) (w : World) (hs : s.size ≤ 1000000) :
    Calls Tryd.prog 13 #[.string s] w fun e w' => e = .returned (.string ⟨(Spec.unesc s.data.toList).toArray⟩) ∧ Below w.heap.size w w' := by
  obtain ⟨i0, hi, hz0, hz1, hz2⟩ := info_parts infoByte
  go_enter Tryd.func13, Tryd.ntmps13
  go_wp2
  go_loopw [3, 4] (fun vb vi wr => ∃ (pos : Nat) (acc : List UInt8), pos ≤ s.size ∧ vi = .int .i64 pos ∧ wr.ownsRowF w.heap.size 5 1 vb acc.length (Lib.byteCells acc) ∧ Below w.heap.size w wr ∧ Hid (UnescAt s w wr pos acc)) (fun _ vi _ => s.size - (intOf vi).toNat)
  case atStart =>
    exact ⟨0, [], Nat.zero_le _, rfl, World.ownsRowF_nil _ _ _ _, Below.refl _ w, Lib.hid ⟨rfl, Nat.zero_le _⟩⟩
  case round =>
    obtain ⟨pos, acc, hpl, rfl, hI, hbw, HU⟩ := hrel
    have hsz : w.heap.size ≤ wr.heap.size := hbw.size
    have hal : acc.length ≤ 4 * pos := HU.out.2
    by_cases hp : pos < s.size
    · have hpi : (pos : Int) < s.size := by omega
      have hdrop : s.data.toList.drop pos = (s[pos]'hp) :: s.data.toList.drop (pos + 1) := by
        rw [List.drop_eq_getElem_cons (by simpa using hp)]; rfl
      have hstep := step_le (s[pos]'hp) (s.data.toList.drop (pos + 1))
      have huc := unesc_cons (s[pos]'hp) (s.data.toList.drop (pos + 1))
      rw [← hdrop] at hstep huc
      rw [List.drop_drop] at huc
      have hlen : (s.data.toList.drop pos).length = s.size - pos := by rw [List.length_drop, ← Lib.size_eq]
      rw [hlen] at hstep
      obtain ⟨u, hu⟩ : ∃ u, u = (Spec.step (s.data.toList.drop pos)).1 := ⟨_, rfl⟩
      obtain ⟨n, hn⟩ : ∃ n, n = (Spec.step (s.data.toList.drop pos)).2 := ⟨_, rfl⟩
      rw [← hu, ← hn] at hstep huc
      -- what the round leaves
      have hnext : ∀ W v k, k = (acc ++ u).length → W.ownsRowF w.heap.size 5 1 v k (Lib.byteCells (acc ++ u)) → Below w.heap.size w W →
          (∃ (p2 : Nat) (acc2 : List UInt8), p2 ≤ s.size ∧ Value.int .i64 ((pos + n : Nat) : Int) = .int .i64 p2 ∧ W.ownsRowF w.heap.size 5 1 v acc2.length (Lib.byteCells acc2) ∧ Below w.heap.size w W ∧ Hid (UnescAt s w W p2 acc2)) := fun W v k hk h1 h2 =>
        ⟨pos + n, acc ++ u, by omega, rfl, by rw [← hk]; exact h1, h2, Lib.hid ⟨by rw [List.append_assoc, ← huc]; exact HU.out.1, by rw [List.length_append]; omega⟩⟩
      have HX := Lib.hid hnext
      have hmes : 1 ≤ n := hstep.1
      clear hnext huc HU hstep
      obtain ⟨x, hx⟩ : ∃ x, x = s.extract pos s.size := ⟨_, rfl⟩
      have hxl : x.data.toList = s.data.toList.drop pos := by rw [hx, drop_text s pos (by omega)]
      have hxs : x.size ≤ 1000000 := by rw [Lib.size_eq, hxl, hlen]; omega
      by_cases hsg : s[pos]'hp = 92 ∧ Spec.signed (s.data.toList.drop (pos + 1)) = true
      · -- a stroke ahead of a sign
        have hp1 : pos + 1 < s.size := by
          apply Decidable.byContradiction
          intro h
          rw [List.drop_of_length_le (by rw [← Lib.size_eq]; omega)] at hsg
          exact absurd hsg.2 (by decide)
        have hd1 : s.data.toList.drop (pos + 1) = (s[pos + 1]'hp1) :: s.data.toList.drop (pos + 2) := by
          rw [List.drop_eq_getElem_cons (by simpa using hp1)]; rfl
        have hst : Spec.step (s.data.toList.drop pos) = ([s[pos + 1]'hp1], 2) := by
          rw [hdrop]
          unfold Spec.step
          simp only
          rw [if_pos hsg, hd1]
          rfl
        have hn2 : n = 2 := by rw [hn, hst]
        have hu2 : u = [s[pos + 1]'hp1] := by rw [hu, hst]
        subst hn2; subst hu2
        have h92 : (((s[pos]'hp).toNat : Int) == 92) = true := by rw [hsg.1]; decide
        have hS : ∀ W, Calls Tryd.prog 15 #[.int .u8 ((s[pos + 1]'hp1).toNat : Int)] W fun e w' => e = .returned (.bool true) ∧ w' = W := fun W => by
          have := refSign_any (s[pos + 1]'hp1) W
          rw [show Spec.sign (s[pos + 1]'hp1) = true by have := hsg.2; rw [hd1] at this; exact this] at this
          exact this
        have hpi1 : (pos : Int) + 1 < s.size := by omega
        have hll : acc.length ≤ 4000000 := by omega
        obtain ⟨cc, hcc⟩ : ∃ cc : Int, cc = ((s[pos + 1]'hp1).toNat : Int) := ⟨_, rfl⟩
        clear hst hu hn hd1 hsg hxl hx hdrop hlen
        go_wp2_with fail
        refine (hS _).mono ?_
        rintro e w1 ⟨rfl, rfl⟩
        go_wp2_with (at_builtin; refine wpList_append_ownF _ rfl _ _ 27 rfl w.heap.size 5 i0 (.int .u8 0) 1 1 Tryd.underlying27 hi hz0 hz1 hz2 rfl (by decide) _ _ _ rfl (hI.alloc _) ⟨w1.heap.size, 0, none⟩ 1 1 [.int .u8 ((s[pos + 1]'hp1).toNat : Int)] rfl rfl ?c1 ?c2 ?c3 ?c4 ?c5 ?_)
        case c1 =>
          intro j u hj
          match j, hj with
          | 0, hj => simp at hj; subst hj; simp [Addr.add]
        case c2 => intro u hu; simp at hu; subst hu; rfl
        case c3 => unfold maxLen; omega
        case c4 => omega
        case c5 => simp; omega
        intro v2 w2 hI2 hgrow _
        rw [byteCells_snoc] at hI2
        have hbb : Below w.heap.size w w2 := (hbw.alloc hsz _).grown hgrow (by simp; omega) (fun k hk => (hI.lt k hk).1)
        have HI2 := Lib.hid hI2
        clear hI2 hI hS hgrow
        go_wp2
        go_roundw
        case rel => exact HX.out w2 v2 _ (by simp) HI2.out hbb
        case measure => simp [intOf]; omega
      · -- no stroke ahead of a sign
        have HNS : Hid (∀ hp1 : pos + 1 < s.size, (s[pos]'hp).toNat = 92 → Spec.sign (s[pos + 1]'hp1) = false) := Lib.hid (fun hp1 h92 => by
          have hd1 : s.data.toList.drop (pos + 1) = (s[pos + 1]'hp1) :: s.data.toList.drop (pos + 2) := by
            rw [List.drop_eq_getElem_cons (by simpa using hp1)]; rfl
          cases h : Spec.sign (s[pos + 1]'hp1) with
          | false => rfl
          | true => exact absurd ⟨UInt8.toNat_inj.1 h92, by rw [hd1]; exact h⟩ hsg)
        have hst : Spec.step (s.data.toList.drop pos) = if 0 < (Spec.ent (s.data.toList.drop pos)).2 then Spec.ent (s.data.toList.drop pos) else ([s[pos]'hp], 1) := by
          rw [hdrop]
          unfold Spec.step
          simp only
          rw [if_neg hsg]
        have hA := fun W => refAt_any x W hxs
        rw [hxl] at hA
        have hA : ∀ W, Calls Tryd.prog 10 #[.string (s.extract pos s.size)] W fun e w' => e = .returned (entRes (Spec.ent (s.data.toList.drop pos))) ∧ Below W.heap.size W w' := fun W => by rw [← hx]; exact hA W
        clear hxl hxs hx hlen
        by_cases h0 : 0 < (Spec.ent (s.data.toList.drop pos)).2
        · rw [if_pos h0] at hst
          have hn2 : n = (Spec.ent (s.data.toList.drop pos)).2 := by rw [hn, hst]
          have hu2 : u = (Spec.ent (s.data.toList.drop pos)).1 := by rw [hu, hst]
          have hus : (⟨u.toArray⟩ : ByteArray).size = u.length := by rw [Lib.size_eq]
          have hul : u.length ≤ 4000000 := by
            have h1 := ent_le (s.data.toList.drop pos)
            rw [List.length_drop, ← Lib.size_eq] at h1
            rw [hu2]
            omega
          have hns : n ≤ 1000000 := by
            have h1 := ent_le (s.data.toList.drop pos)
            rw [List.length_drop, ← Lib.size_eq] at h1
            omega
          have hA : ∀ W, Calls Tryd.prog 10 #[.string (s.extract pos s.size)] W fun e w' => e = .returned (.tuple #[.string ⟨u.toArray⟩, .int .i64 (n : Int)]) ∧ Below W.heap.size W w' := fun W => by rw [hn2, hu2]; exact hA W
          have HUS := Lib.hid hus
          have hn0 : ((n : Int) == 0) = false := beq_eq_false_iff_ne.2 (by omega)
          clear hst hn hu hn2 hu2 h0 hsg hdrop hus
          have hS : ∀ (hp1 : pos + 1 < s.size) W, (s[pos]'hp).toNat = 92 → Calls Tryd.prog 15 #[.int .u8 ((s[pos + 1]'hp1).toNat : Int)] W fun e w' => e = .returned (.bool false) ∧ w' = W := fun hp1 W h92 => by
            have := refSign_any (s[pos + 1]'hp1) W
            rw [HNS.out hp1 h92] at this
            exact this
          clear HNS
          by_cases h92 : (s[pos]'hp).toNat = 92
          · have h92b : (((s[pos]'hp).toNat : Int) == 92) = true := beq_iff_eq.2 (by omega)
            by_cases hp1 : pos + 1 < s.size
            · have hpi1 : (pos : Int) + 1 < s.size := by omega
              have hS := fun W => hS hp1 W h92
              clear h92
              go_wp2_with fail
              refine (hS _).mono ?_
              rintro e w1 ⟨rfl, rfl⟩
              clear hS
              go_wp2_with fail
              refine (hA _).mono ?_
              rintro e wa ⟨rfl, hba⟩
              have hIa := row_below hI hba
              have hbwa := hbw.trans (hba.mono hsz)
              have hsa : w.heap.size ≤ wa.heap.size := hbwa.size
              clear hA hba hI hbw
              go_wp2_with (at_builtin; refine Lib.wpList_append_own_stringF _ rfl _ _ 27 9 rfl w.heap.size 5 i0 Tryd.underlying27 Tryd.underlying9 hi hz0 hz1 hz2 _ _ _ rfl hIa (⟨u.toArray⟩ : ByteArray) rfl ?c3 ?c4 ?c5 ?_)
              case c3 => unfold maxLen; rw [HUS.out]; omega
              case c4 => rw [HUS.out]; omega
              case c5 => omega
              intro v2 w2 hI2 hgrow _
              have hI3 : w2.ownsRowF w.heap.size 5 1 v2 (acc.length + (⟨u.toArray⟩ : ByteArray).size) (Lib.byteCells (acc ++ u)) := by
                rw [strCells_bytes, ← Lib.byteCells_append] at hI2
                exact hI2
              have hbb : Below w.heap.size w w2 := hbwa.grown hgrow hsa (fun k hk => (hIa.lt k hk).1)
              have HI2 := Lib.hid hI3
              clear hI2 hI3 hIa hgrow
              go_wp2
              go_roundw
              case rel => exact HX.out w2 v2 _ (by rw [HUS.out]; simp) HI2.out hbb
              case measure => simp [intOf]; omega
            · have hpi1 : ¬ (pos : Int) + 1 < s.size := by omega
              clear h92 hS
              go_wp2_with fail
              refine (hA _).mono ?_
              rintro e wa ⟨rfl, hba⟩
              have hIa := row_below hI hba
              have hbwa := hbw.trans (hba.mono hsz)
              have hsa : w.heap.size ≤ wa.heap.size := hbwa.size
              clear hA hba hI hbw
              go_wp2_with (at_builtin; refine Lib.wpList_append_own_stringF _ rfl _ _ 27 9 rfl w.heap.size 5 i0 Tryd.underlying27 Tryd.underlying9 hi hz0 hz1 hz2 _ _ _ rfl hIa (⟨u.toArray⟩ : ByteArray) rfl ?c3 ?c4 ?c5 ?_)
              case c3 => unfold maxLen; rw [HUS.out]; omega
              case c4 => rw [HUS.out]; omega
              case c5 => omega
              intro v2 w2 hI2 hgrow _
              have hI3 : w2.ownsRowF w.heap.size 5 1 v2 (acc.length + (⟨u.toArray⟩ : ByteArray).size) (Lib.byteCells (acc ++ u)) := by
                rw [strCells_bytes, ← Lib.byteCells_append] at hI2
                exact hI2
              have hbb : Below w.heap.size w w2 := hbwa.grown hgrow hsa (fun k hk => (hIa.lt k hk).1)
              have HI2 := Lib.hid hI3
              clear hI2 hI3 hIa hgrow
              go_wp2
              go_roundw
              case rel => exact HX.out w2 v2 _ (by rw [HUS.out]; simp) HI2.out hbb
              case measure => simp [intOf]; omega
          · have h92b : (((s[pos]'hp).toNat : Int) == 92) = false := beq_eq_false_iff_ne.2 (by omega)
            clear h92 hS
            go_wp2_with fail
            refine (hA _).mono ?_
            rintro e wa ⟨rfl, hba⟩
            have hIa := row_below hI hba
            have hbwa := hbw.trans (hba.mono hsz)
            have hsa : w.heap.size ≤ wa.heap.size := hbwa.size
            clear hA hba hI hbw
            go_wp2_with (at_builtin; refine Lib.wpList_append_own_stringF _ rfl _ _ 27 9 rfl w.heap.size 5 i0 Tryd.underlying27 Tryd.underlying9 hi hz0 hz1 hz2 _ _ _ rfl hIa (⟨u.toArray⟩ : ByteArray) rfl ?c3 ?c4 ?c5 ?_)
            case c3 => unfold maxLen; rw [HUS.out]; omega
            case c4 => rw [HUS.out]; omega
            case c5 => omega
            intro v2 w2 hI2 hgrow _
            have hI3 : w2.ownsRowF w.heap.size 5 1 v2 (acc.length + (⟨u.toArray⟩ : ByteArray).size) (Lib.byteCells (acc ++ u)) := by
              rw [strCells_bytes, ← Lib.byteCells_append] at hI2
              exact hI2
            have hbb : Below w.heap.size w w2 := hbwa.grown hgrow hsa (fun k hk => (hIa.lt k hk).1)
            have HI2 := Lib.hid hI3
            clear hI2 hI3 hIa hgrow
            go_wp2
            go_roundw
            case rel => exact HX.out w2 v2 _ (by rw [HUS.out]; simp) HI2.out hbb
            case measure => simp [intOf]; omega
        · rw [if_neg h0] at hst
          have hn2 : n = 1 := by rw [hn, hst]
          have hu2 : u = [s[pos]'hp] := by rw [hu, hst]
          subst hn2; subst hu2
          have hA : ∀ W, Calls Tryd.prog 10 #[.string (s.extract pos s.size)] W fun e w' => e = .returned (.tuple #[.string ⟨(Spec.ent (s.data.toList.drop pos)).1.toArray⟩, .int .i64 0]) ∧ Below W.heap.size W w' := fun W => by
            have h2 : (Spec.ent (s.data.toList.drop pos)).2 = 0 := by omega
            have := hA W
            unfold entRes at this
            rw [h2] at this
            exact this
          generalize (Spec.ent (s.data.toList.drop pos)).1 = junk at hA
          have HT : Hid ((s.extract pos (pos + 1)).data.toList = [s[pos]'hp]) := Lib.hid (one_text s pos hp)
          have hsl : ∀ W, (Instr.slice 9 (.string s) (some (.int .i64 (pos : Int))) (some (.int .i64 ((pos : Int) + 1))) none).run Tryd.prog W = .ok (.string (s.extract pos (pos + 1))) W := fun W => by
            rw [run_slice_string W _ _ .i64 .i64 _ _ Tryd.underlying9 (by omega) (by omega) (by omega)]
            rfl
          have HTS : Hid ((s.extract pos (pos + 1)).size = 1) := Lib.hid (by rw [Lib.size_eq, HT.out]; rfl)
          clear hst hn hu h0 hsg hdrop
          have hS : ∀ (hp1 : pos + 1 < s.size) W, (s[pos]'hp).toNat = 92 → Calls Tryd.prog 15 #[.int .u8 ((s[pos + 1]'hp1).toNat : Int)] W fun e w' => e = .returned (.bool false) ∧ w' = W := fun hp1 W h92 => by
            have := refSign_any (s[pos + 1]'hp1) W
            rw [HNS.out hp1 h92] at this
            exact this
          clear HNS
          by_cases h92 : (s[pos]'hp).toNat = 92
          · have h92b : (((s[pos]'hp).toNat : Int) == 92) = true := beq_iff_eq.2 (by omega)
            by_cases hp1 : pos + 1 < s.size
            · have hpi1 : (pos : Int) + 1 < s.size := by omega
              have hS := fun W => hS hp1 W h92
              clear h92
              go_wp2_with fail
              refine (hS _).mono ?_
              rintro e w1 ⟨rfl, rfl⟩
              clear hS
              go_wp2_with fail
              refine (hA _).mono ?_
              rintro e wa ⟨rfl, hba⟩
              have hIa := row_below hI hba
              have hbwa := hbw.trans (hba.mono hsz)
              have hsa : w.heap.size ≤ wa.heap.size := hbwa.size
              clear hA hba hI hbw
              go_wp2_with (at_builtin; refine Lib.wpList_append_own_stringF _ rfl _ _ 27 9 rfl w.heap.size 5 i0 Tryd.underlying27 Tryd.underlying9 hi hz0 hz1 hz2 _ _ _ rfl hIa (s.extract pos (pos + 1)) rfl ?c3 ?c4 ?c5 ?_)
              case c3 => unfold maxLen; rw [HTS.out]; omega
              case c4 => rw [HTS.out]; omega
              case c5 => omega
              intro v2 w2 hI2 hgrow _
              have hI3 : w2.ownsRowF w.heap.size 5 1 v2 (acc.length + (s.extract pos (pos + 1)).size) (Lib.byteCells (acc ++ [s[pos]'hp])) := by
                rw [strCells_bytes, ← Lib.byteCells_append] at hI2
                rw [HT.out] at hI2; rw [ByteArray.size_extract]; exact hI2
              have hbb : Below w.heap.size w w2 := hbwa.grown hgrow hsa (fun k hk => (hIa.lt k hk).1)
              have HI2 := Lib.hid hI3
              clear hI2 hI3 hIa hgrow
              go_wp2
              go_roundw
              case rel => exact HX.out w2 v2 _ (by rw [HTS.out]; simp) HI2.out hbb
              case measure => simp [intOf]; omega
            · have hpi1 : ¬ (pos : Int) + 1 < s.size := by omega
              clear h92 hS
              go_wp2_with fail
              refine (hA _).mono ?_
              rintro e wa ⟨rfl, hba⟩
              have hIa := row_below hI hba
              have hbwa := hbw.trans (hba.mono hsz)
              have hsa : w.heap.size ≤ wa.heap.size := hbwa.size
              clear hA hba hI hbw
              go_wp2_with (at_builtin; refine Lib.wpList_append_own_stringF _ rfl _ _ 27 9 rfl w.heap.size 5 i0 Tryd.underlying27 Tryd.underlying9 hi hz0 hz1 hz2 _ _ _ rfl hIa (s.extract pos (pos + 1)) rfl ?c3 ?c4 ?c5 ?_)
              case c3 => unfold maxLen; rw [HTS.out]; omega
              case c4 => rw [HTS.out]; omega
              case c5 => omega
              intro v2 w2 hI2 hgrow _
              have hI3 : w2.ownsRowF w.heap.size 5 1 v2 (acc.length + (s.extract pos (pos + 1)).size) (Lib.byteCells (acc ++ [s[pos]'hp])) := by
                rw [strCells_bytes, ← Lib.byteCells_append] at hI2
                rw [HT.out] at hI2; rw [ByteArray.size_extract]; exact hI2
              have hbb : Below w.heap.size w w2 := hbwa.grown hgrow hsa (fun k hk => (hIa.lt k hk).1)
              have HI2 := Lib.hid hI3
              clear hI2 hI3 hIa hgrow
              go_wp2
              go_roundw
              case rel => exact HX.out w2 v2 _ (by rw [HTS.out]; simp) HI2.out hbb
              case measure => simp [intOf]; omega
          · have h92b : (((s[pos]'hp).toNat : Int) == 92) = false := beq_eq_false_iff_ne.2 (by omega)
            clear h92 hS
            go_wp2_with fail
            refine (hA _).mono ?_
            rintro e wa ⟨rfl, hba⟩
            have hIa := row_below hI hba
            have hbwa := hbw.trans (hba.mono hsz)
            have hsa : w.heap.size ≤ wa.heap.size := hbwa.size
            clear hA hba hI hbw
            go_wp2_with (at_builtin; refine Lib.wpList_append_own_stringF _ rfl _ _ 27 9 rfl w.heap.size 5 i0 Tryd.underlying27 Tryd.underlying9 hi hz0 hz1 hz2 _ _ _ rfl hIa (s.extract pos (pos + 1)) rfl ?c3 ?c4 ?c5 ?_)
            case c3 => unfold maxLen; rw [HTS.out]; omega
            case c4 => rw [HTS.out]; omega
            case c5 => omega
            intro v2 w2 hI2 hgrow _
            have hI3 : w2.ownsRowF w.heap.size 5 1 v2 (acc.length + (s.extract pos (pos + 1)).size) (Lib.byteCells (acc ++ [s[pos]'hp])) := by
              rw [strCells_bytes, ← Lib.byteCells_append] at hI2
              rw [HT.out] at hI2; rw [ByteArray.size_extract]; exact hI2
            have hbb : Below w.heap.size w w2 := hbwa.grown hgrow hsa (fun k hk => (hIa.lt k hk).1)
            have HI2 := Lib.hid hI3
            clear hI2 hI3 hIa hgrow
            go_wp2
            go_roundw
            case rel => exact HX.out w2 v2 _ (by rw [HTS.out]; simp) HI2.out hbb
            case measure => simp [intOf]; omega
    · -- the text is through
      have hpe : pos = s.size := by omega
      have hfin : acc = Spec.unesc s.data.toList := by
        have := HU.out.1
        rw [List.drop_of_length_le (by rw [← Lib.size_eq]; omega), unesc_nil, List.append_nil] at this
        exact this
      have HF := Lib.hid hfin
      have HP : Hid (pos = s.size) := Lib.hid hpe
      clear hpe hfin HU
      have hpi : ¬ (pos : Int) < s.size := by omega
      have hc := row_str acc hI
      go_wp2
      go_ret
      exact ⟨ret_str (by rw [HF.out]), hbw⟩
end Go.Proofs.YtipbmagondoooaaDoor
