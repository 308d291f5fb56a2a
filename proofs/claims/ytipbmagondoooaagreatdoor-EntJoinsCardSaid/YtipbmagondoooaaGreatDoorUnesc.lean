/-
  ent.Unescape: a text without strokes, and with signs for those that are spelt, at every text.
-/
import Derived.Test.YtipbmagondoooaaGreatDoorAt
import Derived.Test.YtipbmagondoooaaGreatDoorBuild
import Derived.Test.YtipbmagondoooaaGreatDoorClass
namespace Go.Proofs.YtipbmagondoooaaGreatDoor
open Go.RowKit

theorem encodeRune_le (r : Int) : (Lib.encodeRune r).length ≤ 4 := by
  unfold Lib.encodeRune; rw [List.length_map]; exact (Lib.encodeRuneZ_length r).2
theorem named_le (s : List UInt8) : (Spec.named s).length ≤ 4 := by
  unfold Spec.named; repeat' split
  all_goals simp
theorem inner_le (s r : List UInt8) (h : Spec.inner s = some r) : r.length ≤ 4 := by
  unfold Spec.inner at h
  split at h
  · cases h; exact named_le s
  · split at h
    · cases h
    · split at h
      · obtain ⟨x, _, rfl⟩ := Option.map_eq_some_iff.1 h
        exact encodeRune_le _
      · cases h
theorem ent_le (s : List UInt8) : (Spec.ent s).2 ≤ s.length ∧ (Spec.ent s).1.length ≤ 4 * (Spec.ent s).2 := by
  unfold Spec.ent
  split
  · simp
  · rename_i c t
    split
    · rename_i h
      have hl := idx_lt t
      split
      · rename_i r hr
        have := inner_le _ _ hr
        simp only [List.length_cons]
        omega
      · simp
    · simp
theorem step_le (c : UInt8) (t : List UInt8) : 1 ≤ (Spec.step (c :: t)).2 ∧ (Spec.step (c :: t)).2 ≤ (c :: t).length ∧ (Spec.step (c :: t)).1.length ≤ 4 * (Spec.step (c :: t)).2 := by
  have he := ent_le (c :: t)
  unfold Spec.step
  simp only
  by_cases h : c = 92 ∧ Spec.signed t = true
  · rw [if_pos h]
    cases t with
    | nil => have := h.2; cases this
    | cons d u => simp
  · rw [if_neg h]
    by_cases h2 : 0 < (Spec.ent (c :: t)).2
    · rw [if_pos h2]; omega
    · rw [if_neg h2]; simp
theorem unescF_more (f g : Nat) : ∀ (s : List UInt8), s.length ≤ f → s.length ≤ g → Spec.unescF f s = Spec.unescF g s := by
  induction f generalizing g with
  | zero =>
    intro s h _
    obtain rfl := List.length_eq_zero_iff.1 (Nat.le_zero.1 h)
    cases g <;> rfl
  | succ f ih =>
    intro s hf hg
    cases s with
    | nil => cases g <;> rfl
    | cons c t =>
      cases g with
      | zero => simp at hg
      | succ g =>
        have hs := step_le c t
        unfold Spec.unescF
        rw [if_neg (by simp), if_neg (by simp)]
        rw [ih g _ (by simp only [List.length_drop, List.length_cons] at hf hs ⊢; omega) (by simp only [List.length_drop, List.length_cons] at hg hs ⊢; omega)]
theorem unesc_cons (c : UInt8) (t : List UInt8) : Spec.unesc (c :: t) = (Spec.step (c :: t)).1 ++ Spec.unesc ((c :: t).drop (Spec.step (c :: t)).2) := by
  have hs := step_le c t
  show Spec.unescF (t.length + 1) (c :: t) = _
  unfold Spec.unescF
  rw [if_neg (by simp)]
  congr 1
  exact unescF_more _ _ _ (by simp only [List.length_drop, List.length_cons] at hs ⊢; omega) (Nat.le_refl _)
theorem unesc_nil : Spec.unesc [] = [] := rfl

/-- A builder stands behind a call that lets all that was there be. -/
theorem bld_below {T e : TypeId} {B b : Nat} {bs : List Value} {w w' : World} (h : Lib.IsBuilderF T e B b bs w) (hb : Below w.heap.size w w') : Lib.IsBuilderF T e B b bs w' := by
  have one : ∀ p, Lib.BuilderAtF T e B b p bs w → Lib.BuilderAtF T e B b p bs w' := fun p h => by
    obtain ⟨hB, v, hbk, hown, hne⟩ := h
    refine ⟨hB, v, ?_, hown.kept (row := none) ⟨hb.os, hb.tape, hb.output, hb.size, fun i hi _ => hb.block i hi⟩ ?_, hne⟩
    · rw [hb.block _ (Array.getElem?_eq_some_iff.1 hbk).1]; exact hbk
    · cases v.ownBlock <;> simp
  exact h.elim (fun x => .inl (one _ x)) (fun x => .inr (one _ x))
theorem byteCells_snoc (l : List UInt8) (c : UInt8) : Lib.byteCells l ++ [.int .u8 (c.toNat : Int)] = Lib.byteCells (l ++ [c]) := by rw [Lib.byteCells_append]; rfl
theorem strCells_bytes (s : ByteArray) : Lib.strCells s = Lib.byteCells s.data.toList := rfl

/-- What is carried from round to round. -/
def UnescAt (s : ByteArray) (w wr : World) (pos : Nat) (acc : List UInt8) : Prop :=
  acc ++ Spec.unesc (s.data.toList.drop pos) = Spec.unesc s.data.toList ∧ acc.length ≤ 4 * pos

set_option maxHeartbeats 8000000 in
set_option maxRecDepth 1000000 in
theorem unescape_any (s : ByteArray) (w : World) (hs : s.size ≤ 1000000) (hT : Tabs w) :
    Calls Tryz.prog 8 #[.string s] w fun e w' => e = .returned (.string ⟨(Spec.unesc s.data.toList).toArray⟩) ∧ Below w.heap.size w w' := by
  go_enter Tryz.func8, Tryz.ntmps8
  go_wp2
  go_loopw [4] (fun v4 wr => ∃ (pos : Nat) (acc : List UInt8), pos ≤ s.size ∧ v4 = .int .i64 pos ∧ Lib.IsBuilderF 31 5 w.heap.size w.heap.size (Lib.byteCells acc) wr ∧ Below w.heap.size w wr ∧ Hid (UnescAt s w wr pos acc)) (fun v4 _ => s.size - (intOf v4).toNat)
  case atStart =>
    exact ⟨0, [], Nat.zero_le _, rfl, Lib.IsBuilderF.of (Lib.fresh_isBuilder 31 5 w), (Below.refl _ w).alloc (Nat.le_refl _) _, Lib.hid ⟨rfl, Nat.zero_le _⟩⟩
  case round =>
    obtain ⟨pos, acc, hpl, rfl, hI, hbw, HU⟩ := hrel
    have hTw := hT.below hbw
    have hsz : w.heap.size ≤ wr.heap.size := hbw.size
    have hal : acc.length ≤ 4 * pos := HU.out.2
    by_cases hp : pos < s.size
    · have hpi : (pos : Int) < s.size := by omega
      have hdrop : s.data.toList.drop pos = (s[pos]'hp) :: s.data.toList.drop (pos + 1) := by
        rw [List.drop_eq_getElem_cons (by simpa using hp)]; rfl
      have hstep := step_le (s[pos]'hp) (s.data.toList.drop (pos + 1))
      have huc := unesc_cons (s[pos]'hp) (s.data.toList.drop (pos + 1))
      rw [← hdrop] at hstep huc
      rw [List.drop_drop] at huc
      have hlen : (s.data.toList.drop pos).length = s.size - pos := by rw [List.length_drop, ← Lib.size_eq]
      rw [hlen] at hstep
      obtain ⟨u, hu⟩ : ∃ u, u = (Spec.step (s.data.toList.drop pos)).1 := ⟨_, rfl⟩
      obtain ⟨n, hn⟩ : ∃ n, n = (Spec.step (s.data.toList.drop pos)).2 := ⟨_, rfl⟩
      rw [← hu, ← hn] at hstep huc
      -- what the round leaves
      have hnext : ∀ W, Lib.IsBuilderF 31 5 w.heap.size w.heap.size (Lib.byteCells (acc ++ u)) W → Below w.heap.size w W →
          (∃ (p2 : Nat) (acc2 : List UInt8), p2 ≤ s.size ∧ Value.int .i64 ((pos + n : Nat) : Int) = .int .i64 p2 ∧ Lib.IsBuilderF 31 5 w.heap.size w.heap.size (Lib.byteCells acc2) W ∧ Below w.heap.size w W ∧ Hid (UnescAt s w W p2 acc2)) := fun W h1 h2 =>
        ⟨pos + n, acc ++ u, by omega, rfl, h1, h2, Lib.hid ⟨by rw [List.append_assoc, ← huc]; exact HU.out.1, by rw [List.length_append]; omega⟩⟩
      have HX := Lib.hid hnext
      have hmes : 1 ≤ n := hstep.1
      clear hnext huc HU hstep
      obtain ⟨x, hx⟩ : ∃ x, x = s.extract pos s.size := ⟨_, rfl⟩
      have hxl : x.data.toList = s.data.toList.drop pos := by rw [hx, drop_text s pos (by omega)]
      have hxs : x.size ≤ 1000000 := by rw [Lib.size_eq, hxl, hlen]; omega
      by_cases hsg : s[pos]'hp = 92 ∧ Spec.signed (s.data.toList.drop (pos + 1)) = true
      · -- a stroke ahead of a sign
        have hp1 : pos + 1 < s.size := by
          apply Decidable.byContradiction
          intro h
          rw [List.drop_of_length_le (by rw [← Lib.size_eq]; omega)] at hsg
          exact absurd hsg.2 (by decide)
        have hd1 : s.data.toList.drop (pos + 1) = (s[pos + 1]'hp1) :: s.data.toList.drop (pos + 2) := by
          rw [List.drop_eq_getElem_cons (by simpa using hp1)]; rfl
        have hst : Spec.step (s.data.toList.drop pos) = ([s[pos + 1]'hp1], 2) := by
          rw [hdrop]
          unfold Spec.step
          simp only
          rw [if_pos hsg, hd1]
          rfl
        have hn2 : n = 2 := by rw [hn, hst]
        have hu2 : u = [s[pos + 1]'hp1] := by rw [hu, hst]
        subst hn2; subst hu2
        have h92 : (((s[pos]'hp).toNat : Int) == 92) = true := by rw [hsg.1]; decide
        have hS : ∀ W, Calls Tryz.prog 17 #[.int .u8 ((s[pos + 1]'hp1).toNat : Int)] W fun e w' => e = .returned (.bool true) ∧ Below W.heap.size W w' := fun W => by
          have := sign_any (s[pos + 1]'hp1) W
          rw [show Spec.sign (s[pos + 1]'hp1) = true by have := hsg.2; rw [hd1] at this; exact this] at this
          exact this
        have hpi1 : (pos : Int) + 1 < s.size := by omega
        clear hst hu hn hd1 hsg hxl hx hdrop hlen
        go_wp2_with (go_at_call 17; refine (hS _).mono ?_; rintro e w1 ⟨rfl, hb1⟩)
        refine (writeByte_any w.heap.size w.heap.size _ _ _ (bld_below hI hb1) (by rw [Lib.byteCells_length]; omega) (Nat.le_trans hsz hb1.size)).mono ?_
        rintro e w2 ⟨rfl, hI2, hb2, _⟩
        rw [byteCells_snoc] at hI2
        have hbb : Below w.heap.size w w2 := (hbw.trans (hb1.mono hsz)).trans hb2
        have HI2 := Lib.hid hI2
        clear hI2 hI hb1 hb2 hS
        go_wp2
        go_roundw
        case rel => exact HX.out w2 HI2.out hbb
        case measure => simp [intOf]; omega
      · -- no stroke ahead of a sign
        have HNS : Hid (∀ hp1 : pos + 1 < s.size, (s[pos]'hp).toNat = 92 → Spec.sign (s[pos + 1]'hp1) = false) := Lib.hid (fun hp1 h92 => by
          have hd1 : s.data.toList.drop (pos + 1) = (s[pos + 1]'hp1) :: s.data.toList.drop (pos + 2) := by
            rw [List.drop_eq_getElem_cons (by simpa using hp1)]; rfl
          cases h : Spec.sign (s[pos + 1]'hp1) with
          | false => rfl
          | true => exact absurd ⟨UInt8.toNat_inj.1 h92, by rw [hd1]; exact h⟩ hsg)
        have hst : Spec.step (s.data.toList.drop pos) = if 0 < (Spec.ent (s.data.toList.drop pos)).2 then Spec.ent (s.data.toList.drop pos) else ([s[pos]'hp], 1) := by
          rw [hdrop]
          unfold Spec.step
          simp only
          rw [if_neg hsg]
        have hA := fun W (hW : Tabs W) => at_any x W hxs hW
        rw [hxl] at hA
        have hA : ∀ W, Tabs W → Calls Tryz.prog 19 #[.string (s.extract pos s.size)] W fun e w' => e = .returned (entRes (Spec.ent (s.data.toList.drop pos))) ∧ Below W.heap.size W w' := fun W hW => by rw [← hx]; exact hA W hW
        clear hxl hxs hx hlen
        by_cases h0 : 0 < (Spec.ent (s.data.toList.drop pos)).2
        · rw [if_pos h0] at hst
          have hn2 : n = (Spec.ent (s.data.toList.drop pos)).2 := by rw [hn, hst]
          have hu2 : u = (Spec.ent (s.data.toList.drop pos)).1 := by rw [hu, hst]
          have hus : (⟨u.toArray⟩ : ByteArray).size ≤ 4000000 := by
            have h1 := ent_le (s.data.toList.drop pos)
            rw [List.length_drop, ← Lib.size_eq] at h1
            rw [Lib.size_eq, hu2]
            simp only
            omega
          have hus : (⟨u.toArray⟩ : ByteArray).size = u.length := by rw [Lib.size_eq]
          have hul : u.length ≤ 4000000 := by
            have h1 := ent_le (s.data.toList.drop pos)
            rw [List.length_drop, ← Lib.size_eq] at h1
            rw [hu2]
            omega
          have hns : n ≤ 1000000 := by
            have h1 := ent_le (s.data.toList.drop pos)
            rw [List.length_drop, ← Lib.size_eq] at h1
            omega
          have hA : ∀ W, Tabs W → Calls Tryz.prog 19 #[.string (s.extract pos s.size)] W fun e w' => e = .returned (.tuple #[.string ⟨u.toArray⟩, .int .i64 (n : Int)]) ∧ Below W.heap.size W w' := fun W hW => by rw [hn2, hu2]; exact hA W hW
          have HUS := Lib.hid hus
          clear hst hn hu hn2 hu2 h0 hsg hdrop hus
          by_cases h92 : (s[pos]'hp).toNat = 92
          · have h92b : (((s[pos]'hp).toNat : Int) == 92) = true := beq_iff_eq.2 (by omega)
            by_cases hp1 : pos + 1 < s.size
            · have hpi1 : (pos : Int) + 1 < s.size := by omega
              have hS : ∀ W, Calls Tryz.prog 17 #[.int .u8 ((s[pos + 1]'hp1).toNat : Int)] W fun e w' => e = .returned (.bool false) ∧ Below W.heap.size W w' := fun W => by
                have := sign_any (s[pos + 1]'hp1) W
                rw [HNS.out hp1 h92] at this
                exact this
              clear h92 HNS
              go_wp2_with (go_at_call 17; refine (hS _).mono ?_; rintro e w1 ⟨rfl, hb1⟩)
              have hTw1 := hTw.below hb1
              have hI1 := bld_below hI hb1
              have hbw1 := hbw.trans (hb1.mono hsz)
              have hsz1 : w.heap.size ≤ w1.heap.size := hbw1.size
              clear hS hTw hI hbw hb1
              refine (hA _ hTw1).mono ?_
              rintro e wa ⟨rfl, hba⟩
              have hIa := bld_below (hI1) hba
              have hbwa := hbw1.trans (hba.mono hsz1)
              have hsa : w.heap.size ≤ wa.heap.size := hbwa.size
              clear hA
              go_wp2_with (go_at_call 20; refine (writeString_any w.heap.size w.heap.size _ _ _ hIa (by rw [Lib.byteCells_length, HUS.out]; omega) hsa).mono ?_; rintro e w2 ⟨rfl, hI2, hb2, _⟩)
              rw [strCells_bytes, ← Lib.byteCells_append] at hI2
              have hbb : Below w.heap.size w w2 := hbwa.trans hb2
              have HI2 := Lib.hid hI2
              clear hI2 hIa hba hb2
              go_wp2
              go_roundw
              case rel => exact HX.out w2 HI2.out hbb
              case measure => simp [intOf]; omega
            · have hpi1 : ¬ (pos : Int) + 1 < s.size := by omega
              clear h92 HNS
              go_wp2_with (go_at_call 19; refine (hA _ hTw).mono ?_; rintro e wa ⟨rfl, hba⟩)
              have hIa := bld_below (hI) hba
              have hbwa := hbw.trans (hba.mono hsz)
              have hsa : w.heap.size ≤ wa.heap.size := hbwa.size
              clear hA
              go_wp2_with (go_at_call 20; refine (writeString_any w.heap.size w.heap.size _ _ _ hIa (by rw [Lib.byteCells_length, HUS.out]; omega) hsa).mono ?_; rintro e w2 ⟨rfl, hI2, hb2, _⟩)
              rw [strCells_bytes, ← Lib.byteCells_append] at hI2
              have hbb : Below w.heap.size w w2 := hbwa.trans hb2
              have HI2 := Lib.hid hI2
              clear hI2 hIa hba hb2
              go_wp2
              go_roundw
              case rel => exact HX.out w2 HI2.out hbb
              case measure => simp [intOf]; omega
          · have h92b : (((s[pos]'hp).toNat : Int) == 92) = false := beq_eq_false_iff_ne.2 (by omega)
            clear h92 HNS
            go_wp2_with (go_at_call 19; refine (hA _ hTw).mono ?_; rintro e wa ⟨rfl, hba⟩)
            have hIa := bld_below (hI) hba
            have hbwa := hbw.trans (hba.mono hsz)
            have hsa : w.heap.size ≤ wa.heap.size := hbwa.size
            clear hA
            go_wp2_with (go_at_call 20; refine (writeString_any w.heap.size w.heap.size _ _ _ hIa (by rw [Lib.byteCells_length, HUS.out]; omega) hsa).mono ?_; rintro e w2 ⟨rfl, hI2, hb2, _⟩)
            rw [strCells_bytes, ← Lib.byteCells_append] at hI2
            have hbb : Below w.heap.size w w2 := hbwa.trans hb2
            have HI2 := Lib.hid hI2
            clear hI2 hIa hba hb2
            go_wp2
            go_roundw
            case rel => exact HX.out w2 HI2.out hbb
            case measure => simp [intOf]; omega
        · rw [if_neg h0] at hst
          have hn2 : n = 1 := by rw [hn, hst]
          have hu2 : u = [s[pos]'hp] := by rw [hu, hst]
          subst hn2; subst hu2
          have hA : ∀ W, Tabs W → Calls Tryz.prog 19 #[.string (s.extract pos s.size)] W fun e w' => e = .returned (.tuple #[.string ⟨(Spec.ent (s.data.toList.drop pos)).1.toArray⟩, .int .i64 0]) ∧ Below W.heap.size W w' := fun W hW => by
            have h2 : (Spec.ent (s.data.toList.drop pos)).2 = 0 := by omega
            have := hA W hW
            unfold entRes at this
            rw [h2] at this
            exact this
          generalize (Spec.ent (s.data.toList.drop pos)).1 = junk at hA
          clear hst hn hu h0 hsg hdrop
          by_cases h92 : (s[pos]'hp).toNat = 92
          · have h92b : (((s[pos]'hp).toNat : Int) == 92) = true := beq_iff_eq.2 (by omega)
            by_cases hp1 : pos + 1 < s.size
            · have hpi1 : (pos : Int) + 1 < s.size := by omega
              have hS : ∀ W, Calls Tryz.prog 17 #[.int .u8 ((s[pos + 1]'hp1).toNat : Int)] W fun e w' => e = .returned (.bool false) ∧ Below W.heap.size W w' := fun W => by
                have := sign_any (s[pos + 1]'hp1) W
                rw [HNS.out hp1 h92] at this
                exact this
              clear h92 HNS
              go_wp2_with (go_at_call 17; refine (hS _).mono ?_; rintro e w1 ⟨rfl, hb1⟩)
              have hTw1 := hTw.below hb1
              have hI1 := bld_below hI hb1
              have hbw1 := hbw.trans (hb1.mono hsz)
              have hsz1 : w.heap.size ≤ w1.heap.size := hbw1.size
              clear hS hTw hI hbw hb1
              refine (hA _ hTw1).mono ?_
              rintro e wa ⟨rfl, hba⟩
              have hIa := bld_below (hI1) hba
              have hbwa := hbw1.trans (hba.mono hsz1)
              have hsa : w.heap.size ≤ wa.heap.size := hbwa.size
              clear hA
              go_wp2_with (go_at_call 18; refine (writeByte_any w.heap.size w.heap.size _ _ _ hIa (by rw [Lib.byteCells_length]; omega) hsa).mono ?_; rintro e w2 ⟨rfl, hI2, hb2, _⟩)
              rw [byteCells_snoc] at hI2
              have hbb : Below w.heap.size w w2 := hbwa.trans hb2
              have HI2 := Lib.hid hI2
              clear hI2 hIa hba hb2
              go_wp2
              go_roundw
              case rel => exact HX.out w2 HI2.out hbb
              case measure => simp [intOf]; omega
            · have hpi1 : ¬ (pos : Int) + 1 < s.size := by omega
              clear h92 HNS
              go_wp2_with (go_at_call 19; refine (hA _ hTw).mono ?_; rintro e wa ⟨rfl, hba⟩)
              have hIa := bld_below (hI) hba
              have hbwa := hbw.trans (hba.mono hsz)
              have hsa : w.heap.size ≤ wa.heap.size := hbwa.size
              clear hA
              go_wp2_with (go_at_call 18; refine (writeByte_any w.heap.size w.heap.size _ _ _ hIa (by rw [Lib.byteCells_length]; omega) hsa).mono ?_; rintro e w2 ⟨rfl, hI2, hb2, _⟩)
              rw [byteCells_snoc] at hI2
              have hbb : Below w.heap.size w w2 := hbwa.trans hb2
              have HI2 := Lib.hid hI2
              clear hI2 hIa hba hb2
              go_wp2
              go_roundw
              case rel => exact HX.out w2 HI2.out hbb
              case measure => simp [intOf]; omega
          · have h92b : (((s[pos]'hp).toNat : Int) == 92) = false := beq_eq_false_iff_ne.2 (by omega)
            clear h92 HNS
            go_wp2_with (go_at_call 19; refine (hA _ hTw).mono ?_; rintro e wa ⟨rfl, hba⟩)
            have hIa := bld_below (hI) hba
            have hbwa := hbw.trans (hba.mono hsz)
            have hsa : w.heap.size ≤ wa.heap.size := hbwa.size
            clear hA
            go_wp2_with (go_at_call 18; refine (writeByte_any w.heap.size w.heap.size _ _ _ hIa (by rw [Lib.byteCells_length]; omega) hsa).mono ?_; rintro e w2 ⟨rfl, hI2, hb2, _⟩)
            rw [byteCells_snoc] at hI2
            have hbb : Below w.heap.size w w2 := hbwa.trans hb2
            have HI2 := Lib.hid hI2
            clear hI2 hIa hba hb2
            go_wp2
            go_roundw
            case rel => exact HX.out w2 HI2.out hbb
            case measure => simp [intOf]; omega
    · -- the text is through
      have hpe : pos = s.size := by omega
      have hfin : acc = Spec.unesc s.data.toList := by
        have := HU.out.1
        rw [List.drop_of_length_le (by rw [← Lib.size_eq]; omega), unesc_nil, List.append_nil] at this
        exact this
      have HF := Lib.hid hfin
      have HP : Hid (pos = s.size) := Lib.hid hpe
      clear hpe hfin HU
      have hpi : ¬ (pos : Int) < s.size := by omega
      go_wp2_with (go_at_call 21; refine (Tryz.Builder_String_any_k w.heap.size w.heap.size acc _ hI (by omega)).mono ?_; rintro e w1 ⟨rfl, _, hb1, _⟩)
      go_ret
      exact ⟨ret_str (by rw [HF.out]), hbw.trans hb1⟩

end Go.Proofs.YtipbmagondoooaaGreatDoor
