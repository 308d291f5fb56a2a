/-
  Texts of one proof, joined: InK.
-/
import Derived.Test.YtmplfiflikhpjaaGreatDoorV07
import Derived.Deep.DeepCutAuto
import Derived.Laws.Rows
/-
  delim.Look: a Mark between two runes.
-/
namespace Go.Proofs.YtmplfiflikhpjaaGreatDoor
open Go.RowKit

/-- A Mark as a value. -/
def markV (m : Spec.Mark) : Value := .agg #[.int .u8 (m.sign.toNat : Int), .int .i64 (m.n : Int), .bool m.opn, .bool m.cls]
theorem bcell {W w1 : World} (hb : Below W.heap.size W w1) : (∀ b o, b < W.heap.size → w1.cell? ⟨b, o, none⟩ = W.cell? ⟨b, o, none⟩) ∧ (∀ b o, b < W.heap.size → w1.frozen? ⟨b, o, none⟩ = W.frozen? ⟨b, o, none⟩) :=
  ⟨fun b o h => hb.cell (p := ⟨b, o, none⟩) h, fun b o h => hb.frozen (p := ⟨b, o, none⟩) h⟩

def onB (bb bp ab ap : Bool) : Bool := !ab && (!ap || bb || bp)
theorem look_eq (c : UInt8) (n b a : Nat) : Spec.look c n b a = if c = 95 then ⟨c, n, onB (Spec.blankR b) (Spec.punctR b) (Spec.blankR a) (Spec.punctR a) && (!onB (Spec.blankR a) (Spec.punctR a) (Spec.blankR b) (Spec.punctR b) || Spec.punctR b), onB (Spec.blankR a) (Spec.punctR a) (Spec.blankR b) (Spec.punctR b) && (!onB (Spec.blankR b) (Spec.punctR b) (Spec.blankR a) (Spec.punctR a) || Spec.punctR a)⟩
    else ⟨c, n, onB (Spec.blankR b) (Spec.punctR b) (Spec.blankR a) (Spec.punctR a), onB (Spec.blankR a) (Spec.punctR a) (Spec.blankR b) (Spec.punctR b)⟩ := rfl
set_option maxHeartbeats 16000000 in
set_option maxRecDepth 100000 in
theorem look_any (c : UInt8) (n b a : Nat) (w : World) :
    Calls Tryz.prog 57 #[.int .u8 (c.toNat : Int), .int .i64 (n : Int), .int .i32 (b : Int), .int .i32 (a : Int)] w fun e w' => e = .returned (markV (Spec.look c n b a)) ∧ Below w.heap.size w w' := by
  have hbb := fun W => blank_any b W
  have hbp := fun W => punct_any b W
  have hab := fun W => blank_any a W
  have hap := fun W => punct_any a W
  rw [look_eq]
  generalize Spec.blankR b = bb at *
  generalize Spec.punctR b = bp at *
  generalize Spec.blankR a = ab at *
  generalize Spec.punctR a = ap at *
  have hcase : (∃ x : Int, x = (c.toNat : Int) ∧ (x == 95) = true ∧ c = 95) ∨ (∃ x : Int, x = (c.toNat : Int) ∧ (x == 95) = false ∧ c ≠ 95) := by
    by_cases h : c = 95
    · exact .inl ⟨_, rfl, u8_true h rfl, h⟩
    · exact .inr ⟨_, rfl, u8_false h rfl, h⟩
  obtain ⟨x, hx, hx95⟩ : ∃ x : Int, x = (c.toNat : Int) ∧ (x == 95) = decide (c = 95) := by
    rcases hcase with ⟨x, a, b, d⟩ | ⟨x, a, b, d⟩
    · exact ⟨x, a, by rw [b, decide_eq_true d]⟩
    · exact ⟨x, a, by rw [b, decide_eq_false d]⟩
  clear hcase
  obtain ⟨on, hon⟩ : ∃ on, on = onB bb bp ab ap := ⟨_, rfl⟩
  obtain ⟨back, hback⟩ : ∃ back, back = onB ab ap bb bp := ⟨_, rfl⟩
  obtain ⟨o, ho⟩ : ∃ o, o = if (x == 95) = true then on && (!back || bp) else on := ⟨_, rfl⟩
  obtain ⟨cl, hcl⟩ : ∃ cl, cl = if (x == 95) = true then back && (!on || ap) else back := ⟨_, rfl⟩
  have hm : (if c = 95 then (⟨c, n, onB bb bp ab ap && (!onB ab ap bb bp || bp), onB ab ap bb bp && (!onB bb bp ab ap || ap)⟩ : Spec.Mark) else ⟨c, n, onB bb bp ab ap, onB ab ap bb bp⟩) = ⟨c, n, o, cl⟩ := by
    rw [ho, hcl, hx95, ← hon, ← hback]
    by_cases h : c = 95 <;> simp [h]
  rw [hm]
  have HON := Lib.hid hon
  have HBK := Lib.hid hback
  have HO := Lib.hid ho
  have HCL := Lib.hid hcl
  clear hm hon hback ho hcl hx95
  · rw [← hx]
    have HX := Lib.hid hx
    clear hx
    go_enter Tryz.func57, Tryz.ntmps57
    go_wp2_with fail
    refine (hbb _).mono ?_
    rintro e w1 ⟨rfl, hb1⟩
    go_wp2_with fail
    refine (hbp _).mono ?_
    rintro e w2 ⟨rfl, hb2⟩
    go_wp2_with fail
    refine (hab _).mono ?_
    rintro e w3 ⟨rfl, hb3⟩
    go_wp2_with fail
    refine (hap _).mono ?_
    rintro e w4 ⟨rfl, hb4⟩
    have s1 : w.heap.size < w1.heap.size := by have := hb1.size; simp at this; omega
    have hrow : w4.heap[w.heap.size]? = some (.cells #[.int .u8 0, .int .i64 0, .bool false, .bool false] 62 (0, 0)) := by
      have s2 := hb2.size
      have s3 := hb3.size
      rw [hb4.block _ (by omega), hb3.block _ (by omega), hb2.block _ (by omega), hb1.block _ (by simp)]
      exact heap_alloc_new w _
    have hz : w.heap.size < w4.heap.size := by have s2 := hb2.size; have s3 := hb3.size; have s4 := hb4.size; omega
    have hc0 : w4.cell? ⟨w.heap.size, 0, none⟩ = some (.int .u8 0) := cell_of_row _ _ _ _ _ _ hrow
    have hc1 : w4.cell? ⟨w.heap.size, 1, none⟩ = some (.int .i64 0) := cell_of_row _ _ _ _ _ _ hrow
    have hc2 : w4.cell? ⟨w.heap.size, 2, none⟩ = some (.bool false) := cell_of_row _ _ _ _ _ _ hrow
    have hc3 : w4.cell? ⟨w.heap.size, 3, none⟩ = some (.bool false) := cell_of_row _ _ _ _ _ _ hrow
    have hf : ∀ o, w4.frozen? ⟨w.heap.size, o, none⟩ = false := fun o => frozen_of_row _ _ _ _ _ hrow
    have hbw : Below w.heap.size w w4 := (((Below.refl _ w).alloc (Nat.le_refl _) _).trans (hb1.mono (by simp))).trans ((hb2.mono (by omega)).trans ((hb3.mono (by have := hb2.size; omega)).trans (hb4.mono (by have := hb2.size; have := hb3.size; omega))))
    have HB := Lib.hid hbw
    clear hb1 hb2 hb3 hb4 hrow hbw s1
    go_upto_region 3 with fail
    go_cut [13] (fun s13 wc => s13 = .bool on ∧ w4 = wc)
    case first =>
      cases bb <;> cases bp <;> cases ab <;> cases ap
      all_goals
        go_wp2
        go_meet
        exact ⟨by rw [HON.out]; rfl, rfl⟩
    case rest =>
      obtain ⟨rfl, rfl⟩ := hcut
      go_upto_region 4 with fail
      go_cut [14] (fun s14 wc => s14 = .bool back ∧ w4 = wc)
      case first =>
        cases bb <;> cases bp <;> cases ab <;> cases ap
        all_goals
          go_wp2
          go_meet
          exact ⟨by rw [HBK.out]; rfl, rfl⟩
      case rest =>
        obtain ⟨rfl, rfl⟩ := hcut
        clear HON HBK
        go_upto_if 54 with fail
        go_cut [15] (fun s15 wc => s15 = .pointer (some ⟨w4.heap.size, 0, none⟩) ∧ wc = w4.alloc (.cells #[.int .u8 x, .int .i64 (n : Int), .bool o, .bool cl] 62))
        case first =>
          cases hx95 : (x == 95) with
          | true =>
            rw [hx95] at HO HCL
            cases on <;> cases back <;> cases bp <;> cases ap
            all_goals
              go_wp2
              go_meet
              exact ⟨rfl, by rw [HO.out, HCL.out]; rfl⟩
          | false =>
            rw [hx95] at HO HCL
            go_wp2
            go_meet
            exact ⟨rfl, by rw [HO.out, HCL.out]; rfl⟩
        case rest =>
          obtain ⟨rfl, rfl⟩ := hcut
          clear HO HCL
          go_wp2
          refine bodyPost_ret (v := .agg #[.int .u8 x, .int .i64 (n : Int), .bool o, .bool cl]) (by simp [results, Tryz.f57, go_sem, hz, hc0, hc1, hc2, hc3]) rfl ⟨by rw [HX.out]; rfl, ?_⟩
          exact ((((HB.out.setCell (Nat.le_refl _) _).setCell (Nat.le_refl _) _).setCell (Nat.le_refl _) _).setCell (Nat.le_refl _) _).alloc (by simp [World.setCell]; omega) _
end Go.Proofs.YtmplfiflikhpjaaGreatDoor
