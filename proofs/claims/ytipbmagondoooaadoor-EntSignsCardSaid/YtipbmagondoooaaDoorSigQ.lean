/-
  The law EntSigns where the sign is '&' or a stroke, whatever order its last statement is run in.
-/
import Derived.Test.YtipbmagondoooaaDoorUnesc
import Derived.Test.YtipbmagondoooaaDoorKnown
import Derived.Handy
import Derived.Deep.RegionWith
namespace Go.Proofs.YtipbmagondoooaaDoor
open Go.RowKit

section
variable {w0 w2 : World} {v v' : Value} {t t' : TypeId}
theorem sq_bel1 (h : Below (w0.alloc (.cells #[v] t)).drew.heap.size (w0.alloc (.cells #[v] t)).drew w2) : Below w0.heap.size w0 w2 :=
  Below.trans ((Below.refl _ _).alloc (Nat.le_refl _) _).drew (h.mono (by simp))
theorem sq_bel2 (h : Below ((w0.alloc (.cells #[v] t)).alloc (.cells #[v'] t')).drew.heap.size ((w0.alloc (.cells #[v] t)).alloc (.cells #[v'] t')).drew w2) : Below w0.heap.size w0 w2 :=
  Below.trans (((Below.refl _ _).alloc (Nat.le_refl _) _).alloc (by simp) _).drew (h.mono (by simp; omega))
theorem sq_pre1 (w0 : World) (v : Value) (t : TypeId) : Below w0.heap.size w0 (w0.alloc (.cells #[v] t)).drew := ((Below.refl _ _).alloc (Nat.le_refl _) _).drew
theorem sq_pre2 (w0 : World) (v v' : Value) (t t' : TypeId) : Below w0.heap.size w0 ((w0.alloc (.cells #[v] t)).alloc (.cells #[v'] t')).drew := (((Below.refl _ _).alloc (Nat.le_refl _) _).alloc (by simp) _).drew
theorem sq_cell1 (h : Below (w0.alloc (.cells #[v] t)).drew.heap.size (w0.alloc (.cells #[v] t)).drew w2) : w2.cell? ⟨w0.heap.size, 0, none⟩ = some v :=
  (h.cell (p := ⟨w0.heap.size, 0, none⟩) (by simp)).trans (by go_simp)
theorem sq_cell2a (h : Below ((w0.alloc (.cells #[v] t)).alloc (.cells #[v'] t')).drew.heap.size ((w0.alloc (.cells #[v] t)).alloc (.cells #[v'] t')).drew w2) : w2.cell? ⟨w0.heap.size, 0, none⟩ = some v :=
  (h.cell (p := ⟨w0.heap.size, 0, none⟩) (by simp; omega)).trans (by go_simp)
theorem sq_cell2b (h : Below ((w0.alloc (.cells #[v] t)).alloc (.cells #[v'] t')).drew.heap.size ((w0.alloc (.cells #[v] t)).alloc (.cells #[v'] t')).drew w2) : w2.cell? ⟨w0.heap.size + 1, 0, none⟩ = some v' :=
  (h.cell (p := ⟨w0.heap.size + 1, 0, none⟩) (by simp)).trans (by go_simp)
end

set_option maxHeartbeats 8000000 in
set_option maxRecDepth 100000 in
theorem signs_38_none (s sc : ByteArray) (w : World) (hT : Tabs w) (h0i : ¬ (0 : Int) < s.size) (hs15 : s.size ≤ 1500)
    (hcvG : ∀ (W : World) (b : Nat), W.cell? ⟨b, 0, none⟩ = some (.int .u8 38) → (convert 27 9 (.slice (some ⟨b, 0, none⟩) 1 1)).run Tryd.prog W = .ok (.string sc) W)
    (hscs : sc.size = 1)
    (hSc : ∀ W, Calls Tryd.prog 15 #[.int .u8 38] W fun e w' => e = .returned (.bool true) ∧ W = w')
    (hU2 : ∀ W, Tabs W → Calls Tryd.prog 12 #[.string ((⟨#[92]⟩ : ByteArray) ++ sc)] W fun e w' => e = .returned (.string sc) ∧ Below W.heap.size W w')
    (hK : ∀ W, Tabs W → Calls Tryd.prog 11 #[] W fun e w' => e = .returned (.bool true) ∧ Below W.heap.size W w') :
    Calls Tryd.prog 6 #[.int .u8 38, .string s] w fun e w' => e = .returned (.bool true) ∧ Below w.heap.size w w' := by
  have hvv : (sc.toList == sc.toList) = true := beq_self_eq_true _
  go_enter Tryd.func6, Tryd.ntmps6
  go_wp2_with (go_at_call 15; with_reducible refine (hSc _).mono ?_; rintro e wy ⟨rfl, rfl⟩)
  have hbw0 : Below w.heap.size w ((w.alloc (Obj.cells #[Value.int IntKind.u8 38] 5)).alloc (Obj.cells #[Value.int IntKind.u8 38] 5)) := by go_grown
  have hT0 := hT.below hbw0
  generalize ((w.alloc (Obj.cells #[Value.int IntKind.u8 38] 5)).alloc (Obj.cells #[Value.int IntKind.u8 38] 5)) = w0 at hbw0 hT0 ⊢
  have hB0 : Hid (Below w.heap.size w w0) := Lib.hid hbw0
  clear hbw0 hSc
  have hP1 := hT0.below (sq_pre1 w0 (.int .u8 38) 5)
  have hP2 := hT0.below (sq_pre2 w0 (.int .u8 38) (.int .u8 38) 5 5)
  go_region_with (first | (go_at_call 12; refine (hU2 _ ?_).mono ?_; (first | exact hP1 | exact hP2); rintro e w2 ⟨rfl, hb2⟩; first | (have hbw2 := sq_bel1 (w0 := w0) hb2; have hcl0 := sq_cell1 (w0 := w0) hb2; clear hb2) | (have hbw2 := sq_bel2 (w0 := w0) hb2; have hcl0 := sq_cell2a (w0 := w0) hb2; have hcl1 := sq_cell2b (w0 := w0) hb2; clear hb2)) | (go_at_call 11; refine (hK _ ?_).mono ?_; (first | exact hT0.below hbw2 | exact hT0.below (hbw2.alloc hbw2.size _)); rintro e w3 ⟨rfl, hb3⟩; first | (have hbw3 := hbw2.trans (hb3.mono hbw2.size); clear hb3) | (have hbw3 := (hbw2.alloc hbw2.size _).trans (hb3.mono (hbw2.alloc hbw2.size _).size); clear hb3)))
  all_goals
    go_wp2
    go_ret
    exact ⟨rfl, hB0.out.trans (hbw3.mono hB0.out.size)⟩

set_option maxHeartbeats 8000000 in
set_option maxRecDepth 100000 in
theorem signs_38_some (s sc : ByteArray) (w : World) (hT : Tabs w) (h0 : 0 < s.size) (h0i : (0 : Int) < s.size) (hzi : (((s[0]'h0).toNat : Int) == 0) = false) (hS0 : ∀ W, Calls Tryd.prog 15 #[.int .u8 ((s[0]'h0).toNat : Int)] W fun e w' => e = .returned (.bool false) ∧ W = w') (hs15 : s.size ≤ 1500)
    (hcvG : ∀ (W : World) (b : Nat), W.cell? ⟨b, 0, none⟩ = some (.int .u8 38) → (convert 27 9 (.slice (some ⟨b, 0, none⟩) 1 1)).run Tryd.prog W = .ok (.string sc) W)
    (hscs : sc.size = 1)
    (hSc : ∀ W, Calls Tryd.prog 15 #[.int .u8 38] W fun e w' => e = .returned (.bool true) ∧ W = w')
    (hU2 : ∀ W, Tabs W → Calls Tryd.prog 12 #[.string ((⟨#[92]⟩ : ByteArray) ++ sc)] W fun e w' => e = .returned (.string sc) ∧ Below W.heap.size W w')
    (hK : ∀ W, Tabs W → Calls Tryd.prog 11 #[] W fun e w' => e = .returned (.bool true) ∧ Below W.heap.size W w') :
    Calls Tryd.prog 6 #[.int .u8 38, .string s] w fun e w' => e = .returned (.bool true) ∧ Below w.heap.size w w' := by
  have hvv : (sc.toList == sc.toList) = true := beq_self_eq_true _
  go_enter Tryd.func6, Tryd.ntmps6
  go_wp2_with (first | (go_at_call 15; with_reducible refine (hS0 _).mono ?_; rintro e wx ⟨rfl, rfl⟩) | (go_at_call 15; with_reducible refine (hSc _).mono ?_; rintro e wy ⟨rfl, rfl⟩))
  have hbw0 : Below w.heap.size w ((w.alloc (Obj.cells #[Value.int IntKind.u8 38] 5)).alloc (Obj.cells #[Value.int IntKind.u8 38] 5)) := by go_grown
  have hT0 := hT.below hbw0
  generalize ((w.alloc (Obj.cells #[Value.int IntKind.u8 38] 5)).alloc (Obj.cells #[Value.int IntKind.u8 38] 5)) = w0 at hbw0 hT0 ⊢
  have hB0 : Hid (Below w.heap.size w w0) := Lib.hid hbw0
  clear hbw0 hSc
  have hP1 := hT0.below (sq_pre1 w0 (.int .u8 38) 5)
  have hP2 := hT0.below (sq_pre2 w0 (.int .u8 38) (.int .u8 38) 5 5)
  go_region_with (first | (go_at_call 12; refine (hU2 _ ?_).mono ?_; (first | exact hP1 | exact hP2); rintro e w2 ⟨rfl, hb2⟩; first | (have hbw2 := sq_bel1 (w0 := w0) hb2; have hcl0 := sq_cell1 (w0 := w0) hb2; clear hb2) | (have hbw2 := sq_bel2 (w0 := w0) hb2; have hcl0 := sq_cell2a (w0 := w0) hb2; have hcl1 := sq_cell2b (w0 := w0) hb2; clear hb2)) | (go_at_call 11; refine (hK _ ?_).mono ?_; (first | exact hT0.below hbw2 | exact hT0.below (hbw2.alloc hbw2.size _)); rintro e w3 ⟨rfl, hb3⟩; first | (have hbw3 := hbw2.trans (hb3.mono hbw2.size); clear hb3) | (have hbw3 := (hbw2.alloc hbw2.size _).trans (hb3.mono (hbw2.alloc hbw2.size _).size); clear hb3)))
  all_goals
    go_wp2
    go_ret
    exact ⟨rfl, hB0.out.trans (hbw3.mono hB0.out.size)⟩

set_option maxHeartbeats 8000000 in
set_option maxRecDepth 100000 in
theorem signs_92_none (s sc : ByteArray) (w : World) (hT : Tabs w) (h0i : ¬ (0 : Int) < s.size) (hs15 : s.size ≤ 1500)
    (hcvG : ∀ (W : World) (b : Nat), W.cell? ⟨b, 0, none⟩ = some (.int .u8 92) → (convert 27 9 (.slice (some ⟨b, 0, none⟩) 1 1)).run Tryd.prog W = .ok (.string sc) W)
    (hscs : sc.size = 1)
    (hSc : ∀ W, Calls Tryd.prog 15 #[.int .u8 92] W fun e w' => e = .returned (.bool true) ∧ W = w')
    (hU2 : ∀ W, Tabs W → Calls Tryd.prog 12 #[.string ((⟨#[92]⟩ : ByteArray) ++ sc)] W fun e w' => e = .returned (.string sc) ∧ Below W.heap.size W w')
    (hK : ∀ W, Tabs W → Calls Tryd.prog 11 #[] W fun e w' => e = .returned (.bool true) ∧ Below W.heap.size W w') :
    Calls Tryd.prog 6 #[.int .u8 92, .string s] w fun e w' => e = .returned (.bool true) ∧ Below w.heap.size w w' := by
  have hvv : (sc.toList == sc.toList) = true := beq_self_eq_true _
  go_enter Tryd.func6, Tryd.ntmps6
  go_wp2_with (go_at_call 15; with_reducible refine (hSc _).mono ?_; rintro e wy ⟨rfl, rfl⟩)
  have hbw0 : Below w.heap.size w ((w.alloc (Obj.cells #[Value.int IntKind.u8 92] 5)).alloc (Obj.cells #[Value.int IntKind.u8 92] 5)) := by go_grown
  have hT0 := hT.below hbw0
  generalize ((w.alloc (Obj.cells #[Value.int IntKind.u8 92] 5)).alloc (Obj.cells #[Value.int IntKind.u8 92] 5)) = w0 at hbw0 hT0 ⊢
  have hB0 : Hid (Below w.heap.size w w0) := Lib.hid hbw0
  clear hbw0 hSc
  have hP1 := hT0.below (sq_pre1 w0 (.int .u8 92) 5)
  have hP2 := hT0.below (sq_pre2 w0 (.int .u8 92) (.int .u8 92) 5 5)
  go_region_with (first | (go_at_call 12; refine (hU2 _ ?_).mono ?_; (first | exact hP1 | exact hP2); rintro e w2 ⟨rfl, hb2⟩; first | (have hbw2 := sq_bel1 (w0 := w0) hb2; have hcl0 := sq_cell1 (w0 := w0) hb2; clear hb2) | (have hbw2 := sq_bel2 (w0 := w0) hb2; have hcl0 := sq_cell2a (w0 := w0) hb2; have hcl1 := sq_cell2b (w0 := w0) hb2; clear hb2)) | (go_at_call 11; refine (hK _ ?_).mono ?_; (first | exact hT0.below hbw2 | exact hT0.below (hbw2.alloc hbw2.size _)); rintro e w3 ⟨rfl, hb3⟩; first | (have hbw3 := hbw2.trans (hb3.mono hbw2.size); clear hb3) | (have hbw3 := (hbw2.alloc hbw2.size _).trans (hb3.mono (hbw2.alloc hbw2.size _).size); clear hb3)))
  all_goals
    go_wp2
    go_ret
    exact ⟨rfl, hB0.out.trans (hbw3.mono hB0.out.size)⟩

set_option maxHeartbeats 8000000 in
set_option maxRecDepth 100000 in
theorem signs_92_some (s sc : ByteArray) (w : World) (hT : Tabs w) (h0 : 0 < s.size) (h0i : (0 : Int) < s.size) (hzi : (((s[0]'h0).toNat : Int) == 0) = false) (hS0 : ∀ W, Calls Tryd.prog 15 #[.int .u8 ((s[0]'h0).toNat : Int)] W fun e w' => e = .returned (.bool false) ∧ W = w') (hs15 : s.size ≤ 1500)
    (hcvG : ∀ (W : World) (b : Nat), W.cell? ⟨b, 0, none⟩ = some (.int .u8 92) → (convert 27 9 (.slice (some ⟨b, 0, none⟩) 1 1)).run Tryd.prog W = .ok (.string sc) W)
    (hscs : sc.size = 1)
    (hSc : ∀ W, Calls Tryd.prog 15 #[.int .u8 92] W fun e w' => e = .returned (.bool true) ∧ W = w')
    (hU2 : ∀ W, Tabs W → Calls Tryd.prog 12 #[.string ((⟨#[92]⟩ : ByteArray) ++ sc)] W fun e w' => e = .returned (.string sc) ∧ Below W.heap.size W w')
    (hK : ∀ W, Tabs W → Calls Tryd.prog 11 #[] W fun e w' => e = .returned (.bool true) ∧ Below W.heap.size W w') :
    Calls Tryd.prog 6 #[.int .u8 92, .string s] w fun e w' => e = .returned (.bool true) ∧ Below w.heap.size w w' := by
  have hvv : (sc.toList == sc.toList) = true := beq_self_eq_true _
  go_enter Tryd.func6, Tryd.ntmps6
  go_wp2_with (first | (go_at_call 15; with_reducible refine (hS0 _).mono ?_; rintro e wx ⟨rfl, rfl⟩) | (go_at_call 15; with_reducible refine (hSc _).mono ?_; rintro e wy ⟨rfl, rfl⟩))
  have hbw0 : Below w.heap.size w ((w.alloc (Obj.cells #[Value.int IntKind.u8 92] 5)).alloc (Obj.cells #[Value.int IntKind.u8 92] 5)) := by go_grown
  have hT0 := hT.below hbw0
  generalize ((w.alloc (Obj.cells #[Value.int IntKind.u8 92] 5)).alloc (Obj.cells #[Value.int IntKind.u8 92] 5)) = w0 at hbw0 hT0 ⊢
  have hB0 : Hid (Below w.heap.size w w0) := Lib.hid hbw0
  clear hbw0 hSc
  have hP1 := hT0.below (sq_pre1 w0 (.int .u8 92) 5)
  have hP2 := hT0.below (sq_pre2 w0 (.int .u8 92) (.int .u8 92) 5 5)
  go_region_with (first | (go_at_call 12; refine (hU2 _ ?_).mono ?_; (first | exact hP1 | exact hP2); rintro e w2 ⟨rfl, hb2⟩; first | (have hbw2 := sq_bel1 (w0 := w0) hb2; have hcl0 := sq_cell1 (w0 := w0) hb2; clear hb2) | (have hbw2 := sq_bel2 (w0 := w0) hb2; have hcl0 := sq_cell2a (w0 := w0) hb2; have hcl1 := sq_cell2b (w0 := w0) hb2; clear hb2)) | (go_at_call 11; refine (hK _ ?_).mono ?_; (first | exact hT0.below hbw2 | exact hT0.below (hbw2.alloc hbw2.size _)); rintro e w3 ⟨rfl, hb3⟩; first | (have hbw3 := hbw2.trans (hb3.mono hbw2.size); clear hb3) | (have hbw3 := (hbw2.alloc hbw2.size _).trans (hb3.mono (hbw2.alloc hbw2.size _).size); clear hb3)))
  all_goals
    go_wp2
    go_ret
    exact ⟨rfl, hB0.out.trans (hbw3.mono hB0.out.size)⟩

end Go.Proofs.YtipbmagondoooaaDoor
