/-
  What a fence is: the program's answer and the reference's, at every line.
-/
import Derived.Test.YtipbmagondoooaaDoorEnds
import Derived.Test.YtipbmagondoooaaDoorRefUn
import Derived.Lib.SlBytesConst
import Derived.Test.YtipbmagondoooaaDoorUri
import Derived.Handy
namespace Go.Proofs.YtipbmagondoooaaDoor
open Go.RowKit

/-- A fence: its sign, how many, what is said. -/
def fenceOf (l : List UInt8) (c : UInt8) : List UInt8 := Spec.unesc (Lib.trimS (l.drop (runL l c)) blanks)
def fenceL (l : List UInt8) : Nat × Nat × List UInt8 :=
  if 3 ≤ runL l 96 ∧ (l.drop (runL l 96)).contains 96 = false then (96, runL l 96, fenceOf l 96)
  else if 3 ≤ runL l 126 then (126, runL l 126, fenceOf l 126)
  else (0, 0, [])
def fenceRes (p : Nat × Nat × List UInt8) : Value := .tuple #[.int .u8 p.1, .int .i64 p.2.1, .string ⟨p.2.2.toArray⟩]

theorem trims_le (cs l : List UInt8) : (Lib.trimS l cs).length ≤ l.length := by
  unfold Lib.trimS Lib.trimLeftS Lib.trimRightS
  have h1 := (List.dropWhile_sublist (fun b => cs.contains b) (l := (l.reverse.dropWhile (fun b => cs.contains b)).reverse)).length_le
  have h2 := (List.dropWhile_sublist (fun b => cs.contains b) (l := l.reverse)).length_le
  rw [List.length_reverse] at h1 h2
  omega
set_option maxHeartbeats 4000000 in
set_option maxRecDepth 100000 in
theorem fence_any (s : ByteArray) (w : World) (hs : s.size ≤ 1000000) (hT : Tabs w) :
    Calls Tryd.prog 18 #[.string s] w fun e w' => e = .returned (fenceRes (fenceL s.data.toList)) ∧ Below w.heap.size w w' := by
  have hcv := fun (W : World) (C : Array Value) (n c : Nat) => Lib.run_convert_bytes_const (P := Tryd.prog) (w := W) 27 5 C n c Tryd.underlying27 Tryd.underlying5
  have hle1 := runL_le s.data.toList 96
  have hle2 := runL_le s.data.toList 126
  rw [← Lib.size_eq] at hle1 hle2
  have hR1 := fun W => run_any s 96 96 W rfl hs
  have hR2 := fun W => run_any s 126 126 W rfl hs
  have hstrip := fun (k : Nat) (hk : k ≤ s.size) W => strip_any (s.extract k s.size) W (by rw [ByteArray.size_extract]; omega)
  have hun := fun (c : UInt8) (W : World) (hW : Tabs W) => unescape_any ⟨(Lib.trimS (s.data.toList.drop (runL s.data.toList c)) blanks).toArray⟩ W (by
    rw [Lib.size_eq]
    have := trims_le blanks (s.data.toList.drop (runL s.data.toList c))
    rw [List.length_drop, ← Lib.size_eq] at this
    show (Lib.trimS _ _).length ≤ _
    omega) hW
  have hF : Hid (fenceL s.data.toList = if 3 ≤ runL s.data.toList 96 ∧ (s.data.toList.drop (runL s.data.toList 96)).contains 96 = false then (96, runL s.data.toList 96, fenceOf s.data.toList 96)
      else if 3 ≤ runL s.data.toList 126 then (126, runL s.data.toList 126, fenceOf s.data.toList 126) else (0, 0, [])) := Lib.hid rfl
  have hJ := fun W => Tryd.strings_IndexByte (s.extract (runL s.data.toList 96) s.size) 96 W
  have hidx := idx_has (s.data.toList.drop (runL s.data.toList 96)) 96
  have hS1 := hstrip _ hle1
  have hS2 := hstrip _ hle2
  rw [drop_text s _ hle1] at hS1 hJ
  rw [drop_text s _ hle2] at hS2
  simp only at hS1 hS2 hJ
  rw [← drop_text s _ hle1] at hS1 hJ
  rw [← drop_text s _ hle2] at hS2
  have hU1 := hun 96
  have hU2 := hun 126
  clear hun hstrip
  have hf1 : fenceOf s.data.toList 96 = Spec.unesc (Lib.trimS (s.data.toList.drop (runL s.data.toList 96)) blanks) := rfl
  have hf2 : fenceOf s.data.toList 126 = Spec.unesc (Lib.trimS (s.data.toList.drop (runL s.data.toList 126)) blanks) := rfl
  obtain ⟨r1, hr1⟩ : ∃ r, r = runL s.data.toList 96 := ⟨_, rfl⟩
  obtain ⟨r2, hr2⟩ : ∃ r, r = runL s.data.toList 126 := ⟨_, rfl⟩
  rw [← hr1] at hle1 hR1 hF hJ hidx hS1 hf1 hU1
  rw [← hr2] at hle2 hR2 hF hS2 hf2 hU2
  simp only at hU1 hU2
  rw [← hf1] at hU1
  rw [← hf2] at hU2
  have hsl1 : ∀ W, (Instr.slice 9 (.string s) (some (.int .i64 (r1 : Int))) none none).run Tryd.prog W = .ok (.string (s.extract r1 s.size)) W := fun W => by
    rw [run_slice_string_from_if W _ _ .i64 _ Tryd.underlying9, if_pos ⟨by omega, by omega⟩]
    rfl
  have hsl2 : ∀ W, (Instr.slice 9 (.string s) (some (.int .i64 (r2 : Int))) none none).run Tryd.prog W = .ok (.string (s.extract r2 s.size)) W := fun W => by
    rw [run_slice_string_from_if W _ _ .i64 _ Tryd.underlying9, if_pos ⟨by omega, by omega⟩]
    rfl
  obtain ⟨k, hk⟩ : ∃ k, k = Lib.indexByte (s.data.toList.drop r1) 96 := ⟨_, rfl⟩
  have hJ : ∀ W, Calls Tryd.prog 23 #[.string (s.extract r1 s.size), .int .u8 96] W fun e w' => e = .returned (.int .i64 k) ∧ w' = W := fun W => by rw [hk]; exact hJ W
  rw [← hk] at hidx
  generalize (⟨(Lib.trimS (s.data.toList.drop r1) blanks).toArray⟩ : ByteArray) = a1 at hS1 hU1
  generalize (⟨(Lib.trimS (s.data.toList.drop r2) blanks).toArray⟩ : ByteArray) = a2 at hS2 hU2
  obtain ⟨P, hP⟩ : ∃ P, P = fenceL s.data.toList := ⟨_, rfl⟩
  rw [← hP] at hF ⊢
  generalize fenceOf s.data.toList 96 = ya at hU1 hF
  generalize fenceOf s.data.toList 126 = yb at hU2 hF
  have HX := Lib.hid hidx
  clear hidx hk hf1 hf2 hr1 hr2 hP
  have hc0 : (w.alloc (.cells #[.int .u8 96, .int .u8 126] 5 (2, 3))).cell? ⟨w.heap.size, 0, none⟩ = some (.int .u8 96) := by rw [Lib.cell_of_heap (heap_alloc_new w _)]; rfl
  have hc1 : (w.alloc (.cells #[.int .u8 96, .int .u8 126] 5 (2, 3))).cell? ⟨w.heap.size, 1, none⟩ = some (.int .u8 126) := by rw [Lib.cell_of_heap (heap_alloc_new w _)]; rfl
  go_enter Tryd.func18, Tryd.ntmps18
  go_wp2_with fail
  go_loop [11] (fun v => (v = .int .i64 0) ∨ (v = .int .i64 1 ∧ Hid (P = if 3 ≤ r2 then (126, r2, yb) else (0, 0, []))) ∨ (v = .int .i64 2 ∧ Hid (P = (0, 0, [])))) (fun v => 2 - (intOf v).toNat)
  case atStart => exact .inl rfl
  case round =>
    have hbw : Below w.heap.size w (w.alloc (.cells #[.int .u8 96, .int .u8 126] 5 (2, 3))) := (Below.refl _ w).alloc (Nat.le_refl _) _
    rcases hrel with rfl | ⟨rfl, HP⟩ | ⟨rfl, HP⟩
    · by_cases h1 : 3 ≤ r1
      · have h1i : (3 : Int) ≤ r1 := by omega
        by_cases h2 : 0 ≤ k
        · have HP : Hid (P = if 3 ≤ r2 then (126, r2, yb) else (0, 0, [])) := Lib.hid (by
            rw [hF.out, if_neg (fun h => by have := HX.out.1.1 h2; rw [h.2] at this; cases this)])
          clear hF HX
          go_wp2_with (first | (go_at_call 37; refine (hR1 _).mono ?_; rintro e w1 ⟨rfl, rfl⟩) | (go_at_call 23; refine (hJ _).mono ?_; rintro e w2 ⟨rfl, rfl⟩))
          go_round
          case rel => exact .inr (.inl ⟨rfl, HP⟩)
          case measure => simp [intOf]
        · have h2i : k < 0 := by omega
          have HP : Hid (P = (96, r1, ya)) := Lib.hid (by
            rw [hF.out, if_pos ⟨h1, by
              cases hb : (s.data.toList.drop r1).contains 96
              · rfl
              · exact absurd (HX.out.1.2 hb) h2⟩])
          clear hF HX
          go_wp2_with (first | (go_at_call 37; refine (hR1 _).mono ?_; rintro e w1 ⟨rfl, rfl⟩) | (go_at_call 23; refine (hJ _).mono ?_; rintro e w2 ⟨rfl, rfl⟩) | (go_at_call 38; refine (hS1 _).mono ?_; rintro e w3 ⟨rfl, hb3⟩) | (go_at_call 12; refine (hU1 _ ((hT.below hbw).below hb3)).mono ?_; rintro e w4 ⟨rfl, hb4⟩))
          go_ret3
          exact ⟨by rw [HP.out]; rfl, hbw.trans ((hb3.trans (hb4.mono hb3.size)).mono hbw.size)⟩
      · have h1i : ¬ (3 : Int) ≤ r1 := by omega
        have HP : Hid (P = if 3 ≤ r2 then (126, r2, yb) else (0, 0, [])) := Lib.hid (by rw [hF.out, if_neg (fun h => h1 h.1)])
        clear hF HX
        go_wp2_with (go_at_call 37; refine (hR1 _).mono ?_; rintro e w1 ⟨rfl, rfl⟩)
        go_round
        case rel => exact .inr (.inl ⟨rfl, HP⟩)
        case measure => simp [intOf]
    · clear hF HX
      by_cases h1 : 3 ≤ r2
      · have h1i : (3 : Int) ≤ r2 := by omega
        have HP2 : Hid (P = (126, r2, yb)) := Lib.hid (by rw [HP.out, if_pos h1])
        clear HP
        go_wp2_with (first | (go_at_call 37; refine (hR2 _).mono ?_; rintro e w1 ⟨rfl, rfl⟩) | (go_at_call 38; refine (hS2 _).mono ?_; rintro e w3 ⟨rfl, hb3⟩) | (go_at_call 12; refine (hU2 _ ((hT.below hbw).below hb3)).mono ?_; rintro e w4 ⟨rfl, hb4⟩))
        go_ret3
        exact ⟨by rw [HP2.out]; rfl, hbw.trans ((hb3.trans (hb4.mono hb3.size)).mono hbw.size)⟩
      · have h1i : ¬ (3 : Int) ≤ r2 := by omega
        have HP2 : Hid (P = (0, 0, [])) := Lib.hid (by rw [HP.out, if_neg h1])
        clear HP
        go_wp2_with (go_at_call 37; refine (hR2 _).mono ?_; rintro e w1 ⟨rfl, rfl⟩)
        go_round
        case rel => exact .inr (.inr ⟨rfl, HP2⟩)
        case measure => simp [intOf]
    · clear hF HX
      go_wp2
      go_ret3
      exact ⟨by rw [HP.out]; rfl, hbw⟩
end Go.Proofs.YtipbmagondoooaaDoor
