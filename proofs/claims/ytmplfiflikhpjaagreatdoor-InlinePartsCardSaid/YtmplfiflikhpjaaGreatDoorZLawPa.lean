/-
  The law InlineParts: it returns true, whatever the text.
-/
import Derived.Test.YtmplfiflikhpjaaGreatDoorV19
import Derived.Test.YtmplfiflikhpjaaGreatDoorV20
import Derived.Test.YtmplfiflikhpjaaGreatDoorV21
namespace Go.Proofs.YtmplfiflikhpjaaGreatDoor
open Go.RowKit

set_option maxHeartbeats 32000000 in
set_option maxRecDepth 100000 in
theorem inlineParts_law (s : ByteArray) (w : World) (hT : TabsM w) :
    Calls Tryz.prog 6 #[.string s] w fun e w' => e = .returned (.bool true) ∧ Below w.heap.size w w' := by
  by_cases h1 : 400 < s.size
  · have h1i : (400 : Int) < s.size := by omega
    go_enter Tryz.func6, Tryz.ntmps6
    go_wp2
    go_ret
    exact ⟨rfl, Below.refl _ _⟩
  · have h1i : ¬ (400 : Int) < s.size := by omega
    have HK := Lib.hid (fun W (hb : Below w.heap.size w W) => known_any W (hT.below hb))
    obtain ⟨a, b, n, hd⟩ : ∃ (a b : ByteArray) (n : Int), destRes (Spec.dest s.data.toList) = .tuple #[.string a, .string b, .int .i64 n] := ⟨_, _, _, rfl⟩
    obtain ⟨c, k, hc⟩ : ∃ (c : ByteArray) (k : Int), codeRes (Spec.code s.data.toList) = .tuple #[.string c, .int .i64 k] := ⟨_, _, rfl⟩
    obtain ⟨g, h, p, ha⟩ : ∃ (g h : ByteArray) (p : Int), autoRes (Spec.auto s.data.toList) = .tuple #[.string g, .string h, .int .i64 p] := ⟨_, _, _, rfl⟩
    have hD1 : ∀ W, Below w.heap.size w W → Calls Tryz.prog 19 #[.string s] W fun r w' => r = .returned (.tuple #[.string a, .string b, .int .i64 n]) ∧ Below W.heap.size W w' := fun W hb => by
      have := dest_any s W (by omega) (hT.below hb).tabs
      rw [hd] at this
      exact this
    have hD2 : ∀ W, Calls Tryz.prog 20 #[.string s] W fun r w' => r = .returned (.tuple #[.string a, .string b, .int .i64 n]) ∧ Below W.heap.size W w' := fun W => by
      have := dest21_any s W (by omega)
      rw [hd] at this
      exact this
    have hC1 : ∀ W, Below w.heap.size w W → Calls Tryz.prog 21 #[.string s] W fun r w' => r = .returned (.tuple #[.string c, .int .i64 k]) ∧ Below W.heap.size W w' := fun W hb => by
      have := code_any s W (by omega) (hT.below hb)
      rw [hc] at this
      exact this
    have hC2 : ∀ W, Calls Tryz.prog 22 #[.string s] W fun r w' => r = .returned (.tuple #[.string c, .int .i64 k]) ∧ Below W.heap.size W w' := fun W => by
      have := code21_any s W (by omega)
      rw [hc] at this
      exact this
    have hA1 : ∀ W, Below w.heap.size w W → Calls Tryz.prog 23 #[.string s] W fun r w' => r = .returned (.tuple #[.string g, .string h, .int .i64 p]) ∧ Below W.heap.size W w' := fun W hb => by
      have := auto_any s W (by omega) (hT.below hb)
      rw [ha] at this
      exact this
    have hA2 : ∀ W, Calls Tryz.prog 24 #[.string s] W fun r w' => r = .returned (.tuple #[.string g, .string h, .int .i64 p]) ∧ Below W.heap.size W w' := fun W => by
      have := auto21_any s W (by omega)
      rw [ha] at this
      exact this
    have H1 := Lib.hid hD1
    have H2 := Lib.hid hC1
    have H3 := Lib.hid hA1
    clear hd hc ha hT hD1 hC1 hA1
    go_enter Tryz.func6, Tryz.ntmps6
    go_wp2_with fail
    refine (H1.out _ (Below.refl _ _)).mono ?_
    rintro e w1 ⟨rfl, hb1⟩
    go_wp2_with fail
    refine (hD2 _).mono ?_
    rintro e w2 ⟨rfl, hb⟩
    have hb2 := hb1.trans (hb.mono hb1.size)
    clear hb hb1
    go_wp2_with fail
    refine (H2.out _ hb2).mono ?_
    rintro e w3 ⟨rfl, hb⟩
    have hb3 := hb2.trans (hb.mono hb2.size)
    clear hb hb2
    go_wp2_with fail
    refine (hC2 _).mono ?_
    rintro e w4 ⟨rfl, hb⟩
    have hb4 := hb3.trans (hb.mono hb3.size)
    clear hb hb3
    go_wp2_with fail
    refine (H3.out _ hb4).mono ?_
    rintro e w5 ⟨rfl, hb⟩
    have hb5 := hb4.trans (hb.mono hb4.size)
    clear hb hb4
    go_wp2_with fail
    refine (hA2 _).mono ?_
    rintro e w6 ⟨rfl, hb⟩
    have hb6 := hb5.trans (hb.mono hb5.size)
    clear hb hb5
    have hK := HK.out _ hb6
    go_wp2_with fail
    refine hK.mono ?_
    rintro e w7 ⟨rfl, hb⟩
    have hb7 := hb6.trans (hb.mono hb6.size)
    clear hb hb6
    go_wp2
    go_ret
    exact ⟨rfl, hb7⟩
end Go.Proofs.YtmplfiflikhpjaaGreatDoor
