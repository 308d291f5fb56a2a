/-
  A slice of ints that came in: as the walk reads it, and as it reads behind the call.
-/
import Derived.Test.YtmplfiflikhpjaaGreatDoorV19
import Derived.Test.YtmplfiflikhpjaaGreatDoorZLawBk
import Derived.ChangeSlices
namespace Go.Proofs.YtmplfiflikhpjaaGreatDoor
open Go.ChangeShapes Go.WideShapes Go.ChangeMaps Go.ChangeAt Go.RowKit Go.Shelf Go.Lib

theorem ints_arg {H : Type} {enc : TypeId × Value → H} {W : World} {a0 : Option Addr} {len cap : Nat} {d : DataW H} {p : List MemPlace} (h : DataW.Trod enc Tryz.prog W 0 (fun _ => true) true 22 (.slice a0 len cap) d p) :
    ∃ zs : List Int, IntsAt W (.slice a0 len cap) zs ∧ zs.length ≤ 9223372036854775807 ∧ ∀ W', Below W.heap.size W W' → DataW.Trod enc Tryz.prog W' 0 (fun b => decide (b < W.heap.size)) true 22 (.slice a0 len cap) d p := by
  obtain ⟨fuel, hf⟩ := h
  rcases open_ints Tryz.underlying22 Tryz.underlying3 (show Tryz.prog.cellsOf 3 = 1 by kernel_rfl) hf with ⟨hcs, hx⟩ | ⟨a, len', cap', zs, hcs, _, hl, hm, hz, hx, hcell, hwz⟩
  · simp [Value.cells] at hcs
    obtain ⟨rfl, rfl, rfl⟩ := hcs
    simp only [Prod.mk.injEq] at hx
    obtain ⟨rfl, rfl⟩ := hx
    exact ⟨[], ⟨none, 0, rfl, fun h => absurd h (by simp)⟩, Nat.zero_le _, fun W' _ => shut_slice_nil Tryz.underlying22⟩
  · simp [Value.cells] at hcs
    obtain ⟨rfl, rfl, rfl⟩ := hcs
    simp only [Prod.mk.injEq] at hx
    obtain ⟨rfl, rfl⟩ := hx
    simp only [if_true] at hz
    have hm' : cap ≤ 9223372036854775807 := by unfold maxLen at hm; omega
    have htl : (zs.take len).length = len := by rw [List.length_take]; omega
    refine ⟨zs.take len, ⟨some a, cap, by rw [htl], fun h => ?_⟩, by rw [htl]; omega, fun W' hb => ?_⟩
    · rw [htl] at h
      obtain ⟨b, off, spot⟩ := a
      have h0 := hcell 0 (by omega)
      have hspot : spot = none := by simpa [Addr.add] using World.cell?_spot h0
      subst hspot
      have hlt : b < W.heap.size := by
        have := World.block_lt_of_cell? _ _ h0
        rwa [block_add] at this
      refine ⟨b, off, rfl, hlt, fun i x hi => ?_⟩
      have hil : i < len := by
        have := (List.getElem?_eq_some_iff.1 hi).1
        omega
      rw [List.getElem?_take_of_lt hil] at hi
      have hc := hcell i (by omega)
      rw [add_plain] at hc
      rw [hc]
      simp [List.getD, hi]
    · have hc' : ∀ i, i < zs.length → W'.cell? (a.add i) = some (.int .i64 (zs.getD i 0)) := fun i hi => by
        have hc := hcell i hi
        exact (hb.cell (World.block_lt_of_cell? _ _ hc)).trans hc
      have hsp : zs.length = (if (fun b => decide (b < W.heap.size)) a.block = true then cap else len) := by
        by_cases h0 : zs.length = 0
        · have : cap = 0 := by omega
          subst this
          have : len = 0 := by omega
          subst this
          simp [h0]
        · have hlt : a.block < W.heap.size := by
            have := World.block_lt_of_cell? _ _ (hcell 0 (by omega))
            rwa [block_add] at this
          simp [hlt, hz]
      have t0 := shut_ints (enc := enc) (P := Tryz.prog) (w := W') (base := 0) (spare := fun b => decide (b < W.heap.size)) (held := true) (a := a) (len := len) (cap := cap) (zs := zs) 0 Tryz.underlying22 Tryz.underlying3 (show Tryz.prog.cellsOf 3 = 1 by kernel_rfl) (Nat.zero_le _) hl hm hsp hc' hwz
      exact ⟨2, by simpa [Value.cells] using t0⟩
end Go.Proofs.YtmplfiflikhpjaaGreatDoor
