/-
  Rows of bytes that a call owns: their text, and that they stand behind a call.
-/
import Derived.Test.YtipbmagondoooaaGreatDoorClass
import Derived.Test.YtipbmagondoooaaGreatDoorBuild
import Derived.Laws.BytesArg
namespace Go.Proofs.YtipbmagondoooaaGreatDoor
open Go.RowKit

/-- The bytes of a row that the call owns, as a text. -/
theorem row_str {w : World} {B : Nat} {v : Value} (acc : List UInt8) (h : w.ownsRowF B 5 1 v acc.length (Lib.byteCells acc)) :
    (convert 29 9 v).run Tryz.prog w = .ok (.string ⟨acc.toArray⟩) w := by
  rcases h.2 with ⟨rfl, h0⟩ | ⟨g, cap, cur, fz, rfl, _⟩
  · obtain rfl := List.length_eq_zero_iff.1 h0
    exact run_convert_bytes_nil (P := Tryz.prog) _ 29 5 Tryz.underlying29 Tryz.underlying5 0 0 9 Tryz.underlying9
  · have := run_convert_bytes_arg (P := Tryz.prog) w 29 5 Tryz.underlying29 Tryz.underlying5 g 0 acc.length cap (acc.map fun c => (c.toNat : Int)) (by simp) (fun i hi => by
      have hc := h.cells (g := g) rfl i (.int .u8 ((acc.map fun c => (c.toNat : Int)).getD i 0)) (by simp [Lib.byteCells, List.getD, List.getElem?_eq_getElem hi])
      have hadd : (⟨g, 0, none⟩ : Addr).add i = ⟨g, 0 + i, none⟩ := by unfold Addr.add; split <;> simp_all
      rw [hadd] at hc
      exact hc) 9 Tryz.underlying9
    rw [this]
    have he : strOfNums (acc.map fun c => (c.toNat : Int)) = ⟨acc.toArray⟩ := by
      have : (acc.map fun c => (c.toNat : Int)).map (fun n => UInt8.ofNat n.toNat) = acc := by
        rw [List.map_map]
        conv => rhs; rw [← List.map_id acc]
        apply List.map_congr_left
        intro c _
        simp
      unfold strOfNums
      rw [this]
    rw [he]
/-- A row of the call's own stands behind a call that lets all that was there be. -/
theorem row_below {B : Nat} {e : TypeId} {v : Value} {n : Nat} {xs : List Value} {w w' : World} (h : w.ownsRowF B e 1 v n xs) (hb : Below w.heap.size w w') : w'.ownsRowF B e 1 v n xs :=
  h.kept (row := none) ⟨hb.os, hb.tape, hb.output, hb.size, fun i hi _ => hb.block i hi⟩ (by cases v.ownBlock <;> simp)
theorem one_text (s : ByteArray) (i : Nat) (h : i < s.size) : (s.extract i (i + 1)).data.toList = [s[i]'h] := by
  have hb : s.data.toList.drop i = (s[i]'h) :: s.data.toList.drop (i + 1) := by
    rw [List.drop_eq_getElem_cons (by simpa using h)]; rfl
  have := congrArg (List.take 1) hb
  simp only [List.take_succ_cons, List.take_zero] at this
  rw [← this]
  simp [ByteArray.data_extract, Array.toList_extract, List.extract]

end Go.Proofs.YtipbmagondoooaaGreatDoor
