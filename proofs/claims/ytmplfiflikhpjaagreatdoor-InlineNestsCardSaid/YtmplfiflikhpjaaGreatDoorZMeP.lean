/-
  The law's kids and apart: a node between two texts.
-/
import Derived.Test.YtmplfiflikhpjaaGreatDoorZMeO
namespace Go.Proofs.YtmplfiflikhpjaaGreatDoor
open Go.RowKit

theorem row8 (i : Nat) (n : NV) (pre rest : List Value) (j : Nat) (u : Value) {row : Array Value} (hr : row.toList = pre ++ (n.cells ++ rest)) (hp : pre.length = i * 8) (hu : n.cells[j]? = some u) : row[i * 8 + j]? = some u := by
  rw [← Array.getElem?_toList, hr, List.getElem?_append_right (by omega), hp, Nat.add_sub_cancel_left, List.getElem?_append_left (List.getElem?_eq_some_iff.1 hu).1]
  exact hu

set_option maxHeartbeats 32000000 in
set_option maxRecDepth 100000 in
theorem kids_any (w wX : World) (BX : Nat) (n : NV) (nd : Spec.Node) (h : NRep wX BX n nd) (hw : txtW [nd] ≤ 1000) :
    Calls Tryz.prog 14 #[.agg n.cells.toArray] w (JoinRes w wX BX (Pl.joinN [120] nd [121])) := by
  obtain ⟨nk, nt, nu, nti, nkv⟩ := n
  obtain ⟨k2, d2, hkv⟩ := h.kids.len
  simp only at hkv
  subst hkv
  obtain ⟨n2, hn2⟩ : ∃ n2, n2 = nd.kids.length := ⟨_, rfl⟩
  rw [← hn2] at h ⊢
  have hT := two_blocks w #[.int .i64 (nk : Int), .int .i64 0, .bool false, .bool false, .string nt, .string nu, .string nti, .slice k2 n2 d2] #[.int .i64 10, .int .i64 0, .bool false, .bool false, .string ⟨#[120]⟩, .string ⟨#[]⟩, .string ⟨#[]⟩, .slice none 0 0, .int .i64 (nk : Int), .int .i64 0, .bool false, .bool false, .string nt, .string nu, .string nti, .slice k2 n2 d2, .int .i64 10, .int .i64 0, .bool false, .bool false, .string ⟨#[121]⟩, .string ⟨#[]⟩, .string ⟨#[]⟩, .slice none 0 0] 27 27
  obtain ⟨_, hX, hB, hS⟩ := hT
  have hrow : RowX ((w.alloc (.cells #[.int .i64 (nk : Int), .int .i64 0, .bool false, .bool false, .string nt, .string nu, .string nti, .slice k2 n2 d2] 27)).alloc (.cells #[.int .i64 10, .int .i64 0, .bool false, .bool false, .string ⟨#[120]⟩, .string ⟨#[]⟩, .string ⟨#[]⟩, .slice none 0 0, .int .i64 (nk : Int), .int .i64 0, .bool false, .bool false, .string nt, .string nu, .string nti, .slice k2 n2 d2, .int .i64 10, .int .i64 0, .bool false, .bool false, .string ⟨#[121]⟩, .string ⟨#[]⟩, .string ⟨#[]⟩, .slice none 0 0] 27)) wX BX (.slice (some ⟨w.heap.size + 1, 0, none⟩) 3 3) [Spec.txt [120], nd, Spec.txt [121]] := by
    refine ⟨_, _, rfl, fun i k hk => ?_⟩
    have hcell : ∀ (j : Nat) (u : Value), (#[.int .i64 10, .int .i64 0, .bool false, .bool false, .string ⟨#[120]⟩, .string ⟨#[]⟩, .string ⟨#[]⟩, .slice none 0 0, .int .i64 (nk : Int), .int .i64 0, .bool false, .bool false, .string nt, .string nu, .string nti, .slice k2 n2 d2, .int .i64 10, .int .i64 0, .bool false, .bool false, .string ⟨#[121]⟩, .string ⟨#[]⟩, .string ⟨#[]⟩, .slice none 0 0] : Array Value)[j]? = some u → ((w.alloc (.cells #[.int .i64 (nk : Int), .int .i64 0, .bool false, .bool false, .string nt, .string nu, .string nti, .slice k2 n2 d2] 27)).alloc (.cells #[.int .i64 10, .int .i64 0, .bool false, .bool false, .string ⟨#[120]⟩, .string ⟨#[]⟩, .string ⟨#[]⟩, .slice none 0 0, .int .i64 (nk : Int), .int .i64 0, .bool false, .bool false, .string nt, .string nu, .string nti, .slice k2 n2 d2, .int .i64 10, .int .i64 0, .bool false, .bool false, .string ⟨#[121]⟩, .string ⟨#[]⟩, .string ⟨#[]⟩, .slice none 0 0] 27)).cell? ⟨w.heap.size + 1, j, none⟩ = some u := fun j u hu => (cell_of_row _ _ _ _ _ _ hX).trans hu
    have hlt := blk_lt hX
    match i, hk with
    | 0, hk =>
      obtain rfl := Option.some.inj hk
      exact ⟨_, ⟨10, ⟨#[120]⟩, ⟨#[]⟩, ⟨#[]⟩, .slice none 0 0⟩, rfl, hlt, fun j u hu => hcell _ _ (row8 0 _ [] _ j u rfl rfl hu), rfl, rfl, rfl, rfl, .empty _ _⟩
    | 1, hk =>
      obtain rfl := Option.some.inj hk
      exact ⟨_, ⟨nk, nt, nu, nti, .slice k2 n2 d2⟩, rfl, hlt, fun j u hu => hcell _ _ (row8 1 _ (NV.cells ⟨10, ⟨#[120]⟩, ⟨#[]⟩, ⟨#[]⟩, .slice none 0 0⟩) _ j u rfl rfl hu), h⟩
    | 2, hk =>
      obtain rfl := Option.some.inj hk
      exact ⟨_, ⟨10, ⟨#[121]⟩, ⟨#[]⟩, ⟨#[]⟩, .slice none 0 0⟩, rfl, hlt, fun j u hu => hcell _ _ (row8 2 _ (NV.cells ⟨10, ⟨#[120]⟩, ⟨#[]⟩, ⟨#[]⟩, .slice none 0 0⟩ ++ NV.cells ⟨nk, nt, nu, nti, .slice k2 n2 d2⟩) _ j u rfl rfl hu), rfl, rfl, rfl, rfl, .empty _ _⟩
    | i + 3, hk => cases hk
  have hJ := joined_any _ wX BX _ [Spec.txt [120], nd, Spec.txt [121]] hrow (show 3 ≤ 100000 by omega) (by
    rw [← List.singleton_append, txtW_app, ← List.singleton_append (l := [Spec.txt [121]]), txtW_app]
    have h1 : txtW [Spec.txt [120]] = 1 := rfl
    have h2 : txtW [Spec.txt [121]] = 1 := rfl
    omega)
  rw [show [Spec.txt [120], nd, Spec.txt [121]].length = 3 from rfl, joined_three] at hJ
  have HB := Lib.hid (And.intro hB hS)
  clear hX hB hS hrow h hn2
  show Calls _ _ #[.agg #[.int .i64 (nk : Int), .int .i64 0, .bool false, .bool false, .string nt, .string nu, .string nti, .slice k2 n2 d2]] _ _
  go_enter Tryz.func14, Tryz.ntmps14
  go_wp2_with fail
  refine hJ.mono ?_
  rintro e w3 ⟨v, ns, rfl, ho, hf, hb⟩
  have HR := Lib.hid (And.intro ho (And.intro hf hb))
  obtain ⟨vA, vc, rfl⟩ := row_slice ho
  clear ho hf hb hJ
  go_wp2
  go_ret
  exact ⟨_, ns, rfl, own_base HR.out.1 (by rw [HB.out.2]; omega), HR.out.2.1, HB.out.1.trans (HR.out.2.2.mono (by rw [HB.out.2]; omega))⟩

set_option maxHeartbeats 32000000 in
set_option maxRecDepth 100000 in
theorem apart_any (w wX : World) (BX : Nat) (n : NV) (nd : Spec.Node) (h : NRep wX BX n nd) (hw : txtW [nd] ≤ 1000) :
    Calls Tryz.prog 15 #[.agg n.cells.toArray] w (JoinRes w wX BX (Pl.joinN [120, 32] nd [32, 121])) := by
  obtain ⟨nk, nt, nu, nti, nkv⟩ := n
  obtain ⟨k2, d2, hkv⟩ := h.kids.len
  simp only at hkv
  subst hkv
  obtain ⟨n2, hn2⟩ : ∃ n2, n2 = nd.kids.length := ⟨_, rfl⟩
  rw [← hn2] at h ⊢
  have hT := two_blocks w #[.int .i64 (nk : Int), .int .i64 0, .bool false, .bool false, .string nt, .string nu, .string nti, .slice k2 n2 d2] #[.int .i64 10, .int .i64 0, .bool false, .bool false, .string ⟨#[120, 32]⟩, .string ⟨#[]⟩, .string ⟨#[]⟩, .slice none 0 0, .int .i64 (nk : Int), .int .i64 0, .bool false, .bool false, .string nt, .string nu, .string nti, .slice k2 n2 d2, .int .i64 10, .int .i64 0, .bool false, .bool false, .string ⟨#[32, 121]⟩, .string ⟨#[]⟩, .string ⟨#[]⟩, .slice none 0 0] 27 27
  obtain ⟨_, hX, hB, hS⟩ := hT
  have hrow : RowX ((w.alloc (.cells #[.int .i64 (nk : Int), .int .i64 0, .bool false, .bool false, .string nt, .string nu, .string nti, .slice k2 n2 d2] 27)).alloc (.cells #[.int .i64 10, .int .i64 0, .bool false, .bool false, .string ⟨#[120, 32]⟩, .string ⟨#[]⟩, .string ⟨#[]⟩, .slice none 0 0, .int .i64 (nk : Int), .int .i64 0, .bool false, .bool false, .string nt, .string nu, .string nti, .slice k2 n2 d2, .int .i64 10, .int .i64 0, .bool false, .bool false, .string ⟨#[32, 121]⟩, .string ⟨#[]⟩, .string ⟨#[]⟩, .slice none 0 0] 27)) wX BX (.slice (some ⟨w.heap.size + 1, 0, none⟩) 3 3) [Spec.txt [120, 32], nd, Spec.txt [32, 121]] := by
    refine ⟨_, _, rfl, fun i k hk => ?_⟩
    have hcell : ∀ (j : Nat) (u : Value), (#[.int .i64 10, .int .i64 0, .bool false, .bool false, .string ⟨#[120, 32]⟩, .string ⟨#[]⟩, .string ⟨#[]⟩, .slice none 0 0, .int .i64 (nk : Int), .int .i64 0, .bool false, .bool false, .string nt, .string nu, .string nti, .slice k2 n2 d2, .int .i64 10, .int .i64 0, .bool false, .bool false, .string ⟨#[32, 121]⟩, .string ⟨#[]⟩, .string ⟨#[]⟩, .slice none 0 0] : Array Value)[j]? = some u → ((w.alloc (.cells #[.int .i64 (nk : Int), .int .i64 0, .bool false, .bool false, .string nt, .string nu, .string nti, .slice k2 n2 d2] 27)).alloc (.cells #[.int .i64 10, .int .i64 0, .bool false, .bool false, .string ⟨#[120, 32]⟩, .string ⟨#[]⟩, .string ⟨#[]⟩, .slice none 0 0, .int .i64 (nk : Int), .int .i64 0, .bool false, .bool false, .string nt, .string nu, .string nti, .slice k2 n2 d2, .int .i64 10, .int .i64 0, .bool false, .bool false, .string ⟨#[32, 121]⟩, .string ⟨#[]⟩, .string ⟨#[]⟩, .slice none 0 0] 27)).cell? ⟨w.heap.size + 1, j, none⟩ = some u := fun j u hu => (cell_of_row _ _ _ _ _ _ hX).trans hu
    have hlt := blk_lt hX
    match i, hk with
    | 0, hk =>
      obtain rfl := Option.some.inj hk
      exact ⟨_, ⟨10, ⟨#[120, 32]⟩, ⟨#[]⟩, ⟨#[]⟩, .slice none 0 0⟩, rfl, hlt, fun j u hu => hcell _ _ (row8 0 _ [] _ j u rfl rfl hu), rfl, rfl, rfl, rfl, .empty _ _⟩
    | 1, hk =>
      obtain rfl := Option.some.inj hk
      exact ⟨_, ⟨nk, nt, nu, nti, .slice k2 n2 d2⟩, rfl, hlt, fun j u hu => hcell _ _ (row8 1 _ (NV.cells ⟨10, ⟨#[120, 32]⟩, ⟨#[]⟩, ⟨#[]⟩, .slice none 0 0⟩) _ j u rfl rfl hu), h⟩
    | 2, hk =>
      obtain rfl := Option.some.inj hk
      exact ⟨_, ⟨10, ⟨#[32, 121]⟩, ⟨#[]⟩, ⟨#[]⟩, .slice none 0 0⟩, rfl, hlt, fun j u hu => hcell _ _ (row8 2 _ (NV.cells ⟨10, ⟨#[120, 32]⟩, ⟨#[]⟩, ⟨#[]⟩, .slice none 0 0⟩ ++ NV.cells ⟨nk, nt, nu, nti, .slice k2 n2 d2⟩) _ j u rfl rfl hu), rfl, rfl, rfl, rfl, .empty _ _⟩
    | i + 3, hk => cases hk
  have hJ := joined_any _ wX BX _ [Spec.txt [120, 32], nd, Spec.txt [32, 121]] hrow (show 3 ≤ 100000 by omega) (by
    rw [← List.singleton_append, txtW_app, ← List.singleton_append (l := [Spec.txt [32, 121]]), txtW_app]
    have h1 : txtW [Spec.txt [120, 32]] = 2 := rfl
    have h2 : txtW [Spec.txt [32, 121]] = 2 := rfl
    omega)
  rw [show [Spec.txt [120, 32], nd, Spec.txt [32, 121]].length = 3 from rfl, joined_three] at hJ
  have HB := Lib.hid (And.intro hB hS)
  clear hX hB hS hrow h hn2
  show Calls _ _ #[.agg #[.int .i64 (nk : Int), .int .i64 0, .bool false, .bool false, .string nt, .string nu, .string nti, .slice k2 n2 d2]] _ _
  go_enter Tryz.func15, Tryz.ntmps15
  go_wp2_with fail
  refine hJ.mono ?_
  rintro e w3 ⟨v, ns, rfl, ho, hf, hb⟩
  have HR := Lib.hid (And.intro ho (And.intro hf hb))
  obtain ⟨vA, vc, rfl⟩ := row_slice ho
  clear ho hf hb hJ
  go_wp2
  go_ret
  exact ⟨_, ns, rfl, own_base HR.out.1 (by rw [HB.out.2]; omega), HR.out.2.1, HB.out.1.trans (HR.out.2.2.mono (by rw [HB.out.2]; omega))⟩

end Go.Proofs.YtmplfiflikhpjaaGreatDoor
