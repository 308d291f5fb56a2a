/-
  Texts of one proof, joined: MeK, MeL, MeM, CBase, MeN.
-/
import Derived.Test.YtmplfiflikhpjaaGreatDoorCards
import Derived.Test.YtmplfiflikhpjaaGreatDoorTie
import Derived.Test.YtmplfiflikhpjaaGreatDoorV01
import Derived.Test.YtmplfiflikhpjaaGreatDoorV17
import Derived.Test.YtmplfiflikhpjaaGreatDoorV18
import Derived.LaidOnce
import Derived.Lay
import Derived.Lib.LaidU8
import Derived.PinnedBridge
import Derived.ProofKit
import Derived.SevenTiedAt
import Derived.Shelf.Vars
/-
  inline.Parse.
-/
namespace Go.Proofs.YtmplfiflikhpjaaGreatDoor
open Go.RowKit

theorem stepM_any (w0 w : World) (pb : Nat) (s : ByteArray) (k : Nat) (v : Value) (ps : List PV) (ss : List Spec.Piece) (h : PSt w0 w pb s k v ps ss) (hk : k < s.size) (hs : s.size ≤ 20000) (hT : TabsM w0) (hG : Pl.PG s.data.toList k ss) (hR : Pl.RawK ss) (r : Nat × List Spec.Piece) (hr : r = Pl.stepAt s.data.toList k ss) :
    Calls Tryz.prog 26 #[.pointer (some ⟨pb, 0, none⟩)] w (fun e w' => e = .returned (.tuple #[]) ∧ ∃ v' ps', PSt w0 w' pb s (k + r.1) v' ps' r.2) := by
  by_cases h42 : s.data.toList[k]? = some 42
  · exact step42_any w0 w pb s k v ps ss h hk hs hT hG hR r hr h42
  · by_cases h95 : s.data.toList[k]? = some 95
    · exact step95_any w0 w pb s k v ps ss h hk hs hT hG hR r hr h95
    · exact stepN_any w0 w pb s k v ps ss h hk hs hT hG hR r hr h42 h95

/-- The parser's state at a round's head. -/
structure ParR (w wr : World) (pb : Nat) (s : ByteArray) (k : Nat) (v : Value) (ps : List PV) (ss : List Spec.Piece) : Prop where
  st : PSt w wr pb s k v ps ss
  pg : Pl.PG s.data.toList k ss
  rk : Pl.RawK ss
  eq : Pl.parseC s.data.toList 0 [] = Pl.parseC s.data.toList k ss

set_option maxHeartbeats 32000000 in
set_option maxRecDepth 100000 in
theorem parse_any (w : World) (s : ByteArray) (hs : s.size ≤ 20000) (hT : TabsM w) :
    Calls Tryz.prog 17 #[.string s] w (NodesRes (Pl.parse s.data.toList) w) := by
  have hpe := Pl.parse_eq s.data.toList
  obtain ⟨pn, hpn⟩ : ∃ pn, pn = Pl.parse s.data.toList := ⟨_, rfl⟩
  rw [← hpn] at hpe ⊢
  have HE := Lib.hid hpe
  have HTT := Lib.hid hT
  clear hpe hpn hT
  go_enter Tryz.func17, Tryz.ntmps17
  go_wp2_with fail
  have hP0 : Hid (ParR w (w.alloc (.cells #[.string s, .int .i64 0, .slice none 0 0] 46)) w.heap.size s 0 (.slice none 0 0) [] []) := Lib.hid
    ⟨⟨heap_alloc_new w _, Nat.le_refl _, World.ownsRow_nil _ _ _ 14, fit_nil _, List.nodup_nil, (Below.refl _ _).alloc (Nat.le_refl _) _⟩, Pl.pg_nil _, Pl.rawK_nil, rfl⟩
  obtain ⟨pb, hpb⟩ : ∃ pb, pb = w.heap.size := ⟨_, rfl⟩
  simp only [← hpb] at hP0 ⊢
  generalize w.alloc (.cells #[.string s, .int .i64 0, .slice none 0 0] 46) = w1 at hP0 ⊢
  have HPB := Lib.hid hpb
  clear hpb
  go_loopg [] s.size (fun gg wr => ∃ (k : Nat) (v : Value) (ps : List PV) (ss : List Spec.Piece), k ≤ s.size ∧ s.size - k ≤ gg ∧ Hid (ParR w wr pb s k v ps ss))
  case atStart => exact ⟨0, _, _, _, Nat.zero_le _, by omega, hP0⟩
  case round =>
    obtain ⟨k, v, ps, ss, hk, hg, HR⟩ := hrel
    have p1 := HR.out.st.p1
    have zpb := HR.out.st.lt
    by_cases hks : k < s.size
    · have hki : (k : Int) < s.size := by omega
      obtain ⟨r, hr⟩ : ∃ r, r = Pl.stepAt s.data.toList k ss := ⟨_, rfl⟩
      have hS := stepM_any w wr pb s k v ps ss HR.out.st hks hs HTT.out HR.out.pg HR.out.rk r hr
      have hkl : k < s.data.toList.length := by rw [← Lib.size_eq]; exact hks
      have hpos := Pl.stepAt_pos s.data.toList k ss hkl
      rw [← hr, ← Lib.size_eq] at hpos
      have hpg := HR.out.pg.step hkl
      have hrk := HR.out.rk.step (lastR (last16 ⟨(s.data.toList.take k).toArray⟩)) (fun l => firstR ⟨l.toArray⟩) (s.data.toList.drop k)
      have hec := HR.out.eq.trans (Pl.parseC_step s.data.toList k ss hkl)
      have hrk : Pl.RawK r.2 := by rw [hr]; exact hrk
      rw [← hr] at hpg hec
      have HN := Lib.hid (And.intro hpg (And.intro hrk hec))
      clear hpg hrk hec hr
      go_wp2_with fail
      refine hS.mono ?_
      rintro e w2 ⟨rfl, hp⟩
      have HQ := Lib.hid hp
      clear hp hS
      go_wp2_with fail
      go_roundg (s.size - (k + r.1))
      case measure => omega
      case rel =>
        obtain ⟨v', ps', hq⟩ := HQ.out
        exact ⟨k + r.1, v', ps', r.2, by omega, Nat.le_refl _, Lib.hid ⟨hq, HN.out.1, HN.out.2.1, HN.out.2.2⟩⟩
    · have hki : ¬ (k : Int) < s.size := by omega
      obtain rfl : k = s.size := by omega
      have hen := HR.out.eq
      rw [Lib.size_eq, Pl.parseC_end] at hen
      have hst := HR.out.st
      have p2 := hst.p2
      obtain ⟨vA, vc, rfl⟩ := row_slice hst.own
      have hN := nodes_any wr _ ps ss (pread_own hst.own) hst.fit HR.out.pg.apt HR.out.pg.fresh hst.nd (by rw [hst.fit.1]; have := HR.out.pg.lenk; omega) (by have := HR.out.pg.wtk; omega)
      rw [← hen, ← HE.out] at hN
      have HB := Lib.hid hst.bel
      clear hen hst
      go_wp2_with fail
      refine hN.mono ?_
      rintro e w2 ⟨kv, rfl, hk2, hb2⟩
      have HK := Lib.hid (And.intro hk2 (HB.out.trans (hb2.mono HB.out.size)))
      clear hk2 hb2 hN
      go_wp2
      go_ret
      exact ⟨_, rfl, HK.out.1, HK.out.2⟩
end Go.Proofs.YtmplfiflikhpjaaGreatDoor
/-
  The law's same: rows of nodes that stand for the same nodes.
-/
namespace Go.Proofs.YtmplfiflikhpjaaGreatDoor
open Go.RowKit

/-- Rows of nodes that are not long, all the way down. -/
inductive Sm : List Spec.Node → Prop
  | mk (ks : List Spec.Node) (h : ks.length ≤ 1000000) (hk : ∀ k ∈ ks, Sm k.kids) : Sm ks
theorem KRep.cells {w : World} {B : Nat} {v : Value} {ks : List Spec.Node} (h : KRep w B v ks) {i : Nat} {k : Spec.Node} (hi : ks[i]? = some k) :
    ∃ b cap kv, v = .slice (some ⟨b, 0, none⟩) ks.length cap ∧ b < B ∧ (∀ (j : Nat) (u : Value), (nodeCells k kv)[j]? = some u → w.cell? ⟨b, i * 8 + j, none⟩ = some u) ∧ KRep w B kv k.kids := by
  cases h with
  | empty A cap => cases hi
  | row b cap ks kv cur hb hrow hc hk => exact ⟨b, cap, kv i, rfl, hb, fun j u hu => by rw [cell_of_row w b (i * 8 + j) _ _ _ hrow]; exact hc i k hi j u hu, hk i k hi⟩
theorem KRep.on {w w' : World} {v : Value} {ks : List Spec.Node} (h : KRep w w.heap.size v ks) (hb : Below w.heap.size w w') : KRep w' w'.heap.size v ks := h.keep (keepT_below hb) hb.size

set_option maxHeartbeats 32000000 in
set_option maxRecDepth 100000 in
theorem same_any {ks : List Spec.Node} (hs : Sm ks) : ∀ (w : World) (v1 v2 : Value), KRep w w.heap.size v1 ks → KRep w w.heap.size v2 ks →
    Calls Tryz.prog 16 #[v1, v2] w fun e w' => e = .returned (.bool true) ∧ Below w.heap.size w w' := by
  induction hs with
  | mk ks hl _ ih =>
    intro w v1 v2 h1 h2
    obtain ⟨A1, c1, rfl⟩ := h1.len
    obtain ⟨A2, c2, rfl⟩ := h2.len
    obtain ⟨n, hn⟩ : ∃ n, n = ks.length := ⟨_, rfl⟩
    rw [← hn] at h1 h2 hl ⊢
    have HK := Lib.hid (And.intro h1 (And.intro h2 hn))
    clear h1 h2 hn
    go_enter Tryz.func16, Tryz.ntmps16
    go_wp2
    go_loopw [5, 6, 7] (fun v5 v6 v7 wr => ∃ i : Nat, i ≤ n ∧ v5 = .int .i64 (i : Int) ∧ Hid (Below w.heap.size w wr)) (fun v5 _ _ _ => n - (intOf v5).toNat)
    case atStart => exact ⟨0, Nat.zero_le _, rfl, Lib.hid (Below.refl _ _)⟩
    case round =>
      obtain ⟨i, hi, rfl, HB⟩ := hrel
      by_cases hin : i < n
      · have hini : (i : Int) < n := by omega
        obtain ⟨k, hk⟩ : ∃ k, ks[i]? = some k := ⟨_, List.getElem?_eq_getElem (by have := HK.out.2.2; omega)⟩
        obtain ⟨b1, cp1, kv1, e1, hb1, hc1, hr1⟩ := (HK.out.1.on HB.out).cells hk
        obtain ⟨b2, cp2, kv2, e2, hb2, hc2, hr2⟩ := (HK.out.2.1.on HB.out).cells hk
        injection e1 with e11 e12 e13
        injection e2 with e21 e22 e23
        subst e11 e21
        obtain ⟨kA1, kc1, rfl⟩ := hr1.len
        obtain ⟨kA2, kc2, rfl⟩ := hr2.len
        obtain ⟨kn, hkn⟩ : ∃ kn, kn = k.kids.length := ⟨_, rfl⟩
        rw [← hkn] at hc1 hc2 hr1 hr2
        have hih := ih k (List.mem_of_getElem? hk)
        obtain ⟨kd, tx, ur, ti, kk⟩ := k
        have a0 : wr.cell? ⟨b1, i * 8, none⟩ = some (.int .i64 (kd : Int)) := hc1 0 _ rfl
        have a1 : wr.cell? ⟨b1, i * 8 + 1, none⟩ = some (.int .i64 0) := hc1 1 _ rfl
        have a2 : wr.cell? ⟨b1, i * 8 + 2, none⟩ = some (.bool false) := hc1 2 _ rfl
        have a3 : wr.cell? ⟨b1, i * 8 + 3, none⟩ = some (.bool false) := hc1 3 _ rfl
        have a4 : wr.cell? ⟨b1, i * 8 + 4, none⟩ = some (.string ⟨tx.toArray⟩) := hc1 4 _ rfl
        have a5 : wr.cell? ⟨b1, i * 8 + 5, none⟩ = some (.string ⟨ur.toArray⟩) := hc1 5 _ rfl
        have a6 : wr.cell? ⟨b1, i * 8 + 6, none⟩ = some (.string ⟨ti.toArray⟩) := hc1 6 _ rfl
        have a7 : wr.cell? ⟨b1, i * 8 + 7, none⟩ = some (.slice kA1 kn kc1) := hc1 7 _ rfl
        have d0 : wr.cell? ⟨b2, i * 8, none⟩ = some (.int .i64 (kd : Int)) := hc2 0 _ rfl
        have d1 : wr.cell? ⟨b2, i * 8 + 1, none⟩ = some (.int .i64 0) := hc2 1 _ rfl
        have d2 : wr.cell? ⟨b2, i * 8 + 2, none⟩ = some (.bool false) := hc2 2 _ rfl
        have d3 : wr.cell? ⟨b2, i * 8 + 3, none⟩ = some (.bool false) := hc2 3 _ rfl
        have d4 : wr.cell? ⟨b2, i * 8 + 4, none⟩ = some (.string ⟨tx.toArray⟩) := hc2 4 _ rfl
        have d5 : wr.cell? ⟨b2, i * 8 + 5, none⟩ = some (.string ⟨ur.toArray⟩) := hc2 5 _ rfl
        have d6 : wr.cell? ⟨b2, i * 8 + 6, none⟩ = some (.string ⟨ti.toArray⟩) := hc2 6 _ rfl
        have d7 : wr.cell? ⟨b2, i * 8 + 7, none⟩ = some (.slice kA2 kn kc2) := hc2 7 _ rfl
        have HR := Lib.hid (And.intro hr1 (And.intro hr2 hih))
        clear hr1 hr2 hih hc1 hc2 hk hkn ih e12 e13 e22 e23
        go_upto_region 6 with fail
        go_cut [6, 7] (fun v6 v7 wc => ∃ xb yb, v6 = .pointer (some ⟨xb, 0, none⟩) ∧ v7 = .pointer (some ⟨yb, 0, none⟩) ∧ wc.heap[xb]? = some (.cells #[.int .i64 (kd : Int), .int .i64 0, .bool false, .bool false, .string ⟨tx.toArray⟩, .string ⟨ur.toArray⟩, .string ⟨ti.toArray⟩, .slice kA1 kn kc1] 27 (0, 0)) ∧ wc.heap[yb]? = some (.cells #[.int .i64 (kd : Int), .int .i64 0, .bool false, .bool false, .string ⟨tx.toArray⟩, .string ⟨ur.toArray⟩, .string ⟨ti.toArray⟩, .slice kA2 kn kc2] 27 (0, 0)) ∧ Below wr.heap.size wr wc)
        case first =>
          go_region
          all_goals
            go_wp2_with fail
            go_meet
            first
              | exact ⟨_, _, rfl, rfl, (Below.heap_alloc _ _ _ (by simp)).trans (heap_alloc_new _ _), heap_alloc2_new _ _ _, Below.drew (((Below.refl _ _).alloc (Nat.le_refl _) _).alloc (by simp) _)⟩
              | exact ⟨_, _, rfl, rfl, heap_alloc2_new _ _ _, (Below.heap_alloc _ _ _ (by simp)).trans (heap_alloc_new _ _), Below.drew (((Below.refl _ _).alloc (Nat.le_refl _) _).alloc (by simp) _)⟩
        obtain ⟨xb, yb, rfl, rfl, hx, hy, hb⟩ := hcut
        have x0 : wc.cell? ⟨xb, 0, none⟩ = some (.int .i64 (kd : Int)) := cell_of_row _ _ _ _ _ _ hx
        have x1 : wc.cell? ⟨xb, 1, none⟩ = some (.int .i64 0) := cell_of_row _ _ _ _ _ _ hx
        have x2 : wc.cell? ⟨xb, 2, none⟩ = some (.bool false) := cell_of_row _ _ _ _ _ _ hx
        have x3 : wc.cell? ⟨xb, 3, none⟩ = some (.bool false) := cell_of_row _ _ _ _ _ _ hx
        have x4 : wc.cell? ⟨xb, 4, none⟩ = some (.string ⟨tx.toArray⟩) := cell_of_row _ _ _ _ _ _ hx
        have x5 : wc.cell? ⟨xb, 5, none⟩ = some (.string ⟨ur.toArray⟩) := cell_of_row _ _ _ _ _ _ hx
        have x6 : wc.cell? ⟨xb, 6, none⟩ = some (.string ⟨ti.toArray⟩) := cell_of_row _ _ _ _ _ _ hx
        have x7 : wc.cell? ⟨xb, 7, none⟩ = some (.slice kA1 kn kc1) := cell_of_row _ _ _ _ _ _ hx
        have y0 : wc.cell? ⟨yb, 0, none⟩ = some (.int .i64 (kd : Int)) := cell_of_row _ _ _ _ _ _ hy
        have y1 : wc.cell? ⟨yb, 1, none⟩ = some (.int .i64 0) := cell_of_row _ _ _ _ _ _ hy
        have y2 : wc.cell? ⟨yb, 2, none⟩ = some (.bool false) := cell_of_row _ _ _ _ _ _ hy
        have y3 : wc.cell? ⟨yb, 3, none⟩ = some (.bool false) := cell_of_row _ _ _ _ _ _ hy
        have y4 : wc.cell? ⟨yb, 4, none⟩ = some (.string ⟨tx.toArray⟩) := cell_of_row _ _ _ _ _ _ hy
        have y5 : wc.cell? ⟨yb, 5, none⟩ = some (.string ⟨ur.toArray⟩) := cell_of_row _ _ _ _ _ _ hy
        have y6 : wc.cell? ⟨yb, 6, none⟩ = some (.string ⟨ti.toArray⟩) := cell_of_row _ _ _ _ _ _ hy
        have y7 : wc.cell? ⟨yb, 7, none⟩ = some (.slice kA2 kn kc2) := cell_of_row _ _ _ _ _ _ hy
        have hS := HR.out.2.2 wc _ _ (HR.out.1.on hb) (HR.out.2.1.on hb)
        have HBB := Lib.hid (HB.out.trans (hb.mono HB.out.size))
        clear hx hy hb a0 a1 a2 a3 a4 a5 a6 a7 d0 d1 d2 d3 d4 d5 d6 d7
        go_wp2_with fail
        refine hS.mono ?_
        rintro e w3 ⟨rfl, hb3⟩
        have HB3 := Lib.hid (HBB.out.trans (hb3.mono HBB.out.size))
        clear hb3 hS
        go_wp2
        go_roundw
        case rel => exact ⟨i + 1, by omega, by go_num, HB3⟩
        case measure => simp [intOf]; omega
      · have hini : ¬ (i : Int) < n := by omega
        go_wp2
        go_ret
        exact ⟨rfl, HB.out⟩
end Go.Proofs.YtmplfiflikhpjaaGreatDoor
/-
  The law's known: two stresses.
-/
namespace Go.Proofs.YtmplfiflikhpjaaGreatDoor
open Go.RowKit

theorem known_parse : Pl.parse [42, 97, 32, 42, 42, 98, 42, 42, 32, 99, 42] = [.mk 13 [] [] [] [Spec.txt [97, 32], .mk 14 [] [] [] [Spec.txt [98]], Spec.txt [32, 99]]] := by kernel_rfl
set_option maxHeartbeats 32000000 in
set_option maxRecDepth 100000 in
theorem known_any (w : World) (hT : TabsM w) :
    Calls Tryz.prog 13 #[] w fun e w' => e = .returned (.bool true) ∧ Below w.heap.size w w' := by
  have hP := parse_any w ⟨#[42, 97, 32, 42, 42, 98, 42, 42, 32, 99, 42]⟩ (by decide) hT
  rw [known_parse] at hP
  clear hT
  go_enter Tryz.func13, Tryz.ntmps13
  go_wp2_with fail
  refine hP.mono ?_
  rintro e w1 ⟨kv, rfl, hk, hb⟩
  obtain ⟨b1, cp1, kv1, rfl, hb1, hc1, hr1⟩ := hk.cells (i := 0) rfl
  obtain ⟨b2, cp2, kv2, e2, hb2, hc2, hr2⟩ := hr1.cells (i := 1) rfl
  have e2 : kv1 = .slice (some ⟨b2, 0, none⟩) 3 cp2 := e2
  subst e2
  have a0 : w1.cell? ⟨b1, 0, none⟩ = some (.int .i64 13) := hc1 0 _ rfl
  have a7 : w1.cell? ⟨b1, 7, none⟩ = some (.slice (some ⟨b2, 0, none⟩) 3 cp2) := hc1 7 _ rfl
  have d0 : w1.cell? ⟨b2, 8, none⟩ = some (.int .i64 14) := hc2 0 _ rfl
  have HB := Lib.hid hb
  clear hk hr1 hr2 hc1 hc2 hP hb
  show match Ending.returned (.slice (some ⟨b1, 0, none⟩) 1 cp1), w1 with | _, _ => _
  go_wp2
  go_ret
  exact ⟨rfl, HB.out⟩
/-- A row of one text, as it is laid. -/
theorem krep_txt (w : World) (t : ByteArray) : KRep (w.alloc (.cells #[.int .i64 10, .int .i64 0, .bool false, .bool false, .string t, .string ⟨#[]⟩, .string ⟨#[]⟩, .slice none 0 0] 27)) (w.alloc (.cells #[.int .i64 10, .int .i64 0, .bool false, .bool false, .string t, .string ⟨#[]⟩, .string ⟨#[]⟩, .slice none 0 0] 27)).heap.size (.slice (some ⟨w.heap.size, 0, none⟩) 1 1) [Spec.txt t.data.toList] := by
  have hX := heap_alloc_new w (.cells #[.int .i64 10, .int .i64 0, .bool false, .bool false, .string t, .string ⟨#[]⟩, .string ⟨#[]⟩, .slice none 0 0] 27)
  refine .row w.heap.size 1 [Spec.txt t.data.toList] (fun _ => .slice none 0 0) _ (blk_lt hX) hX (fun i k hk j u hu => ?_) (fun i k hk => ?_)
  · cases i with
    | zero =>
      obtain rfl := Option.some.inj hk
      rw [Nat.zero_mul, Nat.zero_add]
      have e : nodeCells (Spec.txt t.data.toList) (.slice none 0 0) = [.int .i64 10, .int .i64 0, .bool false, .bool false, .string t, .string ⟨#[]⟩, .string ⟨#[]⟩, .slice none 0 0] := by
        unfold nodeCells Spec.txt
        rw [show (⟨(Spec.Node.mk 10 t.data.toList [] [] []).text.toArray⟩ : ByteArray) = t from str_eq rfl]
        rfl
      rw [e] at hu
      rw [← Array.getElem?_toList]
      exact hu
    | succ i => cases hk
  · cases i with
    | zero =>
      obtain rfl := Option.some.inj hk
      exact .empty _ _
    | succ i => cases hk
theorem sm_txt (t : List UInt8) : Sm [Spec.txt t] := .mk _ (show 1 ≤ 1000000 by omega) (fun k hk => by
  simp only [List.mem_singleton] at hk
  subst hk
  exact .mk _ (show 0 ≤ 1000000 by omega) (fun k hk => absurd hk (by simp [Spec.txt, Spec.Node.kids])))
end Go.Proofs.YtmplfiflikhpjaaGreatDoor
/-
  A row's builder that hands on that every variable is well-typed; internal/bytealg.MaxLen's cell.
-/
namespace Go.Proofs.YtmplfiflikhpjaaGreatDoor
open Go.ChangeShapes Go.WideShapes Go.ChangeMaps Go.ChangeAt Go.RowKit Go.Shelf Go.Lib

theorem returnsInHanded_of_change_open {H : Type} {enc : TypeId × Value → H} {a : Assume} {C : Checked} {os : Os} {f : FuncId} {fn : Func} {s : ChangeSpec} {conds : List PathCond} {apart fresh handsOn again : Bool} {X : World → Array Value → Prop}
    (hX : ∀ (w w' : World) (args : Array Value), w.heap = w'.heap → X w args → X w' args)
    (own : ownKnob C.prog.godebug = none) (started : os.Started) (noInit : C.prog.inits.idxOf? f = none) (hfn : C.prog.funcs[f]? = some fn)
    (witness : ∃ (w : World) (tape : Tape) (i : Input), w.os = os ∧ (w.forCall tape i).Shaped C.prog ∧ i.vars = [] ∧ Input.okWide C.prog (w.forCall tape i) .any w.heap.size f i ∧
      ((s.pre enc C.prog fn conds apart (w.forCall tape i).memory i.args ∧ X (w.forCall tape i).memory i.args) ∧ sizedMet enc C.prog fn (OpenSpec.ofChange s) apart (w.forCall tape i).memory i.args) ∧ a.holds C.prog (lone (Frame.enter C.prog f i.args .normal) [] (w.forCall tape i)))
    (contract : ∀ (W : World) (base : Nat) (args : Array Value) (ds gs : List (DataW H)) (before : List MemPlace), W.ShapedOpen C.prog →
      (∀ (j : Nat) t v, fn.params[j]? = some t → args[j]? = some v → Value.okWide C.prog W .any base t v) →
      DataW.Whole enc C.prog fn.params.toList s.vars apart W args.toList ds gs before →
      conds.all (PathCond.test C.prog ⟨fn.params.toList, ds, s.plain.varTypes C.prog, gs⟩) = true →
      (DataW.weightsEach C.prog (fn.params.toList ++ s.plain.varTypes C.prog) (ds ++ gs)).all (· ≤ reachBytes) = true → X W args →
      a.holds C.prog (lone (Frame.enter C.prog f args .normal) [] W) →
      Calls C.prog f args W fun e W' => ∃ v, e = .returned v ∧ s.post enc C.prog fn apart fresh handsOn again W args v W') :
    ReturnsInHanded a C os f .any (fun w args => (s.pre enc C.prog fn conds apart w args ∧ X w args) ∧ sizedMet enc C.prog fn (OpenSpec.ofChange s) apart w args) (s.post enc C.prog fn apart fresh handsOn again) := by
  refine returnsInHanded_of_calls own started noInit witness ?_
  intro w tape i _ hso _ hok hpre hholds
  obtain ⟨_, _, _, fn', hfn', _, _, _, _, hval⟩ := hok
  have e : fn' = fn := Option.some.inj (hfn'.symm.trans hfn)
  subst e
  obtain ⟨⟨⟨ds, gs, before, hw, hc⟩, hx⟩, hz⟩ := hpre
  have hw' := DataW.Whole.of_heap (w' := w.forCall tape i) (by rfl) hw
  refine (contract (w.forCall tape i) w.heap.size i.args ds gs before hso hval hw' hc (hz.weights hw) (hX _ _ _ (by rfl) hx) hholds).mono fun e W' ⟨v, he, hp⟩ => ?_
  subst he
  exact ChangeSpec.post_blind hp

theorem inline_own : ownKnob Tryz.prog.godebug = none := by kernel_rfl
theorem inline_u8 : U8Extra Tryz.prog Tryz.lays260_ren := ⟨by kernel_rfl, by kernel_rfl, by kernel_rfl, by kernel_rfl, by kernel_rfl, by kernel_rfl, by kernel_rfl⟩
theorem maxLen_row : ((begin Tryz.prog (fun _ _ => 0) default).world.heap[0]?).bind Obj.row? = some (#[.int .i64 0], 3) := by kernel_rfl
theorem maxLen_cell (w : World) (h : w.ShapedOpen Tryz.prog) : ∃ m, w.cell? ⟨0, 0, none⟩ = some (.int .i64 m) :=
  cell_of_shapedOpen_int h (Nat.le_of_ble_eq_true (by kernel_rfl)) maxLen_row rfl (by kernel_rfl) (by kernel_rfl) Tryz.underlying3
end Go.Proofs.YtmplfiflikhpjaaGreatDoor
/-
  Words for the laws of broken lines and of nests: plain, rows of literal nodes.
-/
namespace Go.Proofs.YtmplfiflikhpjaaGreatDoor
open Go.RowKit

def wordI (x : Int) : Prop := (97 ≤ x ∧ x ≤ 122) ∨ (65 ≤ x ∧ x ≤ 90) ∨ (48 ≤ x ∧ x ≤ 57)
/-- A text of letters and digits. -/
structure PlainW (s : ByteArray) : Prop where
  pos : 0 < s.size
  lt : s.size < 60
  all : ∀ j (h : j < s.size), wordI ((s[j]'h).toNat : Int)

def PlainPost (s : ByteArray) (w : World) (e : Ending) (w' : World) : Prop := ∃ b, e = .returned (.bool b) ∧ w = w' ∧ (b = true → PlainW s)
theorem plain_post (s : ByteArray) (w : World) (b : Bool) (e : Ending) (h : b = true → PlainW s) (he : e = .returned (.bool b) := by rfl) : PlainPost s w e w := ⟨b, he, rfl, h⟩

set_option maxHeartbeats 32000000 in
set_option maxRecDepth 100000 in
theorem plainL_any (s : ByteArray) (w : World) (hs : s.size ≤ 140737488351232) :
    Calls Tryz.prog 12 #[.string s] w (PlainPost s w) := by
  go_enter Tryz.func12, Tryz.ntmps12
  go_wp2
  go_loopw [3, 4] (fun v3 v4 wr => ∃ i : Nat, i ≤ s.size ∧ v3 = .int .i64 (i : Int) ∧ w = wr ∧ Hid (∀ j (h : j < s.size), j < i → wordI ((s[j]'h).toNat : Int))) (fun v3 _ _ => s.size - (intOf v3).toNat)
  case atStart => exact ⟨0, Nat.zero_le _, rfl, rfl, Lib.hid (fun j h h2 => absurd h2 (by omega))⟩
  case round =>
    obtain ⟨i, hi, rfl, rfl, HD⟩ := hrel
    by_cases hin : i < s.size
    · have hini : (i : Int) < s.size := by omega
      go_upto_region 5 with fail
      generalize hx : ((s[i]'hin).toNat : Int) = x
      have HX := Lib.hid hx
      clear hx
      go_wp2
      all_goals try (go_ret; exact plain_post _ _ false _ (fun h => by cases h))
      all_goals
        have hpl : wordI x := by
          unfold wordI
          first
            | omega
            | (rename_i hh; simp at hh; omega)
        have hN : Hid (∀ j (h : j < s.size), j < i + 1 → wordI ((s[j]'h).toNat : Int)) := Lib.hid (fun j h hj => by
          by_cases e : j < i
          · exact HD.out j h e
          · obtain rfl : j = i := by omega
            rw [HX.out]
            exact hpl)
        clear hpl
        go_roundw
        case rel => exact ⟨i + 1, by omega, by go_num, trivial, hN⟩
        case measure => simp [intOf]; omega
    · have hini : ¬ (i : Int) < s.size := by omega
      obtain rfl : i = s.size := by omega
      by_cases h0 : 0 < s.size
      · have h0i : (0 : Int) < s.size := by omega
        by_cases h6 : s.size < 60
        · have h6i : (s.size : Int) < 60 := by omega
          go_wp2
          go_ret
          exact plain_post _ _ true _ (fun _ => ⟨h0, h6, fun j h => HD.out j h h⟩)
        · have h6i : ¬ (s.size : Int) < 60 := by omega
          go_wp2
          go_ret
          exact plain_post _ _ false _ (fun h => by cases h)
      · have h0i : ¬ (0 : Int) < s.size := by omega
        go_wp2
        go_ret
        exact plain_post _ _ false _ (fun h => by cases h)
/-- A row of nodes without others in them, as it is laid. -/
theorem krep_lits (w : World) (ks : List Spec.Node) (hk : ∀ k ∈ ks, k.kids = []) (cur : Array Value) (hc : cur.toList = ks.flatMap fun k => nodeCells k (.slice none 0 0)) :
    KRep (w.alloc (.cells cur 27)) (w.alloc (.cells cur 27)).heap.size (.slice (some ⟨w.heap.size, 0, none⟩) ks.length ks.length) ks := by
  have hX := heap_alloc_new w (.cells cur 27)
  refine .row w.heap.size ks.length ks (fun _ => .slice none 0 0) _ (blk_lt hX) hX (fun i k hk j u hu => ?_) (fun i k hi => ?_)
  · rw [← Array.getElem?_toList, hc, flatMap_at (fun k => nodeCells k (.slice none 0 0)) 8 (fun _ => rfl) ks i j k hk (List.getElem?_eq_some_iff.1 hu).1]
    exact hu
  · rw [hk k (List.mem_of_getElem? hi)]
    exact .empty _ _
theorem sm_lits (ks : List Spec.Node) (hl : ks.length ≤ 1000000) (hk : ∀ k ∈ ks, k.kids = []) : Sm ks := .mk _ hl (fun k h => by
  rw [hk k h]
  exact .mk _ (show 0 ≤ 1000000 by omega) (fun k h => absurd h (by simp)))
theorem wordy_of (c : UInt8) (h : wordI (c.toNat : Int)) : Pl.Wordy c := by
  unfold wordI at h
  unfold Pl.Wordy Spec.letter
  simp only [Bool.or_eq_true, Bool.and_eq_true, decide_eq_true_eq]
  omega
end Go.Proofs.YtmplfiflikhpjaaGreatDoor
