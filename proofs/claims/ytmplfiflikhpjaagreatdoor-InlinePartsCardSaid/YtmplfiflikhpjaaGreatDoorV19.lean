/-
  Texts of one proof, joined: MeK, MeL, MeM, CBase, RpA, Enc, Digit, RefAt, RefNum, RefEq, RefAn, Row.
-/
import Derived.Test.YtmplfiflikhpjaaGreatDoorCards
import Derived.Test.YtmplfiflikhpjaaGreatDoorTie
import Derived.Test.YtmplfiflikhpjaaGreatDoorV04
import Derived.Test.YtmplfiflikhpjaaGreatDoorV07
import Derived.Test.YtmplfiflikhpjaaGreatDoorV17
import Derived.Test.YtmplfiflikhpjaaGreatDoorV18
import Derived.BigQuiet
import Derived.Deep.QuietTactic
import Derived.LaidOnce
import Derived.Laws.BitsLemmas
import Derived.Laws.BytesArg
import Derived.Lay
import Derived.Lib.IndexLaws
import Derived.Lib.LaidU8
import Derived.PinnedBridge
import Derived.ProofKit
import Derived.SevenTiedAt
import Derived.Shelf.Vars
/-
  inline.Parse.
-/
namespace Go.Proofs.YtmplfiflikhpjaaGreatDoor
open Go.RowKit

theorem stepM_any (w0 w : World) (pb : Nat) (s : ByteArray) (k : Nat) (v : Value) (ps : List PV) (ss : List Spec.Piece) (h : PSt w0 w pb s k v ps ss) (hk : k < s.size) (hs : s.size ≤ 20000) (hT : TabsM w0) (hG : Pl.PG s.data.toList k ss) (hR : Pl.RawK ss) (r : Nat × List Spec.Piece) (hr : r = Pl.stepAt s.data.toList k ss) :
    Calls Tryz.prog 26 #[.pointer (some ⟨pb, 0, none⟩)] w (fun e w' => e = .returned (.tuple #[]) ∧ ∃ v' ps', PSt w0 w' pb s (k + r.1) v' ps' r.2) := by
  by_cases h42 : s.data.toList[k]? = some 42
  · exact step42_any w0 w pb s k v ps ss h hk hs hT hG hR r hr h42
  · by_cases h95 : s.data.toList[k]? = some 95
    · exact step95_any w0 w pb s k v ps ss h hk hs hT hG hR r hr h95
    · exact stepN_any w0 w pb s k v ps ss h hk hs hT hG hR r hr h42 h95

/-- The parser's state at a round's head. -/
structure ParR (w wr : World) (pb : Nat) (s : ByteArray) (k : Nat) (v : Value) (ps : List PV) (ss : List Spec.Piece) : Prop where
  st : PSt w wr pb s k v ps ss
  pg : Pl.PG s.data.toList k ss
  rk : Pl.RawK ss
  eq : Pl.parseC s.data.toList 0 [] = Pl.parseC s.data.toList k ss

set_option maxHeartbeats 32000000 in
set_option maxRecDepth 100000 in
theorem parse_any (w : World) (s : ByteArray) (hs : s.size ≤ 20000) (hT : TabsM w) :
    Calls Tryz.prog 17 #[.string s] w (NodesRes (Pl.parse s.data.toList) w) := by
  have hpe := Pl.parse_eq s.data.toList
  obtain ⟨pn, hpn⟩ : ∃ pn, pn = Pl.parse s.data.toList := ⟨_, rfl⟩
  rw [← hpn] at hpe ⊢
  have HE := Lib.hid hpe
  have HTT := Lib.hid hT
  clear hpe hpn hT
  go_enter Tryz.func17, Tryz.ntmps17
  go_wp2_with fail
  have hP0 : Hid (ParR w (w.alloc (.cells #[.string s, .int .i64 0, .slice none 0 0] 46)) w.heap.size s 0 (.slice none 0 0) [] []) := Lib.hid
    ⟨⟨heap_alloc_new w _, Nat.le_refl _, World.ownsRow_nil _ _ _ 14, fit_nil _, List.nodup_nil, (Below.refl _ _).alloc (Nat.le_refl _) _⟩, Pl.pg_nil _, Pl.rawK_nil, rfl⟩
  obtain ⟨pb, hpb⟩ : ∃ pb, pb = w.heap.size := ⟨_, rfl⟩
  simp only [← hpb] at hP0 ⊢
  generalize w.alloc (.cells #[.string s, .int .i64 0, .slice none 0 0] 46) = w1 at hP0 ⊢
  have HPB := Lib.hid hpb
  clear hpb
  go_loopg [] s.size (fun gg wr => ∃ (k : Nat) (v : Value) (ps : List PV) (ss : List Spec.Piece), k ≤ s.size ∧ s.size - k ≤ gg ∧ Hid (ParR w wr pb s k v ps ss))
  case atStart => exact ⟨0, _, _, _, Nat.zero_le _, by omega, hP0⟩
  case round =>
    obtain ⟨k, v, ps, ss, hk, hg, HR⟩ := hrel
    have p1 := HR.out.st.p1
    have zpb := HR.out.st.lt
    by_cases hks : k < s.size
    · have hki : (k : Int) < s.size := by omega
      obtain ⟨r, hr⟩ : ∃ r, r = Pl.stepAt s.data.toList k ss := ⟨_, rfl⟩
      have hS := stepM_any w wr pb s k v ps ss HR.out.st hks hs HTT.out HR.out.pg HR.out.rk r hr
      have hkl : k < s.data.toList.length := by rw [← Lib.size_eq]; exact hks
      have hpos := Pl.stepAt_pos s.data.toList k ss hkl
      rw [← hr, ← Lib.size_eq] at hpos
      have hpg := HR.out.pg.step hkl
      have hrk := HR.out.rk.step (lastR (last16 ⟨(s.data.toList.take k).toArray⟩)) (fun l => firstR ⟨l.toArray⟩) (s.data.toList.drop k)
      have hec := HR.out.eq.trans (Pl.parseC_step s.data.toList k ss hkl)
      have hrk : Pl.RawK r.2 := by rw [hr]; exact hrk
      rw [← hr] at hpg hec
      have HN := Lib.hid (And.intro hpg (And.intro hrk hec))
      clear hpg hrk hec hr
      go_wp2_with fail
      refine hS.mono ?_
      rintro e w2 ⟨rfl, hp⟩
      have HQ := Lib.hid hp
      clear hp hS
      go_wp2_with fail
      go_roundg (s.size - (k + r.1))
      case measure => omega
      case rel =>
        obtain ⟨v', ps', hq⟩ := HQ.out
        exact ⟨k + r.1, v', ps', r.2, by omega, Nat.le_refl _, Lib.hid ⟨hq, HN.out.1, HN.out.2.1, HN.out.2.2⟩⟩
    · have hki : ¬ (k : Int) < s.size := by omega
      obtain rfl : k = s.size := by omega
      have hen := HR.out.eq
      rw [Lib.size_eq, Pl.parseC_end] at hen
      have hst := HR.out.st
      have p2 := hst.p2
      obtain ⟨vA, vc, rfl⟩ := row_slice hst.own
      have hN := nodes_any wr _ ps ss (pread_own hst.own) hst.fit HR.out.pg.apt HR.out.pg.fresh hst.nd (by rw [hst.fit.1]; have := HR.out.pg.lenk; omega) (by have := HR.out.pg.wtk; omega)
      rw [← hen, ← HE.out] at hN
      have HB := Lib.hid hst.bel
      clear hen hst
      go_wp2_with fail
      refine hN.mono ?_
      rintro e w2 ⟨kv, rfl, hk2, hb2⟩
      have HK := Lib.hid (And.intro hk2 (HB.out.trans (hb2.mono HB.out.size)))
      clear hk2 hb2 hN
      go_wp2
      go_ret
      exact ⟨_, rfl, HK.out.1, HK.out.2⟩
end Go.Proofs.YtmplfiflikhpjaaGreatDoor
/-
  The law's same: rows of nodes that stand for the same nodes.
-/
namespace Go.Proofs.YtmplfiflikhpjaaGreatDoor
open Go.RowKit

/-- Rows of nodes that are not long, all the way down. -/
inductive Sm : List Spec.Node → Prop
  | mk (ks : List Spec.Node) (h : ks.length ≤ 1000000) (hk : ∀ k ∈ ks, Sm k.kids) : Sm ks
theorem KRep.cells {w : World} {B : Nat} {v : Value} {ks : List Spec.Node} (h : KRep w B v ks) {i : Nat} {k : Spec.Node} (hi : ks[i]? = some k) :
    ∃ b cap kv, v = .slice (some ⟨b, 0, none⟩) ks.length cap ∧ b < B ∧ (∀ (j : Nat) (u : Value), (nodeCells k kv)[j]? = some u → w.cell? ⟨b, i * 8 + j, none⟩ = some u) ∧ KRep w B kv k.kids := by
  cases h with
  | empty A cap => cases hi
  | row b cap ks kv cur hb hrow hc hk => exact ⟨b, cap, kv i, rfl, hb, fun j u hu => by rw [cell_of_row w b (i * 8 + j) _ _ _ hrow]; exact hc i k hi j u hu, hk i k hi⟩
theorem KRep.on {w w' : World} {v : Value} {ks : List Spec.Node} (h : KRep w w.heap.size v ks) (hb : Below w.heap.size w w') : KRep w' w'.heap.size v ks := h.keep (keepT_below hb) hb.size

set_option maxHeartbeats 32000000 in
set_option maxRecDepth 100000 in
theorem same_any {ks : List Spec.Node} (hs : Sm ks) : ∀ (w : World) (v1 v2 : Value), KRep w w.heap.size v1 ks → KRep w w.heap.size v2 ks →
    Calls Tryz.prog 16 #[v1, v2] w fun e w' => e = .returned (.bool true) ∧ Below w.heap.size w w' := by
  induction hs with
  | mk ks hl _ ih =>
    intro w v1 v2 h1 h2
    obtain ⟨A1, c1, rfl⟩ := h1.len
    obtain ⟨A2, c2, rfl⟩ := h2.len
    obtain ⟨n, hn⟩ : ∃ n, n = ks.length := ⟨_, rfl⟩
    rw [← hn] at h1 h2 hl ⊢
    have HK := Lib.hid (And.intro h1 (And.intro h2 hn))
    clear h1 h2 hn
    go_enter Tryz.func16, Tryz.ntmps16
    go_wp2
    go_loopw [5, 6, 7] (fun v5 v6 v7 wr => ∃ i : Nat, i ≤ n ∧ v5 = .int .i64 (i : Int) ∧ Hid (Below w.heap.size w wr)) (fun v5 _ _ _ => n - (intOf v5).toNat)
    case atStart => exact ⟨0, Nat.zero_le _, rfl, Lib.hid (Below.refl _ _)⟩
    case round =>
      obtain ⟨i, hi, rfl, HB⟩ := hrel
      by_cases hin : i < n
      · have hini : (i : Int) < n := by omega
        obtain ⟨k, hk⟩ : ∃ k, ks[i]? = some k := ⟨_, List.getElem?_eq_getElem (by have := HK.out.2.2; omega)⟩
        obtain ⟨b1, cp1, kv1, e1, hb1, hc1, hr1⟩ := (HK.out.1.on HB.out).cells hk
        obtain ⟨b2, cp2, kv2, e2, hb2, hc2, hr2⟩ := (HK.out.2.1.on HB.out).cells hk
        injection e1 with e11 e12 e13
        injection e2 with e21 e22 e23
        subst e11 e21
        obtain ⟨kA1, kc1, rfl⟩ := hr1.len
        obtain ⟨kA2, kc2, rfl⟩ := hr2.len
        obtain ⟨kn, hkn⟩ : ∃ kn, kn = k.kids.length := ⟨_, rfl⟩
        rw [← hkn] at hc1 hc2 hr1 hr2
        have hih := ih k (List.mem_of_getElem? hk)
        obtain ⟨kd, tx, ur, ti, kk⟩ := k
        have a0 : wr.cell? ⟨b1, i * 8, none⟩ = some (.int .i64 (kd : Int)) := hc1 0 _ rfl
        have a1 : wr.cell? ⟨b1, i * 8 + 1, none⟩ = some (.int .i64 0) := hc1 1 _ rfl
        have a2 : wr.cell? ⟨b1, i * 8 + 2, none⟩ = some (.bool false) := hc1 2 _ rfl
        have a3 : wr.cell? ⟨b1, i * 8 + 3, none⟩ = some (.bool false) := hc1 3 _ rfl
        have a4 : wr.cell? ⟨b1, i * 8 + 4, none⟩ = some (.string ⟨tx.toArray⟩) := hc1 4 _ rfl
        have a5 : wr.cell? ⟨b1, i * 8 + 5, none⟩ = some (.string ⟨ur.toArray⟩) := hc1 5 _ rfl
        have a6 : wr.cell? ⟨b1, i * 8 + 6, none⟩ = some (.string ⟨ti.toArray⟩) := hc1 6 _ rfl
        have a7 : wr.cell? ⟨b1, i * 8 + 7, none⟩ = some (.slice kA1 kn kc1) := hc1 7 _ rfl
        have d0 : wr.cell? ⟨b2, i * 8, none⟩ = some (.int .i64 (kd : Int)) := hc2 0 _ rfl
        have d1 : wr.cell? ⟨b2, i * 8 + 1, none⟩ = some (.int .i64 0) := hc2 1 _ rfl
        have d2 : wr.cell? ⟨b2, i * 8 + 2, none⟩ = some (.bool false) := hc2 2 _ rfl
        have d3 : wr.cell? ⟨b2, i * 8 + 3, none⟩ = some (.bool false) := hc2 3 _ rfl
        have d4 : wr.cell? ⟨b2, i * 8 + 4, none⟩ = some (.string ⟨tx.toArray⟩) := hc2 4 _ rfl
        have d5 : wr.cell? ⟨b2, i * 8 + 5, none⟩ = some (.string ⟨ur.toArray⟩) := hc2 5 _ rfl
        have d6 : wr.cell? ⟨b2, i * 8 + 6, none⟩ = some (.string ⟨ti.toArray⟩) := hc2 6 _ rfl
        have d7 : wr.cell? ⟨b2, i * 8 + 7, none⟩ = some (.slice kA2 kn kc2) := hc2 7 _ rfl
        have HR := Lib.hid (And.intro hr1 (And.intro hr2 hih))
        clear hr1 hr2 hih hc1 hc2 hk hkn ih e12 e13 e22 e23
        go_upto_region 6 with fail
        go_cut [6, 7] (fun v6 v7 wc => ∃ xb yb, v6 = .pointer (some ⟨xb, 0, none⟩) ∧ v7 = .pointer (some ⟨yb, 0, none⟩) ∧ wc.heap[xb]? = some (.cells #[.int .i64 (kd : Int), .int .i64 0, .bool false, .bool false, .string ⟨tx.toArray⟩, .string ⟨ur.toArray⟩, .string ⟨ti.toArray⟩, .slice kA1 kn kc1] 27 (0, 0)) ∧ wc.heap[yb]? = some (.cells #[.int .i64 (kd : Int), .int .i64 0, .bool false, .bool false, .string ⟨tx.toArray⟩, .string ⟨ur.toArray⟩, .string ⟨ti.toArray⟩, .slice kA2 kn kc2] 27 (0, 0)) ∧ Below wr.heap.size wr wc)
        case first =>
          go_region
          all_goals
            go_wp2_with fail
            go_meet
            first
              | exact ⟨_, _, rfl, rfl, (Below.heap_alloc _ _ _ (by simp)).trans (heap_alloc_new _ _), heap_alloc2_new _ _ _, Below.drew (((Below.refl _ _).alloc (Nat.le_refl _) _).alloc (by simp) _)⟩
              | exact ⟨_, _, rfl, rfl, heap_alloc2_new _ _ _, (Below.heap_alloc _ _ _ (by simp)).trans (heap_alloc_new _ _), Below.drew (((Below.refl _ _).alloc (Nat.le_refl _) _).alloc (by simp) _)⟩
        obtain ⟨xb, yb, rfl, rfl, hx, hy, hb⟩ := hcut
        have x0 : wc.cell? ⟨xb, 0, none⟩ = some (.int .i64 (kd : Int)) := cell_of_row _ _ _ _ _ _ hx
        have x1 : wc.cell? ⟨xb, 1, none⟩ = some (.int .i64 0) := cell_of_row _ _ _ _ _ _ hx
        have x2 : wc.cell? ⟨xb, 2, none⟩ = some (.bool false) := cell_of_row _ _ _ _ _ _ hx
        have x3 : wc.cell? ⟨xb, 3, none⟩ = some (.bool false) := cell_of_row _ _ _ _ _ _ hx
        have x4 : wc.cell? ⟨xb, 4, none⟩ = some (.string ⟨tx.toArray⟩) := cell_of_row _ _ _ _ _ _ hx
        have x5 : wc.cell? ⟨xb, 5, none⟩ = some (.string ⟨ur.toArray⟩) := cell_of_row _ _ _ _ _ _ hx
        have x6 : wc.cell? ⟨xb, 6, none⟩ = some (.string ⟨ti.toArray⟩) := cell_of_row _ _ _ _ _ _ hx
        have x7 : wc.cell? ⟨xb, 7, none⟩ = some (.slice kA1 kn kc1) := cell_of_row _ _ _ _ _ _ hx
        have y0 : wc.cell? ⟨yb, 0, none⟩ = some (.int .i64 (kd : Int)) := cell_of_row _ _ _ _ _ _ hy
        have y1 : wc.cell? ⟨yb, 1, none⟩ = some (.int .i64 0) := cell_of_row _ _ _ _ _ _ hy
        have y2 : wc.cell? ⟨yb, 2, none⟩ = some (.bool false) := cell_of_row _ _ _ _ _ _ hy
        have y3 : wc.cell? ⟨yb, 3, none⟩ = some (.bool false) := cell_of_row _ _ _ _ _ _ hy
        have y4 : wc.cell? ⟨yb, 4, none⟩ = some (.string ⟨tx.toArray⟩) := cell_of_row _ _ _ _ _ _ hy
        have y5 : wc.cell? ⟨yb, 5, none⟩ = some (.string ⟨ur.toArray⟩) := cell_of_row _ _ _ _ _ _ hy
        have y6 : wc.cell? ⟨yb, 6, none⟩ = some (.string ⟨ti.toArray⟩) := cell_of_row _ _ _ _ _ _ hy
        have y7 : wc.cell? ⟨yb, 7, none⟩ = some (.slice kA2 kn kc2) := cell_of_row _ _ _ _ _ _ hy
        have hS := HR.out.2.2 wc _ _ (HR.out.1.on hb) (HR.out.2.1.on hb)
        have HBB := Lib.hid (HB.out.trans (hb.mono HB.out.size))
        clear hx hy hb a0 a1 a2 a3 a4 a5 a6 a7 d0 d1 d2 d3 d4 d5 d6 d7
        go_wp2_with fail
        refine hS.mono ?_
        rintro e w3 ⟨rfl, hb3⟩
        have HB3 := Lib.hid (HBB.out.trans (hb3.mono HBB.out.size))
        clear hb3 hS
        go_wp2
        go_roundw
        case rel => exact ⟨i + 1, by omega, by go_num, HB3⟩
        case measure => simp [intOf]; omega
      · have hini : ¬ (i : Int) < n := by omega
        go_wp2
        go_ret
        exact ⟨rfl, HB.out⟩
end Go.Proofs.YtmplfiflikhpjaaGreatDoor
/-
  The law's known: two stresses.
-/
namespace Go.Proofs.YtmplfiflikhpjaaGreatDoor
open Go.RowKit

theorem known_parse : Pl.parse [42, 97, 32, 42, 42, 98, 42, 42, 32, 99, 42] = [.mk 13 [] [] [] [Spec.txt [97, 32], .mk 14 [] [] [] [Spec.txt [98]], Spec.txt [32, 99]]] := by kernel_rfl
set_option maxHeartbeats 32000000 in
set_option maxRecDepth 100000 in
theorem known_any (w : World) (hT : TabsM w) :
    Calls Tryz.prog 13 #[] w fun e w' => e = .returned (.bool true) ∧ Below w.heap.size w w' := by
  have hP := parse_any w ⟨#[42, 97, 32, 42, 42, 98, 42, 42, 32, 99, 42]⟩ (by decide) hT
  rw [known_parse] at hP
  clear hT
  go_enter Tryz.func13, Tryz.ntmps13
  go_wp2_with fail
  refine hP.mono ?_
  rintro e w1 ⟨kv, rfl, hk, hb⟩
  obtain ⟨b1, cp1, kv1, rfl, hb1, hc1, hr1⟩ := hk.cells (i := 0) rfl
  obtain ⟨b2, cp2, kv2, e2, hb2, hc2, hr2⟩ := hr1.cells (i := 1) rfl
  have e2 : kv1 = .slice (some ⟨b2, 0, none⟩) 3 cp2 := e2
  subst e2
  have a0 : w1.cell? ⟨b1, 0, none⟩ = some (.int .i64 13) := hc1 0 _ rfl
  have a7 : w1.cell? ⟨b1, 7, none⟩ = some (.slice (some ⟨b2, 0, none⟩) 3 cp2) := hc1 7 _ rfl
  have d0 : w1.cell? ⟨b2, 8, none⟩ = some (.int .i64 14) := hc2 0 _ rfl
  have HB := Lib.hid hb
  clear hk hr1 hr2 hc1 hc2 hP hb
  show match Ending.returned (.slice (some ⟨b1, 0, none⟩) 1 cp1), w1 with | _, _ => _
  go_wp2
  go_ret
  exact ⟨rfl, HB.out⟩
/-- A row of one text, as it is laid. -/
theorem krep_txt (w : World) (t : ByteArray) : KRep (w.alloc (.cells #[.int .i64 10, .int .i64 0, .bool false, .bool false, .string t, .string ⟨#[]⟩, .string ⟨#[]⟩, .slice none 0 0] 27)) (w.alloc (.cells #[.int .i64 10, .int .i64 0, .bool false, .bool false, .string t, .string ⟨#[]⟩, .string ⟨#[]⟩, .slice none 0 0] 27)).heap.size (.slice (some ⟨w.heap.size, 0, none⟩) 1 1) [Spec.txt t.data.toList] := by
  have hX := heap_alloc_new w (.cells #[.int .i64 10, .int .i64 0, .bool false, .bool false, .string t, .string ⟨#[]⟩, .string ⟨#[]⟩, .slice none 0 0] 27)
  refine .row w.heap.size 1 [Spec.txt t.data.toList] (fun _ => .slice none 0 0) _ (blk_lt hX) hX (fun i k hk j u hu => ?_) (fun i k hk => ?_)
  · cases i with
    | zero =>
      obtain rfl := Option.some.inj hk
      rw [Nat.zero_mul, Nat.zero_add]
      have e : nodeCells (Spec.txt t.data.toList) (.slice none 0 0) = [.int .i64 10, .int .i64 0, .bool false, .bool false, .string t, .string ⟨#[]⟩, .string ⟨#[]⟩, .slice none 0 0] := by
        unfold nodeCells Spec.txt
        rw [show (⟨(Spec.Node.mk 10 t.data.toList [] [] []).text.toArray⟩ : ByteArray) = t from str_eq rfl]
        rfl
      rw [e] at hu
      rw [← Array.getElem?_toList]
      exact hu
    | succ i => cases hk
  · cases i with
    | zero =>
      obtain rfl := Option.some.inj hk
      exact .empty _ _
    | succ i => cases hk
theorem sm_txt (t : List UInt8) : Sm [Spec.txt t] := .mk _ (show 1 ≤ 1000000 by omega) (fun k hk => by
  simp only [List.mem_singleton] at hk
  subst hk
  exact .mk _ (show 0 ≤ 1000000 by omega) (fun k hk => absurd hk (by simp [Spec.txt, Spec.Node.kids])))
end Go.Proofs.YtmplfiflikhpjaaGreatDoor
/-
  A row's builder that hands on that every variable is well-typed; internal/bytealg.MaxLen's cell.
-/
namespace Go.Proofs.YtmplfiflikhpjaaGreatDoor
open Go.ChangeShapes Go.WideShapes Go.ChangeMaps Go.ChangeAt Go.RowKit Go.Shelf Go.Lib

theorem returnsInHanded_of_change_open {H : Type} {enc : TypeId × Value → H} {a : Assume} {C : Checked} {os : Os} {f : FuncId} {fn : Func} {s : ChangeSpec} {conds : List PathCond} {apart fresh handsOn again : Bool} {X : World → Array Value → Prop}
    (hX : ∀ (w w' : World) (args : Array Value), w.heap = w'.heap → X w args → X w' args)
    (own : ownKnob C.prog.godebug = none) (started : os.Started) (noInit : C.prog.inits.idxOf? f = none) (hfn : C.prog.funcs[f]? = some fn)
    (witness : ∃ (w : World) (tape : Tape) (i : Input), w.os = os ∧ (w.forCall tape i).Shaped C.prog ∧ i.vars = [] ∧ Input.okWide C.prog (w.forCall tape i) .any w.heap.size f i ∧
      ((s.pre enc C.prog fn conds apart (w.forCall tape i).memory i.args ∧ X (w.forCall tape i).memory i.args) ∧ sizedMet enc C.prog fn (OpenSpec.ofChange s) apart (w.forCall tape i).memory i.args) ∧ a.holds C.prog (lone (Frame.enter C.prog f i.args .normal) [] (w.forCall tape i)))
    (contract : ∀ (W : World) (base : Nat) (args : Array Value) (ds gs : List (DataW H)) (before : List MemPlace), W.ShapedOpen C.prog →
      (∀ (j : Nat) t v, fn.params[j]? = some t → args[j]? = some v → Value.okWide C.prog W .any base t v) →
      DataW.Whole enc C.prog fn.params.toList s.vars apart W args.toList ds gs before →
      conds.all (PathCond.test C.prog ⟨fn.params.toList, ds, s.plain.varTypes C.prog, gs⟩) = true →
      (DataW.weightsEach C.prog (fn.params.toList ++ s.plain.varTypes C.prog) (ds ++ gs)).all (· ≤ reachBytes) = true → X W args →
      a.holds C.prog (lone (Frame.enter C.prog f args .normal) [] W) →
      Calls C.prog f args W fun e W' => ∃ v, e = .returned v ∧ s.post enc C.prog fn apart fresh handsOn again W args v W') :
    ReturnsInHanded a C os f .any (fun w args => (s.pre enc C.prog fn conds apart w args ∧ X w args) ∧ sizedMet enc C.prog fn (OpenSpec.ofChange s) apart w args) (s.post enc C.prog fn apart fresh handsOn again) := by
  refine returnsInHanded_of_calls own started noInit witness ?_
  intro w tape i _ hso _ hok hpre hholds
  obtain ⟨_, _, _, fn', hfn', _, _, _, _, hval⟩ := hok
  have e : fn' = fn := Option.some.inj (hfn'.symm.trans hfn)
  subst e
  obtain ⟨⟨⟨ds, gs, before, hw, hc⟩, hx⟩, hz⟩ := hpre
  have hw' := DataW.Whole.of_heap (w' := w.forCall tape i) (by rfl) hw
  refine (contract (w.forCall tape i) w.heap.size i.args ds gs before hso hval hw' hc (hz.weights hw) (hX _ _ _ (by rfl) hx) hholds).mono fun e W' ⟨v, he, hp⟩ => ?_
  subst he
  exact ChangeSpec.post_blind hp

theorem inline_own : ownKnob Tryz.prog.godebug = none := by kernel_rfl
theorem inline_u8 : U8Extra Tryz.prog Tryz.lays260_ren := ⟨by kernel_rfl, by kernel_rfl, by kernel_rfl, by kernel_rfl, by kernel_rfl, by kernel_rfl, by kernel_rfl⟩
theorem maxLen_row : ((begin Tryz.prog (fun _ _ => 0) default).world.heap[0]?).bind Obj.row? = some (#[.int .i64 0], 3) := by kernel_rfl
theorem maxLen_cell (w : World) (h : w.ShapedOpen Tryz.prog) : ∃ m, w.cell? ⟨0, 0, none⟩ = some (.int .i64 m) :=
  cell_of_shapedOpen_int h (Nat.le_of_ble_eq_true (by kernel_rfl)) maxLen_row rfl (by kernel_rfl) (by kernel_rfl) Tryz.underlying3
end Go.Proofs.YtmplfiflikhpjaaGreatDoor
/-
  ref21's many, white: how many of a byte, how many white bytes a text begins with.
-/
namespace Go.Proofs.YtmplfiflikhpjaaGreatDoor
open Go.RowKit

set_option maxHeartbeats 4000000 in
set_option maxRecDepth 100000 in
theorem many_any (s : ByteArray) (c : UInt8) (w : World) (hs : s.size ≤ 1000000) :
    Calls Tryz.prog 44 #[.string s, .int .u8 (c.toNat : Int)] w fun r w' => r = .returned (.int .i64 (Spec.run s.data.toList c : Int)) ∧ w' = w := by
  obtain ⟨N, hN⟩ : ∃ N, N = Spec.run s.data.toList c := ⟨_, rfl⟩
  rw [← hN]
  have HN := Lib.hid (show N = 0 + ((s.data.toList.drop 0).takeWhile (· == c)).length by rw [hN, Nat.zero_add]; rfl)
  clear hN
  obtain ⟨x, hx⟩ : ∃ x : Int, x = (c.toNat : Int) := ⟨_, rfl⟩
  rw [← hx]
  have HX := Lib.hid hx
  clear hx
  go_enter Tryz.func44, Tryz.ntmps44
  go_wp2
  go_loop [5] (fun v5 => ∃ j : Nat, j ≤ s.size ∧ v5 = .int .i64 j ∧ Hid (N = j + ((s.data.toList.drop j).takeWhile (· == c)).length)) (fun v5 => s.size - (intOf v5).toNat)
  case atStart => exact ⟨0, by omega, rfl, HN⟩
  case round =>
    obtain ⟨j, hj, rfl, HJ⟩ := hrel
    by_cases hp : j < s.size
    · have hpi : (j : Int) < s.size := by omega
      have htw := takeWn_cons (· == c) (s[j]'hp) (s.data.toList.drop (j + 1))
      rw [← drop_at s j hp] at htw
      by_cases he : s[j]'hp = c
      · rw [if_pos (by rw [he]; simp)] at htw
        have HJ2 : Hid (N = (j + 1) + ((s.data.toList.drop (j + 1)).takeWhile (· == c)).length) := Lib.hid (by rw [HJ.out, htw]; omega)
        have hq : ((s[j]'hp).toNat : Int) = x := by rw [HX.out, he]
        have hq2 : (((s[j]'hp).toNat : Int) == x) = true := by rw [hq]; simp
        clear htw HJ HN he
        go_wp2
        go_round
        case rel => exact ⟨j + 1, by omega, by go_num, HJ2⟩
        case measure => simp [intOf]; omega
      · rw [if_neg (by simpa using he)] at htw
        have HJ2 : Hid (N = j) := Lib.hid (by rw [HJ.out, htw]; rfl)
        have hq : ¬ ((s[j]'hp).toNat : Int) = x := by
          rw [HX.out]
          intro h
          exact he (UInt8.toNat_inj.1 (by omega))
        have hq2 : (((s[j]'hp).toNat : Int) == x) = false := by simpa using hq
        clear htw HJ HN he
        go_wp2
        go_ret
        exact ⟨ret_int (by rw [HJ2.out]), rfl⟩
    · have hpi : ¬ (j : Int) < s.size := by omega
      have HJ2 : Hid (N = j) := Lib.hid (by rw [HJ.out, List.drop_of_length_le (by rw [← Lib.size_eq]; omega)]; rfl)
      clear HJ HN
      go_wp2
      go_ret
      exact ⟨ret_int (by rw [HJ2.out]), rfl⟩

def whites (l : List UInt8) : Nat := (l.takeWhile Spec.whiteC).length
set_option maxHeartbeats 4000000 in
set_option maxRecDepth 100000 in
theorem white_any (s : ByteArray) (w : World) (hs : s.size ≤ 1000000) :
    Calls Tryz.prog 35 #[.string s] w fun r w' => r = .returned (.int .i64 (whites s.data.toList : Int)) ∧ w' = w := by
  obtain ⟨N, hN⟩ : ∃ N, N = whites s.data.toList := ⟨_, rfl⟩
  rw [← hN]
  have HN := Lib.hid (show N = 0 + ((s.data.toList.drop 0).takeWhile Spec.whiteC).length by rw [hN, Nat.zero_add]; rfl)
  clear hN
  go_enter Tryz.func35, Tryz.ntmps35
  go_wp2
  go_loop [3] (fun v5 => ∃ j : Nat, j ≤ s.size ∧ v5 = .int .i64 j ∧ Hid (N = j + ((s.data.toList.drop j).takeWhile Spec.whiteC).length)) (fun v5 => s.size - (intOf v5).toNat)
  case atStart => exact ⟨0, by omega, rfl, HN⟩
  case round =>
    obtain ⟨j, hj, rfl, HJ⟩ := hrel
    by_cases hp : j < s.size
    · have hpi : (j : Int) < s.size := by omega
      have htw := takeWn_cons Spec.whiteC (s[j]'hp) (s.data.toList.drop (j + 1))
      rw [← drop_at s j hp] at htw
      by_cases he : (s[j]'hp).toNat = 32 ∨ (s[j]'hp).toNat = 9 ∨ (s[j]'hp).toNat = 10
      · have hwc : Spec.whiteC (s[j]'hp) = true := by
          unfold Spec.whiteC
          rw [Bool.or_eq_true, Bool.or_eq_true, beq_iff_eq, beq_iff_eq, beq_iff_eq]
          rcases he with h | h | h
          · exact .inl (.inl (UInt8.toNat_inj.1 h))
          · exact .inl (.inr (UInt8.toNat_inj.1 h))
          · exact .inr (UInt8.toNat_inj.1 h)
        rw [if_pos hwc] at htw
        have HJ2 : Hid (N = (j + 1) + ((s.data.toList.drop (j + 1)).takeWhile Spec.whiteC).length) := Lib.hid (by rw [HJ.out, htw]; omega)
        clear htw HJ HN hwc
        rcases he with h | h | h
        all_goals
          have hq : ((s[j]'hp).toNat : Int) = _ := congrArg _ h
          clear h
          go_wp2
          go_round
          case rel => exact ⟨j + 1, by omega, by go_num, HJ2⟩
          case measure => simp [intOf]; omega
      · have hwc : ¬ Spec.whiteC (s[j]'hp) = true := by
          unfold Spec.whiteC
          rw [Bool.or_eq_true, Bool.or_eq_true, beq_iff_eq, beq_iff_eq, beq_iff_eq]
          intro h
          refine he ?_
          rcases h with (h | h) | h
          · exact .inl (by rw [h]; rfl)
          · exact .inr (.inl (by rw [h]; rfl))
          · exact .inr (.inr (by rw [h]; rfl))
        rw [if_neg hwc] at htw
        have HJ2 : Hid (N = j) := Lib.hid (by rw [HJ.out, htw]; rfl)
        have h1 : ¬ ((s[j]'hp).toNat : Int) = 32 := by omega
        have h2 : ¬ ((s[j]'hp).toNat : Int) = 9 := by omega
        have h3 : ¬ ((s[j]'hp).toNat : Int) = 10 := by omega
        have b1 : (((s[j]'hp).toNat : Int) == 32) = false := by simpa using h1
        have b2 : (((s[j]'hp).toNat : Int) == 9) = false := by simpa using h2
        have b3 : (((s[j]'hp).toNat : Int) == 10) = false := by simpa using h3
        clear htw HJ HN he hwc
        go_wp2
        go_ret
        exact ⟨ret_int (by rw [HJ2.out]), rfl⟩
    · have hpi : ¬ (j : Int) < s.size := by omega
      have HJ2 : Hid (N = j) := Lib.hid (by rw [HJ.out, List.drop_of_length_le (by rw [← Lib.size_eq]; omega)]; rfl)
      clear HJ HN
      go_wp2
      go_ret
      exact ⟨ret_int (by rw [HJ2.out]), rfl⟩
end Go.Proofs.YtmplfiflikhpjaaGreatDoor
/-
  The reference's encoding of a rune: the bytes of its UTF-8 form, at every int32.
-/
namespace Go.Proofs.YtmplfiflikhpjaaGreatDoor
open Go.RowKit

/-- The bytes of a block that was just made, as a text. -/
theorem str_fresh (w : World) (arr : Array Value) (xs : List Int) (n : Nat) (hn : xs.length = n) (ha : arr = (xs.map (Value.int .u8)).toArray) :
    (convert 38 9 (.slice (some ⟨w.heap.size, 0, none⟩) n n)).run Tryz.prog (w.alloc (.cells arr 5)) = .ok (.string ⟨(xs.map fun x => UInt8.ofNat x.toNat).toArray⟩) (w.alloc (.cells arr 5)) := by
  subst ha
  exact run_convert_bytes_arg (P := Tryz.prog) _ 38 5 Tryz.underlying38 Tryz.underlying5 w.heap.size 0 n n xs hn (fun i hi => by
    rw [Nat.zero_add]
    exact cell_fresh w _ _ i _ (by simp [List.getD, List.getElem?_eq_getElem (show i < xs.length by omega)])) 9 Tryz.underlying9
theorem and63 (x : Int) (h0 : 0 ≤ x) (h1 : x < 2147483648) : bits .and .i32 x 63 = x % 64 := bits_mask .i32 31 (by decide) wraps_i32 6 (by decide) x h0 h1

set_option maxHeartbeats 4000000 in
set_option maxRecDepth 100000 in
theorem enc1 (r : Int) (w : World) (h0 : 0 ≤ r) (h1 : r < 128) :
    Calls Tryz.prog 141 #[.int .i32 r] w fun e w' => e = .returned (.string ⟨(Lib.encodeRune r).toArray⟩) ∧ Below w.heap.size w w' := by
  have hc := str_fresh w #[.int .u8 r] [r] 1 rfl rfl
  unfold Lib.encodeRune
  rw [Lib.encodeRuneZ_one h0 (by omega)]
  go_enter Tryz.func141, Tryz.ntmps141
  go_wp2
  go_ret
  exact ⟨rfl, (Below.refl _ w).alloc (Nat.le_refl _) _⟩

set_option maxHeartbeats 4000000 in
set_option maxRecDepth 100000 in
theorem enc2 (r : Int) (w : World) (h0 : 128 ≤ r) (h1 : r < 2048) :
    Calls Tryz.prog 141 #[.int .i32 r] w fun e w' => e = .returned (.string ⟨(Lib.encodeRune r).toArray⟩) ∧ Below w.heap.size w w' := by
  have hc := str_fresh w #[.int .u8 (192 + r / 64), .int .u8 (128 + r % 64)] [192 + r / 64, 128 + r % 64] 2 rfl rfl
  unfold Lib.encodeRune
  rw [Lib.encodeRuneZ_two h0 (by omega)]
  have b1 := and63 r (by omega) (by omega)
  have b2 : bits .or .i32 128 (r % 64) = 128 + r % 64 := i32_or6 _ _ (by omega) (by omega) (by omega) (by omega) (by omega)
  have b3 : bits .or .i32 192 (r / 64) = 192 + r / 64 := i32_or6 _ _ (by omega) (by omega) (by omega) (by omega) (by omega)
  have f1 : r / 64 < 32 := by omega
  have f2 : 0 ≤ r / 64 := by omega
  have f3 : 0 ≤ r % 64 := by omega
  have f4 : r % 64 < 64 := by omega
  go_enter Tryz.func141, Tryz.ntmps141
  go_wp2
  go_ret
  exact ⟨rfl, (Below.refl _ w).alloc (Nat.le_refl _) _⟩

set_option maxHeartbeats 4000000 in
set_option maxRecDepth 100000 in
theorem enc3 (r : Int) (w : World) (h : (2048 ≤ r ∧ r < 55296) ∨ (57343 < r ∧ r ≤ 65535)) :
    Calls Tryz.prog 141 #[.int .i32 r] w fun e w' => e = .returned (.string ⟨(Lib.encodeRune r).toArray⟩) ∧ Below w.heap.size w w' := by
  have hc := str_fresh w #[.int .u8 (224 + r / 4096), .int .u8 (128 + r / 64 % 64), .int .u8 (128 + r % 64)] [224 + r / 4096, 128 + r / 64 % 64, 128 + r % 64] 3 rfl rfl
  unfold Lib.encodeRune
  rw [Lib.encodeRuneZ_three h]
  have h0 : 2048 ≤ r := by omega
  have h1 : r ≤ 65535 := by omega
  have b1 := and63 r (by omega) (by omega)
  have b4 := and63 (r / 64) (by omega) (by omega)
  have b2 : bits .or .i32 128 (r % 64) = 128 + r % 64 := i32_or6 _ _ (by omega) (by omega) (by omega) (by omega) (by omega)
  have b5 : bits .or .i32 128 (r / 64 % 64) = 128 + r / 64 % 64 := i32_or6 _ _ (by omega) (by omega) (by omega) (by omega) (by omega)
  have b3 : bits .or .i32 224 (r / 4096) = 224 + r / 4096 := bits_join .i32 31 (by decide) wraps_i32 4 224 _ (by decide) (by decide) (by decide) (by omega) (by omega) (by omega)
  have f1 : r / 4096 < 16 := by omega
  have f2 : 0 ≤ r / 4096 := by omega
  have f3 : 0 ≤ r % 64 := by omega
  have f4 : r % 64 < 64 := by omega
  have f5 : 0 ≤ r / 64 % 64 := by omega
  have f6 : r / 64 % 64 < 64 := by omega
  have g1 : (decide (r ≥ 55296) && decide (r ≤ 57343)) = false := by
    rw [Bool.and_eq_false_iff]; simp only [decide_eq_false_iff_not]; omega
  have n1 : ¬ r < 0 := by omega
  have n2 : ¬ 1114111 < r := by omega
  have n3 : ¬ r < 128 := by omega
  have n4 : ¬ r < 2048 := by omega
  rcases h with ⟨_, h⟩ | ⟨h, _⟩
  · have n5 : ¬ 55296 ≤ r := by omega
    go_enter Tryz.func141, Tryz.ntmps141
    go_wp2
    go_ret
    exact ⟨rfl, (Below.refl _ w).alloc (Nat.le_refl _) _⟩
  · have n5 : 55296 ≤ r := by omega
    have n6 : ¬ r ≤ 57343 := by omega
    go_enter Tryz.func141, Tryz.ntmps141
    go_wp2
    go_ret
    exact ⟨rfl, (Below.refl _ w).alloc (Nat.le_refl _) _⟩

set_option maxHeartbeats 4000000 in
set_option maxRecDepth 100000 in
theorem enc4 (r : Int) (w : World) (h0 : 65536 ≤ r) (h1 : r ≤ 1114111) :
    Calls Tryz.prog 141 #[.int .i32 r] w fun e w' => e = .returned (.string ⟨(Lib.encodeRune r).toArray⟩) ∧ Below w.heap.size w w' := by
  have hc := str_fresh w #[.int .u8 (240 + r / 262144), .int .u8 (128 + r / 4096 % 64), .int .u8 (128 + r / 64 % 64), .int .u8 (128 + r % 64)] [240 + r / 262144, 128 + r / 4096 % 64, 128 + r / 64 % 64, 128 + r % 64] 4 rfl rfl
  unfold Lib.encodeRune
  rw [Lib.encodeRuneZ_four h0 h1]
  have b1 := and63 r (by omega) (by omega)
  have b4 := and63 (r / 64) (by omega) (by omega)
  have b6 := and63 (r / 4096) (by omega) (by omega)
  have b2 : bits .or .i32 128 (r % 64) = 128 + r % 64 := i32_or6 _ _ (by omega) (by omega) (by omega) (by omega) (by omega)
  have b5 : bits .or .i32 128 (r / 64 % 64) = 128 + r / 64 % 64 := i32_or6 _ _ (by omega) (by omega) (by omega) (by omega) (by omega)
  have b7 : bits .or .i32 128 (r / 4096 % 64) = 128 + r / 4096 % 64 := i32_or6 _ _ (by omega) (by omega) (by omega) (by omega) (by omega)
  have b3 : bits .or .i32 240 (r / 262144) = 240 + r / 262144 := bits_join .i32 31 (by decide) wraps_i32 3 240 _ (by decide) (by decide) (by decide) (by omega) (by omega) (by omega)
  have f1 : r / 262144 < 8 := by omega
  have f2 : 0 ≤ r / 262144 := by omega
  have f3 : 0 ≤ r % 64 := by omega
  have f4 : r % 64 < 64 := by omega
  have f5 : 0 ≤ r / 64 % 64 := by omega
  have f6 : r / 64 % 64 < 64 := by omega
  have f7 : 0 ≤ r / 4096 % 64 := by omega
  have f8 : r / 4096 % 64 < 64 := by omega
  go_enter Tryz.func141, Tryz.ntmps141
  go_wp2
  go_ret
  exact ⟨rfl, (Below.refl _ w).alloc (Nat.le_refl _) _⟩

set_option maxHeartbeats 4000000 in
set_option maxRecDepth 100000 in
theorem encBad (r : Int) (w : World) (h : r < 0 ∨ (55296 ≤ r ∧ r ≤ 57343) ∨ 1114111 < r) :
    Calls Tryz.prog 141 #[.int .i32 r] w fun e w' => e = .returned (.string ⟨(Lib.encodeRune r).toArray⟩) ∧ Below w.heap.size w w' := by
  have hb := fun W => enc3 65533 W (by omega)
  have e1 : Lib.encodeRune 65533 = Lib.encodeRune r := by
    unfold Lib.encodeRune
    rw [Lib.encodeRuneZ_bad h]
    decide
  rw [e1] at hb
  clear e1
  rcases h with h | ⟨h, h2⟩ | h
  · go_enter Tryz.func141, Tryz.ntmps141
    go_wp2_with (go_at_call 141; refine (hb _).mono ?_; rintro e w1 ⟨rfl, hw⟩)
    go_ret
    exact ⟨rfl, hw⟩
  · go_enter Tryz.func141, Tryz.ntmps141
    go_wp2_with (go_at_call 141; refine (hb _).mono ?_; rintro e w1 ⟨rfl, hw⟩)
    go_ret
    exact ⟨rfl, hw⟩
  · go_enter Tryz.func141, Tryz.ntmps141
    go_wp2_with (go_at_call 141; refine (hb _).mono ?_; rintro e w1 ⟨rfl, hw⟩)
    go_ret
    exact ⟨rfl, hw⟩

/-- **The reference's Encode, at every int32.** -/
theorem encode_any (r : Int) (w : World) :
    Calls Tryz.prog 141 #[.int .i32 r] w fun e w' => e = .returned (.string ⟨(Lib.encodeRune r).toArray⟩) ∧ Below w.heap.size w w' := by
  by_cases hb : r < 0 ∨ (55296 ≤ r ∧ r ≤ 57343) ∨ 1114111 < r
  · exact encBad r w hb
  · by_cases h1 : r < 128
    · exact enc1 r w (by omega) h1
    · by_cases h2 : r < 2048
      · exact enc2 r w (by omega) h2
      · by_cases h3 : r < 65536
        · exact enc3 r w (by omega)
        · exact enc4 r w (by omega) (by omega)
end Go.Proofs.YtmplfiflikhpjaaGreatDoor
/-
  The reference's Digit: the value of a hexadecimal digit.
-/
namespace Go.Proofs.YtmplfiflikhpjaaGreatDoor
open Go.RowKit

/-! ### Digit -/
def digZ (c : UInt8) : Int :=
  if 48 ≤ c.toNat ∧ c.toNat ≤ 57 then (c.toNat : Int) - 48 else if 97 ≤ c.toNat ∧ c.toNat ≤ 102 then (c.toNat : Int) - 87 else if 65 ≤ c.toNat ∧ c.toNat ≤ 70 then (c.toNat : Int) - 55 else -1
set_option maxHeartbeats 4000000 in
set_option maxRecDepth 100000 in
theorem digit_any (c : UInt8) (w : World) :
    Calls Tryz.prog 96 #[.int .u8 (c.toNat : Int)] w fun e w' => e = .returned (.int .i64 (digZ c)) ∧ w' = w := by
  have hlt : c.toNat < 256 := c.toNat_lt
  obtain ⟨x, hx⟩ : ∃ x : Int, x = (c.toNat : Int) := ⟨_, rfl⟩
  have x0 : 0 ≤ x := by omega
  have x1 : x ≤ 255 := by omega
  unfold digZ
  rw [← hx]
  by_cases h1 : 48 ≤ c.toNat ∧ c.toNat ≤ 57
  · rw [if_pos h1]
    have a0 : 48 ≤ x := by omega
    have a1 : x ≤ 57 := by omega
    clear hx h1 hlt
    go_enter Tryz.func96, Tryz.ntmps96
    go_wp2
    go_ret
    exact ⟨rfl, rfl⟩
  · rw [if_neg h1]
    by_cases h2 : 97 ≤ c.toNat ∧ c.toNat ≤ 102
    · rw [if_pos h2]
      have a0 : 97 ≤ x := by omega
      have a1 : x ≤ 102 := by omega
      clear hx h1 h2 hlt
      go_enter Tryz.func96, Tryz.ntmps96
      go_wp2
      go_ret
      exact ⟨ret_int (by omega), rfl⟩
    · rw [if_neg h2]
      by_cases h3 : 65 ≤ c.toNat ∧ c.toNat ≤ 70
      · rw [if_pos h3]
        have a0 : 65 ≤ x := by omega
        have a1 : x ≤ 70 := by omega
        clear hx h1 h2 h3 hlt
        go_enter Tryz.func96, Tryz.ntmps96
        go_wp2
        go_ret
        exact ⟨ret_int (by omega), rfl⟩
      · rw [if_neg h3]
        have hh : x < 48 ∨ (57 < x ∧ x < 65) ∨ (70 < x ∧ x < 97) ∨ 102 < x := by omega
        clear hx h1 h2 h3 hlt
        rcases hh with h | ⟨h, h'⟩ | ⟨h, h'⟩ | h
        all_goals
          go_enter Tryz.func96, Tryz.ntmps96
          go_wp2
          go_ret
          exact ⟨rfl, rfl⟩

end Go.Proofs.YtmplfiflikhpjaaGreatDoor
/-
  The reference's At (chapter 9): what it answers, at every text; and that it is ent.At's answer.
-/
namespace Go.Proofs.YtmplfiflikhpjaaGreatDoor
open Go.RowKit

/-! ### begins -/
set_option maxHeartbeats 4000000 in
set_option maxRecDepth 100000 in
theorem begins_any (s p : ByteArray) (w : World) :
    Calls Tryz.prog 140 #[.string s, .string p] w fun e w' => e = .returned (.bool (p.data.toList.isPrefixOf s.data.toList)) ∧ w' = w := by
  have hpre : p.size ≤ s.size → ((s.extract 0 p.size).toList == p.toList) = p.data.toList.isPrefixOf s.data.toList := fun h => by
    rw [ByteArray.toList_eq, ByteArray.toList_eq, take_text]
    simp only
    rw [Bool.eq_iff_iff, beq_iff_eq, List.isPrefixOf_iff_prefix, List.prefix_iff_eq_take, ← Lib.size_eq]
    exact eq_comm
  by_cases h : p.size ≤ s.size
  · have hb := hpre h
    clear hpre
    obtain ⟨b, hbb⟩ : ∃ b, b = p.data.toList.isPrefixOf s.data.toList := ⟨_, rfl⟩
    rw [← hbb] at hb ⊢
    clear hbb
    have hi : (p.size : Int) ≤ s.size := by omega
    go_enter Tryz.func140, Tryz.ntmps140
    go_wp2
    go_ret
    exact ⟨rfl, rfl⟩
  · have hb : p.data.toList.isPrefixOf s.data.toList = false := by
      rw [Bool.eq_false_iff]
      intro hc
      have := (List.isPrefixOf_iff_prefix.1 hc).length_le
      rw [← Lib.size_eq, ← Lib.size_eq] at this
      omega
    rw [hb]
    clear hb hpre
    have hi : ¬ (p.size : Int) ≤ s.size := by omega
    go_enter Tryz.func140, Tryz.ntmps140
    go_wp2
    go_ret
    exact ⟨rfl, rfl⟩

/-! ### named -/
def nine : List (List UInt8 × List UInt8) :=
  [([97, 109, 112], [38]), ([108, 116], [60]), ([103, 116], [62]), ([113, 117, 111, 116], [34]), ([97, 112, 111, 115], [39]),
   ([110, 98, 115, 112], [194, 160]), ([99, 111, 112, 121], [194, 169]), ([104, 101, 108, 108, 105, 112], [226, 128, 166]), ([109, 100, 97, 115, 104], [226, 128, 148])]
def key (n : List UInt8) : List UInt8 := 38 :: n ++ [59]
/-- The first of the nine that a text begins with. -/
def firstOf : List (List UInt8 × List UInt8) → List UInt8 → List UInt8 × Nat
  | [], _ => ([], 0)
  | (n, v) :: t, s => if (key n).isPrefixOf s = true then (v, n.length + 2) else firstOf t s
def keyB (m : Nat) : ByteArray := ⟨(key (nine.getD m ([], [])).1).toArray⟩
def valB (m : Nat) : ByteArray := ⟨(nine.getD m ([], [])).2.toArray⟩

theorem pw_below_drewN {B : Nat} {w W : World} (h : Below B w W) (n : Nat) : Below B w (W.drewN n) := ⟨h.os, h.tape, h.output, h.size, h.block⟩
theorem firstOf_drop (l : List UInt8) (m : Nat) (hm : m < 9) : firstOf (nine.drop m) l = if (keyB m).data.toList.isPrefixOf l = true then ((valB m).data.toList, (keyB m).size) else firstOf (nine.drop (m + 1)) l := by
  match m, hm with
  | 0, _ | 1, _ | 2, _ | 3, _ | 4, _ | 5, _ | 6, _ | 7, _ | 8, _ => rfl
/-- The cells of the list of nine. -/
def NineAt (g : Nat) (W : World) : Prop := ∀ (m : Nat), m < 9 → W.cell? ⟨g, 2 * m, none⟩ = some (.string (keyB m)) ∧ W.cell? ⟨g, 2 * m + 1, none⟩ = some (.string (valB m))

set_option maxHeartbeats 8000000 in
set_option maxRecDepth 100000 in
theorem refNamed_any (s : ByteArray) (w : World) :
    Calls Tryz.prog 139 #[.string s] w fun e w' => e = .returned (entRes (firstOf nine s.data.toList)) ∧ Below w.heap.size w w' := by
  have hcell : NineAt w.heap.size (w.alloc (.cells #[.string (keyB 0), .string (valB 0), .string (keyB 1), .string (valB 1), .string (keyB 2), .string (valB 2), .string (keyB 3), .string (valB 3), .string (keyB 4), .string (valB 4), .string (keyB 5), .string (valB 5), .string (keyB 6), .string (valB 6), .string (keyB 7), .string (valB 7), .string (keyB 8), .string (valB 8)] 9)) := fun m hm => by
    rw [Lib.cell_of_heap (heap_alloc_new w _), Lib.cell_of_heap (heap_alloc_new w _)]
    match m, hm with
    | 0, _ | 1, _ | 2, _ | 3, _ | 4, _ | 5, _ | 6, _ | 7, _ | 8, _ => exact ⟨rfl, rfl⟩
  have HC := Lib.hid hcell
  clear hcell
  go_enter Tryz.func139, Tryz.ntmps139
  go_wp2
  go_loopw [5] (fun i wr => ∃ m : Nat, m ≤ 9 ∧ i = .int .i64 ((2 * m : Nat) : Int) ∧ Hid (NineAt w.heap.size wr) ∧ Hid (firstOf nine s.data.toList = firstOf (nine.drop m) s.data.toList) ∧ Below w.heap.size w wr) (fun i _ => 18 - (intOf i).toNat)
  case atStart => exact ⟨0, by omega, rfl, HC, Lib.hid rfl, (Below.refl _ w).alloc (Nat.le_refl _) _⟩
  case round =>
    obtain ⟨m, hm, rfl, HN, HF, hbw⟩ := hrel
    clear HC
    by_cases hlt : m < 9
    · obtain ⟨c0, c1⟩ := HN.out m hlt
      have hfd := firstOf_drop s.data.toList m hlt
      rw [← HF.out] at hfd
      have hb := fun W => begins_any s (keyB m) W
      obtain ⟨k, hk⟩ : ∃ k, k = 2 * m := ⟨_, rfl⟩
      have hk18 : k + 1 < 18 := by omega
      rw [← hk] at c0 c1 ⊢
      have HK := Lib.hid hk
      clear hk HF hm
      generalize keyB m = kb at c0 hb hfd
      generalize valB m = vb at c1 hfd
      have hki : (k : Int) < 18 := by omega
      have hki1 : (k : Int) + 1 < 18 := by omega
      cases hp : kb.data.toList.isPrefixOf s.data.toList with
      | true =>
        rw [hp] at hb hfd
        rw [if_pos rfl] at hfd
        have hres : entRes (firstOf nine s.data.toList) = .tuple #[.string vb, .int .i64 (kb.size : Int)] := by rw [hfd]; rfl
        have HR := Lib.hid hres
        clear hres hfd hp HN
        go_wp2_with (go_at_call 140; refine (hb _).mono ?_; rintro e w1 ⟨rfl, rfl⟩)
        go_quiet (fail)
        go_wp2
        go_ret2
        exact ⟨by rw [HR.out]; rfl, pw_below_drewN hbw _⟩
      | false =>
        rw [hp] at hb hfd
        rw [if_neg (by simp)] at hfd
        have HD := Lib.hid hfd
        clear hfd hp
        go_wp2_with (go_at_call 140; refine (hb _).mono ?_; rintro e w1 ⟨rfl, rfl⟩)
        go_roundw
        case rel => exact ⟨m + 1, by omega, by rw [HK.out]; go_num, HN, HD, hbw⟩
        case measure => simp [intOf]; omega
    · have hme : m = 9 := by omega
      subst hme
      have hres : entRes (firstOf nine s.data.toList) = .tuple #[.string (⟨#[]⟩ : ByteArray), .int .i64 0] := by rw [HF.out]; rfl
      have HR := Lib.hid hres
      clear hres HF HN
      go_wp2
      go_ret2
      exact ⟨by rw [HR.out]; rfl, hbw⟩
end Go.Proofs.YtmplfiflikhpjaaGreatDoor
/-
  The reference's At (chapter 9): its numbers, its answer at every text, and that it is ent.At's.
-/
namespace Go.Proofs.YtmplfiflikhpjaaGreatDoor
open Go.RowKit

def isDig (base : Nat) (c : UInt8) : Bool := decide (0 ≤ digZ c) && decide (digZ c < (base : Int))
/-- The digits that a text begins with, so many at the most. -/
def digs (base : Nat) : Nat → List UInt8 → List UInt8
  | 0, _ => []
  | _ + 1, [] => []
  | n + 1, c :: t => if isDig base c = true then c :: digs base n t else []
def refNum (base most at0 : Nat) (r : List UInt8) : List UInt8 × Nat :=
  if digs base most r = [] ∨ (r.drop (digs base most r).length).head? ≠ some 59 then ([], 0)
  else (Lib.encodeRune ((if Spec.numV base (digs base most r) = 0 then 65533 else Spec.numV base (digs base most r) : Nat) : Int), at0 + (digs base most r).length + 1)

theorem digs_take (base : Nat) : ∀ (most : Nat) (r : List UInt8) (k : Nat), k ≤ most → (∀ c ∈ r.take k, isDig base c = true) → k ≤ r.length → (k = most ∨ k = r.length ∨ ∃ c, r[k]? = some c ∧ isDig base c = false) → digs base most r = r.take k := by
  intro most
  induction most with
  | zero =>
    intro r k hk _ _ _
    obtain rfl : k = 0 := by omega
    rfl
  | succ n ih =>
    intro r k hk hd hkr hend
    cases r with
    | nil =>
      obtain rfl : k = 0 := by simpa using hkr
      rfl
    | cons c t =>
      cases k with
      | zero =>
        rcases hend with h | h | ⟨d, h, h2⟩
        · omega
        · simp at h
        · simp at h
          subst h
          unfold digs
          rw [h2]
          rfl
      | succ k =>
        have hc := hd c (by simp)
        unfold digs
        rw [hc, if_pos rfl, List.take_succ_cons]
        congr 1
        refine ih t k (by omega) (fun x hx => hd x (by simp [hx])) (by simpa using hkr) ?_
        rcases hend with h | h | ⟨d, h, h2⟩
        · exact .inl (by omega)
        · exact .inr (.inl (by simpa using h))
        · exact .inr (.inr ⟨d, by simpa using h, h2⟩)
theorem digZ_val (c : UInt8) (h : 0 ≤ digZ c) : digZ c = (Spec.digV c : Int) ∧ digZ c < 16 := by
  unfold digZ at h ⊢
  unfold Spec.digV
  split
  · rename_i h1; rw [if_pos h1.2]; omega
  · rename_i h1
    split
    · rename_i h2; rw [if_neg (by omega), if_pos h2.1]; omega
    · rename_i h2
      split
      · rename_i h3; rw [if_neg (by omega), if_neg (by omega)]; omega
      · rename_i h3
        rw [if_neg h1, if_neg h2, if_neg h3] at h
        exact absurd h (by decide)
theorem isDig_iff (base : Nat) (c : UInt8) : isDig base c = true ↔ 0 ≤ digZ c ∧ digZ c < base := by
  unfold isDig; simp
theorem digZ_ge (c : UInt8) : -1 ≤ digZ c := by
  unfold digZ; repeat' split
  all_goals omega

set_option maxHeartbeats 16000000 in
set_option maxRecDepth 100000 in
theorem refAt10 (s : ByteArray) (w : World) (hs : s.size ≤ 1000000) (h2 : 2 ≤ s.size) (hN : ∀ W, Calls Tryz.prog 139 #[.string s] W fun e w' => e = .returned (.tuple #[.string (⟨#[]⟩ : ByteArray), .int .i64 0]) ∧ Below W.heap.size W w')
    (hBg : ∀ W, Calls Tryz.prog 140 #[.string s, .string (⟨#[38, 35]⟩ : ByteArray)] W fun e w' => e = .returned (.bool true) ∧ w' = W)
    (hx : ∀ h : 2 < s.size, ((((s[2]'h).toNat : Nat) : Int) == 120) = false ∧ ((((s[2]'h).toNat : Nat) : Int) == 88) = false) :
    Calls Tryz.prog 98 #[.string s] w fun e w' => e = .returned (entRes (refNum 10 7 2 (s.data.toList.drop 2))) ∧ Below w.heap.size w w' := by
  obtain ⟨r, hr⟩ : ∃ r, r = s.data.toList.drop 2 := ⟨_, rfl⟩
  have hrl : r.length + 2 = s.size := by rw [hr, List.length_drop, ← Lib.size_eq]; omega
  have hrk : ∀ k (h : 2 + k < s.size), r[k]? = some (s[2 + k]'h) := fun k h => by
    rw [hr, List.getElem?_drop]; exact at_list s _ h
  rw [← hr]
  have HR := Lib.hid hr
  clear hr
  have hh : (∃ h : 2 < s.size, (2 : Int) < s.size ∧ ((((s[2]'h).toNat : Nat) : Int) == 120) = false ∧ ((((s[2]'h).toNat : Nat) : Int) == 88) = false) ∨ ¬ (2 : Int) < s.size := by
    by_cases h3 : 2 < s.size
    · exact .inl ⟨h3, by omega, hx h3⟩
    · exact .inr (by omega)
  clear hx
  rcases hh with ⟨h3, h3i, hx1, hx2⟩ | h3i
  all_goals
    go_enter Tryz.func98, Tryz.ntmps98
    go_wp2_with (first | (go_at_call 139; refine (hN _).mono ?_; rintro e wb ⟨rfl, hb0⟩) | (go_at_call 140; refine (hBg _).mono ?_; rintro e wc ⟨rfl, rfl⟩))
    go_loop [8, 9] (fun vat v => ∃ (k : Nat) (a : Int), vat = .int .i64 ((2 + k : Nat) : Int) ∧ v = .int .i64 a ∧ k ≤ 7 ∧ 2 + k ≤ s.size ∧ Hid (a = ((Spec.numV 10 (r.take k) : Nat) : Int)) ∧ Hid (∀ c ∈ r.take k, isDig 10 c = true)) (fun vat _ => s.size - (intOf vat).toNat)
    case atStart => exact ⟨0, 0, rfl, rfl, by omega, by omega, Lib.hid rfl, Lib.hid (fun c hc => by simp at hc)⟩
    case round =>
      obtain ⟨k, a, rfl, rfl, hkm, hks, HA, HD⟩ := hrel
      have hlt := numV_lt 10 (r.take k) (fun c hc => by
        have h1 := (isDig_iff 10 c).1 (HD.out c hc)
        have h2 := digZ_val c h1.1
        omega)
      have hpp : (10 : Nat) ^ (r.take k).length ≤ 10 ^ 7 := Nat.pow_le_pow_right (by decide) (by simp; omega)
      have hpn : (10 : Nat) ^ 7 ≤ 16777216 := by decide
      have a0 : 0 ≤ a := by rw [HA.out]; omega
      have a1 : a ≤ 16777216 := by rw [HA.out]; omega
      clear hlt hpp hpn hN hBg
      obtain ⟨p, hp⟩ : ∃ p, p = 2 + k := ⟨_, rfl⟩
      have HP := Lib.hid hp
      rw [← hp] at hks ⊢
      have hpk : p = 2 + k := hp
      have hkr : k ≤ r.length := by omega
      by_cases hlen : p < s.size
      · have heq : ∀ (q : Nat) (hq : q < s.size), q = p → s[q]'hq = s[p]'hlen := fun q hq e => by subst e; rfl
        obtain ⟨c, hat, hc⟩ : ∃ c, r[k]? = some c ∧ c = s[p]'hlen := ⟨s[p]'hlen, (hrk k (by omega)).trans (congrArg some (heq _ _ hp.symm)), rfl⟩
        have hg : ((s[p]'hlen).toNat : Int) = (c.toNat : Int) := by rw [hc]
        have HC := Lib.hid hc
        have HG := Lib.hid hg
        clear hc hg hrk heq
        have hdg : ∀ W, Calls Tryz.prog 96 #[.int .u8 ((s[p]'hlen).toNat : Int)] W fun e w' => e = .returned (.int .i64 (digZ c)) ∧ w' = W := fun W => by rw [HG.out]; exact digit_any c W
        have hge := digZ_ge c
        have hpi : (p : Int) < s.size := by omega
        by_cases hk7 : k < 7
        · have hki : (p : Int) - 2 < 7 := by omega
          by_cases hd : 0 ≤ digZ c ∧ digZ c < 10
          · -- a digit more
            have hv := digZ_val c hd.1
            have hts : r.take (k + 1) = r.take k ++ [c] := by
              have hkl : k < r.length := by omega
              rw [List.getElem?_eq_getElem hkl] at hat
              rw [List.take_succ_eq_append_getElem hkl, Option.some.inj hat]
            have HN2 : Hid (a * 10 + digZ c = ((Spec.numV 10 (r.take (k + 1)) : Nat) : Int)) := Lib.hid (by rw [hts, numV_snoc, HA.out, hv.1]; push_cast; rfl)
            have HD2 : Hid (∀ x ∈ r.take (k + 1), isDig 10 x = true) := Lib.hid (fun x hx => by
              rw [hts] at hx
              rcases List.mem_append.1 hx with h | h
              · exact HD.out x h
              · simp at h; subst h; exact (isDig_iff 10 x).2 hd)
            obtain ⟨z, hz⟩ : ∃ z, z = digZ c := ⟨_, rfl⟩
            rw [← hz] at hdg hd HN2 hge
            obtain ⟨d0, d1⟩ := hd
            clear hz hts hv hat HA HD hge hp hpk hkr hrl
            go_wp2_with (go_at_call 96; refine (hdg _).mono ?_; rintro e wd ⟨rfl, rfl⟩)
            go_round
            case rel => exact ⟨k + 1, a * 10 + z, by rw [HP.out]; go_num, rfl, by omega, by have := HP.out; omega, HN2, HD2⟩
            case measure => simp [intOf]; omega
          · -- no digit: the number ends here
            have hds : digs 10 7 r = r.take k := digs_take 10 7 r k hkm HD.out hkr (.inr (.inr ⟨c, hat, by rw [Bool.eq_false_iff]; exact fun h => hd ((isDig_iff 10 c).1 h)⟩))
            have hlenk : (r.take k).length = k := by rw [List.length_take]; omega
            have hhead : (r.drop k).head? = some c := by rw [List.head?_drop]; exact hat
            have hspec : refNum 10 7 2 r = if k = 0 ∨ c ≠ 59 then ([], 0) else (Lib.encodeRune ((if a = 0 then 65533 else a) : Int), p + 1) := by
              unfold refNum
              rw [hds, hlenk, hhead, hp]
              have e1 : r.take k = [] ↔ k = 0 := by rw [← List.length_eq_zero_iff, hlenk]
              have e2 : (Spec.numV 10 (r.take k) = 0) ↔ a = 0 := by rw [HA.out]; omega
              by_cases hz : k = 0 ∨ c ≠ 59
              · rw [if_pos hz, if_pos (hz.imp e1.2 (fun h e => h (Option.some.inj e)))]
              · rw [if_neg hz, if_neg (fun h => hz (h.imp e1.1 (fun h2 e3 => h2 (by rw [e3]))))]
                by_cases ha : a = 0
                · rw [if_pos ha, if_pos (e2.2 ha)]; rfl
                · rw [if_neg ha, if_neg (fun h => ha (e2.1 h)), HA.out]
            have HS := Lib.hid hspec
            have hdd : digZ c = -1 ∨ 10 ≤ digZ c := by omega
            have HNE : Hid (10 ≤ digZ c → c ≠ 59) := Lib.hid (fun h e => by rw [e] at h; exact absurd h (by decide))
            obtain ⟨z, hz⟩ : ∃ z, z = digZ c := ⟨_, rfl⟩
            rw [← hz] at hdg hdd hge HNE
            clear hz hds hlenk hhead hspec hat hd HA HD hkr hrl
            have hpk0 : k = 0 ∨ 0 < k := by omega
            rcases hdd with hdd | hdd
            · subst hdd
              rcases hpk0 with h0 | h0
              · have hpp : p = 2 := by omega
                subst hpp
                have HF : Hid (entRes (refNum 10 7 2 r) = .tuple #[.string (⟨#[]⟩ : ByteArray), .int .i64 0]) := Lib.hid (by rw [HS.out, if_pos (.inl h0)]; rfl)
                clear HS h0 hpk hp hkm
                go_wp2_with (go_at_call 96; refine (hdg _).mono ?_; rintro e wd ⟨rfl, rfl⟩)
                all_goals go_ret2
                all_goals exact ⟨by rw [HF.out]; rfl, hb0⟩
              · have hne : ((p : Int) == 2) = false := beq_eq_false_iff_ne.2 (by omega)
                have hne2 : ((p : Int) == (s.size : Int)) = false := beq_eq_false_iff_ne.2 (by omega)
                by_cases h59 : c = 59
                · have hb59 : (((s[p]'hlen).toNat : Int) != 59) = false := bne_eq_false_iff_eq.2 (by rw [HG.out, h59]; rfl)
                  by_cases ha : a = 0
                  · have he := fun W => encode_any 65533 W
                    have HF : Hid (entRes (refNum 10 7 2 r) = .tuple #[.string ⟨(Lib.encodeRune 65533).toArray⟩, .int .i64 ((p : Int) + 1)]) := Lib.hid (by rw [HS.out, if_neg (fun h => h.elim (fun e => by omega) (fun e => e h59)), if_pos ha]; rfl)
                    clear HS h0 hpk hp hkm h59
                    subst ha
                    go_wp2_with (first | (go_at_call 96; refine (hdg _).mono ?_; rintro e wd ⟨rfl, rfl⟩) | (go_at_call 141; refine (he _).mono ?_; rintro e we ⟨rfl, hbe⟩))
                    all_goals go_ret2
                    all_goals exact ⟨by rw [HF.out]; rfl, hb0.trans (hbe.mono hb0.size)⟩
                  · have he := fun W => encode_any a W
                    have hane : (a == 0) = false := beq_eq_false_iff_ne.2 ha
                    have HF : Hid (entRes (refNum 10 7 2 r) = .tuple #[.string ⟨(Lib.encodeRune a).toArray⟩, .int .i64 ((p : Int) + 1)]) := Lib.hid (by rw [HS.out, if_neg (fun h => h.elim (fun e => by omega) (fun e => e h59)), if_neg ha]; rfl)
                    clear HS h0 hpk hp hkm h59 ha
                    go_wp2_with (first | (go_at_call 96; refine (hdg _).mono ?_; rintro e wd ⟨rfl, rfl⟩) | (go_at_call 141; refine (he _).mono ?_; rintro e we ⟨rfl, hbe⟩))
                    all_goals go_ret2
                    all_goals exact ⟨by rw [HF.out]; rfl, hb0.trans (hbe.mono hb0.size)⟩
                · have hb59 : (((s[p]'hlen).toNat : Int) != 59) = true := bne_iff_ne.2 (by rw [HG.out]; intro e; exact h59 (UInt8.toNat_inj.1 (by have : (59 : UInt8).toNat = 59 := rfl; omega)))
                  have HF : Hid (entRes (refNum 10 7 2 r) = .tuple #[.string (⟨#[]⟩ : ByteArray), .int .i64 0]) := Lib.hid (by rw [HS.out, if_pos (.inr h59)]; rfl)
                  clear HS h0 hpk hp hkm h59
                  go_wp2_with (go_at_call 96; refine (hdg _).mono ?_; rintro e wd ⟨rfl, rfl⟩)
                  all_goals go_ret2
                  all_goals exact ⟨by rw [HF.out]; rfl, hb0⟩
            · have h59 : c ≠ 59 := HNE.out hdd
              rcases hpk0 with h0 | h0
              · have hpp : p = 2 := by omega
                subst hpp
                have HF : Hid (entRes (refNum 10 7 2 r) = .tuple #[.string (⟨#[]⟩ : ByteArray), .int .i64 0]) := Lib.hid (by rw [HS.out, if_pos (.inl h0)]; rfl)
                clear HS h0 hpk hp hkm
                go_wp2_with (go_at_call 96; refine (hdg _).mono ?_; rintro e wd ⟨rfl, rfl⟩)
                all_goals go_ret2
                all_goals exact ⟨by rw [HF.out]; rfl, hb0⟩
              · have hne : ((p : Int) == 2) = false := beq_eq_false_iff_ne.2 (by omega)
                have hne2 : ((p : Int) == (s.size : Int)) = false := beq_eq_false_iff_ne.2 (by omega)
                have hb59 : (((s[p]'hlen).toNat : Int) != 59) = true := bne_iff_ne.2 (by rw [HG.out]; intro e; exact h59 (UInt8.toNat_inj.1 (by have : (59 : UInt8).toNat = 59 := rfl; omega)))
                have HF : Hid (entRes (refNum 10 7 2 r) = .tuple #[.string (⟨#[]⟩ : ByteArray), .int .i64 0]) := Lib.hid (by rw [HS.out, if_pos (.inr h59)]; rfl)
                clear HS h0 hpk hp hkm h59
                go_wp2_with (go_at_call 96; refine (hdg _).mono ?_; rintro e wd ⟨rfl, rfl⟩)
                all_goals go_ret2
                all_goals exact ⟨by rw [HF.out]; rfl, hb0⟩
        · -- as many as may be
          have hkm' : k = 7 := by omega
          have hds : digs 10 7 r = r.take k := digs_take 10 7 r k hkm HD.out hkr (.inl hkm')
          have hlenk : (r.take k).length = k := by rw [List.length_take]; omega
          have hhead : (r.drop k).head? = some c := by rw [List.head?_drop]; exact hat
          have hspec : refNum 10 7 2 r = if k = 0 ∨ c ≠ 59 then ([], 0) else (Lib.encodeRune ((if a = 0 then 65533 else a) : Int), p + 1) := by
            unfold refNum
            rw [hds, hlenk, hhead, hp]
            have e1 : r.take k = [] ↔ k = 0 := by rw [← List.length_eq_zero_iff, hlenk]
            have e2 : (Spec.numV 10 (r.take k) = 0) ↔ a = 0 := by rw [HA.out]; omega
            by_cases hz : k = 0 ∨ c ≠ 59
            · rw [if_pos hz, if_pos (hz.imp e1.2 (fun h e => h (Option.some.inj e)))]
            · rw [if_neg hz, if_neg (fun h => hz (h.imp e1.1 (fun h2 e3 => h2 (by rw [e3]))))]
              by_cases ha : a = 0
              · rw [if_pos ha, if_pos (e2.2 ha)]; rfl
              · rw [if_neg ha, if_neg (fun h => ha (e2.1 h)), HA.out]
          have HS := Lib.hid hspec
          have h0 : 0 < k := by omega
          have hki : ¬ (p : Int) - 2 < 7 := by omega
          clear hds hlenk hhead hspec hat HA HD hkr hrl hge hk7 hkm'
          have hne : ((p : Int) == 2) = false := beq_eq_false_iff_ne.2 (by omega)
          have hne2 : ((p : Int) == (s.size : Int)) = false := beq_eq_false_iff_ne.2 (by omega)
          by_cases h59 : c = 59
          · have hb59 : (((s[p]'hlen).toNat : Int) != 59) = false := bne_eq_false_iff_eq.2 (by rw [HG.out, h59]; rfl)
            by_cases ha : a = 0
            · have he := fun W => encode_any 65533 W
              have HF : Hid (entRes (refNum 10 7 2 r) = .tuple #[.string ⟨(Lib.encodeRune 65533).toArray⟩, .int .i64 ((p : Int) + 1)]) := Lib.hid (by rw [HS.out, if_neg (fun h => h.elim (fun e => by omega) (fun e => e h59)), if_pos ha]; rfl)
              clear HS h0 hpk hp hkm h59
              subst ha
              go_wp2_with (first | (go_at_call 96; refine (hdg _).mono ?_; rintro e wd ⟨rfl, rfl⟩) | (go_at_call 141; refine (he _).mono ?_; rintro e we ⟨rfl, hbe⟩))
              all_goals go_ret2
              all_goals exact ⟨by rw [HF.out]; rfl, hb0.trans (hbe.mono hb0.size)⟩
            · have he := fun W => encode_any a W
              have hane : (a == 0) = false := beq_eq_false_iff_ne.2 ha
              have HF : Hid (entRes (refNum 10 7 2 r) = .tuple #[.string ⟨(Lib.encodeRune a).toArray⟩, .int .i64 ((p : Int) + 1)]) := Lib.hid (by rw [HS.out, if_neg (fun h => h.elim (fun e => by omega) (fun e => e h59)), if_neg ha]; rfl)
              clear HS h0 hpk hp hkm h59 ha
              go_wp2_with (first | (go_at_call 96; refine (hdg _).mono ?_; rintro e wd ⟨rfl, rfl⟩) | (go_at_call 141; refine (he _).mono ?_; rintro e we ⟨rfl, hbe⟩))
              all_goals go_ret2
              all_goals exact ⟨by rw [HF.out]; rfl, hb0.trans (hbe.mono hb0.size)⟩
          · have hb59 : (((s[p]'hlen).toNat : Int) != 59) = true := bne_iff_ne.2 (by rw [HG.out]; intro e; exact h59 (UInt8.toNat_inj.1 (by have : (59 : UInt8).toNat = 59 := rfl; omega)))
            have HF : Hid (entRes (refNum 10 7 2 r) = .tuple #[.string (⟨#[]⟩ : ByteArray), .int .i64 0]) := Lib.hid (by rw [HS.out, if_pos (.inr h59)]; rfl)
            clear HS h0 hpk hp hkm h59
            go_wp2_with (go_at_call 96; refine (hdg _).mono ?_; rintro e wd ⟨rfl, rfl⟩)
            all_goals go_ret2
            all_goals exact ⟨by rw [HF.out]; rfl, hb0⟩
      · -- the text is through
        have hpe : p = s.size := by omega
        have hks0 : k = r.length := by omega
        have hds : digs 10 7 r = r.take k := digs_take 10 7 r k hkm HD.out hkr (.inr (.inl hks0))
        have hlenk : (r.take k).length = k := by rw [List.length_take]; omega
        have HF : Hid (entRes (refNum 10 7 2 r) = .tuple #[.string (⟨#[]⟩ : ByteArray), .int .i64 0]) := Lib.hid (by
          unfold refNum
          rw [hds, hlenk, if_pos (.inr (by rw [List.head?_drop, List.getElem?_eq_none (by omega)]; simp))]
          rfl)
        have hpi : ¬ (p : Int) < s.size := by omega
        have hpk0 : k = 0 ∨ 0 < k := by omega
        have hb2 : ((p : Int) == (s.size : Int)) = true := beq_iff_eq.2 (by omega)
        clear hds hlenk HA HD hkr hrl hrk hks0 hpe
        rcases hpk0 with h0 | h0
        · have hb1 : ((p : Int) == 2) = true := beq_iff_eq.2 (by omega)
          clear h0 hpk hp hkm
          go_wp2
          all_goals go_ret2
          all_goals exact ⟨by rw [HF.out]; rfl, hb0⟩
        · have hb1 : ((p : Int) == 2) = false := beq_eq_false_iff_ne.2 (by omega)
          clear h0 hpk hp hkm
          go_wp2
          all_goals go_ret2
          all_goals exact ⟨by rw [HF.out]; rfl, hb0⟩

set_option maxHeartbeats 16000000 in
set_option maxRecDepth 100000 in
theorem refAt16 (s : ByteArray) (w : World) (hs : s.size ≤ 1000000) (h2 : 3 ≤ s.size) (hN : ∀ W, Calls Tryz.prog 139 #[.string s] W fun e w' => e = .returned (.tuple #[.string (⟨#[]⟩ : ByteArray), .int .i64 0]) ∧ Below W.heap.size W w')
    (hBg : ∀ W, Calls Tryz.prog 140 #[.string s, .string (⟨#[38, 35]⟩ : ByteArray)] W fun e w' => e = .returned (.bool true) ∧ w' = W)
    (hx : ∃ h : 2 < s.size, ((((s[2]'h).toNat : Nat) : Int) == 120) = true ∨ (((((s[2]'h).toNat : Nat) : Int) == 120) = false ∧ ((((s[2]'h).toNat : Nat) : Int) == 88) = true)) :
    Calls Tryz.prog 98 #[.string s] w fun e w' => e = .returned (entRes (refNum 16 6 3 (s.data.toList.drop 3))) ∧ Below w.heap.size w w' := by
  obtain ⟨r, hr⟩ : ∃ r, r = s.data.toList.drop 3 := ⟨_, rfl⟩
  have hrl : r.length + 3 = s.size := by rw [hr, List.length_drop, ← Lib.size_eq]; omega
  have hrk : ∀ k (h : 3 + k < s.size), r[k]? = some (s[3 + k]'h) := fun k h => by
    rw [hr, List.getElem?_drop]; exact at_list s _ h
  rw [← hr]
  have HR := Lib.hid hr
  clear hr
  obtain ⟨h3, hx⟩ := hx
  have h3i : (2 : Int) < s.size := by omega
  rcases hx with hx1 | ⟨hx1, hx2⟩
  all_goals
    go_enter Tryz.func98, Tryz.ntmps98
    go_wp2_with (first | (go_at_call 139; refine (hN _).mono ?_; rintro e wb ⟨rfl, hb0⟩) | (go_at_call 140; refine (hBg _).mono ?_; rintro e wc ⟨rfl, rfl⟩))
    go_loop [8, 9] (fun vat v => ∃ (k : Nat) (a : Int), vat = .int .i64 ((3 + k : Nat) : Int) ∧ v = .int .i64 a ∧ k ≤ 6 ∧ 3 + k ≤ s.size ∧ Hid (a = ((Spec.numV 16 (r.take k) : Nat) : Int)) ∧ Hid (∀ c ∈ r.take k, isDig 16 c = true)) (fun vat _ => s.size - (intOf vat).toNat)
    case atStart => exact ⟨0, 0, rfl, rfl, by omega, by omega, Lib.hid rfl, Lib.hid (fun c hc => by simp at hc)⟩
    case round =>
      obtain ⟨k, a, rfl, rfl, hkm, hks, HA, HD⟩ := hrel
      have hlt := numV_lt 16 (r.take k) (fun c hc => by
        have h1 := (isDig_iff 16 c).1 (HD.out c hc)
        have h2 := digZ_val c h1.1
        omega)
      have hpp : (16 : Nat) ^ (r.take k).length ≤ 16 ^ 6 := Nat.pow_le_pow_right (by decide) (by simp; omega)
      have hpn : (16 : Nat) ^ 6 ≤ 16777216 := by decide
      have a0 : 0 ≤ a := by rw [HA.out]; omega
      have a1 : a ≤ 16777216 := by rw [HA.out]; omega
      clear hlt hpp hpn hN hBg
      obtain ⟨p, hp⟩ : ∃ p, p = 3 + k := ⟨_, rfl⟩
      have HP := Lib.hid hp
      rw [← hp] at hks ⊢
      have hpk : p = 3 + k := hp
      have hkr : k ≤ r.length := by omega
      by_cases hlen : p < s.size
      · have heq : ∀ (q : Nat) (hq : q < s.size), q = p → s[q]'hq = s[p]'hlen := fun q hq e => by subst e; rfl
        obtain ⟨c, hat, hc⟩ : ∃ c, r[k]? = some c ∧ c = s[p]'hlen := ⟨s[p]'hlen, (hrk k (by omega)).trans (congrArg some (heq _ _ hp.symm)), rfl⟩
        have hg : ((s[p]'hlen).toNat : Int) = (c.toNat : Int) := by rw [hc]
        have HC := Lib.hid hc
        have HG := Lib.hid hg
        clear hc hg hrk heq
        have hdg : ∀ W, Calls Tryz.prog 96 #[.int .u8 ((s[p]'hlen).toNat : Int)] W fun e w' => e = .returned (.int .i64 (digZ c)) ∧ w' = W := fun W => by rw [HG.out]; exact digit_any c W
        have hge := digZ_ge c
        have hpi : (p : Int) < s.size := by omega
        by_cases hk7 : k < 6
        · have hki : (p : Int) - 3 < 6 := by omega
          by_cases hd : 0 ≤ digZ c ∧ digZ c < 16
          · -- a digit more
            have hv := digZ_val c hd.1
            have hts : r.take (k + 1) = r.take k ++ [c] := by
              have hkl : k < r.length := by omega
              rw [List.getElem?_eq_getElem hkl] at hat
              rw [List.take_succ_eq_append_getElem hkl, Option.some.inj hat]
            have HN2 : Hid (a * 16 + digZ c = ((Spec.numV 16 (r.take (k + 1)) : Nat) : Int)) := Lib.hid (by rw [hts, numV_snoc, HA.out, hv.1]; push_cast; rfl)
            have HD2 : Hid (∀ x ∈ r.take (k + 1), isDig 16 x = true) := Lib.hid (fun x hx => by
              rw [hts] at hx
              rcases List.mem_append.1 hx with h | h
              · exact HD.out x h
              · simp at h; subst h; exact (isDig_iff 16 x).2 hd)
            obtain ⟨z, hz⟩ : ∃ z, z = digZ c := ⟨_, rfl⟩
            rw [← hz] at hdg hd HN2 hge
            obtain ⟨d0, d1⟩ := hd
            clear hz hts hv hat HA HD hge hp hpk hkr hrl
            go_wp2_with (go_at_call 96; refine (hdg _).mono ?_; rintro e wd ⟨rfl, rfl⟩)
            go_round
            case rel => exact ⟨k + 1, a * 16 + z, by rw [HP.out]; go_num, rfl, by omega, by have := HP.out; omega, HN2, HD2⟩
            case measure => simp [intOf]; omega
          · -- no digit: the number ends here
            have hds : digs 16 6 r = r.take k := digs_take 16 6 r k hkm HD.out hkr (.inr (.inr ⟨c, hat, by rw [Bool.eq_false_iff]; exact fun h => hd ((isDig_iff 16 c).1 h)⟩))
            have hlenk : (r.take k).length = k := by rw [List.length_take]; omega
            have hhead : (r.drop k).head? = some c := by rw [List.head?_drop]; exact hat
            have hspec : refNum 16 6 3 r = if k = 0 ∨ c ≠ 59 then ([], 0) else (Lib.encodeRune ((if a = 0 then 65533 else a) : Int), p + 1) := by
              unfold refNum
              rw [hds, hlenk, hhead, hp]
              have e1 : r.take k = [] ↔ k = 0 := by rw [← List.length_eq_zero_iff, hlenk]
              have e2 : (Spec.numV 16 (r.take k) = 0) ↔ a = 0 := by rw [HA.out]; omega
              by_cases hz : k = 0 ∨ c ≠ 59
              · rw [if_pos hz, if_pos (hz.imp e1.2 (fun h e => h (Option.some.inj e)))]
              · rw [if_neg hz, if_neg (fun h => hz (h.imp e1.1 (fun h2 e3 => h2 (by rw [e3]))))]
                by_cases ha : a = 0
                · rw [if_pos ha, if_pos (e2.2 ha)]; rfl
                · rw [if_neg ha, if_neg (fun h => ha (e2.1 h)), HA.out]
            have HS := Lib.hid hspec
            have hdd : digZ c = -1 ∨ 16 ≤ digZ c := by omega
            have HNE : Hid (16 ≤ digZ c → c ≠ 59) := Lib.hid (fun h e => by rw [e] at h; exact absurd h (by decide))
            obtain ⟨z, hz⟩ : ∃ z, z = digZ c := ⟨_, rfl⟩
            rw [← hz] at hdg hdd hge HNE
            clear hz hds hlenk hhead hspec hat hd HA HD hkr hrl
            have hpk0 : k = 0 ∨ 0 < k := by omega
            rcases hdd with hdd | hdd
            · subst hdd
              rcases hpk0 with h0 | h0
              · have hpp : p = 3 := by omega
                subst hpp
                have HF : Hid (entRes (refNum 16 6 3 r) = .tuple #[.string (⟨#[]⟩ : ByteArray), .int .i64 0]) := Lib.hid (by rw [HS.out, if_pos (.inl h0)]; rfl)
                clear HS h0 hpk hp hkm
                go_wp2_with (go_at_call 96; refine (hdg _).mono ?_; rintro e wd ⟨rfl, rfl⟩)
                all_goals go_ret2
                all_goals exact ⟨by rw [HF.out]; rfl, hb0⟩
              · have hne : ((p : Int) == 3) = false := beq_eq_false_iff_ne.2 (by omega)
                have hne2 : ((p : Int) == (s.size : Int)) = false := beq_eq_false_iff_ne.2 (by omega)
                by_cases h59 : c = 59
                · have hb59 : (((s[p]'hlen).toNat : Int) != 59) = false := bne_eq_false_iff_eq.2 (by rw [HG.out, h59]; rfl)
                  by_cases ha : a = 0
                  · have he := fun W => encode_any 65533 W
                    have HF : Hid (entRes (refNum 16 6 3 r) = .tuple #[.string ⟨(Lib.encodeRune 65533).toArray⟩, .int .i64 ((p : Int) + 1)]) := Lib.hid (by rw [HS.out, if_neg (fun h => h.elim (fun e => by omega) (fun e => e h59)), if_pos ha]; rfl)
                    clear HS h0 hpk hp hkm h59
                    subst ha
                    go_wp2_with (first | (go_at_call 96; refine (hdg _).mono ?_; rintro e wd ⟨rfl, rfl⟩) | (go_at_call 141; refine (he _).mono ?_; rintro e we ⟨rfl, hbe⟩))
                    all_goals go_ret2
                    all_goals exact ⟨by rw [HF.out]; rfl, hb0.trans (hbe.mono hb0.size)⟩
                  · have he := fun W => encode_any a W
                    have hane : (a == 0) = false := beq_eq_false_iff_ne.2 ha
                    have HF : Hid (entRes (refNum 16 6 3 r) = .tuple #[.string ⟨(Lib.encodeRune a).toArray⟩, .int .i64 ((p : Int) + 1)]) := Lib.hid (by rw [HS.out, if_neg (fun h => h.elim (fun e => by omega) (fun e => e h59)), if_neg ha]; rfl)
                    clear HS h0 hpk hp hkm h59 ha
                    go_wp2_with (first | (go_at_call 96; refine (hdg _).mono ?_; rintro e wd ⟨rfl, rfl⟩) | (go_at_call 141; refine (he _).mono ?_; rintro e we ⟨rfl, hbe⟩))
                    all_goals go_ret2
                    all_goals exact ⟨by rw [HF.out]; rfl, hb0.trans (hbe.mono hb0.size)⟩
                · have hb59 : (((s[p]'hlen).toNat : Int) != 59) = true := bne_iff_ne.2 (by rw [HG.out]; intro e; exact h59 (UInt8.toNat_inj.1 (by have : (59 : UInt8).toNat = 59 := rfl; omega)))
                  have HF : Hid (entRes (refNum 16 6 3 r) = .tuple #[.string (⟨#[]⟩ : ByteArray), .int .i64 0]) := Lib.hid (by rw [HS.out, if_pos (.inr h59)]; rfl)
                  clear HS h0 hpk hp hkm h59
                  go_wp2_with (go_at_call 96; refine (hdg _).mono ?_; rintro e wd ⟨rfl, rfl⟩)
                  all_goals go_ret2
                  all_goals exact ⟨by rw [HF.out]; rfl, hb0⟩
            · have h59 : c ≠ 59 := HNE.out hdd
              rcases hpk0 with h0 | h0
              · have hpp : p = 3 := by omega
                subst hpp
                have HF : Hid (entRes (refNum 16 6 3 r) = .tuple #[.string (⟨#[]⟩ : ByteArray), .int .i64 0]) := Lib.hid (by rw [HS.out, if_pos (.inl h0)]; rfl)
                clear HS h0 hpk hp hkm
                go_wp2_with (go_at_call 96; refine (hdg _).mono ?_; rintro e wd ⟨rfl, rfl⟩)
                all_goals go_ret2
                all_goals exact ⟨by rw [HF.out]; rfl, hb0⟩
              · have hne : ((p : Int) == 3) = false := beq_eq_false_iff_ne.2 (by omega)
                have hne2 : ((p : Int) == (s.size : Int)) = false := beq_eq_false_iff_ne.2 (by omega)
                have hb59 : (((s[p]'hlen).toNat : Int) != 59) = true := bne_iff_ne.2 (by rw [HG.out]; intro e; exact h59 (UInt8.toNat_inj.1 (by have : (59 : UInt8).toNat = 59 := rfl; omega)))
                have HF : Hid (entRes (refNum 16 6 3 r) = .tuple #[.string (⟨#[]⟩ : ByteArray), .int .i64 0]) := Lib.hid (by rw [HS.out, if_pos (.inr h59)]; rfl)
                clear HS h0 hpk hp hkm h59
                go_wp2_with (go_at_call 96; refine (hdg _).mono ?_; rintro e wd ⟨rfl, rfl⟩)
                all_goals go_ret2
                all_goals exact ⟨by rw [HF.out]; rfl, hb0⟩
        · -- as many as may be
          have hkm' : k = 6 := by omega
          have hds : digs 16 6 r = r.take k := digs_take 16 6 r k hkm HD.out hkr (.inl hkm')
          have hlenk : (r.take k).length = k := by rw [List.length_take]; omega
          have hhead : (r.drop k).head? = some c := by rw [List.head?_drop]; exact hat
          have hspec : refNum 16 6 3 r = if k = 0 ∨ c ≠ 59 then ([], 0) else (Lib.encodeRune ((if a = 0 then 65533 else a) : Int), p + 1) := by
            unfold refNum
            rw [hds, hlenk, hhead, hp]
            have e1 : r.take k = [] ↔ k = 0 := by rw [← List.length_eq_zero_iff, hlenk]
            have e2 : (Spec.numV 16 (r.take k) = 0) ↔ a = 0 := by rw [HA.out]; omega
            by_cases hz : k = 0 ∨ c ≠ 59
            · rw [if_pos hz, if_pos (hz.imp e1.2 (fun h e => h (Option.some.inj e)))]
            · rw [if_neg hz, if_neg (fun h => hz (h.imp e1.1 (fun h2 e3 => h2 (by rw [e3]))))]
              by_cases ha : a = 0
              · rw [if_pos ha, if_pos (e2.2 ha)]; rfl
              · rw [if_neg ha, if_neg (fun h => ha (e2.1 h)), HA.out]
          have HS := Lib.hid hspec
          have h0 : 0 < k := by omega
          have hki : ¬ (p : Int) - 3 < 6 := by omega
          clear hds hlenk hhead hspec hat HA HD hkr hrl hge hk7 hkm'
          have hne : ((p : Int) == 3) = false := beq_eq_false_iff_ne.2 (by omega)
          have hne2 : ((p : Int) == (s.size : Int)) = false := beq_eq_false_iff_ne.2 (by omega)
          by_cases h59 : c = 59
          · have hb59 : (((s[p]'hlen).toNat : Int) != 59) = false := bne_eq_false_iff_eq.2 (by rw [HG.out, h59]; rfl)
            by_cases ha : a = 0
            · have he := fun W => encode_any 65533 W
              have HF : Hid (entRes (refNum 16 6 3 r) = .tuple #[.string ⟨(Lib.encodeRune 65533).toArray⟩, .int .i64 ((p : Int) + 1)]) := Lib.hid (by rw [HS.out, if_neg (fun h => h.elim (fun e => by omega) (fun e => e h59)), if_pos ha]; rfl)
              clear HS h0 hpk hp hkm h59
              subst ha
              go_wp2_with (first | (go_at_call 96; refine (hdg _).mono ?_; rintro e wd ⟨rfl, rfl⟩) | (go_at_call 141; refine (he _).mono ?_; rintro e we ⟨rfl, hbe⟩))
              all_goals go_ret2
              all_goals exact ⟨by rw [HF.out]; rfl, hb0.trans (hbe.mono hb0.size)⟩
            · have he := fun W => encode_any a W
              have hane : (a == 0) = false := beq_eq_false_iff_ne.2 ha
              have HF : Hid (entRes (refNum 16 6 3 r) = .tuple #[.string ⟨(Lib.encodeRune a).toArray⟩, .int .i64 ((p : Int) + 1)]) := Lib.hid (by rw [HS.out, if_neg (fun h => h.elim (fun e => by omega) (fun e => e h59)), if_neg ha]; rfl)
              clear HS h0 hpk hp hkm h59 ha
              go_wp2_with (first | (go_at_call 96; refine (hdg _).mono ?_; rintro e wd ⟨rfl, rfl⟩) | (go_at_call 141; refine (he _).mono ?_; rintro e we ⟨rfl, hbe⟩))
              all_goals go_ret2
              all_goals exact ⟨by rw [HF.out]; rfl, hb0.trans (hbe.mono hb0.size)⟩
          · have hb59 : (((s[p]'hlen).toNat : Int) != 59) = true := bne_iff_ne.2 (by rw [HG.out]; intro e; exact h59 (UInt8.toNat_inj.1 (by have : (59 : UInt8).toNat = 59 := rfl; omega)))
            have HF : Hid (entRes (refNum 16 6 3 r) = .tuple #[.string (⟨#[]⟩ : ByteArray), .int .i64 0]) := Lib.hid (by rw [HS.out, if_pos (.inr h59)]; rfl)
            clear HS h0 hpk hp hkm h59
            go_wp2_with (go_at_call 96; refine (hdg _).mono ?_; rintro e wd ⟨rfl, rfl⟩)
            all_goals go_ret2
            all_goals exact ⟨by rw [HF.out]; rfl, hb0⟩
      · -- the text is through
        have hpe : p = s.size := by omega
        have hks0 : k = r.length := by omega
        have hds : digs 16 6 r = r.take k := digs_take 16 6 r k hkm HD.out hkr (.inr (.inl hks0))
        have hlenk : (r.take k).length = k := by rw [List.length_take]; omega
        have HF : Hid (entRes (refNum 16 6 3 r) = .tuple #[.string (⟨#[]⟩ : ByteArray), .int .i64 0]) := Lib.hid (by
          unfold refNum
          rw [hds, hlenk, if_pos (.inr (by rw [List.head?_drop, List.getElem?_eq_none (by omega)]; simp))]
          rfl)
        have hpi : ¬ (p : Int) < s.size := by omega
        have hpk0 : k = 0 ∨ 0 < k := by omega
        have hb2 : ((p : Int) == (s.size : Int)) = true := beq_iff_eq.2 (by omega)
        clear hds hlenk HA HD hkr hrl hrk hks0 hpe
        rcases hpk0 with h0 | h0
        · have hb1 : ((p : Int) == 3) = true := beq_iff_eq.2 (by omega)
          clear h0 hpk hp hkm
          go_wp2
          all_goals go_ret2
          all_goals exact ⟨by rw [HF.out]; rfl, hb0⟩
        · have hb1 : ((p : Int) == 3) = false := beq_eq_false_iff_ne.2 (by omega)
          clear h0 hpk hp hkm
          go_wp2
          all_goals go_ret2
          all_goals exact ⟨by rw [HF.out]; rfl, hb0⟩

end Go.Proofs.YtmplfiflikhpjaaGreatDoor
/-
  Plain Lean, then the reference's At whole: its answer is ent.At's, at every text.
-/
namespace Go.Proofs.YtmplfiflikhpjaaGreatDoor
open Go.RowKit

/-! ### where the first ';' stands -/
theorem idx_app (d r : List UInt8) (h : (59 : UInt8) ∉ d) : Lib.indexByte (d ++ 59 :: r) 59 = d.length := by
  induction d with
  | nil => rfl
  | cons a d ih =>
    have ha : a ≠ 59 := fun e => h (by rw [e]; simp)
    have i := ih (fun e => h (by simp [e]))
    rw [List.cons_append, idx_cons _ _ ha, i, if_neg (by omega)]
    simp
theorem idx_split (t : List UInt8) (j : Nat) (h : Lib.indexByte t 59 = j) : t = t.take j ++ 59 :: t.drop (j + 1) ∧ (59 : UInt8) ∉ t.take j := by
  obtain ⟨h1, h2⟩ := Lib.indexByte_some h
  obtain ⟨hj, he⟩ := List.getElem?_eq_some_iff.1 h1
  constructor
  · rw [← he, ← List.drop_eq_getElem_cons hj, List.take_append_drop]
  · intro hm
    obtain ⟨i, hi, e⟩ := List.getElem_of_mem hm
    rw [List.length_take] at hi
    rw [List.getElem_take] at e
    exact h2 i (by omega) (by rw [List.getElem?_eq_getElem (by omega), e])
theorem idx_neg (t : List UInt8) (h : Lib.indexByte t 59 < 0) : ∀ (k : Nat), t[k]? ≠ some 59 := by
  have := Lib.indexByte_ge t 59
  exact Lib.indexByte_none (by omega)

/-! ### the nine -/
theorem key_prefix (n : List UInt8) (hn : (59 : UInt8) ∉ n) (c : UInt8) (t : List UInt8) :
    (key n).isPrefixOf (c :: t) = true ↔ c = 38 ∧ 0 ≤ Lib.indexByte t 59 ∧ t.take (Lib.indexByte t 59).toNat = n := by
  unfold key
  rw [List.isPrefixOf_iff_prefix, List.cons_append, List.cons_prefix_cons]
  constructor
  · rintro ⟨rfl, r, rfl⟩
    rw [List.append_assoc, List.singleton_append, idx_app n r hn]
    exact ⟨rfl, by omega, by simp⟩
  · rintro ⟨rfl, h0, h⟩
    refine ⟨rfl, ?_⟩
    obtain ⟨j, hj⟩ : ∃ j : Nat, Lib.indexByte t 59 = j := ⟨(Lib.indexByte t 59).toNat, by omega⟩
    have hs := (idx_split t j hj).1
    rw [hj, Int.toNat_natCast] at h
    rw [h] at hs
    exact ⟨t.drop (j + 1), by rw [List.append_assoc, List.singleton_append]; exact hs.symm⟩
theorem firstOf_no (c : UInt8) (t : List UInt8) (h : c ≠ 38 ∨ Lib.indexByte t 59 < 0) : firstOf nine (c :: t) = ([], 0) := by
  have no : ∀ n : List UInt8, (59 : UInt8) ∉ n → ¬ (key n).isPrefixOf (c :: t) = true := fun n hn hp => by
    obtain ⟨h1, h2, _⟩ := (key_prefix n hn c t).1 hp
    rcases h with h | h
    · exact h h1
    · omega
  unfold nine
  simp only [firstOf]
  rw [if_neg (no _ (by decide)), if_neg (no _ (by decide)), if_neg (no _ (by decide)), if_neg (no _ (by decide)), if_neg (no _ (by decide)), if_neg (no _ (by decide)), if_neg (no _ (by decide)), if_neg (no _ (by decide)), if_neg (no _ (by decide))]
theorem firstOf_yes (t : List UInt8) (h0 : 0 ≤ Lib.indexByte t 59) :
    firstOf nine (38 :: t) = if Spec.named (t.take (Lib.indexByte t 59).toNat) ≠ [] then (Spec.named (t.take (Lib.indexByte t 59).toNat), (Lib.indexByte t 59).toNat + 2) else ([], 0) := by
  have hlt := idx_lt t
  obtain ⟨j, hj⟩ : ∃ j : Nat, Lib.indexByte t 59 = j := ⟨(Lib.indexByte t 59).toNat, by omega⟩
  have yes : ∀ n : List UInt8, (59 : UInt8) ∉ n → ((key n).isPrefixOf (38 :: t) = true ↔ t.take j = n) := fun n hn => by
    rw [key_prefix n hn, hj, Int.toNat_natCast]
    exact ⟨fun h => h.2.2, fun h => ⟨rfl, by omega, h⟩⟩
  rw [hj, Int.toNat_natCast]
  have hl : (t.take j).length = j := by rw [List.length_take]; omega
  have hlen : ∀ n : List UInt8, t.take j = n → n.length = j := fun n e => by rw [← e, hl]
  unfold nine
  simp only [firstOf]
  by_cases e1 : t.take j = [97, 109, 112]
  · rw [if_pos ((yes _ (by decide)).2 e1), e1, ← hlen _ e1]; rfl
  rw [if_neg (fun h => e1 ((yes _ (by decide)).1 h))]
  by_cases e2 : t.take j = [108, 116]
  · rw [if_pos ((yes _ (by decide)).2 e2), e2, ← hlen _ e2]; rfl
  rw [if_neg (fun h => e2 ((yes _ (by decide)).1 h))]
  by_cases e3 : t.take j = [103, 116]
  · rw [if_pos ((yes _ (by decide)).2 e3), e3, ← hlen _ e3]; rfl
  rw [if_neg (fun h => e3 ((yes _ (by decide)).1 h))]
  by_cases e4 : t.take j = [113, 117, 111, 116]
  · rw [if_pos ((yes _ (by decide)).2 e4), e4, ← hlen _ e4]; rfl
  rw [if_neg (fun h => e4 ((yes _ (by decide)).1 h))]
  by_cases e5 : t.take j = [97, 112, 111, 115]
  · rw [if_pos ((yes _ (by decide)).2 e5), e5, ← hlen _ e5]; rfl
  rw [if_neg (fun h => e5 ((yes _ (by decide)).1 h))]
  by_cases e6 : t.take j = [110, 98, 115, 112]
  · rw [if_pos ((yes _ (by decide)).2 e6), e6, ← hlen _ e6]; rfl
  rw [if_neg (fun h => e6 ((yes _ (by decide)).1 h))]
  by_cases e7 : t.take j = [99, 111, 112, 121]
  · rw [if_pos ((yes _ (by decide)).2 e7), e7, ← hlen _ e7]; rfl
  rw [if_neg (fun h => e7 ((yes _ (by decide)).1 h))]
  by_cases e8 : t.take j = [104, 101, 108, 108, 105, 112]
  · rw [if_pos ((yes _ (by decide)).2 e8), e8, ← hlen _ e8]; rfl
  rw [if_neg (fun h => e8 ((yes _ (by decide)).1 h))]
  by_cases e9 : t.take j = [109, 100, 97, 115, 104]
  · rw [if_pos ((yes _ (by decide)).2 e9), e9, ← hlen _ e9]; rfl
  rw [if_neg (fun h => e9 ((yes _ (by decide)).1 h))]
  have hn : Spec.named (t.take j) = [] := by
    unfold Spec.named
    rw [if_neg e1, if_neg e2, if_neg e3, if_neg e4, if_neg e5, if_neg e6, if_neg e7, if_neg e8, if_neg e9]
  rw [hn, if_neg (by simp)]

/-! ### the numbers -/
theorem enc_rune (v : Nat) : Lib.encodeRune ((if v = 0 then 65533 else v : Nat) : Int) = Lib.encodeRune ((Spec.runeOf v : Nat) : Int) := by
  unfold Spec.runeOf
  by_cases h0 : v = 0
  · rw [if_pos h0, if_neg (by simp [h0])]
  · rw [if_neg h0]
    by_cases hv : Spec.validR v = true
    · rw [if_pos ⟨h0, hv⟩]
    · rw [if_neg (fun h => hv h.2)]
      unfold Spec.validR at hv
      simp only [Bool.or_eq_true, Bool.and_eq_true, decide_eq_true_eq] at hv
      unfold Lib.encodeRune
      rw [Lib.encodeRuneZ_bad (by omega)]
      decide
theorem isDig10 (c : UInt8) : isDig 10 c = Spec.decs.contains c := by
  have h : ∀ n : Fin 256, isDig 10 (UInt8.ofNat n.val) = Spec.decs.contains (UInt8.ofNat n.val) := by decide +kernel
  have := h ⟨c.toNat, c.toNat_lt⟩
  rwa [UInt8.ofNat_toNat] at this
theorem isDig16 (c : UInt8) : isDig 16 c = Spec.hexs.contains c := by
  have h : ∀ n : Fin 256, isDig 16 (UInt8.ofNat n.val) = Spec.hexs.contains (UInt8.ofNat n.val) := by decide +kernel
  have := h ⟨c.toNat, c.toNat_lt⟩
  rwa [UInt8.ofNat_toNat] at this
theorem digs_all (base : Nat) : ∀ (most : Nat) (r : List UInt8), (∀ c ∈ digs base most r, isDig base c = true) ∧ digs base most r = r.take (digs base most r).length ∧ (digs base most r).length ≤ most ∧ (digs base most r).length ≤ r.length := by
  intro most
  induction most with
  | zero => intro r; exact ⟨fun c h => absurd h List.not_mem_nil, rfl, Nat.le_refl _, Nat.zero_le _⟩
  | succ n ih =>
    intro r
    cases r with
    | nil => exact ⟨fun c h => absurd h List.not_mem_nil, rfl, Nat.zero_le _, Nat.le_refl _⟩
    | cons c t =>
      unfold digs
      by_cases h : isDig base c = true
      · rw [if_pos h]
        obtain ⟨h1, h2, h3, h4⟩ := ih t
        refine ⟨fun x hx => ?_, ?_, by simp; omega, by simp; omega⟩
        · rcases List.mem_cons.1 hx with rfl | hx
          · exact h
          · exact h1 x hx
        · rw [List.length_cons, List.take_succ_cons]
          exact congrArg (c :: ·) h2
      · rw [if_neg h]
        exact ⟨fun c h => absurd h List.not_mem_nil, rfl, Nat.zero_le _, Nat.zero_le _⟩
/-- The reference's number is the spec's. -/
theorem refNum_eq (base most at0 : Nat) (set : List UInt8) (hset : ∀ c, isDig base c = set.contains c) (h59 : isDig base 59 = false) (r : List UInt8) :
    refNum base most at0 r = if 0 ≤ Lib.indexByte r 59 then
      (match Spec.number (r.take (Lib.indexByte r 59).toNat) set base most with
       | some v => (Lib.encodeRune (v : Int), at0 + (Lib.indexByte r 59).toNat + 1)
       | none => ([], 0)) else ([], 0) := by
  obtain ⟨h1, h2, h3, h4⟩ := digs_all base most r
  by_cases hi : 0 ≤ Lib.indexByte r 59
  · rw [if_pos hi]
    have hlt := idx_lt r
    obtain ⟨j, hj⟩ : ∃ j : Nat, Lib.indexByte r 59 = j := ⟨(Lib.indexByte r 59).toNat, by omega⟩
    obtain ⟨hs, hno⟩ := idx_split r j hj
    rw [hj, Int.toNat_natCast]
    have hjl : j < r.length := by omega
    have hrj : r[j]? = some 59 := (Lib.indexByte_some hj).1
    have hl : (r.take j).length = j := by rw [List.length_take]; omega
    by_cases hok : r.take j = [] ∨ most < (r.take j).length ∨ (r.take j).all (set.contains ·) = false
    · have hn : Spec.number (r.take j) set base most = none := by unfold Spec.number; rw [if_pos hok]
      rw [hn]
      unfold refNum
      rw [if_pos]
      apply Decidable.byContradiction
      intro hc
      have hc1 : ¬ digs base most r = [] := fun e => hc (.inl e)
      have hc2 : (r.drop (digs base most r).length).head? = some 59 := Decidable.byContradiction fun e => hc (.inr e)
      rw [List.head?_drop] at hc2
      have hle : j ≤ (digs base most r).length := by
        apply Decidable.byContradiction
        intro hlt2
        exact (Lib.indexByte_some hj).2 _ (by omega) hc2
      have hge : (digs base most r).length ≤ j := by
        apply Decidable.byContradiction
        intro hlt2
        have hm : (59 : UInt8) ∈ digs base most r := by
          rw [h2]
          exact List.mem_of_getElem? (i := j) (by rw [List.getElem?_take, if_pos (by omega)]; exact hrj)
        rw [h1 _ hm] at h59
        cases h59
      have he : (digs base most r).length = j := by omega
      rw [he] at h2
      rcases hok with hok | hok | hok
      · exact hc1 (h2.trans hok)
      · rw [hl] at hok; omega
      · rw [← h2] at hok
        rw [Bool.eq_false_iff] at hok
        exact hok (List.all_eq_true.2 fun c hc => by rw [← hset]; exact h1 c hc)
    · have hn : Spec.number (r.take j) set base most = some (Spec.runeOf (Spec.numV base (r.take j))) := by unfold Spec.number; rw [if_neg hok]
      rw [hn]
      have hall : (r.take j).all (set.contains ·) = true := by
        cases h : (r.take j).all (set.contains ·) with
        | true => rfl
        | false => exact absurd (.inr (.inr h)) hok
      have hds : digs base most r = r.take j := digs_take base most r j (by
          have : ¬ most < (r.take j).length := fun h => hok (.inr (.inl h))
          omega) (fun c hc => by rw [hset]; exact List.all_eq_true.1 hall c hc) (by omega) (.inr (.inr ⟨59, hrj, h59⟩))
      unfold refNum
      rw [hds, hl, if_neg (by
        rw [List.head?_drop, hrj]
        exact fun h => h.elim (fun e => hok (.inl e)) (fun e => e rfl)), enc_rune]
  · rw [if_neg hi]
    unfold refNum
    rw [if_pos (.inr (by rw [List.head?_drop]; exact idx_neg r (by omega) _))]

/-- What the reference's At answers, in the order of its tests. -/
def refEnt (l : List UInt8) : List UInt8 × Nat :=
  if 0 < (firstOf nine l).2 then firstOf nine l
  else match l with
    | 38 :: 35 :: c :: r => if c = 120 ∨ c = 88 then refNum 16 6 3 r else refNum 10 7 2 (c :: r)
    | 38 :: 35 :: [] => refNum 10 7 2 []
    | _ => ([], 0)
theorem named_hash (d : List UInt8) : Spec.named (35 :: d) = [] := by
  unfold Spec.named
  simp
theorem ent_ref (l : List UInt8) : refEnt l = Spec.ent l := by
  cases l with
  | nil => rfl
  | cons c t =>
    by_cases h : c ≠ 38 ∨ Lib.indexByte (c :: t) 59 < 0
    · rw [ent_no c t h]
      have h' : c ≠ 38 ∨ Lib.indexByte t 59 < 0 := h.elim .inl (fun h => by
        by_cases hc : c = 38
        · subst hc
          rw [idx_cons _ _ (by decide)] at h
          split at h
          · rename_i e; exact .inr (by omega)
          · have := Lib.indexByte_ge t 59; omega
        · exact .inl hc)
      unfold refEnt
      rw [firstOf_no c t h', if_neg (by simp)]
      split
      · rename_i c' r he
        injection he with e1 e2
        have hneg : Lib.indexByte t 59 < 0 := h'.elim (fun e => absurd e1 e) id
        have hr : Lib.indexByte (c' :: r) 59 < 0 := by
          rw [e2, idx_cons _ _ (by decide)] at hneg
          split at hneg
          · omega
          · have := Lib.indexByte_ge (c' :: r) 59; omega
        split
        · rename_i hx
          rw [refNum_eq 16 6 3 Spec.hexs isDig16 (by decide), if_neg]
          rw [idx_cons _ _ (by rcases hx with rfl | rfl <;> decide)] at hr
          split at hr
          · omega
          · have := Lib.indexByte_ge r 59; omega
        · rw [refNum_eq 10 7 2 Spec.decs isDig10 (by decide), if_neg (by omega)]
      · rfl
      · rfl
    · have hc : c = 38 := Decidable.byContradiction fun e => h (.inl e)
      subst hc
      have h0 : 0 ≤ Lib.indexByte t 59 := by
        have h2 : ¬ Lib.indexByte (38 :: t) 59 < 0 := fun e => h (.inr e)
        rw [idx_cons _ _ (by decide)] at h2
        split at h2
        · omega
        · have := Lib.indexByte_ge t 59
          omega
      rw [ent_yes t h0]
      unfold refEnt
      rw [firstOf_yes t h0]
      by_cases hn : Spec.named (t.take (Lib.indexByte t 59).toNat) = []
      · have hf : (if Spec.named (t.take (Lib.indexByte t 59).toNat) ≠ [] then (Spec.named (t.take (Lib.indexByte t 59).toNat), (Lib.indexByte t 59).toNat + 2) else (([] : List UInt8), 0)) = ([], 0) := if_neg (fun e => e hn)
        rw [hf, if_neg (by simp)]
        have hin : Spec.inner (t.take (Lib.indexByte t 59).toNat) = match t.take (Lib.indexByte t 59).toNat with
            | [] => none
            | c :: d => if c = 35 then (Spec.ref d).map (fun (r : Nat) => Lib.encodeRune (r : Int)) else none := by
          unfold Spec.inner; rw [if_neg (fun e => e hn)]; rfl
        rw [hin]
        cases t with
        | nil => exact absurd h0 (by decide)
        | cons a u =>
          by_cases ha : a = 59
          · subst ha; rfl
          · have hu : Lib.indexByte (a :: u) 59 = Lib.indexByte u 59 + 1 := by
              have := idx_cons a u ha
              rw [this] at h0 ⊢
              split at h0
              · omega
              · rename_i e; rw [if_neg e]
            have hu0 : 0 ≤ Lib.indexByte u 59 := by
              rw [hu] at h0
              have := Lib.indexByte_ge u 59
              have hne : Lib.indexByte u 59 ≠ -1 := fun e => by
                rw [idx_cons a u ha, if_pos e] at hu; omega
              omega
            obtain ⟨j, hj⟩ : ∃ j : Nat, Lib.indexByte u 59 = j := ⟨(Lib.indexByte u 59).toNat, by omega⟩
            have hj1 : (Lib.indexByte (a :: u) 59).toNat = j + 1 := by rw [hu, hj]; omega
            rw [hj1, List.take_succ_cons]
            by_cases h35 : a = 35
            · subst h35
              simp only [if_true]
              cases u with
              | nil => exact absurd hu0 (by decide)
              | cons c r =>
                by_cases hx : c = 120 ∨ c = 88
                · simp only [if_pos hx]
                  rw [refNum_eq 16 6 3 Spec.hexs isDig16 (by decide)]
                  have hc59 : c ≠ 59 := by rcases hx with rfl | rfl <;> decide
                  have hr := idx_cons c r hc59
                  rw [hj] at hr
                  have hr0 : Lib.indexByte r 59 ≠ -1 := fun e => by rw [if_pos e] at hr; omega
                  rw [if_neg hr0] at hr
                  have hge := Lib.indexByte_ge r 59
                  obtain ⟨i, hi⟩ : ∃ i : Nat, Lib.indexByte r 59 = i := ⟨(Lib.indexByte r 59).toNat, by omega⟩
                  have hji : j = i + 1 := by omega
                  rw [if_pos (by omega), hi, Int.toNat_natCast, hji, List.take_succ_cons]
                  unfold Spec.ref
                  simp only [if_pos hx]
                  cases Spec.number (r.take i) Spec.hexs 16 6 with
                  | none => rfl
                  | some v => simp only [Option.map_some]; congr 1; omega
                · simp only [if_neg hx]
                  rw [refNum_eq 10 7 2 Spec.decs isDig10 (by decide), hj, if_pos (by omega), Int.toNat_natCast]
                  cases j with
                  | zero => rfl
                  | succ i =>
                    rw [List.take_succ_cons]
                    unfold Spec.ref
                    simp only [if_neg hx]
                    cases Spec.number (c :: r.take i) Spec.decs 10 7 with
                    | none => rfl
                    | some v => simp only [Option.map_some]; congr 1; omega
            · simp only [if_neg h35]
              split
              · rename_i he; injection he with _ e2; injection e2 with e3 _; exact absurd e3 h35
              · rename_i he; injection he with _ e2; injection e2 with e3 _; exact absurd e3 h35
              · rfl
      · have hf : (if Spec.named (t.take (Lib.indexByte t 59).toNat) ≠ [] then (Spec.named (t.take (Lib.indexByte t 59).toNat), (Lib.indexByte t 59).toNat + 2) else (([] : List UInt8), 0)) = (Spec.named (t.take (Lib.indexByte t 59).toNat), (Lib.indexByte t 59).toNat + 2) := if_pos hn
        rw [hf, if_pos (by simp)]
        have hin : Spec.inner (t.take (Lib.indexByte t 59).toNat) = some (Spec.named (t.take (Lib.indexByte t 59).toNat)) := by unfold Spec.inner; rw [if_pos hn]
        rw [hin]
end Go.Proofs.YtmplfiflikhpjaaGreatDoor
/-
  The reference's At whole (as in LawAt; for a seat without law9).
-/
namespace Go.Proofs.YtmplfiflikhpjaaGreatDoor
open Go.RowKit

theorem firstOf_zero (l : List UInt8) : ∀ ps, (∀ p ∈ ps, True) → (firstOf ps l).2 = 0 → firstOf ps l = ([], 0) := by
  intro ps
  induction ps with
  | nil => intro _ _; rfl
  | cons p t ih =>
    obtain ⟨n, v⟩ := p
    intro h e
    unfold firstOf at e ⊢
    split at e
    · simp at e
    · rename_i hp
      rw [if_neg hp]
      exact ih (fun _ _ => trivial) e

def refHash : List UInt8 → List UInt8 × Nat
  | c :: r => if c = 120 ∨ c = 88 then refNum 16 6 3 r else refNum 10 7 2 (c :: r)
  | [] => refNum 10 7 2 []
set_option maxHeartbeats 4000000 in
set_option maxRecDepth 100000 in
theorem refAt_any (s : ByteArray) (w : World) (hs : s.size ≤ 1000000) :
    Calls Tryz.prog 98 #[.string s] w fun e w' => e = .returned (entRes (Spec.ent s.data.toList)) ∧ Below w.heap.size w w' := by
  rw [← ent_ref]
  have hN := fun W => refNamed_any s W
  by_cases hn : 0 < (firstOf nine s.data.toList).2
  · have hr : refEnt s.data.toList = firstOf nine s.data.toList := by unfold refEnt; rw [if_pos hn]
    rw [hr]
    obtain ⟨n, hnn⟩ : ∃ n, n = (firstOf nine s.data.toList).2 := ⟨_, rfl⟩
    obtain ⟨v, hv⟩ : ∃ v : ByteArray, v = ⟨(firstOf nine s.data.toList).1.toArray⟩ := ⟨_, rfl⟩
    have he : entRes (firstOf nine s.data.toList) = .tuple #[.string v, .int .i64 (n : Int)] := by unfold entRes; rw [hv, hnn]
    rw [he] at hN ⊢
    rw [← hnn] at hn
    clear he hr hnn hv
    go_enter Tryz.func98, Tryz.ntmps98
    go_wp2_with (go_at_call 139; refine (hN _).mono ?_; rintro e wb ⟨rfl, hb0⟩)
    go_ret2
    exact ⟨rfl, hb0⟩
  · have hz : firstOf nine s.data.toList = ([], 0) := firstOf_zero _ _ (fun _ _ => trivial) (by omega)
    have hN : ∀ W, Calls Tryz.prog 139 #[.string s] W fun e w' => e = .returned (.tuple #[.string (⟨#[]⟩ : ByteArray), .int .i64 0]) ∧ Below W.heap.size W w' := fun W => by
      have := hN W
      rw [hz] at this
      exact this
    have hB := fun W => begins_any s ⟨#[38, 35]⟩ W
    have hsz : s.data.toList.length = s.size := by rw [Lib.size_eq]
    by_cases hp : ([38, 35] : List UInt8).isPrefixOf s.data.toList = true
    · have hBg : ∀ W, Calls Tryz.prog 140 #[.string s, .string (⟨#[38, 35]⟩ : ByteArray)] W fun e w' => e = .returned (.bool true) ∧ w' = W := fun W => by
        have := hB W
        rw [show (⟨#[38, 35]⟩ : ByteArray).data.toList = [38, 35] from rfl, hp] at this
        exact this
      obtain ⟨r, hr⟩ : ∃ r, s.data.toList = 38 :: 35 :: r := by
        obtain ⟨r, hr⟩ := List.isPrefixOf_iff_prefix.1 hp
        exact ⟨r, hr.symm⟩
      have h2 : 2 ≤ s.size := by rw [← hsz, hr]; simp
      have hd2 : s.data.toList.drop 2 = r := by rw [hr]; rfl
      have hat : ∀ h : 2 < s.size, r[0]? = some (s[2]'h) := fun h => by
        have := at_list s 2 h
        rw [hr] at this
        exact this
      have hre : refEnt s.data.toList = refHash r := by
        unfold refEnt
        rw [hz, if_neg (by simp), hr]
        cases r <;> rfl
      rw [hre]
      cases r with
      | nil =>
        have := refAt10 s w hs h2 hN hBg (fun h => by have := hat h; cases this)
        rw [hd2] at this
        exact this
      | cons c r =>
        have h3 : 2 < s.size := by rw [← hsz, hr]; simp
        have hc : c = s[2]'h3 := by have := hat h3; simpa using this
        by_cases hx : c = 120 ∨ c = 88
        · simp only [refHash, if_pos hx]
          have := refAt16 s w hs (by omega) hN hBg ⟨h3, by rw [← hc]; rcases hx with rfl | rfl <;> decide⟩
          rw [show s.data.toList.drop 3 = r by rw [hr]; rfl] at this
          exact this
        · simp only [refHash, if_neg hx]
          have hne : c.toNat ≠ 120 ∧ c.toNat ≠ 88 := ⟨fun e => hx (.inl (UInt8.toNat_inj.1 e)), fun e => hx (.inr (UInt8.toNat_inj.1 e))⟩
          have := refAt10 s w hs h2 hN hBg (fun h => by
            rw [← hc]
            exact ⟨beq_eq_false_iff_ne.2 (by omega), beq_eq_false_iff_ne.2 (by omega)⟩)
          rw [hd2] at this
          exact this
    · have hp : ([38, 35] : List UInt8).isPrefixOf s.data.toList = false := Bool.eq_false_iff.2 hp
      have hBg : ∀ W, Calls Tryz.prog 140 #[.string s, .string (⟨#[38, 35]⟩ : ByteArray)] W fun e w' => e = .returned (.bool false) ∧ w' = W := fun W => by
        have := hB W
        rw [show (⟨#[38, 35]⟩ : ByteArray).data.toList = [38, 35] from rfl, hp] at this
        exact this
      have hre : refEnt s.data.toList = ([], 0) := by
        unfold refEnt
        rw [hz, if_neg (by simp)]
        split
        · rename_i he; rw [he] at hp; simp [List.isPrefixOf] at hp
        · rename_i he; rw [he] at hp; simp [List.isPrefixOf] at hp
        · rfl
      rw [hre]
      clear hre hB hz hn hp hsz
      go_enter Tryz.func98, Tryz.ntmps98
      go_wp2_with (first | (go_at_call 139; refine (hN _).mono ?_; rintro e wb ⟨rfl, hb0⟩) | (go_at_call 140; refine (hBg _).mono ?_; rintro e wc ⟨rfl, rfl⟩))
      go_ret2
      exact ⟨rfl, hb0⟩

end Go.Proofs.YtmplfiflikhpjaaGreatDoor
/-
  Rows of bytes that a call owns: their text, and that they stand behind a call.
-/
namespace Go.Proofs.YtmplfiflikhpjaaGreatDoor
open Go.RowKit

/-- The bytes of a row that the call owns, as a text. -/
theorem row_str {w : World} {B : Nat} {v : Value} (acc : List UInt8) (h : w.ownsRowF B 5 1 v acc.length (Lib.byteCells acc)) :
    (convert 38 9 v).run Tryz.prog w = .ok (.string ⟨acc.toArray⟩) w := by
  rcases h.2 with ⟨rfl, h0⟩ | ⟨g, cap, cur, fz, rfl, _⟩
  · obtain rfl := List.length_eq_zero_iff.1 h0
    exact run_convert_bytes_nil (P := Tryz.prog) _ 38 5 Tryz.underlying38 Tryz.underlying5 0 0 9 Tryz.underlying9
  · have := run_convert_bytes_arg (P := Tryz.prog) w 38 5 Tryz.underlying38 Tryz.underlying5 g 0 acc.length cap (acc.map fun c => (c.toNat : Int)) (by simp) (fun i hi => by
      have hc := h.cells (g := g) rfl i (.int .u8 ((acc.map fun c => (c.toNat : Int)).getD i 0)) (by simp [Lib.byteCells, List.getD, List.getElem?_eq_getElem hi])
      have hadd : (⟨g, 0, none⟩ : Addr).add i = ⟨g, 0 + i, none⟩ := by unfold Addr.add; split <;> simp_all
      rw [hadd] at hc
      exact hc) 9 Tryz.underlying9
    rw [this]
    have he : strOfNums (acc.map fun c => (c.toNat : Int)) = ⟨acc.toArray⟩ := by
      have : (acc.map fun c => (c.toNat : Int)).map (fun n => UInt8.ofNat n.toNat) = acc := by
        rw [List.map_map]
        conv => rhs; rw [← List.map_id acc]
        apply List.map_congr_left
        intro c _
        simp
      unfold strOfNums
      rw [this]
    rw [he]
/-- A row of the call's own stands behind a call that lets all that was there be. -/
theorem row_below {B : Nat} {e : TypeId} {v : Value} {n : Nat} {xs : List Value} {w w' : World} (h : w.ownsRowF B e 1 v n xs) (hb : Below w.heap.size w w') : w'.ownsRowF B e 1 v n xs :=
  h.kept (row := none) ⟨hb.os, hb.tape, hb.output, hb.size, fun i hi _ => hb.block i hi⟩ (by cases v.ownBlock <;> simp)
theorem one_text (s : ByteArray) (i : Nat) (h : i < s.size) : (s.extract i (i + 1)).data.toList = [s[i]'h] := by
  have hb : s.data.toList.drop i = (s[i]'h) :: s.data.toList.drop (i + 1) := by
    rw [List.drop_eq_getElem_cons (by simpa using h)]; rfl
  have := congrArg (List.take 1) hb
  simp only [List.take_succ_cons, List.take_zero] at this
  rw [← this]
  simp [ByteArray.data_extract, Array.toList_extract, List.extract]

end Go.Proofs.YtmplfiflikhpjaaGreatDoor
