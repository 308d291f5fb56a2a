/-
  The law InlineNests: it returns true, whatever its arguments.
-/
import Derived.Test.YtmplfiflikhpjaaGreatDoorZMeP
import Derived.Test.YtmplfiflikhpjaaGreatDoorZLawBk
import Derived.Deep.RegionHeld3
namespace Go.Proofs.YtmplfiflikhpjaaGreatDoor
open Go.RowKit

theorem plainw_ne2 {s : ByteArray} (h : PlainW s) : s.data.toList ≠ [] := fun e => by
  have := h.pos
  rw [Lib.size_eq, e] at this
  simp at this
theorem plainw_wordy2 {s : ByteArray} (h : PlainW s) : ∀ c ∈ s.data.toList, Pl.Wordy c := fun c hc => by
  obtain ⟨j, hj⟩ := List.mem_iff_getElem.1 hc
  obtain ⟨hj, rfl⟩ := hj
  rw [← Lib.size_eq] at hj
  exact wordy_of _ (h.all j hj)
/-- The world without one block. -/
def maskW (w : World) (nb : Nat) : World := { w with heap := w.heap.setIfInBounds nb (.cells #[] 0) }
theorem mask_ne (w : World) {nb b : Nat} (h : b ≠ nb) : (maskW w nb).heap[b]? = w.heap[b]? := by
  unfold maskW
  simp only
  rw [Array.getElem?_setIfInBounds, if_neg (Ne.symm h)]
theorem mask_self (w : World) (nb : Nat) (cur : Array Value) : (maskW w nb).heap[nb]? ≠ some (.cells cur NodeT (0, 0)) := by
  unfold maskW
  simp only
  rw [Array.getElem?_setIfInBounds, if_pos rfl]
  split
  · intro h
    injection h with h
    injection h with h1 h2
    exact absurd h2 (by decide)
  · intro h; cases h
theorem mask_size (w : World) (nb : Nat) : (maskW w nb).heap.size = w.heap.size := by unfold maskW; simp
theorem keepT_mask {w w' : World} {nb B : Nat} (h : ∀ (b : Nat) (cur : Array Value), b < B → b ≠ nb → w.heap[b]? = some (.cells cur NodeT (0, 0)) → w'.heap[b]? = some (.cells cur NodeT (0, 0))) : KeepT NodeT B (maskW w nb) (maskW w' nb) := fun b cur hb hr => by
  by_cases e : b = nb
  · subst e; exact absurd hr (mask_self w b cur)
  · rw [mask_ne w e] at hr
    rw [mask_ne w' e]
    exact h b cur hb e hr
theorem keepT_unmask (w : World) (nb B : Nat) : KeepT NodeT B (maskW w nb) w := fun b cur _ hr => by
  by_cases e : b = nb
  · subst e; exact absurd hr (mask_self w b cur)
  · rwa [mask_ne w e] at hr
theorem own_move {w w' : World} {base : Nat} {e : TypeId} {size : Nat} {v : Value} {n : Nat} {x : List Value} (h : w.ownsRow base e size v n x) (hh : ∀ k, base ≤ k → w'.heap[k]? = w.heap[k]?) : w'.ownsRow base e size v n x := by
  refine ⟨h.1, ?_⟩
  rcases h.2 with h0 | ⟨g, c, cur, hv, h1, h2, h3⟩
  · exact .inl h0
  · exact .inr ⟨g, c, cur, hv, h1, (hh g h1).trans h2, h3⟩
def put8 (w : World) (q : Nat) (v0 v1 v2 v3 v4 v5 v6 v7 : Value) : World := (((((((w.setCell ⟨q, 0, none⟩ v0).setCell ⟨q, 1, none⟩ v1).setCell ⟨q, 2, none⟩ v2).setCell ⟨q, 3, none⟩ v3).setCell ⟨q, 4, none⟩ v4).setCell ⟨q, 5, none⟩ v5).setCell ⟨q, 6, none⟩ v6).setCell ⟨q, 7, none⟩ v7
theorem put8_other (w : World) (q k : Nat) (v0 v1 v2 v3 v4 v5 v6 v7 : Value) (h : k ≠ q) : (put8 w q v0 v1 v2 v3 v4 v5 v6 v7).heap[k]? = w.heap[k]? := by
  unfold put8
  exact (heap_setCell_other _ ⟨q, 7, none⟩ k v7 h).trans ((heap_setCell_other _ ⟨q, 6, none⟩ k v6 h).trans ((heap_setCell_other _ ⟨q, 5, none⟩ k v5 h).trans ((heap_setCell_other _ ⟨q, 4, none⟩ k v4 h).trans ((heap_setCell_other _ ⟨q, 3, none⟩ k v3 h).trans ((heap_setCell_other _ ⟨q, 2, none⟩ k v2 h).trans ((heap_setCell_other _ ⟨q, 1, none⟩ k v1 h).trans (heap_setCell_other _ ⟨q, 0, none⟩ k v0 h)))))))
theorem put8_size (w : World) (q : Nat) (v0 v1 v2 v3 v4 v5 v6 v7 : Value) : (put8 w q v0 v1 v2 v3 v4 v5 v6 v7).heap.size = w.heap.size := by
  unfold put8
  simp [World.setCell]
/-- What is carried from sort to sort. -/
structure NestR (w wr : World) (nb i : Nat) (s : ByteArray) (lk : Bool) (e : Pl.Nest) (nv : NV) : Prop where
  bel : Below w.heap.size w wr
  nbw : w.heap.size ≤ nb
  row : wr.heap[nb]? = some (.cells nv.cells.toArray NodeT (0, 0))
  rep : NRep (maskW wr nb) wr.heap.size nv e.node
  ok : e.ok
  lkn : lk = false → e.noLink
  txt : s.data.toList = e.text
  sz : s.size ≤ 60 + 10 * i
  tw : txtW [e.node] ≤ 1000
theorem NestR.next {w wr w2 : World} {nb i : Nat} {s s' : ByteArray} {lk lk' : Bool} {e e' : Pl.Nest} {nv : NV} {v' : Value} {ns : List NV} {kd : Nat} {ur : ByteArray} {L : List Spec.Node} (h : NestR w wr nb i s lk e nv)
    (ho : w2.ownsRow wr.heap.size NodeT 8 v' ns.length (nvRow ns)) (hf : Fit (NRep (maskW wr nb) wr.heap.size) ns L) (hb : Below wr.heap.size wr w2)
    (hn : e'.node = .mk kd [] ur.data.toList [] L) (hok : e'.ok) (hlk : lk' = false → e'.noLink) (ht : s'.data.toList = e'.text) (hz : s'.size ≤ s.size + 10) (hk : kd ≠ 10) :
    NestR w (put8 w2 nb (.int .i64 (kd : Int)) (.int .i64 0) (.bool false) (.bool false) (.string ⟨#[]⟩) (.string ur) (.string ⟨#[]⟩) v') nb (i + 1) s' lk' e' ⟨kd, ⟨#[]⟩, ur, ⟨#[]⟩, v'⟩ := by
  have hnl : nb < wr.heap.size := blk_lt h.row
  have hrow2 := (hb.block nb hnl).trans h.row
  obtain ⟨nk, nt, nu, nti, nkv⟩ := nv
  have h8 := store8 w2 nb _ _ _ _ _ _ _ _ (.int .i64 (kd : Int)) (.int .i64 0) (.bool false) (.bool false) (.string ⟨#[]⟩) (.string ur) (.string ⟨#[]⟩) v' _ hrow2
  have hoth := fun k (hk : k ≠ nb) => put8_other w2 nb k (.int .i64 (kd : Int)) (.int .i64 0) (.bool false) (.bool false) (.string ⟨#[]⟩) (.string ur) (.string ⟨#[]⟩) v' hk
  have hsz := put8_size w2 nb (.int .i64 (kd : Int)) (.int .i64 0) (.bool false) (.bool false) (.string ⟨#[]⟩) (.string ur) (.string ⟨#[]⟩) v'
  have h8b : Below w.heap.size w2 (put8 w2 nb (.int .i64 (kd : Int)) (.int .i64 0) (.bool false) (.bool false) (.string ⟨#[]⟩) (.string ur) (.string ⟨#[]⟩) v') := h8.2 _ h.nbw
  have h8r : (put8 w2 nb (.int .i64 (kd : Int)) (.int .i64 0) (.bool false) (.bool false) (.string ⟨#[]⟩) (.string ur) (.string ⟨#[]⟩) v').heap[nb]? = some (.cells #[.int .i64 (kd : Int), .int .i64 0, .bool false, .bool false, .string ⟨#[]⟩, .string ur, .string ⟨#[]⟩, v'] NodeT (0, 0)) := h8.1
  generalize put8 w2 nb (.int .i64 (kd : Int)) (.int .i64 0) (.bool false) (.bool false) (.string ⟨#[]⟩) (.string ur) (.string ⟨#[]⟩) v' = w3 at hoth hsz h8b h8r ⊢
  have hkeep : KeepT NodeT wr.heap.size (maskW wr nb) (maskW w3 nb) := keepT_mask (fun b cur hb2 hne hr => (hoth b hne).trans ((hb.block b hb2).trans hr))
  have hown : (maskW w3 nb).ownsRow wr.heap.size NodeT 8 v' ns.length (nvRow ns) := own_move ho (fun k hk2 => by rw [mask_ne w3 (by omega)]; exact hoth k (by omega))
  have hkr := krep_own hown (hf.keep hkeep (by rw [mask_size, hsz]; exact hb.size))
  rw [mask_size] at hkr
  refine ⟨(h.bel.trans (hb.mono h.bel.size)).trans h8b, h.nbw, h8r, ⟨by rw [hn]; rfl, by rw [hn]; rfl, by rw [hn]; rfl, by rw [hn]; rfl, by rw [hn]; exact hkr⟩, hok, hlk, ht, by have := h.sz; omega, ?_⟩
  rw [txtW_one, hn, if_neg (show ¬ (Spec.Node.mk kd [] ur.data.toList [] L).kind = 10 from hk)]
  exact Nat.zero_le _
theorem below_undrew {B : Nat} {w w' : World} (h : Below B w.drew w') : Below B w w' := ⟨h.os, h.tape, h.output, h.size, h.block⟩
/-- A row of one node, as it is laid. -/
theorem krep_one (w : World) (nv : NV) (nd : Spec.Node) (h : NRep w w.heap.size nv nd) : KRep (w.alloc (.cells nv.cells.toArray NodeT)) (w.alloc (.cells nv.cells.toArray NodeT)).heap.size (.slice (some ⟨w.heap.size, 0, none⟩) 1 1) [nd] := by
  refine krep_own (base := 0) (ns := [nv]) ⟨by simp [nvRow, NV.cells], .inr ⟨w.heap.size, 1, nv.cells.toArray, rfl, Nat.zero_le _, heap_alloc_new w _, Nat.le_refl _, by unfold maxLen; omega, by simp [NV.cells], by simp [nvRow, NV.cells]⟩⟩ ?_
  exact (fit_nil _).snoc (h.keep (keepT_below ((Below.refl _ _).alloc (Nat.le_refl _) _)) (by simp))
theorem sm_join (a b : List UInt8) (n : Spec.Node) (h : Sm n.kids) : Sm (Pl.joinN a n b) := by
  unfold Pl.joinN
  split
  · exact sm_txt _
  · refine .mk _ (show 3 ≤ 1000000 by omega) (fun k hk => ?_)
    simp only [List.mem_cons, List.not_mem_nil, or_false] at hk
    have h0 : Sm [] := .mk _ (Nat.zero_le _) (fun k hk => absurd hk (by simp))
    rcases hk with rfl | rfl | rfl
    · exact h0
    · exact h
    · exact h0
theorem sm_kids (e : Pl.Nest) : Sm e.node.kids := by
  induction e with
  | word w => exact .mk _ (Nat.zero_le _) (fun k hk => absurd hk (by simp [Pl.Nest.node, Spec.txt, Spec.Node.kids]))
  | emph b e ih => exact sm_join _ _ _ ih
  | link i e ih => exact sm_join _ _ _ ih
theorem sm_nest (e : Pl.Nest) : Sm [e.node] := .mk _ (show 1 ≤ 1000000 by omega) (fun k hk => by
  simp only [List.mem_singleton] at hk
  subst hk
  exact sm_kids e)
theorem nrep_word (_w wX : World) (B : Nat) (t : ByteArray) : NRep wX B ⟨10, t, ⟨#[]⟩, ⟨#[]⟩, .slice none 0 0⟩ (Spec.txt t.data.toList) := ⟨rfl, rfl, rfl, rfl, .empty _ _⟩

set_option maxHeartbeats 32000000 in
set_option maxRecDepth 100000 in
theorem inlineNests_law (word : ByteArray) (v : Value) (zs : List Int) (w : World) (hsw : word.size ≤ 140737488351232) (hv : IntsAt w v zs) (hT : TabsM w) (hlz : zs.length ≤ 9223372036854775807) :
    Calls Tryz.prog 3 #[.string word, v] w fun e w' => e = .returned (.bool true) ∧ Below w.heap.size w w' := by
  obtain ⟨A, cap, rfl, hc⟩ := hv
  obtain ⟨n, hn⟩ : ∃ n, n = zs.length := ⟨_, rfl⟩
  rw [← hn] at hc hlz ⊢
  have hK := fun W (hb : Below w.heap.size w W) => known_any W (hT.below hb)
  have hP := fun W (hb : Below w.heap.size w W) (t : ByteArray) (ht : t.size ≤ 20000) => parse_any W t ht (hT.below hb)
  have HK := Lib.hid hK
  have HP := Lib.hid hP
  have HCL := Lib.hid (And.intro hc hn)
  clear hK hP hT hc hn
  go_enter Tryz.func3, Tryz.ntmps3
  go_wp2_with fail
  refine (plainL_any word w hsw).mono ?_
  rintro e w1 ⟨bw, rfl, rfl, hpw⟩
  cases bw with
  | false =>
    clear hpw
    go_wp2_with fail
    refine (HK.out w (Below.refl _ _)).mono ?_
    rintro e w3 ⟨rfl, hb3⟩
    have HB := Lib.hid hb3
    clear hb3
    go_wp2
    go_ret
    exact ⟨rfl, HB.out⟩
  | true =>
    have HPW := Lib.hid (hpw rfl)
    clear hpw
    by_cases h12 : 12 < n
    · have h12i : (12 : Int) < n := by omega
      go_wp2_with fail
      refine (HK.out w (Below.refl _ _)).mono ?_
      rintro e w3 ⟨rfl, hb3⟩
      have HB := Lib.hid hb3
      clear hb3
      go_wp2
      go_ret
      exact ⟨rfl, HB.out⟩
    · have h12i : ¬ (12 : Int) < n := by omega
      have hz := HPW.out.lt
      have hR0 : Hid (NestR w (w.alloc (.cells #[.int .i64 10, .int .i64 0, .bool false, .bool false, .string word, .string ⟨#[]⟩, .string ⟨#[]⟩, .slice none 0 0] 27)) w.heap.size 0 word false (.word word.data.toList) ⟨10, word, ⟨#[]⟩, ⟨#[]⟩, .slice none 0 0⟩) := Lib.hid
        ⟨(Below.refl _ _).alloc (Nat.le_refl _) _, Nat.le_refl _, heap_alloc_new w _, nrep_word w _ _ word, ⟨plainw_ne2 HPW.out, plainw_wordy2 HPW.out⟩, fun _ => trivial, rfl, by omega, by
          show txtW [Spec.txt word.data.toList] ≤ 1000
          rw [txtW_one, if_pos (show (Spec.txt word.data.toList).kind = 10 from rfl)]
          show word.data.toList.length ≤ 1000
          rw [← Lib.size_eq]
          omega⟩
      obtain ⟨nb, hnb⟩ : ∃ nb, nb = w.heap.size := ⟨_, rfl⟩
      have HNB := Lib.hid hnb
      clear hsw hlz
      go_upto_region 4 with fail
      simp only [← hnb] at hR0 ⊢
      generalize w.alloc (.cells #[.int .i64 10, .int .i64 0, .bool false, .bool false, .string word, .string ⟨#[]⟩, .string ⟨#[]⟩, .slice none 0 0] 27) = w1 at hR0 ⊢
      clear hnb hz
      go_wp2
      go_loopw [5, 7, 8, 9] (fun v5 v7 v8 v9 wr => ∃ (i : Nat) (s : ByteArray) (lk : Bool) (e : Pl.Nest) (nv : NV), i ≤ n ∧ v5 = .string s ∧ v7 = .bool lk ∧ v8 = .int .i64 (i : Int) ∧ Hid (NestR w wr nb i s lk e nv)) (fun _ _ v8 _ _ => n - (intOf v8).toNat)
      case atStart => exact ⟨0, word, false, _, _, Nat.zero_le _, rfl, rfl, rfl, hR0⟩
      case round =>
        obtain ⟨i, s, lk, e, nv, hi, rfl, rfl, rfl, HR⟩ := hrel
        obtain ⟨nk, nt, nu, nti, nkv⟩ := nv
        obtain ⟨k2, d2, hkv⟩ := HR.out.rep.kids.len
        simp only at hkv
        subst hkv
        obtain ⟨n2, hn2⟩ : ∃ n2, n2 = e.node.kids.length := ⟨_, rfl⟩
        rw [← hn2] at HR
        have hrow := HR.out.row
        have znb : nb < wr.heap.size := blk_lt hrow
        have y0 : wr.cell? ⟨nb, 0, none⟩ = some (.int .i64 (nk : Int)) := cell_of_row _ _ _ _ _ _ hrow
        have y1 : wr.cell? ⟨nb, 1, none⟩ = some (.int .i64 0) := cell_of_row _ _ _ _ _ _ hrow
        have y2 : wr.cell? ⟨nb, 2, none⟩ = some (.bool false) := cell_of_row _ _ _ _ _ _ hrow
        have y3 : wr.cell? ⟨nb, 3, none⟩ = some (.bool false) := cell_of_row _ _ _ _ _ _ hrow
        have y4 : wr.cell? ⟨nb, 4, none⟩ = some (.string nt) := cell_of_row _ _ _ _ _ _ hrow
        have y5 : wr.cell? ⟨nb, 5, none⟩ = some (.string nu) := cell_of_row _ _ _ _ _ _ hrow
        have y6 : wr.cell? ⟨nb, 6, none⟩ = some (.string nti) := cell_of_row _ _ _ _ _ _ hrow
        have y7 : wr.cell? ⟨nb, 7, none⟩ = some (.slice k2 n2 d2) := cell_of_row _ _ _ _ _ _ hrow
        clear hn2 hrow
        by_cases hin : i < n
        · have hini : (i : Int) < n := by omega
          have zs6 : s.size ≤ 200 := by have := HR.out.sz; omega
          obtain ⟨x, hx⟩ : ∃ x, zs[i]? = some x := ⟨_, List.getElem?_eq_getElem (by have := HCL.out.2; omega)⟩
          obtain ⟨bb, off, rfl, hbb, hcell⟩ := HCL.out.1 (by omega)
          have hcx := (HR.out.bel.cell (p := ⟨bb, off + i, none⟩) hbb).trans (hcell i x hx)
          have zbb : bb < wr.heap.size := Nat.lt_of_lt_of_le hbb HR.out.bel.size
          obtain ⟨y, hy, hand⟩ := and1023 x
          have hKi := kids_any wr (maskW wr nb) wr.heap.size _ e.node HR.out.rep HR.out.tw
          have hAp := apart_any wr (maskW wr nb) wr.heap.size _ e.node HR.out.rep HR.out.tw
          have hmod : y % 4 = 3 ∨ (y % 4 = 2 ∧ lk = true) ∨ (y % 4 = 2 ∧ lk = false) ∨ y % 4 = 1 ∨ y % 4 = 0 := by
            cases lk <;> simp <;> omega
          clear hx hy hcell hbb
          rcases hmod with hm | ⟨hm, rfl⟩ | ⟨hm, rfl⟩ | hm | hm
          · have hrem : ((y : Int)).tmod 4 = 3 := tmod_nat y 4 3 hm
            have hcat1 : ¬ 9223372036854775807 < 3 + s.size := by omega
            have hcat2 : ¬ 9223372036854775807 < 3 + s.size + 5 := by omega
            have HT : Hid (((⟨#[33, 91, 120]⟩ : ByteArray) ++ s ++ ⟨#[121, 93, 40, 117, 41]⟩).data.toList = (Pl.Nest.link true e).text ∧ ((⟨#[33, 91, 120]⟩ : ByteArray) ++ s ++ ⟨#[121, 93, 40, 117, 41]⟩).size ≤ s.size + 10) := Lib.hid (by
              refine ⟨?_, ?_⟩
              · rw [ByteArray.data_append, ByteArray.data_append, Array.toList_append, Array.toList_append, HR.out.txt]
                simp [Pl.Nest.text]
              · rw [ByteArray.size_append, ByteArray.size_append]
                show 3 + s.size + 5 ≤ _
                omega)
            clear hm hAp
            go_wp2_with fail
            refine hKi.mono ?_
            rintro e w2 ⟨v', ns, rfl, ho, hf, hb⟩
            obtain ⟨vA, vc, rfl⟩ := row_slice ho
            obtain ⟨m, hm⟩ : ∃ m, m = ns.length := ⟨_, rfl⟩
            rw [← hm] at ho ⊢
            have hrow2 := (hb.block nb znb).trans HR.out.row
            have q0 : w2.cell? ⟨nb, 0, none⟩ = some (.int .i64 (nk : Int)) := cell_of_row _ _ _ _ _ _ hrow2
            have q1 : w2.cell? ⟨nb, 1, none⟩ = some (.int .i64 0) := cell_of_row _ _ _ _ _ _ hrow2
            have q2 : w2.cell? ⟨nb, 2, none⟩ = some (.bool false) := cell_of_row _ _ _ _ _ _ hrow2
            have q3 : w2.cell? ⟨nb, 3, none⟩ = some (.bool false) := cell_of_row _ _ _ _ _ _ hrow2
            have q4 : w2.cell? ⟨nb, 4, none⟩ = some (.string nt) := cell_of_row _ _ _ _ _ _ hrow2
            have q5 : w2.cell? ⟨nb, 5, none⟩ = some (.string nu) := cell_of_row _ _ _ _ _ _ hrow2
            have q6 : w2.cell? ⟨nb, 6, none⟩ = some (.string nti) := cell_of_row _ _ _ _ _ _ hrow2
            have q7 : w2.cell? ⟨nb, 7, none⟩ = some (.slice k2 n2 d2) := cell_of_row _ _ _ _ _ _ hrow2
            have qf := fun j => frozen_of_row _ _ j _ _ hrow2
            have HJ := Lib.hid (HR.out.next (e' := Pl.Nest.link true e) (lk' := lk) (s' := (⟨#[33, 91, 120]⟩ : ByteArray) ++ s ++ ⟨#[121, 93, 40, 117, 41]⟩) (kd := 17) (ur := ⟨#[117]⟩) (by rw [← hm]; exact ho) hf hb rfl ⟨HR.out.ok, fun h => by cases h⟩ (fun h => ⟨rfl, HR.out.lkn h⟩) HT.out.1 HT.out.2 (by decide))
            clear ho hf hb hrow2 hKi hm y0 y1 y2 y3 y4 y5 y6 y7
            go_wp2
            go_roundw
            case rel => exact ⟨i + 1, _, _, _, _, by omega, rfl, rfl, by go_num, HJ⟩
            case measure => simp [intOf]; omega
          · have hrem : ((y : Int)).tmod 4 = 2 := tmod_nat y 4 2 hm
            have hcat1 : ¬ 9223372036854775807 < 3 + s.size := by omega
            have hcat2 : ¬ 9223372036854775807 < 3 + s.size + 5 := by omega
            have HT : Hid (((⟨#[33, 91, 120]⟩ : ByteArray) ++ s ++ ⟨#[121, 93, 40, 117, 41]⟩).data.toList = (Pl.Nest.link true e).text ∧ ((⟨#[33, 91, 120]⟩ : ByteArray) ++ s ++ ⟨#[121, 93, 40, 117, 41]⟩).size ≤ s.size + 10) := Lib.hid (by
              refine ⟨?_, ?_⟩
              · rw [ByteArray.data_append, ByteArray.data_append, Array.toList_append, Array.toList_append, HR.out.txt]
                simp [Pl.Nest.text]
              · rw [ByteArray.size_append, ByteArray.size_append]
                show 3 + s.size + 5 ≤ _
                omega)
            clear hm hAp
            go_wp2_with fail
            refine hKi.mono ?_
            rintro e w2 ⟨v', ns, rfl, ho, hf, hb⟩
            obtain ⟨vA, vc, rfl⟩ := row_slice ho
            obtain ⟨m, hm⟩ : ∃ m, m = ns.length := ⟨_, rfl⟩
            rw [← hm] at ho ⊢
            have hrow2 := (hb.block nb znb).trans HR.out.row
            have q0 : w2.cell? ⟨nb, 0, none⟩ = some (.int .i64 (nk : Int)) := cell_of_row _ _ _ _ _ _ hrow2
            have q1 : w2.cell? ⟨nb, 1, none⟩ = some (.int .i64 0) := cell_of_row _ _ _ _ _ _ hrow2
            have q2 : w2.cell? ⟨nb, 2, none⟩ = some (.bool false) := cell_of_row _ _ _ _ _ _ hrow2
            have q3 : w2.cell? ⟨nb, 3, none⟩ = some (.bool false) := cell_of_row _ _ _ _ _ _ hrow2
            have q4 : w2.cell? ⟨nb, 4, none⟩ = some (.string nt) := cell_of_row _ _ _ _ _ _ hrow2
            have q5 : w2.cell? ⟨nb, 5, none⟩ = some (.string nu) := cell_of_row _ _ _ _ _ _ hrow2
            have q6 : w2.cell? ⟨nb, 6, none⟩ = some (.string nti) := cell_of_row _ _ _ _ _ _ hrow2
            have q7 : w2.cell? ⟨nb, 7, none⟩ = some (.slice k2 n2 d2) := cell_of_row _ _ _ _ _ _ hrow2
            have qf := fun j => frozen_of_row _ _ j _ _ hrow2
            have HJ := Lib.hid (HR.out.next (e' := Pl.Nest.link true e) (lk' := true) (s' := (⟨#[33, 91, 120]⟩ : ByteArray) ++ s ++ ⟨#[121, 93, 40, 117, 41]⟩) (kd := 17) (ur := ⟨#[117]⟩) (by rw [← hm]; exact ho) hf hb rfl ⟨HR.out.ok, fun h => by cases h⟩ (fun h => by cases h) HT.out.1 HT.out.2 (by decide))
            clear ho hf hb hrow2 hKi hm y0 y1 y2 y3 y4 y5 y6 y7
            go_wp2
            go_roundw
            case rel => exact ⟨i + 1, _, _, _, _, by omega, rfl, rfl, by go_num, HJ⟩
            case measure => simp [intOf]; omega
          · have hrem : ((y : Int)).tmod 4 = 2 := tmod_nat y 4 2 hm
            have hcat1 : ¬ 9223372036854775807 < 2 + s.size := by omega
            have hcat2 : ¬ 9223372036854775807 < 2 + s.size + 5 := by omega
            have HT : Hid (((⟨#[91, 120]⟩ : ByteArray) ++ s ++ ⟨#[121, 93, 40, 117, 41]⟩).data.toList = (Pl.Nest.link false e).text ∧ ((⟨#[91, 120]⟩ : ByteArray) ++ s ++ ⟨#[121, 93, 40, 117, 41]⟩).size ≤ s.size + 10) := Lib.hid (by
              refine ⟨?_, ?_⟩
              · rw [ByteArray.data_append, ByteArray.data_append, Array.toList_append, Array.toList_append, HR.out.txt]
                simp [Pl.Nest.text]
              · rw [ByteArray.size_append, ByteArray.size_append]
                show 2 + s.size + 5 ≤ _
                omega)
            clear hm hAp
            go_wp2_with fail
            refine hKi.mono ?_
            rintro e w2 ⟨v', ns, rfl, ho, hf, hb⟩
            obtain ⟨vA, vc, rfl⟩ := row_slice ho
            obtain ⟨m, hm⟩ : ∃ m, m = ns.length := ⟨_, rfl⟩
            rw [← hm] at ho ⊢
            have hrow2 := (hb.block nb znb).trans HR.out.row
            have q0 : w2.cell? ⟨nb, 0, none⟩ = some (.int .i64 (nk : Int)) := cell_of_row _ _ _ _ _ _ hrow2
            have q1 : w2.cell? ⟨nb, 1, none⟩ = some (.int .i64 0) := cell_of_row _ _ _ _ _ _ hrow2
            have q2 : w2.cell? ⟨nb, 2, none⟩ = some (.bool false) := cell_of_row _ _ _ _ _ _ hrow2
            have q3 : w2.cell? ⟨nb, 3, none⟩ = some (.bool false) := cell_of_row _ _ _ _ _ _ hrow2
            have q4 : w2.cell? ⟨nb, 4, none⟩ = some (.string nt) := cell_of_row _ _ _ _ _ _ hrow2
            have q5 : w2.cell? ⟨nb, 5, none⟩ = some (.string nu) := cell_of_row _ _ _ _ _ _ hrow2
            have q6 : w2.cell? ⟨nb, 6, none⟩ = some (.string nti) := cell_of_row _ _ _ _ _ _ hrow2
            have q7 : w2.cell? ⟨nb, 7, none⟩ = some (.slice k2 n2 d2) := cell_of_row _ _ _ _ _ _ hrow2
            have qf := fun j => frozen_of_row _ _ j _ _ hrow2
            have HJ := Lib.hid (HR.out.next (e' := Pl.Nest.link false e) (lk' := true) (s' := (⟨#[91, 120]⟩ : ByteArray) ++ s ++ ⟨#[121, 93, 40, 117, 41]⟩) (kd := 16) (ur := ⟨#[117]⟩) (by rw [← hm]; exact ho) hf hb rfl ⟨HR.out.ok, fun _ => HR.out.lkn rfl⟩ (fun h => by cases h) HT.out.1 HT.out.2 (by decide))
            clear ho hf hb hrow2 hKi hm y0 y1 y2 y3 y4 y5 y6 y7
            go_wp2
            go_roundw
            case rel => exact ⟨i + 1, _, _, _, _, by omega, rfl, rfl, by go_num, HJ⟩
            case measure => simp [intOf]; omega
          · have hrem : ((y : Int)).tmod 4 = 1 := tmod_nat y 4 1 hm
            have hcat1 : ¬ 9223372036854775807 < 4 + s.size := by omega
            have hcat2 : ¬ 9223372036854775807 < 4 + s.size + 4 := by omega
            have HT : Hid (((⟨#[42, 42, 120, 32]⟩ : ByteArray) ++ s ++ ⟨#[32, 121, 42, 42]⟩).data.toList = (Pl.Nest.emph true e).text ∧ ((⟨#[42, 42, 120, 32]⟩ : ByteArray) ++ s ++ ⟨#[32, 121, 42, 42]⟩).size ≤ s.size + 10) := Lib.hid (by
              refine ⟨?_, ?_⟩
              · rw [ByteArray.data_append, ByteArray.data_append, Array.toList_append, Array.toList_append, HR.out.txt]
                simp [Pl.Nest.text, Pl.stars]
              · rw [ByteArray.size_append, ByteArray.size_append]
                show 4 + s.size + 4 ≤ _
                omega)
            clear hm hKi
            go_wp2_with fail
            refine hAp.mono ?_
            rintro e w2 ⟨v', ns, rfl, ho, hf, hb⟩
            obtain ⟨vA, vc, rfl⟩ := row_slice ho
            obtain ⟨m, hm⟩ : ∃ m, m = ns.length := ⟨_, rfl⟩
            rw [← hm] at ho ⊢
            have hrow2 := (hb.block nb znb).trans HR.out.row
            have q0 : w2.cell? ⟨nb, 0, none⟩ = some (.int .i64 (nk : Int)) := cell_of_row _ _ _ _ _ _ hrow2
            have q1 : w2.cell? ⟨nb, 1, none⟩ = some (.int .i64 0) := cell_of_row _ _ _ _ _ _ hrow2
            have q2 : w2.cell? ⟨nb, 2, none⟩ = some (.bool false) := cell_of_row _ _ _ _ _ _ hrow2
            have q3 : w2.cell? ⟨nb, 3, none⟩ = some (.bool false) := cell_of_row _ _ _ _ _ _ hrow2
            have q4 : w2.cell? ⟨nb, 4, none⟩ = some (.string nt) := cell_of_row _ _ _ _ _ _ hrow2
            have q5 : w2.cell? ⟨nb, 5, none⟩ = some (.string nu) := cell_of_row _ _ _ _ _ _ hrow2
            have q6 : w2.cell? ⟨nb, 6, none⟩ = some (.string nti) := cell_of_row _ _ _ _ _ _ hrow2
            have q7 : w2.cell? ⟨nb, 7, none⟩ = some (.slice k2 n2 d2) := cell_of_row _ _ _ _ _ _ hrow2
            have qf := fun j => frozen_of_row _ _ j _ _ hrow2
            have HJ := Lib.hid (HR.out.next (e' := Pl.Nest.emph true e) (lk' := lk) (s' := (⟨#[42, 42, 120, 32]⟩ : ByteArray) ++ s ++ ⟨#[32, 121, 42, 42]⟩) (kd := 14) (ur := ⟨#[]⟩) (by rw [← hm]; exact ho) hf hb rfl HR.out.ok (fun h => HR.out.lkn h) HT.out.1 HT.out.2 (by decide))
            clear ho hf hb hrow2 hAp hm y0 y1 y2 y3 y4 y5 y6 y7
            go_wp2
            go_roundw
            case rel => exact ⟨i + 1, _, _, _, _, by omega, rfl, rfl, by go_num, HJ⟩
            case measure => simp [intOf]; omega
          · have hrem : ((y : Int)).tmod 4 = 0 := tmod_nat y 4 0 hm
            have hcat1 : ¬ 9223372036854775807 < 3 + s.size := by omega
            have hcat2 : ¬ 9223372036854775807 < 3 + s.size + 3 := by omega
            have HT : Hid (((⟨#[42, 120, 32]⟩ : ByteArray) ++ s ++ ⟨#[32, 121, 42]⟩).data.toList = (Pl.Nest.emph false e).text ∧ ((⟨#[42, 120, 32]⟩ : ByteArray) ++ s ++ ⟨#[32, 121, 42]⟩).size ≤ s.size + 10) := Lib.hid (by
              refine ⟨?_, ?_⟩
              · rw [ByteArray.data_append, ByteArray.data_append, Array.toList_append, Array.toList_append, HR.out.txt]
                simp [Pl.Nest.text, Pl.stars]
              · rw [ByteArray.size_append, ByteArray.size_append]
                show 3 + s.size + 3 ≤ _
                omega)
            clear hm hKi
            go_wp2_with fail
            refine hAp.mono ?_
            rintro e w2 ⟨v', ns, rfl, ho, hf, hb⟩
            obtain ⟨vA, vc, rfl⟩ := row_slice ho
            obtain ⟨m, hm⟩ : ∃ m, m = ns.length := ⟨_, rfl⟩
            rw [← hm] at ho ⊢
            have hrow2 := (hb.block nb znb).trans HR.out.row
            have q0 : w2.cell? ⟨nb, 0, none⟩ = some (.int .i64 (nk : Int)) := cell_of_row _ _ _ _ _ _ hrow2
            have q1 : w2.cell? ⟨nb, 1, none⟩ = some (.int .i64 0) := cell_of_row _ _ _ _ _ _ hrow2
            have q2 : w2.cell? ⟨nb, 2, none⟩ = some (.bool false) := cell_of_row _ _ _ _ _ _ hrow2
            have q3 : w2.cell? ⟨nb, 3, none⟩ = some (.bool false) := cell_of_row _ _ _ _ _ _ hrow2
            have q4 : w2.cell? ⟨nb, 4, none⟩ = some (.string nt) := cell_of_row _ _ _ _ _ _ hrow2
            have q5 : w2.cell? ⟨nb, 5, none⟩ = some (.string nu) := cell_of_row _ _ _ _ _ _ hrow2
            have q6 : w2.cell? ⟨nb, 6, none⟩ = some (.string nti) := cell_of_row _ _ _ _ _ _ hrow2
            have q7 : w2.cell? ⟨nb, 7, none⟩ = some (.slice k2 n2 d2) := cell_of_row _ _ _ _ _ _ hrow2
            have qf := fun j => frozen_of_row _ _ j _ _ hrow2
            have HJ := Lib.hid (HR.out.next (e' := Pl.Nest.emph false e) (lk' := lk) (s' := (⟨#[42, 120, 32]⟩ : ByteArray) ++ s ++ ⟨#[32, 121, 42]⟩) (kd := 13) (ur := ⟨#[]⟩) (by rw [← hm]; exact ho) hf hb rfl HR.out.ok (fun h => HR.out.lkn h) HT.out.1 HT.out.2 (by decide))
            clear ho hf hb hrow2 hAp hm y0 y1 y2 y3 y4 y5 y6 y7
            go_wp2
            go_roundw
            case rel => exact ⟨i + 1, _, _, _, _, by omega, rfl, rfl, by go_num, HJ⟩
            case measure => simp [intOf]; omega
        · have hini : ¬ (i : Int) < n := by omega
          obtain rfl : i = n := by omega
          have hpp := Pl.parse_nest e HR.out.ok
          have hPn := fun W (hb : Below wr.heap.size wr W) => HP.out W (HR.out.bel.trans (hb.mono HR.out.bel.size)) s (by have := HR.out.sz; omega)
          rw [HR.out.txt, hpp] at hPn
          have hnr : ∀ W, Below wr.heap.size wr W → NRep W W.heap.size ⟨nk, nt, nu, nti, .slice k2 n2 d2⟩ e.node := fun W hb => (HR.out.rep.keep (keepT_unmask wr nb _) (Nat.le_refl _)).keep (keepT_below hb) hb.size
          have HPN := Lib.hid hPn
          have HNR := Lib.hid hnr
          have HSM := Lib.hid (sm_nest e)
          have HKK := Lib.hid (fun W (hb : Below wr.heap.size wr W) => HK.out W (HR.out.bel.trans (hb.mono HR.out.bel.size)))
          clear hpp hPn hnr
          have hBd : Below wr.heap.size wr wr.drew := below_drew2 (Below.refl _ _)
          have hBa : ∀ o, Below wr.heap.size wr (wr.alloc o).drew := fun o => ((Below.refl _ _).alloc (Nat.le_refl _) o).drew
          have hAl : ∀ W, Below wr.heap.size wr W → KRep (W.alloc (Obj.cells #[Value.int .i64 (nk : Int), Value.int .i64 0, Value.bool false, Value.bool false, Value.string nt, Value.string nu, Value.string nti, Value.slice k2 n2 d2] 27)) (W.alloc (Obj.cells #[Value.int .i64 (nk : Int), Value.int .i64 0, Value.bool false, Value.bool false, Value.string nt, Value.string nu, Value.string nti, Value.slice k2 n2 d2] 27)).heap.size (.slice (some ⟨W.heap.size, 0, none⟩) 1 1) [e.node] := fun W hb => krep_one W ⟨nk, nt, nu, nti, .slice k2 n2 d2⟩ _ (HNR.out W hb)
          have PA := Lib.hid (show Calls Tryz.prog 17 #[.string s] wr.drew (NodesRes [e.node] wr.drew) from HPN.out _ hBd)
          have PB := Lib.hid (show Calls Tryz.prog 17 #[.string s] (wr.alloc (Obj.cells #[Value.int .i64 (nk : Int), Value.int .i64 0, Value.bool false, Value.bool false, Value.string nt, Value.string nu, Value.string nti, Value.slice k2 n2 d2] 27)).drew (NodesRes [e.node] (wr.alloc (Obj.cells #[Value.int .i64 (nk : Int), Value.int .i64 0, Value.bool false, Value.bool false, Value.string nt, Value.string nu, Value.string nti, Value.slice k2 n2 d2] 27)).drew) from HPN.out _ (hBa _))
          have hSA : ∀ (w5 : World) (kv : Value), KRep w5 w5.heap.size kv [e.node] → Below wr.heap.size wr w5 → Calls Tryz.prog 16 #[kv, .slice (some ⟨w5.heap.size, 0, none⟩) 1 1] (w5.alloc (Obj.cells #[Value.int .i64 (nk : Int), Value.int .i64 0, Value.bool false, Value.bool false, Value.string nt, Value.string nu, Value.string nti, Value.slice k2 n2 d2] 27)) (fun e w6 => e = .returned (.bool true) ∧ Below wr.heap.size wr w6) := fun w5 kv hk5 hB5 =>
            (same_any HSM.out _ _ _ (hk5.on ((Below.refl _ _).alloc (Nat.le_refl _) _)) (hAl w5 hB5)).mono fun e w6 hq => ⟨hq.1, (hB5.alloc hB5.size _).trans (hq.2.mono (Nat.le_trans hB5.size (by simp)))⟩
          have hSB : ∀ (w5 : World) (kv : Value), KRep w5 w5.heap.size kv [e.node] → Below (wr.alloc (Obj.cells #[Value.int .i64 (nk : Int), Value.int .i64 0, Value.bool false, Value.bool false, Value.string nt, Value.string nu, Value.string nti, Value.slice k2 n2 d2] 27)).drew.heap.size (wr.alloc (Obj.cells #[Value.int .i64 (nk : Int), Value.int .i64 0, Value.bool false, Value.bool false, Value.string nt, Value.string nu, Value.string nti, Value.slice k2 n2 d2] 27)).drew w5 → Calls Tryz.prog 16 #[kv, .slice (some ⟨wr.heap.size, 0, none⟩) 1 1] w5 (fun e w6 => e = .returned (.bool true) ∧ Below wr.heap.size wr w6) := fun w5 kv hk5 hb5 =>
            (same_any HSM.out _ _ _ hk5 ((hAl wr (Below.refl _ _)).on (below_undrew hb5))).mono fun e w6 hq => ⟨hq.1, ((hBa _).trans (hb5.mono (hBa _).size)).trans (hq.2.mono (Nat.le_trans (hBa _).size hb5.size))⟩
          have SA := Lib.hid hSA
          have SB := Lib.hid hSB
          clear hAl hSA hSB
          go_wp2_with fail
          have hSk : ∀ W, Below wr.heap.size wr W → W.cell? ⟨nb, 0, none⟩ = some (.int .i64 (nk : Int)) ∧ W.cell? ⟨nb, 1, none⟩ = some (.int .i64 0) ∧ W.cell? ⟨nb, 2, none⟩ = some (.bool false) ∧ W.cell? ⟨nb, 3, none⟩ = some (.bool false) ∧ W.cell? ⟨nb, 4, none⟩ = some (.string nt) ∧ W.cell? ⟨nb, 5, none⟩ = some (.string nu) ∧ W.cell? ⟨nb, 6, none⟩ = some (.string nti) ∧ W.cell? ⟨nb, 7, none⟩ = some (.slice k2 n2 d2) ∧ Below wr.heap.size wr W := fun W hb => ⟨(hb.cell (p := ⟨nb, 0, none⟩) znb).trans y0, (hb.cell (p := ⟨nb, 1, none⟩) znb).trans y1, (hb.cell (p := ⟨nb, 2, none⟩) znb).trans y2, (hb.cell (p := ⟨nb, 3, none⟩) znb).trans y3, (hb.cell (p := ⟨nb, 4, none⟩) znb).trans y4, (hb.cell (p := ⟨nb, 5, none⟩) znb).trans y5, (hb.cell (p := ⟨nb, 6, none⟩) znb).trans y6, (hb.cell (p := ⟨nb, 7, none⟩) znb).trans y7, hb⟩
          have HSK := Lib.hid hSk
          clear hSk
          go_region_held3 (fun W => W.cell? ⟨nb, 0, none⟩ = some (.int .i64 (nk : Int)) ∧ W.cell? ⟨nb, 1, none⟩ = some (.int .i64 0) ∧ W.cell? ⟨nb, 2, none⟩ = some (.bool false) ∧ W.cell? ⟨nb, 3, none⟩ = some (.bool false) ∧ W.cell? ⟨nb, 4, none⟩ = some (.string nt) ∧ W.cell? ⟨nb, 5, none⟩ = some (.string nu) ∧ W.cell? ⟨nb, 6, none⟩ = some (.string nti) ∧ W.cell? ⟨nb, 7, none⟩ = some (.slice k2 n2 d2) ∧ Below wr.heap.size wr W) (first | (go_split_ands; with_reducible exact HSK.out _ (by assumption)) | (go_split_ands; with_reducible exact HSK.out _ (Below.alloc (by assumption) (Below.size (by assumption)) _)) | (with_reducible exact HSK.out _ hBd) | (with_reducible exact HSK.out _ (hBa _))) (first | (go_at_call 17; first | ((with_reducible refine PA.out.mono ?_); rintro e w5 ⟨kv, rfl, hk5, hb5⟩; have hB5 : Below wr.heap.size wr w5 := hBd.trans (hb5.mono hBd.size)) | ((with_reducible refine PB.out.mono ?_); rintro e w5 ⟨kv, rfl, hk5, hb5⟩; have hB5 : Below wr.heap.size wr w5 := (hBa _).trans (hb5.mono (hBa _).size))) | (go_at_call 16; first | ((with_reducible refine (SA.out w5 kv hk5 hB5).mono ?_); rintro e w6 ⟨rfl, hB6⟩) | ((with_reducible refine (SB.out w5 kv hk5 hb5).mono ?_); rintro e w6 ⟨rfl, hB6⟩)) | (go_at_call 13; (with_reducible refine (HKK.out w6 hB6).mono ?_); rintro e w7 ⟨rfl, hb7⟩; have hB7 : Below wr.heap.size wr w7 := hB6.trans (hb7.mono hB6.size)))
          all_goals
            have HB7 := Lib.hid (HR.out.bel.trans (hB7.mono HR.out.bel.size))
            clear hB7 hb7
            go_wp2_with fail
            go_ret
            exact ⟨rfl, HB7.out⟩
end Go.Proofs.YtmplfiflikhpjaaGreatDoor
