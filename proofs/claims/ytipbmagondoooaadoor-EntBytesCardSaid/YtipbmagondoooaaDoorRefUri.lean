/-
  The reference's addresses: it answers as the program's own, at every text.
-/
import Derived.Test.YtipbmagondoooaaDoorUri
import Derived.Test.YtipbmagondoooaaDoorRow
import Derived.Test.YtipbmagondoooaaDoorDigit
import Derived.Handy
import Derived.Deep.RegionLaw
import Derived.Lib.FrozenHead2
namespace Go.Proofs.YtipbmagondoooaaDoor
open Go.RowKit

theorem plainB_at (i : Nat) (h : i < 20) (c : UInt8) : (Spec.plains.drop i).contains c = ((((⟨#[59, 47, 63, 58, 64, 38, 61, 43, 36, 44, 45, 95, 46, 33, 126, 42, 39, 40, 41, 35]⟩ : ByteArray)[i]'h).toNat : Int) == (c.toNat : Int) || (Spec.plains.drop (i + 1)).contains c) := by
  have hb : Spec.plains.drop i = ((⟨#[59, 47, 63, 58, 64, 38, 61, 43, 36, 44, 45, 95, 46, 33, 126, 42, 39, 40, 41, 35]⟩ : ByteArray)[i]'h) :: Spec.plains.drop (i + 1) := by
    rw [List.drop_eq_getElem_cons (show i < Spec.plains.length from h)]; rfl
  rw [hb, List.contains_cons]
  congr 1
  rw [Bool.eq_iff_iff, beq_iff_eq, beq_iff_eq]
  constructor
  · intro e; rw [e]
  · intro e; exact (UInt8.toNat_inj.1 (by omega)).symm
set_option maxHeartbeats 4000000 in
set_option maxRecDepth 100000 in
theorem refPlain_any (c : UInt8) (w : World) :
    Calls Tryd.prog 36 #[.int .u8 (c.toNat : Int)] w fun e w' => e = .returned (.bool (Spec.letter c || Spec.plains.contains c)) ∧ w' = w := by
  obtain ⟨x, hx⟩ : ∃ x : Int, x = (c.toNat : Int) := ⟨_, rfl⟩
  have x0 : 0 ≤ x := by omega
  have x1 : x ≤ 255 := by have := c.toNat_lt; omega
  obtain ⟨b, hb⟩ : ∃ b, b = Spec.letter c := ⟨_, rfl⟩
  have hway : x < 48 ∨ (48 ≤ x ∧ x ≤ 57) ∨ (57 < x ∧ x < 65) ∨ (65 ≤ x ∧ x ≤ 90) ∨ (90 < x ∧ x < 97) ∨ (97 ≤ x ∧ x ≤ 122) ∨ 122 < x := by omega
  have HC : Hid (∀ i (h : i < 20), (Spec.plains.drop i).contains c = ((((⟨#[59, 47, 63, 58, 64, 38, 61, 43, 36, 44, 45, 95, 46, 33, 126, 42, 39, 40, 41, 35]⟩ : ByteArray)[i]'h).toNat : Int) == x || (Spec.plains.drop (i + 1)).contains c)) := Lib.hid (by rw [hx]; exact fun i h => plainB_at i h c)
  rw [← hb, ← hx]
  unfold Spec.letter at hb
  rcases hway with h | ⟨h, h'⟩ | ⟨h, h'⟩ | ⟨h, h'⟩ | ⟨h, h'⟩ | ⟨h, h'⟩ | h
  all_goals first
    | (have HF : Hid (b = true) := Lib.hid (by rw [hb]; simp only [Bool.or_eq_true, Bool.and_eq_true, decide_eq_true_eq]; omega)
       clear hb hx HC
       go_enter Tryd.func36, Tryd.ntmps36
       go_wp2
       go_ret
       exact ⟨by rw [HF.out]; rfl, rfl⟩)
    | (have HF : Hid (b = false) := Lib.hid (by rw [hb]; simp only [Bool.or_eq_false_iff, Bool.and_eq_false_iff, decide_eq_false_iff_not]; omega)
       have HR : Hid ((b || Spec.plains.contains c) = (Spec.plains.drop 0).contains c) := Lib.hid (by rw [HF.out]; rfl)
       clear hb hx
       generalize hr : (b || Spec.plains.contains c) = r at HR ⊢
       clear hr HF
       go_enter Tryd.func36, Tryd.ntmps36
       go_wp2
       go_loop [4] (fun v4 => ∃ i : Nat, i ≤ 20 ∧ v4 = .int .i64 i ∧ Hid (r = (Spec.plains.drop i).contains c)) (fun v4 => 20 - (intOf v4).toNat)
       case atStart => exact ⟨0, by omega, rfl, HR⟩
       case round =>
         obtain ⟨i, hi, rfl, HR⟩ := hrel
         by_cases h20 : i < 20
         · have hi20 : (i : Int) < 20 := by omega
           have hi0 : (0 : Int) ≤ i := by omega
           have HC1 := HC.out i h20
           obtain ⟨y, hy⟩ : ∃ y : Int, y = (((⟨#[59, 47, 63, 58, 64, 38, 61, 43, 36, 44, 45, 95, 46, 33, 126, 42, 39, 40, 41, 35]⟩ : ByteArray)[i]'h20).toNat : Int) := ⟨_, rfl⟩
           rw [← hy] at HC1
           have hix : ∀ W, (Instr.index 9 (.string ⟨#[59, 47, 63, 58, 64, 38, 61, 43, 36, 44, 45, 95, 46, 33, 126, 42, 39, 40, 41, 35]⟩) (.int .i64 (i : Int))).run Tryd.prog W = .ok (.int .u8 y) W := fun W => by
             rw [hy]
             rw [run_index_string _ _ _ _ _ Tryd.underlying9, dif_pos ⟨by omega, by show (i : Int) < 20; omega⟩]
             rfl
           cases he : y == x with
           | true =>
             rw [he, Bool.true_or] at HC1
             have HF : Hid (r = true) := Lib.hid (by rw [HR.out, HC1])
             clear HC1 HR HC hy
             go_wp2
             go_ret
             exact ⟨by rw [HF.out]; rfl, rfl⟩
           | false =>
             rw [he, Bool.false_or] at HC1
             have HF : Hid (r = (Spec.plains.drop (i + 1)).contains c) := Lib.hid (by rw [HR.out, HC1])
             clear HC1 HR HC hy
             go_wp2
             go_round
             case rel => exact ⟨i + 1, by omega, by go_num, HF⟩
             case measure => simp [intOf]; omega
         · have hi20 : ¬ (i : Int) < 20 := by omega
           have HF : Hid (r = false) := Lib.hid (by rw [HR.out, show i = 20 by omega]; rfl)
           clear HR HC
           go_wp2
           go_ret
           exact ⟨by rw [HF.out]; rfl, rfl⟩)

theorem dig_hex (c : UInt8) : Spec.hexs.contains c = decide (0 ≤ digZ c) := by
  have h : ∀ n, n < 256 → Spec.hexs.contains (UInt8.ofNat n) = decide (0 ≤ digZ (UInt8.ofNat n)) := by decide +kernel
  have := h c.toNat c.toNat_lt
  rwa [UInt8.ofNat_toNat] at this
theorem capB_at : ∀ n : Nat, ∀ h : n < 16, (⟨#[48, 49, 50, 51, 52, 53, 54, 55, 56, 57, 65, 66, 67, 68, 69, 70]⟩ : ByteArray)[n]'h = Spec.cap n := by
  intro n hn
  match n, hn with
  | 0, _ | 1, _ | 2, _ | 3, _ | 4, _ | 5, _ | 6, _ | 7, _ | 8, _ | 9, _ | 10, _ | 11, _ | 12, _ | 13, _ | 14, _ | 15, _ => rfl
  | n + 16, h => exact absurd h (by show ¬ n + 16 < 16; omega)

theorem isHex_drop (s : ByteArray) (pos : Nat) (h : pos + 2 < s.size) : Spec.isHex (s.data.toList.drop (pos + 1)) = (decide (0 ≤ digZ (s[pos + 1]'(by omega))) && decide (0 ≤ digZ (s[pos + 2]'h))) := by
  have h1 : s.data.toList.drop (pos + 1) = (s[pos + 1]'(by omega)) :: (s[pos + 2]'h) :: s.data.toList.drop (pos + 3) := by
    rw [List.drop_eq_getElem_cons (show pos + 1 < s.data.toList.length by rw [← Lib.size_eq]; omega), List.drop_eq_getElem_cons (show pos + 1 + 1 < s.data.toList.length by rw [← Lib.size_eq]; omega)]; rfl
  rw [h1, Spec.isHex, dig_hex, dig_hex]
theorem one3 (x y : Int) : ∀ u ∈ [Value.int .u8 37, Value.int .u8 x, Value.int .u8 y], u.oneCell' = true := by
  intro u hu
  simp only [List.mem_cons, List.mem_nil_iff, or_false] at hu
  rcases hu with rfl | rfl | rfl <;> rfl
theorem one1 (x : Int) : ∀ u ∈ [Value.int .u8 x], u.oneCell' = true := by
  intro u hu
  simp only [List.mem_cons, List.mem_nil_iff, or_false] at hu
  rw [hu]; rfl
theorem cells1 (w : World) (x : Value) (t : TypeId) : ∀ (j : Nat) (u : Value), [x][j]? = some u → (w.alloc (.cells #[x] t)).cell? ((⟨w.heap.size, 0, none⟩ : Addr).add j) = some u := by
  intro j u h
  have hadd : (⟨w.heap.size, 0, none⟩ : Addr).add j = ⟨w.heap.size, j, none⟩ := by unfold Addr.add; split <;> simp_all
  rw [hadd]
  exact cell_fresh w _ _ j u (by simpa using h)
theorem cells3 (w : World) (x y z : Value) (t : TypeId) : ∀ (j : Nat) (u : Value), [x, y, z][j]? = some u → (w.alloc (.cells #[x, y, z] t)).cell? ((⟨w.heap.size, 0, none⟩ : Addr).add j) = some u := by
  intro j u h
  have hadd : (⟨w.heap.size, 0, none⟩ : Addr).add j = ⟨w.heap.size, j, none⟩ := by unfold Addr.add; split <;> simp_all
  rw [hadd]
  exact cell_fresh w _ _ j u (by simpa using h)
/-- append as one step of a region that draws: to a row that the call owns. -/
theorem step_append_row {P : Program} {ops : Array Oper} {o : Oper} {a : Act} {w : World} {K : Act → World → Prop} {Q : Exit → Act → World → Prop} {E : Prop} (hgd : o.guard = none) (s x : Operand) (t : TypeId)
    (ho : o.op = .call { callee := .builtin .append, args := #[s, x], argTypes := #[t, t] })
    (base : Nat) (e : TypeId) (i : TypeInfo) (z : Value) (size bytes : Nat) (ht : P.underlying t = some (.slice e)) (hi : P.info? e = some i) (hz : i.zero = some z)
    (hsize : i.size = size) (hby : i.bytes = bytes) (hzs : z.cells.size = size) (hsz : 0 < size)
    (v : Value) (n : Nat) (xs : List Value) (hs : a.eval s = v) (hown : w.ownsRowF base e size v n xs)
    (ad : Addr) (m c : Nat) (news : List Value) (hx : a.eval x = .slice (some ad) m c) (hl : news.length = m * size) (hnews : ∀ j u, news[j]? = some u → w.cell? (ad.add j) = some u) (h1 : ∀ u ∈ news, u.oneCell' = true)
    (h63 : n + m ≤ maxLen) (hbytes : (n + m) * bytes ≤ 140737488355328) (hbase : base ≤ w.heap.size)
    (h : ∀ v' w', w'.ownsRowF base e size v' (n + m) (xs ++ news) → w.grownBy w' v.ownBlock → K (a.put o.dst v') w') :
    if Region.wanted o (yielded ops a.tmps) = true then Oper.wp P o a w K Q else E := by
  have hw : Region.wanted o (yielded ops a.tmps) = true := by simp [Region.wanted, hgd]
  rw [if_pos hw]
  obtain ⟨v', w', hr, h2, h3, _⟩ := run_append_ownF (P := P) w base t o.type e i z size bytes ht hi hz hsize hby hzs hsz v n xs hown ad m c news hl hnews h1 h63 hbytes hbase
  unfold Oper.wp execOp
  simp only [ho, resolve, invoke, builtin, Sem.run_bind, Sem.run_pure, Result.andThen_ok, List.map_toArray, List.map_cons, List.map_nil, hs, hx, hr]
  exact h v' w' h2 h3

set_option maxHeartbeats 1000000 in
set_option maxRecDepth 1000000 in
theorem refUri_any (s : ByteArray) (w : World) (hs : s.size ≤ 1000000) :
    Calls Tryd.prog 17 #[.string s] w fun e w' => e = .returned (.string ⟨(Spec.uri s.data.toList).toArray⟩) ∧ Below w.heap.size w w' := by
  obtain ⟨i0, hi, hz0, hz1, hz2⟩ := info_parts infoByte
  go_enter Tryd.func17, Tryd.ntmps17
  go_wp2
  go_loopw [3, 4] (fun vb vi wr => ∃ (pos : Nat) (acc : List UInt8), pos ≤ s.size ∧ vi = .int .i64 pos ∧ wr.ownsRowF w.heap.size 5 1 vb acc.length (Lib.byteCells acc) ∧ Below w.heap.size w wr ∧ Hid (UriAt s pos acc)) (fun _ vi _ => s.size - (intOf vi).toNat)
  case atStart =>
    exact ⟨0, [], Nat.zero_le _, rfl, World.ownsRowF_nil _ _ _ _, Below.refl _ w, Lib.hid ⟨rfl, Nat.zero_le _⟩⟩
  case round =>
    obtain ⟨pos, acc, hpl, rfl, hI, hbw, HU⟩ := hrel
    have hsz : w.heap.size ≤ wr.heap.size := hbw.size
    have hal : acc.length ≤ 3 * pos := HU.out.2
    by_cases hp : pos < s.size
    · have hpi : (pos : Int) < s.size := by omega
      have hdrop : s.data.toList.drop pos = (s[pos]'hp) :: s.data.toList.drop (pos + 1) := by
        rw [List.drop_eq_getElem_cons (by simpa using hp)]; rfl
      obtain ⟨c, hc⟩ : ∃ c, c = s[pos]'hp := ⟨_, rfl⟩
      have hL := fun W => refPlain_any c W
      rw [← hc] at hdrop
      have hN : Hid (∀ u : List UInt8, Spec.uri (c :: s.data.toList.drop (pos + 1)) = u ++ Spec.uri (s.data.toList.drop (pos + 1)) → u.length ≤ 3 → ∀ W v k, k = (acc ++ u).length → W.ownsRowF w.heap.size 5 1 v k (Lib.byteCells (acc ++ u)) → Below w.heap.size w W →
          (∃ (p2 : Nat) (acc2 : List UInt8), p2 ≤ s.size ∧ Value.int .i64 ((pos : Int) + 1) = .int .i64 p2 ∧ W.ownsRowF w.heap.size 5 1 v acc2.length (Lib.byteCells acc2) ∧ Below w.heap.size w W ∧ Hid (UriAt s p2 acc2))) := Lib.hid fun u hu hul W v k hk h1 h2 =>
        ⟨pos + 1, acc ++ u, by omega, rfl, by rw [← hk]; exact h1, h2, Lib.hid ⟨by rw [List.append_assoc, ← hu, ← hdrop]; exact HU.out.1, by rw [List.length_append]; omega⟩⟩
      have hcx : (c.toNat : Int) ≤ 255 := by have := c.toNat_lt; omega
      have hc0 : 0 ≤ (c.toNat : Int) := by omega
      clear HU hdrop
      by_cases hst : stands c (s.data.toList.drop (pos + 1))
      · have HX := Lib.hid (hN.out _ (uri_cons c _ hst) (by simp))
        clear hN
        cases hl : (Spec.letter c || Spec.plains.contains c) with
        | true =>
          rw [hl] at hL
          clear hst hl
          go_wp2_with fail
          go_at_call 36
          rw [← hc]
          refine (hL _).mono ?_
          rintro e w1 ⟨rfl, rfl⟩
          go_wp2_with (at_builtin; refine wpList_append_ownF _ rfl _ _ 27 rfl w.heap.size 5 i0 (.int .u8 0) 1 1 Tryd.underlying27 hi hz0 hz1 hz2 rfl (by decide) _ _ _ rfl (hI.alloc _) ⟨_, 0, none⟩ 1 1 [.int .u8 ((s[pos]'hp).toNat : Int)] rfl rfl (cells1 _ _ _) (one1 _) (by unfold maxLen; omega) (by omega) (by simp; omega) ?_; intro v2 w2 hI2 hgrow _)
          rw [← hc, byteCells_snoc] at hI2
          have hbb : Below w.heap.size w w2 := (hbw.alloc hsz _).grown hgrow (by simp; omega) (fun k hk => (hI.lt k hk).1)
          have HI2 := Lib.hid hI2
          clear hI2 hI hgrow
          go_wp2
          go_roundw
          case rel => exact HX.out w2 v2 _ (by simp) HI2.out hbb
          case measure => simp [intOf]; omega
        | false =>
          rw [hl] at hL
          rw [Bool.or_eq_false_iff] at hl
          obtain ⟨h37, hh⟩ : c = 37 ∧ Spec.isHex (s.data.toList.drop (pos + 1)) = true := by
            rcases hst with h | h | h
            · rw [hl.1] at h; cases h
            · rw [hl.2] at h; cases h
            · exact h
          have h37b : (((s[pos]'hp).toNat : Int) == 37) = true := by rw [← hc, h37]; rfl
          have hp2 : pos + 2 < s.size := by
            apply Decidable.byContradiction
            intro h
            have hlen : (s.data.toList.drop (pos + 1)).length < 2 := by rw [List.length_drop, ← Lib.size_eq]; omega
            match s.data.toList.drop (pos + 1), hlen, hh with
            | [], _, hh => cases hh
            | [_], _, hh => cases hh
          have hpi2 : (pos : Int) + 2 < s.size := by omega
          have hD1 := fun W => digit_any (s[pos + 1]'(by omega)) W
          have hD2 := fun W => digit_any (s[pos + 2]'hp2) W
          have hx2 := isHex_drop s pos hp2
          rw [hh] at hx2
          obtain ⟨d1, hd1⟩ : ∃ d1, d1 = digZ (s[pos + 1]'(by omega)) := ⟨_, rfl⟩
          obtain ⟨d2, hd2⟩ : ∃ d2, d2 = digZ (s[pos + 2]'hp2) := ⟨_, rfl⟩
          rw [← hd1, ← hd2] at hx2
          rw [← hd1] at hD1
          rw [← hd2] at hD2
          have hx3 := hx2.symm
          rw [Bool.and_eq_true, decide_eq_true_eq, decide_eq_true_eq] at hx3
          have hn1 := hx3.1
          have hn2 := hx3.2
          clear hd1 hd2 hx2 hx3 hh h37 hst hl
          go_wp2_with fail
          go_at_call 36
          rw [← hc]
          refine (hL _).mono ?_
          rintro e w1 ⟨rfl, rfl⟩
          go_wp2_with fail
          refine (hD1 _).mono ?_
          rintro e w1 ⟨rfl, rfl⟩
          go_wp2_with fail
          refine (hD2 _).mono ?_
          rintro e w1 ⟨rfl, rfl⟩
          go_wp2_with (at_builtin; refine wpList_append_ownF _ rfl _ _ 27 rfl w.heap.size 5 i0 (.int .u8 0) 1 1 Tryd.underlying27 hi hz0 hz1 hz2 rfl (by decide) _ _ _ rfl (hI.alloc _) ⟨_, 0, none⟩ 1 1 [.int .u8 ((s[pos]'hp).toNat : Int)] rfl rfl (cells1 _ _ _) (one1 _) (by unfold maxLen; omega) (by omega) (by simp; omega) ?_; intro v2 w2 hI2 hgrow _)
          rw [← hc, byteCells_snoc] at hI2
          have hbb : Below w.heap.size w w2 := (hbw.alloc hsz _).grown hgrow (by simp; omega) (fun k hk => (hI.lt k hk).1)
          have HI2 := Lib.hid hI2
          clear hI2 hI hgrow
          go_wp2
          go_roundw
          case rel => exact HX.out w2 v2 _ (by simp) HI2.out hbb
          case measure => simp [intOf]; omega
      · have HX := Lib.hid (hN.out _ (uri_cons' c _ hst) (by simp))
        clear hN
        have hl : (Spec.letter c || Spec.plains.contains c) = false := by
          rw [Bool.or_eq_false_iff]
          constructor
          · cases h : Spec.letter c
            · rfl
            · exact absurd (.inl h) hst
          · cases h : Spec.plains.contains c
            · rfl
            · exact absurd (.inr (.inl h)) hst
        rw [hl] at hL
        obtain ⟨hh, hhh⟩ : ∃ hh : Nat, hh = c.toNat / 16 := ⟨_, rfl⟩
        obtain ⟨lo, hlo⟩ : ∃ lo : Nat, lo = c.toNat % 16 := ⟨_, rfl⟩
        rw [← hhh, ← hlo] at HX
        have hhi16 : hh < 16 := by have := c.toNat_lt; omega
        have hlo16 : lo < 16 := by omega
        have hhe : ((s[pos]'hp).toNat : Int) / 16 = (hh : Int) := by rw [← hc]; omega
        have hle : bits .and .u8 ((s[pos]'hp).toNat : Int) 15 = (lo : Int) := by rw [← hc, u8_and15 _ hc0 (by omega)]; omega
        have hs1 : ∀ W, (Instr.index 9 (.string ⟨#[48, 49, 50, 51, 52, 53, 54, 55, 56, 57, 65, 66, 67, 68, 69, 70]⟩) (.int .u8 (hh : Int))).run Tryd.prog W = .ok (.int .u8 ((Spec.cap hh).toNat : Int)) W := fun W => by
          rw [run_index_string _ _ _ _ _ Tryd.underlying9, dif_pos ⟨by omega, by show (hh : Int) < 16; omega⟩, ← capB_at hh hhi16]
          rfl
        have hs2 : ∀ W, (Instr.index 9 (.string ⟨#[48, 49, 50, 51, 52, 53, 54, 55, 56, 57, 65, 66, 67, 68, 69, 70]⟩) (.int .u8 (lo : Int))).run Tryd.prog W = .ok (.int .u8 ((Spec.cap lo).toNat : Int)) W := fun W => by
          rw [run_index_string _ _ _ _ _ Tryd.underlying9, dif_pos ⟨by omega, by show (lo : Int) < 16; omega⟩, ← capB_at lo hlo16]
          rfl
        obtain ⟨y1, hy1⟩ : ∃ y1 : Int, y1 = ((Spec.cap hh).toNat : Int) := ⟨_, rfl⟩
        obtain ⟨y2, hy2⟩ : ∃ y2 : Int, y2 = ((Spec.cap lo).toNat : Int) := ⟨_, rfl⟩
        rw [← hy1] at hs1
        rw [← hy2] at hs2
        have HB : Hid (∀ l : List UInt8, Lib.byteCells l ++ [.int .u8 37, .int .u8 y1, .int .u8 y2] = Lib.byteCells (l ++ [37, Spec.cap hh, Spec.cap lo])) := Lib.hid fun l => by rw [Lib.byteCells_append, hy1, hy2]; rfl
        clear hhh hlo hl hy1 hy2
        by_cases h37 : c = 37
        · have h37b : (((s[pos]'hp).toNat : Int) == 37) = true := by rw [← hc, h37]; rfl
          have HH : Hid (Spec.isHex (s.data.toList.drop (pos + 1)) = false) := Lib.hid (by
            cases h : Spec.isHex (s.data.toList.drop (pos + 1))
            · rfl
            · exact absurd (.inr (.inr ⟨h37, h⟩)) hst)
          clear hst h37
          by_cases hp2 : pos + 2 < s.size
          · have hpi2 : (pos : Int) + 2 < s.size := by omega
            have hD1 := fun W => digit_any (s[pos + 1]'(by omega)) W
            have hD2 := fun W => digit_any (s[pos + 2]'hp2) W
            have hx2 := isHex_drop s pos hp2
            rw [HH.out] at hx2
            obtain ⟨d1, hd1⟩ : ∃ d1, d1 = digZ (s[pos + 1]'(by omega)) := ⟨_, rfl⟩
            obtain ⟨d2, hd2⟩ : ∃ d2, d2 = digZ (s[pos + 2]'hp2) := ⟨_, rfl⟩
            rw [← hd1, ← hd2] at hx2
            rw [← hd1] at hD1
            rw [← hd2] at hD2
            have hway : d1 < 0 ∨ (0 ≤ d1 ∧ d2 < 0) := by
              by_cases h1 : 0 ≤ d1
              · rw [decide_eq_true h1, Bool.true_and] at hx2
                have := of_decide_eq_false hx2.symm
                exact .inr ⟨h1, by omega⟩
              · exact .inl (by omega)
            clear hd1 hd2 hx2 HH
            rcases hway with hn1 | ⟨hn1, hn2⟩
            · go_wp2_with (first | (go_at_call 36; rw [← hc]; refine (hL _).mono ?_; rintro e w1 ⟨rfl, rfl⟩) | (go_at_call 29; first | (with_reducible refine (hD1 _).mono ?_); rintro e w1 ⟨rfl, rfl⟩))
              have hId := row_below hI (below_drew (Below.refl _ _))
              have hbd := below_drew hbw
              have hszd : w.heap.size ≤ w1.drew.heap.size := hbd.size
              go_region_law (refine step_append_row rfl _ _ 27 rfl w.heap.size 5 i0 (.int .u8 0) 1 1 Tryd.underlying27 hi hz0 hz1 hz2 rfl (by decide) _ _ _ rfl (hId.alloc _) ⟨w1.heap.size, 0, none⟩ 3 3 [.int .u8 37, .int .u8 y1, .int .u8 y2] rfl rfl (cells3 _ _ _ _ _) (one3 _ _) (by unfold maxLen; omega) (by omega) (by simp; omega) ?_; intro v2 w2 hI2 hgrow)
              all_goals
                rw [HB.out] at hI2
                have hbb : Below w.heap.size w w2 := (hbd.alloc hszd _).grown hgrow (by simp; omega) (fun k hk => (hId.lt k hk).1)
                have HI2 := Lib.hid hI2
                clear hI2 hgrow
                go_wp2
                go_roundw
                case rel => exact HX.out w2 v2 _ (by simp) HI2.out hbb
                case measure => simp [intOf]; omega
            · go_wp2_with (first | (go_at_call 36; rw [← hc]; refine (hL _).mono ?_; rintro e w1 ⟨rfl, rfl⟩) | (go_at_call 29; with_reducible refine (hD1 _).mono ?_; rintro e w1 ⟨rfl, rfl⟩) | (go_at_call 29; with_reducible refine (hD2 _).mono ?_; rintro e w1 ⟨rfl, rfl⟩))
              have hId := row_below hI (below_drew (Below.refl _ _))
              have hbd := below_drew hbw
              have hszd : w.heap.size ≤ w1.drew.heap.size := hbd.size
              go_region_law (refine step_append_row rfl _ _ 27 rfl w.heap.size 5 i0 (.int .u8 0) 1 1 Tryd.underlying27 hi hz0 hz1 hz2 rfl (by decide) _ _ _ rfl (hId.alloc _) ⟨w1.heap.size, 0, none⟩ 3 3 [.int .u8 37, .int .u8 y1, .int .u8 y2] rfl rfl (cells3 _ _ _ _ _) (one3 _ _) (by unfold maxLen; omega) (by omega) (by simp; omega) ?_; intro v2 w2 hI2 hgrow)
              all_goals
                rw [HB.out] at hI2
                have hbb : Below w.heap.size w w2 := (hbd.alloc hszd _).grown hgrow (by simp; omega) (fun k hk => (hId.lt k hk).1)
                have HI2 := Lib.hid hI2
                clear hI2 hgrow
                go_wp2
                go_roundw
                case rel => exact HX.out w2 v2 _ (by simp) HI2.out hbb
                case measure => simp [intOf]; omega
          · have hpi2 : ¬ (pos : Int) + 2 < s.size := by omega
            clear HH
            go_wp2_with (go_at_call 36; rw [← hc]; refine (hL _).mono ?_; rintro e w1 ⟨rfl, rfl⟩)
            have hId := row_below hI (below_drew (Below.refl _ _))
            have hbd := below_drew hbw
            have hszd : w.heap.size ≤ w1.drew.heap.size := hbd.size
            go_region_law (refine step_append_row rfl _ _ 27 rfl w.heap.size 5 i0 (.int .u8 0) 1 1 Tryd.underlying27 hi hz0 hz1 hz2 rfl (by decide) _ _ _ rfl (hId.alloc _) ⟨w1.heap.size, 0, none⟩ 3 3 [.int .u8 37, .int .u8 y1, .int .u8 y2] rfl rfl (cells3 _ _ _ _ _) (one3 _ _) (by unfold maxLen; omega) (by omega) (by simp; omega) ?_; intro v2 w2 hI2 hgrow)
            all_goals
              rw [HB.out] at hI2
              have hbb : Below w.heap.size w w2 := (hbd.alloc hszd _).grown hgrow (by simp; omega) (fun k hk => (hId.lt k hk).1)
              have HI2 := Lib.hid hI2
              clear hI2 hgrow
              go_wp2
              go_roundw
              case rel => exact HX.out w2 v2 _ (by simp) HI2.out hbb
              case measure => simp [intOf]; omega
        · have h37b : (((s[pos]'hp).toNat : Int) == 37) = false := beq_eq_false_iff_ne.2 (fun e => h37 (UInt8.toNat_inj.1 (by rw [← hc] at e; have : (37 : UInt8).toNat = 37 := rfl; omega)))
          clear hst h37
          go_wp2_with (go_at_call 36; rw [← hc]; refine (hL _).mono ?_; rintro e w1 ⟨rfl, rfl⟩)
          have hId := row_below hI (below_drew (Below.refl _ _))
          have hbd := below_drew hbw
          have hszd : w.heap.size ≤ w1.drew.heap.size := hbd.size
          go_region_law (refine step_append_row rfl _ _ 27 rfl w.heap.size 5 i0 (.int .u8 0) 1 1 Tryd.underlying27 hi hz0 hz1 hz2 rfl (by decide) _ _ _ rfl (hId.alloc _) ⟨w1.heap.size, 0, none⟩ 3 3 [.int .u8 37, .int .u8 y1, .int .u8 y2] rfl rfl (cells3 _ _ _ _ _) (one3 _ _) (by unfold maxLen; omega) (by omega) (by simp; omega) ?_; intro v2 w2 hI2 hgrow)
          all_goals
            rw [HB.out] at hI2
            have hbb : Below w.heap.size w w2 := (hbd.alloc hszd _).grown hgrow (by simp; omega) (fun k hk => (hId.lt k hk).1)
            have HI2 := Lib.hid hI2
            clear hI2 hgrow
            go_wp2
            go_roundw
            case rel => exact HX.out w2 v2 _ (by simp) HI2.out hbb
            case measure => simp [intOf]; omega
    · -- the text is through
      have hpe : pos = s.size := by omega
      have hfin : acc = Spec.uri s.data.toList := by
        have := HU.out.1
        rw [List.drop_of_length_le (by rw [← Lib.size_eq]; omega), Spec.uri, List.append_nil] at this
        exact this
      have HF := Lib.hid hfin
      have HP : Hid (pos = s.size) := Lib.hid hpe
      clear hpe hfin HU
      have hpi : ¬ (pos : Int) < s.size := by omega
      have hcv := row_str acc hI
      go_wp2
      go_ret
      exact ⟨ret_str (by rw [HF.out]), hbw⟩
end Go.Proofs.YtipbmagondoooaaDoor
