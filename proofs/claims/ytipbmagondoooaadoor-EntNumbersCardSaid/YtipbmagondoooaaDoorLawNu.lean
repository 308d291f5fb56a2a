/-
  What the law EntNumbers answers: true, at every number, every count of zeros, every base and either kind of letters.
-/
import Derived.Test.YtipbmagondoooaaDoorNums
import Derived.Test.YtipbmagondoooaaDoorKnown
import Derived.Handy
namespace Go.Proofs.YtipbmagondoooaaDoor
open Go.RowKit

/-- The digits of a number, the last one first to come: what the first loop has laid. -/
def Laid (cp : Bool) (base : Nat) (set : List UInt8) (v x : Nat) (ds : List UInt8) : Prop :=
  ds.all (set.contains ·) = true ∧ x * base ^ ds.length + Spec.numV base ds = v ∧ (ds = [] → x = v) ∧ ds.length ≤ 7 ∧ base ^ ds.length * x ≤ v
theorem laid_start (cp : Bool) (base : Nat) (set : List UInt8) (v : Nat) : Laid cp base set v v [] := ⟨rfl, by simp [Spec.numV], fun _ => rfl, by decide, by simp⟩
theorem laid_step (cp : Bool) (base : Nat) (set : List UInt8) (v x : Nat) (ds : List UInt8) (hb : 10 ≤ base) (hb2 : base ≤ 16) (hv : v ≤ 9999999) (hd : ∀ n, n < base → set.contains (digC cp n) = true)
    (h : Laid cp base set v x ds) (hgo : 0 < x ∨ ds = []) : Laid cp base set v (x / base) (digC cp (x % base) :: ds) := by
  obtain ⟨h1, h2, h3, h4, h5⟩ := h
  have hlt : x % base < base := Nat.mod_lt _ (by omega)
  have hdm := Nat.div_add_mod x base
  have hbig : ds.length < 7 := by
    rcases hgo with hgo | hgo
    · apply Decidable.byContradiction
      intro hc
      have e : ds.length = 7 := by omega
      rw [e] at h5
      have h7 : (10 : Nat) ^ 7 ≤ base ^ 7 := Nat.pow_le_pow_left hb 7
      have : (10 : Nat) ^ 7 = 10000000 := by decide
      have h8 : base ^ 7 * 1 ≤ base ^ 7 * x := Nat.mul_le_mul_left _ hgo
      omega
    · rw [hgo]; decide
  refine ⟨?_, ?_, fun e => (by cases e), by simp only [List.length_cons]; omega, ?_⟩
  · rw [List.all_cons, hd _ hlt, h1]; rfl
  · rw [numV_cons, (digC_ok cp (x % base) (by omega)).1, List.length_cons, Nat.pow_succ]
    have e : x / base * (base ^ ds.length * base) + x % base * base ^ ds.length = x * base ^ ds.length := by
      rw [Nat.mul_comm (base ^ ds.length) base, ← Nat.mul_assoc, ← Nat.add_mul, Nat.mul_comm (x / base) base, hdm]
    omega
  · rw [List.length_cons, Nat.pow_succ]
    have e : base ^ ds.length * base * (x / base) ≤ base ^ ds.length * x := by
      rw [Nat.mul_assoc]; exact Nat.mul_le_mul_left _ (by omega)
    omega
theorem runeOf_want (v : Nat) (h : v = 0 ∨ 1114111 < v ∨ (55296 ≤ v ∧ v < 57344)) : Spec.runeOf v = 65533 := by
  unfold Spec.runeOf Spec.validR
  rw [if_neg]
  rintro ⟨h1, h2⟩
  simp only [Bool.or_eq_true, Bool.and_eq_true, decide_eq_true_eq] at h2
  omega
theorem runeOf_same (v : Nat) (h0 : v ≠ 0) (h : ¬ (1114111 < v ∨ (55296 ≤ v ∧ v < 57344))) : Spec.runeOf v = v := by
  unfold Spec.runeOf Spec.validR
  rw [if_pos]
  refine ⟨h0, ?_⟩
  simp only [Bool.or_eq_true, Bool.and_eq_true, decide_eq_true_eq]
  omega
theorem digs_text : ∀ cp : Bool, ∀ n, n < 16 → (if cp = true then ([48, 49, 50, 51, 52, 53, 54, 55, 56, 57, 65, 66, 67, 68, 69, 70] : List UInt8) else [48, 49, 50, 51, 52, 53, 54, 55, 56, 57, 97, 98, 99, 100, 101, 102])[n]? = some (digC cp n) := by decide +kernel
theorem tab_low (n : Nat) (h : n < (⟨#[48, 49, 50, 51, 52, 53, 54, 55, 56, 57, 97, 98, 99, 100, 101, 102]⟩ : ByteArray).size) : (⟨#[48, 49, 50, 51, 52, 53, 54, 55, 56, 57, 97, 98, 99, 100, 101, 102]⟩ : ByteArray)[n]'h = digC false n := by
  have h16 : n < 16 := h
  have := digs_text false n h16
  rw [if_neg (by decide)] at this
  have h2 := at_list (⟨#[48, 49, 50, 51, 52, 53, 54, 55, 56, 57, 97, 98, 99, 100, 101, 102]⟩ : ByteArray) n h
  exact Option.some.inj (h2.symm.trans this)
theorem tab_big (n : Nat) (h : n < (⟨#[48, 49, 50, 51, 52, 53, 54, 55, 56, 57, 65, 66, 67, 68, 69, 70]⟩ : ByteArray).size) : (⟨#[48, 49, 50, 51, 52, 53, 54, 55, 56, 57, 65, 66, 67, 68, 69, 70]⟩ : ByteArray)[n]'h = digC true n := by
  have h16 : n < 16 := h
  have := digs_text true n h16
  rw [if_pos rfl] at this
  have h2 := at_list (⟨#[48, 49, 50, 51, 52, 53, 54, 55, 56, 57, 65, 66, 67, 68, 69, 70]⟩ : ByteArray) n h
  exact Option.some.inj (h2.symm.trans this)
theorem one_more (c : UInt8) (s : ByteArray) : ((⟨#[c]⟩ : ByteArray) ++ s).data.toList = c :: s.data.toList := by rw [ByteArray.data_append]; simp
theorem ret_str_mk (u : ByteArray) (l : List UInt8) (h : u.data.toList = l) : u = ⟨l.toArray⟩ := by rw [← h]

set_option maxHeartbeats 8000000 in
set_option maxRecDepth 100000 in
theorem nums_10_low (v z : Nat) (w : World) (hT : Tabs w) (hv : v ≤ 9999999) (hz : z ≤ 8) :
    Calls Tryd.prog 5 #[.int .i64 (v : Int), .int .i64 (z : Int), .bool false, .bool false] w fun e w' => e = .returned (.bool true) ∧ Below w.heap.size w w' := by
  obtain ⟨y, hy⟩ : ∃ y : Int, y = (v : Int) := ⟨_, rfl⟩
  have y0 : 0 ≤ y := by omega
  have y1 : y ≤ 9999999 := by omega
  rw [← hy]
  have HY := Lib.hid hy
  clear hy
  have hK := fun W (hW : Tabs W) => known_any W hW
  have hcv := fun W (x : Int) => str_fresh W #[.int .u8 x] [x] 1 rfl rfl
  simp only [List.map_cons, List.map_nil] at hcv
  go_enter Tryd.func5, Tryd.ntmps5
  go_wp2
  go_loopw [9, 13] (fun v9 v13 wr => ∃ (x : Nat) (ds : List UInt8) (sB : ByteArray), v13 = .int .i64 (x : Int) ∧ v9 = .string sB ∧ sB.size ≤ 7 ∧ Hid (sB.data.toList = ds ∧ Laid false 10 Spec.decs v x ds) ∧ Below w.heap.size w wr)
    (fun v9 v13 _ => (intOf v13).toNat + (match v9 with | .string s => if s.size = 0 then 1 else 0 | _ => 0))
  case atStart => exact ⟨v, [], ⟨#[]⟩, by rw [HY.out], rfl, by decide, Lib.hid ⟨rfl, laid_start _ _ _ _⟩, Below.refl _ _⟩
  case round =>
    obtain ⟨x, ds, sB, rfl, rfl, hs7, HL, hbw⟩ := hrel
    have hxv : x ≤ 9999999 := by
      have h := HL.out.2.2.2.2.2
      have : 1 ≤ 10 ^ ds.length := Nat.one_le_pow _ _ (by decide)
      have : 1 * x ≤ 10 ^ ds.length * x := Nat.mul_le_mul_right _ this
      omega
    have hstep := laid_step false 10 Spec.decs v x ds (by decide) (by decide) hv (fun n hn => (digC_ok false n (by omega)).2.2 hn)
    have HS := Lib.hid hstep
    clear hstep
    by_cases hx0 : 0 < x
    · have hxi : (0 : Int) < x := by omega
      go_wp2
      go_roundw
      case rel =>
        have hl := HS.out HL.out.2 (.inl hx0)
        refine ⟨x / 10, digC false (x % 10) :: ds, _, by go_num, rfl, ?_, Lib.hid ⟨?_, hl⟩, hbw.alloc hbw.size _⟩
        · have := hl.2.2.2.1
          rw [Lib.size_eq, one_more, List.length_cons, HL.out.1]; exact this
        · rw [one_more, tab_low, HL.out.1]
      case measure =>
        have h1 : ∀ (s : ByteArray), (match Value.string s with | .string s => if s.size = 0 then 1 else 0 | _ => 0) = if s.size = 0 then 1 else 0 := fun _ => rfl
        simp only [h1, intOf]
        rw [if_neg (by rw [Lib.size_eq, one_more]; simp)]
        have : x / 10 < x := Nat.div_lt_self hx0 (by decide)
        omega
    · have hxi : ¬ (0 : Int) < x := by omega
      by_cases he : ds = []
      · have hemp : sB.toList.isEmpty = true := by rw [emptyB, HL.out.1, he]; rfl
        go_wp2
        go_roundw
        case rel =>
          have hl := HS.out HL.out.2 (.inr he)
          refine ⟨x / 10, digC false (x % 10) :: ds, _, by go_num, rfl, ?_, Lib.hid ⟨?_, hl⟩, hbw.alloc hbw.size _⟩
          · have := hl.2.2.2.1
            rw [Lib.size_eq, one_more, List.length_cons, HL.out.1]; exact this
          · rw [one_more, tab_low, HL.out.1]
        case measure =>
          have h1 : ∀ (s : ByteArray), (match Value.string s with | .string s => if s.size = 0 then 1 else 0 | _ => 0) = if s.size = 0 then 1 else 0 := fun _ => rfl
          simp only [h1, intOf]
          have hx00 : x = 0 := by omega
          rw [if_neg (by rw [Lib.size_eq, one_more]; simp), if_pos (by rw [Lib.size_eq, HL.out.1, he]; rfl), hx00]
          decide
      · have hemp : sB.toList.isEmpty = false := by rw [emptyB, HL.out.1]; cases hds : ds with | nil => exact absurd hds he | cons a t => rfl
        have hvv : Spec.numV 10 ds = v := by
          have := HL.out.2.2.1
          have hx00 : x = 0 := by omega
          rw [hx00] at this; simpa using this
        have HV : Hid (ds ≠ [] ∧ ds.all (Spec.decs.contains ·) = true ∧ Spec.numV 10 ds = v ∧ sB.data.toList = ds) := Lib.hid ⟨he, HL.out.2.1, hvv, HL.out.1⟩
        clear hvv
        clear HL HS he
        go_wp2
        go_loop [9, 15] (fun v9 v15 => ∃ (i : Nat) (t : ByteArray), v15 = .int .i64 (i : Int) ∧ v9 = .string t ∧ i ≤ z ∧ t.size ≤ 7 + i ∧ Hid (t.data.toList = List.replicate i 48 ++ ds)) (fun _ v15 => z - (intOf v15).toNat)
        case atStart => exact ⟨0, sB, rfl, rfl, Nat.zero_le _, hs7, Lib.hid HV.out.2.2.2⟩
        case round =>
          obtain ⟨i, t, rfl, rfl, hiz, hts, HT⟩ := hrel
          by_cases hlt : i < z
          · have hlti : (i : Int) < z := by omega
            have hcat : ¬ 9223372036854775807 < 1 + t.size := by omega
            go_wp2
            go_round
            case rel => exact ⟨i + 1, _, by go_num, rfl, by omega, by rw [Lib.size_eq, one_more, List.length_cons, ← Lib.size_eq]; omega, Lib.hid (by rw [one_more, HT.out, List.replicate_succ]; rfl)⟩
            case measure => simp [intOf]; omega
          · have hlti : ¬ (i : Int) < z := by omega
            have hiz2 : i = z := by omega
            have HD : Hid (t.data.toList ≠ [] ∧ t.data.toList.all (Spec.decs.contains ·) = true ∧ Spec.numV 10 t.data.toList = v) := Lib.hid (by
              rw [HT.out]
              refine ⟨?_, all_zeros _ _ (by decide) HV.out.2.1 i, by rw [numV_zeros]; exact HV.out.2.2.1⟩
              intro h
              exact HV.out.1 (List.append_eq_nil_iff.1 h).2)
            clear HT HV
            have hA := fun W (hW : Tabs W) => at_any ((⟨#[38, 35]⟩ : ByteArray) ++ t ++ ⟨#[59, 120]⟩) W (by rw [ByteArray.size_append, ByteArray.size_append]; show 2 + t.size + 2 ≤ _; omega) hW
            rw [show ((⟨#[38, 35]⟩ : ByteArray) ++ t ++ ⟨#[59, 120]⟩).data.toList = 38 :: 35 :: (t.data.toList ++ [59, 120]) by rw [ByteArray.data_append, ByteArray.data_append]; simp, ent_num10 _ HD.out.1 HD.out.2.1, HD.out.2.2, ← Lib.size_eq] at hA
            have hcat1 : ¬ 9223372036854775807 < 2 + t.size := by omega
            have hcat2 : ¬ 9223372036854775807 < 2 + t.size + 2 := by omega
            clear hiz2
            by_cases hm : 7 < t.size
            · have hmi : (7 : Int) < t.size := by omega
              rw [if_pos hm] at hA
              have hA : ∀ W, Tabs W → Calls Tryd.prog 9 #[.string ((⟨#[38, 35]⟩ : ByteArray) ++ t ++ ⟨#[59, 120]⟩)] W fun e w' => e = .returned (.tuple #[.string ⟨#[]⟩, .int .i64 0]) ∧ Below W.heap.size W w' := hA
              go_wp2_with fail
              refine (hA _ (hT.below hbw)).mono ?_
              rintro e w1 ⟨rfl, hb1⟩
              have hbw1 := hbw.trans (hb1.mono hbw.size)
              clear hb1 hA
              go_wp2_with fail
              refine (hK _ (hT.below hbw1)).mono ?_
              rintro e w2 ⟨rfl, hb2⟩
              go_wp2
              go_ret
              exact ⟨rfl, hbw1.trans (hb2.mono hbw1.size)⟩
            · have hmi : ¬ (7 : Int) < t.size := by omega
              rw [if_neg hm] at hA
              obtain ⟨r, hr⟩ : ∃ r : ByteArray, r = ⟨(Lib.encodeRune ((Spec.runeOf v : Nat) : Int)).toArray⟩ := ⟨_, rfl⟩
              obtain ⟨n, hn⟩ : ∃ n : Int, n = ((t.size + 3 : Nat) : Int) := ⟨_, rfl⟩
              have hA : ∀ W, Tabs W → Calls Tryd.prog 9 #[.string ((⟨#[38, 35]⟩ : ByteArray) ++ t ++ ⟨#[59, 120]⟩)] W fun e w' => e = .returned (.tuple #[.string r, .int .i64 n]) ∧ Below W.heap.size W w' := fun W hW => by rw [hr, hn]; exact hA W hW
              have hneq : (n == 2 + (t.size : Int) + 1) = true := by rw [hn, beq_iff_eq]; omega
              have hrr : (r.toList == r.toList) = true := beq_self_eq_true _
              have hE0 : Hid (∀ (g : Int), (g = ((Spec.runeOf v : Nat) : Int)) → ∀ W, Calls Tryd.prog 14 #[.int .i32 g] W fun e w' => e = .returned (.string r) ∧ Below W.heap.size W w') := Lib.hid (fun g hg W => by rw [hr, hg]; exact encode_any _ W)
              clear hr hn HD
              have hyv := HY.out
              by_cases hw : v = 0 ∨ 1114111 < v ∨ (55296 ≤ v ∧ v < 57344)
              · have hE := hE0.out 65533 (by rw [runeOf_want v hw]; rfl)
                clear hE0
                have hcase : (y == 0) = true ∨ ((y == 0) = false ∧ (1114111 : Int) < y) ∨ ((y == 0) = false ∧ ¬ (1114111 : Int) < y ∧ (55296 : Int) ≤ y ∧ y < 57344) := by
                  by_cases h0 : v = 0
                  · exact .inl (by rw [beq_iff_eq]; omega)
                  · have h0b : (y == 0) = false := beq_eq_false_iff_ne.2 (by omega)
                    by_cases h1 : 1114111 < v
                    · exact .inr (.inl ⟨h0b, by omega⟩)
                    · exact .inr (.inr ⟨h0b, by omega, by omega, by omega⟩)
                clear hw hyv
                rcases hcase with c1 | ⟨c1, c2⟩ | ⟨c1, c2, c3, c4⟩
                all_goals
                  go_wp2_with fail
                  refine (hA _ (hT.below hbw)).mono ?_
                  rintro e w1 ⟨rfl, hb1⟩
                  have hbw1 := hbw.trans (hb1.mono hbw.size)
                  clear hb1
                  go_wp2_with fail
                  refine (hE _).mono ?_
                  rintro e w2 ⟨rfl, hb2⟩
                  have hbw2 := hbw1.trans (hb2.mono hbw1.size)
                  clear hb2
                  go_wp2_with fail
                  refine (hK _ (hT.below hbw2)).mono ?_
                  rintro e w3 ⟨rfl, hb3⟩
                  go_wp2
                  go_ret
                  exact ⟨rfl, hbw2.trans (hb3.mono hbw2.size)⟩
              · have hE := hE0.out y (by rw [runeOf_same v (fun e => hw (.inl e)) (fun e => hw (.inr e))]; exact HY.out)
                have c1 : (y == 0) = false := beq_eq_false_iff_ne.2 (by omega)
                have c2 : ¬ (1114111 : Int) < y := by omega
                have hcase : ¬ (55296 : Int) ≤ y ∨ ((55296 : Int) ≤ y ∧ ¬ y < 57344) := by omega
                clear hw hE0 hyv
                rcases hcase with c3 | ⟨c3, c4⟩
                all_goals
                  go_wp2_with fail
                  refine (hA _ (hT.below hbw)).mono ?_
                  rintro e w1 ⟨rfl, hb1⟩
                  have hbw1 := hbw.trans (hb1.mono hbw.size)
                  clear hb1
                  go_wp2_with fail
                  refine (hE _).mono ?_
                  rintro e w2 ⟨rfl, hb2⟩
                  have hbw2 := hbw1.trans (hb2.mono hbw1.size)
                  clear hb2
                  go_wp2_with fail
                  refine (hK _ (hT.below hbw2)).mono ?_
                  rintro e w3 ⟨rfl, hb3⟩
                  go_wp2
                  go_ret
                  exact ⟨rfl, hbw2.trans (hb3.mono hbw2.size)⟩

set_option maxHeartbeats 8000000 in
set_option maxRecDepth 100000 in
theorem nums_10_big (v z : Nat) (w : World) (hT : Tabs w) (hv : v ≤ 9999999) (hz : z ≤ 8) :
    Calls Tryd.prog 5 #[.int .i64 (v : Int), .int .i64 (z : Int), .bool false, .bool true] w fun e w' => e = .returned (.bool true) ∧ Below w.heap.size w w' := by
  obtain ⟨y, hy⟩ : ∃ y : Int, y = (v : Int) := ⟨_, rfl⟩
  have y0 : 0 ≤ y := by omega
  have y1 : y ≤ 9999999 := by omega
  rw [← hy]
  have HY := Lib.hid hy
  clear hy
  have hK := fun W (hW : Tabs W) => known_any W hW
  have hcv := fun W (x : Int) => str_fresh W #[.int .u8 x] [x] 1 rfl rfl
  simp only [List.map_cons, List.map_nil] at hcv
  go_enter Tryd.func5, Tryd.ntmps5
  go_wp2
  go_loopw [9, 13] (fun v9 v13 wr => ∃ (x : Nat) (ds : List UInt8) (sB : ByteArray), v13 = .int .i64 (x : Int) ∧ v9 = .string sB ∧ sB.size ≤ 7 ∧ Hid (sB.data.toList = ds ∧ Laid true 10 Spec.decs v x ds) ∧ Below w.heap.size w wr)
    (fun v9 v13 _ => (intOf v13).toNat + (match v9 with | .string s => if s.size = 0 then 1 else 0 | _ => 0))
  case atStart => exact ⟨v, [], ⟨#[]⟩, by rw [HY.out], rfl, by decide, Lib.hid ⟨rfl, laid_start _ _ _ _⟩, Below.refl _ _⟩
  case round =>
    obtain ⟨x, ds, sB, rfl, rfl, hs7, HL, hbw⟩ := hrel
    have hxv : x ≤ 9999999 := by
      have h := HL.out.2.2.2.2.2
      have : 1 ≤ 10 ^ ds.length := Nat.one_le_pow _ _ (by decide)
      have : 1 * x ≤ 10 ^ ds.length * x := Nat.mul_le_mul_right _ this
      omega
    have hstep := laid_step true 10 Spec.decs v x ds (by decide) (by decide) hv (fun n hn => (digC_ok true n (by omega)).2.2 hn)
    have HS := Lib.hid hstep
    clear hstep
    by_cases hx0 : 0 < x
    · have hxi : (0 : Int) < x := by omega
      go_wp2
      go_roundw
      case rel =>
        have hl := HS.out HL.out.2 (.inl hx0)
        refine ⟨x / 10, digC true (x % 10) :: ds, _, by go_num, rfl, ?_, Lib.hid ⟨?_, hl⟩, hbw.alloc hbw.size _⟩
        · have := hl.2.2.2.1
          rw [Lib.size_eq, one_more, List.length_cons, HL.out.1]; exact this
        · rw [one_more, tab_big, HL.out.1]
      case measure =>
        have h1 : ∀ (s : ByteArray), (match Value.string s with | .string s => if s.size = 0 then 1 else 0 | _ => 0) = if s.size = 0 then 1 else 0 := fun _ => rfl
        simp only [h1, intOf]
        rw [if_neg (by rw [Lib.size_eq, one_more]; simp)]
        have : x / 10 < x := Nat.div_lt_self hx0 (by decide)
        omega
    · have hxi : ¬ (0 : Int) < x := by omega
      by_cases he : ds = []
      · have hemp : sB.toList.isEmpty = true := by rw [emptyB, HL.out.1, he]; rfl
        go_wp2
        go_roundw
        case rel =>
          have hl := HS.out HL.out.2 (.inr he)
          refine ⟨x / 10, digC true (x % 10) :: ds, _, by go_num, rfl, ?_, Lib.hid ⟨?_, hl⟩, hbw.alloc hbw.size _⟩
          · have := hl.2.2.2.1
            rw [Lib.size_eq, one_more, List.length_cons, HL.out.1]; exact this
          · rw [one_more, tab_big, HL.out.1]
        case measure =>
          have h1 : ∀ (s : ByteArray), (match Value.string s with | .string s => if s.size = 0 then 1 else 0 | _ => 0) = if s.size = 0 then 1 else 0 := fun _ => rfl
          simp only [h1, intOf]
          have hx00 : x = 0 := by omega
          rw [if_neg (by rw [Lib.size_eq, one_more]; simp), if_pos (by rw [Lib.size_eq, HL.out.1, he]; rfl), hx00]
          decide
      · have hemp : sB.toList.isEmpty = false := by rw [emptyB, HL.out.1]; cases hds : ds with | nil => exact absurd hds he | cons a t => rfl
        have hvv : Spec.numV 10 ds = v := by
          have := HL.out.2.2.1
          have hx00 : x = 0 := by omega
          rw [hx00] at this; simpa using this
        have HV : Hid (ds ≠ [] ∧ ds.all (Spec.decs.contains ·) = true ∧ Spec.numV 10 ds = v ∧ sB.data.toList = ds) := Lib.hid ⟨he, HL.out.2.1, hvv, HL.out.1⟩
        clear hvv
        clear HL HS he
        go_wp2
        go_loop [9, 15] (fun v9 v15 => ∃ (i : Nat) (t : ByteArray), v15 = .int .i64 (i : Int) ∧ v9 = .string t ∧ i ≤ z ∧ t.size ≤ 7 + i ∧ Hid (t.data.toList = List.replicate i 48 ++ ds)) (fun _ v15 => z - (intOf v15).toNat)
        case atStart => exact ⟨0, sB, rfl, rfl, Nat.zero_le _, hs7, Lib.hid HV.out.2.2.2⟩
        case round =>
          obtain ⟨i, t, rfl, rfl, hiz, hts, HT⟩ := hrel
          by_cases hlt : i < z
          · have hlti : (i : Int) < z := by omega
            have hcat : ¬ 9223372036854775807 < 1 + t.size := by omega
            go_wp2
            go_round
            case rel => exact ⟨i + 1, _, by go_num, rfl, by omega, by rw [Lib.size_eq, one_more, List.length_cons, ← Lib.size_eq]; omega, Lib.hid (by rw [one_more, HT.out, List.replicate_succ]; rfl)⟩
            case measure => simp [intOf]; omega
          · have hlti : ¬ (i : Int) < z := by omega
            have hiz2 : i = z := by omega
            have HD : Hid (t.data.toList ≠ [] ∧ t.data.toList.all (Spec.decs.contains ·) = true ∧ Spec.numV 10 t.data.toList = v) := Lib.hid (by
              rw [HT.out]
              refine ⟨?_, all_zeros _ _ (by decide) HV.out.2.1 i, by rw [numV_zeros]; exact HV.out.2.2.1⟩
              intro h
              exact HV.out.1 (List.append_eq_nil_iff.1 h).2)
            clear HT HV
            have hA := fun W (hW : Tabs W) => at_any ((⟨#[38, 35]⟩ : ByteArray) ++ t ++ ⟨#[59, 120]⟩) W (by rw [ByteArray.size_append, ByteArray.size_append]; show 2 + t.size + 2 ≤ _; omega) hW
            rw [show ((⟨#[38, 35]⟩ : ByteArray) ++ t ++ ⟨#[59, 120]⟩).data.toList = 38 :: 35 :: (t.data.toList ++ [59, 120]) by rw [ByteArray.data_append, ByteArray.data_append]; simp, ent_num10 _ HD.out.1 HD.out.2.1, HD.out.2.2, ← Lib.size_eq] at hA
            have hcat1 : ¬ 9223372036854775807 < 2 + t.size := by omega
            have hcat2 : ¬ 9223372036854775807 < 2 + t.size + 2 := by omega
            clear hiz2
            by_cases hm : 7 < t.size
            · have hmi : (7 : Int) < t.size := by omega
              rw [if_pos hm] at hA
              have hA : ∀ W, Tabs W → Calls Tryd.prog 9 #[.string ((⟨#[38, 35]⟩ : ByteArray) ++ t ++ ⟨#[59, 120]⟩)] W fun e w' => e = .returned (.tuple #[.string ⟨#[]⟩, .int .i64 0]) ∧ Below W.heap.size W w' := hA
              go_wp2_with fail
              refine (hA _ (hT.below hbw)).mono ?_
              rintro e w1 ⟨rfl, hb1⟩
              have hbw1 := hbw.trans (hb1.mono hbw.size)
              clear hb1 hA
              go_wp2_with fail
              refine (hK _ (hT.below hbw1)).mono ?_
              rintro e w2 ⟨rfl, hb2⟩
              go_wp2
              go_ret
              exact ⟨rfl, hbw1.trans (hb2.mono hbw1.size)⟩
            · have hmi : ¬ (7 : Int) < t.size := by omega
              rw [if_neg hm] at hA
              obtain ⟨r, hr⟩ : ∃ r : ByteArray, r = ⟨(Lib.encodeRune ((Spec.runeOf v : Nat) : Int)).toArray⟩ := ⟨_, rfl⟩
              obtain ⟨n, hn⟩ : ∃ n : Int, n = ((t.size + 3 : Nat) : Int) := ⟨_, rfl⟩
              have hA : ∀ W, Tabs W → Calls Tryd.prog 9 #[.string ((⟨#[38, 35]⟩ : ByteArray) ++ t ++ ⟨#[59, 120]⟩)] W fun e w' => e = .returned (.tuple #[.string r, .int .i64 n]) ∧ Below W.heap.size W w' := fun W hW => by rw [hr, hn]; exact hA W hW
              have hneq : (n == 2 + (t.size : Int) + 1) = true := by rw [hn, beq_iff_eq]; omega
              have hrr : (r.toList == r.toList) = true := beq_self_eq_true _
              have hE0 : Hid (∀ (g : Int), (g = ((Spec.runeOf v : Nat) : Int)) → ∀ W, Calls Tryd.prog 14 #[.int .i32 g] W fun e w' => e = .returned (.string r) ∧ Below W.heap.size W w') := Lib.hid (fun g hg W => by rw [hr, hg]; exact encode_any _ W)
              clear hr hn HD
              have hyv := HY.out
              by_cases hw : v = 0 ∨ 1114111 < v ∨ (55296 ≤ v ∧ v < 57344)
              · have hE := hE0.out 65533 (by rw [runeOf_want v hw]; rfl)
                clear hE0
                have hcase : (y == 0) = true ∨ ((y == 0) = false ∧ (1114111 : Int) < y) ∨ ((y == 0) = false ∧ ¬ (1114111 : Int) < y ∧ (55296 : Int) ≤ y ∧ y < 57344) := by
                  by_cases h0 : v = 0
                  · exact .inl (by rw [beq_iff_eq]; omega)
                  · have h0b : (y == 0) = false := beq_eq_false_iff_ne.2 (by omega)
                    by_cases h1 : 1114111 < v
                    · exact .inr (.inl ⟨h0b, by omega⟩)
                    · exact .inr (.inr ⟨h0b, by omega, by omega, by omega⟩)
                clear hw hyv
                rcases hcase with c1 | ⟨c1, c2⟩ | ⟨c1, c2, c3, c4⟩
                all_goals
                  go_wp2_with fail
                  refine (hA _ (hT.below hbw)).mono ?_
                  rintro e w1 ⟨rfl, hb1⟩
                  have hbw1 := hbw.trans (hb1.mono hbw.size)
                  clear hb1
                  go_wp2_with fail
                  refine (hE _).mono ?_
                  rintro e w2 ⟨rfl, hb2⟩
                  have hbw2 := hbw1.trans (hb2.mono hbw1.size)
                  clear hb2
                  go_wp2_with fail
                  refine (hK _ (hT.below hbw2)).mono ?_
                  rintro e w3 ⟨rfl, hb3⟩
                  go_wp2
                  go_ret
                  exact ⟨rfl, hbw2.trans (hb3.mono hbw2.size)⟩
              · have hE := hE0.out y (by rw [runeOf_same v (fun e => hw (.inl e)) (fun e => hw (.inr e))]; exact HY.out)
                have c1 : (y == 0) = false := beq_eq_false_iff_ne.2 (by omega)
                have c2 : ¬ (1114111 : Int) < y := by omega
                have hcase : ¬ (55296 : Int) ≤ y ∨ ((55296 : Int) ≤ y ∧ ¬ y < 57344) := by omega
                clear hw hE0 hyv
                rcases hcase with c3 | ⟨c3, c4⟩
                all_goals
                  go_wp2_with fail
                  refine (hA _ (hT.below hbw)).mono ?_
                  rintro e w1 ⟨rfl, hb1⟩
                  have hbw1 := hbw.trans (hb1.mono hbw.size)
                  clear hb1
                  go_wp2_with fail
                  refine (hE _).mono ?_
                  rintro e w2 ⟨rfl, hb2⟩
                  have hbw2 := hbw1.trans (hb2.mono hbw1.size)
                  clear hb2
                  go_wp2_with fail
                  refine (hK _ (hT.below hbw2)).mono ?_
                  rintro e w3 ⟨rfl, hb3⟩
                  go_wp2
                  go_ret
                  exact ⟨rfl, hbw2.trans (hb3.mono hbw2.size)⟩

set_option maxHeartbeats 8000000 in
set_option maxRecDepth 100000 in
theorem nums_16_low (v z : Nat) (w : World) (hT : Tabs w) (hv : v ≤ 9999999) (hz : z ≤ 8) :
    Calls Tryd.prog 5 #[.int .i64 (v : Int), .int .i64 (z : Int), .bool true, .bool false] w fun e w' => e = .returned (.bool true) ∧ Below w.heap.size w w' := by
  obtain ⟨y, hy⟩ : ∃ y : Int, y = (v : Int) := ⟨_, rfl⟩
  have y0 : 0 ≤ y := by omega
  have y1 : y ≤ 9999999 := by omega
  rw [← hy]
  have HY := Lib.hid hy
  clear hy
  have hK := fun W (hW : Tabs W) => known_any W hW
  have hcv := fun W (x : Int) => str_fresh W #[.int .u8 x] [x] 1 rfl rfl
  simp only [List.map_cons, List.map_nil] at hcv
  go_enter Tryd.func5, Tryd.ntmps5
  go_wp2
  go_loopw [9, 13] (fun v9 v13 wr => ∃ (x : Nat) (ds : List UInt8) (sB : ByteArray), v13 = .int .i64 (x : Int) ∧ v9 = .string sB ∧ sB.size ≤ 7 ∧ Hid (sB.data.toList = ds ∧ Laid false 16 Spec.hexs v x ds) ∧ Below w.heap.size w wr)
    (fun v9 v13 _ => (intOf v13).toNat + (match v9 with | .string s => if s.size = 0 then 1 else 0 | _ => 0))
  case atStart => exact ⟨v, [], ⟨#[]⟩, by rw [HY.out], rfl, by decide, Lib.hid ⟨rfl, laid_start _ _ _ _⟩, Below.refl _ _⟩
  case round =>
    obtain ⟨x, ds, sB, rfl, rfl, hs7, HL, hbw⟩ := hrel
    have hxv : x ≤ 9999999 := by
      have h := HL.out.2.2.2.2.2
      have : 1 ≤ 16 ^ ds.length := Nat.one_le_pow _ _ (by decide)
      have : 1 * x ≤ 16 ^ ds.length * x := Nat.mul_le_mul_right _ this
      omega
    have hstep := laid_step false 16 Spec.hexs v x ds (by decide) (by decide) hv (fun n hn => (digC_ok false n (by omega)).2.1)
    have HS := Lib.hid hstep
    clear hstep
    by_cases hx0 : 0 < x
    · have hxi : (0 : Int) < x := by omega
      go_wp2
      go_roundw
      case rel =>
        have hl := HS.out HL.out.2 (.inl hx0)
        refine ⟨x / 16, digC false (x % 16) :: ds, _, by go_num, rfl, ?_, Lib.hid ⟨?_, hl⟩, hbw.alloc hbw.size _⟩
        · have := hl.2.2.2.1
          rw [Lib.size_eq, one_more, List.length_cons, HL.out.1]; exact this
        · rw [one_more, tab_low, HL.out.1]
      case measure =>
        have h1 : ∀ (s : ByteArray), (match Value.string s with | .string s => if s.size = 0 then 1 else 0 | _ => 0) = if s.size = 0 then 1 else 0 := fun _ => rfl
        simp only [h1, intOf]
        rw [if_neg (by rw [Lib.size_eq, one_more]; simp)]
        have : x / 16 < x := Nat.div_lt_self hx0 (by decide)
        omega
    · have hxi : ¬ (0 : Int) < x := by omega
      by_cases he : ds = []
      · have hemp : sB.toList.isEmpty = true := by rw [emptyB, HL.out.1, he]; rfl
        go_wp2
        go_roundw
        case rel =>
          have hl := HS.out HL.out.2 (.inr he)
          refine ⟨x / 16, digC false (x % 16) :: ds, _, by go_num, rfl, ?_, Lib.hid ⟨?_, hl⟩, hbw.alloc hbw.size _⟩
          · have := hl.2.2.2.1
            rw [Lib.size_eq, one_more, List.length_cons, HL.out.1]; exact this
          · rw [one_more, tab_low, HL.out.1]
        case measure =>
          have h1 : ∀ (s : ByteArray), (match Value.string s with | .string s => if s.size = 0 then 1 else 0 | _ => 0) = if s.size = 0 then 1 else 0 := fun _ => rfl
          simp only [h1, intOf]
          have hx00 : x = 0 := by omega
          rw [if_neg (by rw [Lib.size_eq, one_more]; simp), if_pos (by rw [Lib.size_eq, HL.out.1, he]; rfl), hx00]
          decide
      · have hemp : sB.toList.isEmpty = false := by rw [emptyB, HL.out.1]; cases hds : ds with | nil => exact absurd hds he | cons a t => rfl
        have hvv : Spec.numV 16 ds = v := by
          have := HL.out.2.2.1
          have hx00 : x = 0 := by omega
          rw [hx00] at this; simpa using this
        have HV : Hid (ds ≠ [] ∧ ds.all (Spec.hexs.contains ·) = true ∧ Spec.numV 16 ds = v ∧ sB.data.toList = ds) := Lib.hid ⟨he, HL.out.2.1, hvv, HL.out.1⟩
        clear hvv
        clear HL HS he
        go_wp2
        go_loop [9, 15] (fun v9 v15 => ∃ (i : Nat) (t : ByteArray), v15 = .int .i64 (i : Int) ∧ v9 = .string t ∧ i ≤ z ∧ t.size ≤ 7 + i ∧ Hid (t.data.toList = List.replicate i 48 ++ ds)) (fun _ v15 => z - (intOf v15).toNat)
        case atStart => exact ⟨0, sB, rfl, rfl, Nat.zero_le _, hs7, Lib.hid HV.out.2.2.2⟩
        case round =>
          obtain ⟨i, t, rfl, rfl, hiz, hts, HT⟩ := hrel
          by_cases hlt : i < z
          · have hlti : (i : Int) < z := by omega
            have hcat : ¬ 9223372036854775807 < 1 + t.size := by omega
            go_wp2
            go_round
            case rel => exact ⟨i + 1, _, by go_num, rfl, by omega, by rw [Lib.size_eq, one_more, List.length_cons, ← Lib.size_eq]; omega, Lib.hid (by rw [one_more, HT.out, List.replicate_succ]; rfl)⟩
            case measure => simp [intOf]; omega
          · have hlti : ¬ (i : Int) < z := by omega
            have hiz2 : i = z := by omega
            have HD : Hid (t.data.toList ≠ [] ∧ t.data.toList.all (Spec.hexs.contains ·) = true ∧ Spec.numV 16 t.data.toList = v) := Lib.hid (by
              rw [HT.out]
              refine ⟨?_, all_zeros _ _ (by decide) HV.out.2.1 i, by rw [numV_zeros]; exact HV.out.2.2.1⟩
              intro h
              exact HV.out.1 (List.append_eq_nil_iff.1 h).2)
            clear HT HV
            have hA := fun W (hW : Tabs W) => at_any ((⟨#[38, 35, 120]⟩ : ByteArray) ++ t ++ ⟨#[59, 120]⟩) W (by rw [ByteArray.size_append, ByteArray.size_append]; show 3 + t.size + 2 ≤ _; omega) hW
            rw [show ((⟨#[38, 35, 120]⟩ : ByteArray) ++ t ++ ⟨#[59, 120]⟩).data.toList = 38 :: 35 :: 120 :: (t.data.toList ++ [59, 120]) by rw [ByteArray.data_append, ByteArray.data_append]; simp, ent_num16 _ HD.out.1 HD.out.2.1, HD.out.2.2, ← Lib.size_eq] at hA
            have hcat1 : ¬ 9223372036854775807 < 3 + t.size := by omega
            have hcat2 : ¬ 9223372036854775807 < 3 + t.size + 2 := by omega
            clear hiz2
            by_cases hm : 6 < t.size
            · have hmi : (6 : Int) < t.size := by omega
              rw [if_pos hm] at hA
              have hA : ∀ W, Tabs W → Calls Tryd.prog 9 #[.string ((⟨#[38, 35, 120]⟩ : ByteArray) ++ t ++ ⟨#[59, 120]⟩)] W fun e w' => e = .returned (.tuple #[.string ⟨#[]⟩, .int .i64 0]) ∧ Below W.heap.size W w' := hA
              go_wp2_with fail
              refine (hA _ (hT.below hbw)).mono ?_
              rintro e w1 ⟨rfl, hb1⟩
              have hbw1 := hbw.trans (hb1.mono hbw.size)
              clear hb1 hA
              go_wp2_with fail
              refine (hK _ (hT.below hbw1)).mono ?_
              rintro e w2 ⟨rfl, hb2⟩
              go_wp2
              go_ret
              exact ⟨rfl, hbw1.trans (hb2.mono hbw1.size)⟩
            · have hmi : ¬ (6 : Int) < t.size := by omega
              rw [if_neg hm] at hA
              obtain ⟨r, hr⟩ : ∃ r : ByteArray, r = ⟨(Lib.encodeRune ((Spec.runeOf v : Nat) : Int)).toArray⟩ := ⟨_, rfl⟩
              obtain ⟨n, hn⟩ : ∃ n : Int, n = ((t.size + 4 : Nat) : Int) := ⟨_, rfl⟩
              have hA : ∀ W, Tabs W → Calls Tryd.prog 9 #[.string ((⟨#[38, 35, 120]⟩ : ByteArray) ++ t ++ ⟨#[59, 120]⟩)] W fun e w' => e = .returned (.tuple #[.string r, .int .i64 n]) ∧ Below W.heap.size W w' := fun W hW => by rw [hr, hn]; exact hA W hW
              have hneq : (n == 3 + (t.size : Int) + 1) = true := by rw [hn, beq_iff_eq]; omega
              have hrr : (r.toList == r.toList) = true := beq_self_eq_true _
              have hE0 : Hid (∀ (g : Int), (g = ((Spec.runeOf v : Nat) : Int)) → ∀ W, Calls Tryd.prog 14 #[.int .i32 g] W fun e w' => e = .returned (.string r) ∧ Below W.heap.size W w') := Lib.hid (fun g hg W => by rw [hr, hg]; exact encode_any _ W)
              clear hr hn HD
              have hyv := HY.out
              by_cases hw : v = 0 ∨ 1114111 < v ∨ (55296 ≤ v ∧ v < 57344)
              · have hE := hE0.out 65533 (by rw [runeOf_want v hw]; rfl)
                clear hE0
                have hcase : (y == 0) = true ∨ ((y == 0) = false ∧ (1114111 : Int) < y) ∨ ((y == 0) = false ∧ ¬ (1114111 : Int) < y ∧ (55296 : Int) ≤ y ∧ y < 57344) := by
                  by_cases h0 : v = 0
                  · exact .inl (by rw [beq_iff_eq]; omega)
                  · have h0b : (y == 0) = false := beq_eq_false_iff_ne.2 (by omega)
                    by_cases h1 : 1114111 < v
                    · exact .inr (.inl ⟨h0b, by omega⟩)
                    · exact .inr (.inr ⟨h0b, by omega, by omega, by omega⟩)
                clear hw hyv
                rcases hcase with c1 | ⟨c1, c2⟩ | ⟨c1, c2, c3, c4⟩
                all_goals
                  go_wp2_with fail
                  refine (hA _ (hT.below hbw)).mono ?_
                  rintro e w1 ⟨rfl, hb1⟩
                  have hbw1 := hbw.trans (hb1.mono hbw.size)
                  clear hb1
                  go_wp2_with fail
                  refine (hE _).mono ?_
                  rintro e w2 ⟨rfl, hb2⟩
                  have hbw2 := hbw1.trans (hb2.mono hbw1.size)
                  clear hb2
                  go_wp2_with fail
                  refine (hK _ (hT.below hbw2)).mono ?_
                  rintro e w3 ⟨rfl, hb3⟩
                  go_wp2
                  go_ret
                  exact ⟨rfl, hbw2.trans (hb3.mono hbw2.size)⟩
              · have hE := hE0.out y (by rw [runeOf_same v (fun e => hw (.inl e)) (fun e => hw (.inr e))]; exact HY.out)
                have c1 : (y == 0) = false := beq_eq_false_iff_ne.2 (by omega)
                have c2 : ¬ (1114111 : Int) < y := by omega
                have hcase : ¬ (55296 : Int) ≤ y ∨ ((55296 : Int) ≤ y ∧ ¬ y < 57344) := by omega
                clear hw hE0 hyv
                rcases hcase with c3 | ⟨c3, c4⟩
                all_goals
                  go_wp2_with fail
                  refine (hA _ (hT.below hbw)).mono ?_
                  rintro e w1 ⟨rfl, hb1⟩
                  have hbw1 := hbw.trans (hb1.mono hbw.size)
                  clear hb1
                  go_wp2_with fail
                  refine (hE _).mono ?_
                  rintro e w2 ⟨rfl, hb2⟩
                  have hbw2 := hbw1.trans (hb2.mono hbw1.size)
                  clear hb2
                  go_wp2_with fail
                  refine (hK _ (hT.below hbw2)).mono ?_
                  rintro e w3 ⟨rfl, hb3⟩
                  go_wp2
                  go_ret
                  exact ⟨rfl, hbw2.trans (hb3.mono hbw2.size)⟩

set_option maxHeartbeats 8000000 in
set_option maxRecDepth 100000 in
theorem nums_16_big (v z : Nat) (w : World) (hT : Tabs w) (hv : v ≤ 9999999) (hz : z ≤ 8) :
    Calls Tryd.prog 5 #[.int .i64 (v : Int), .int .i64 (z : Int), .bool true, .bool true] w fun e w' => e = .returned (.bool true) ∧ Below w.heap.size w w' := by
  obtain ⟨y, hy⟩ : ∃ y : Int, y = (v : Int) := ⟨_, rfl⟩
  have y0 : 0 ≤ y := by omega
  have y1 : y ≤ 9999999 := by omega
  rw [← hy]
  have HY := Lib.hid hy
  clear hy
  have hK := fun W (hW : Tabs W) => known_any W hW
  have hcv := fun W (x : Int) => str_fresh W #[.int .u8 x] [x] 1 rfl rfl
  simp only [List.map_cons, List.map_nil] at hcv
  go_enter Tryd.func5, Tryd.ntmps5
  go_wp2
  go_loopw [9, 13] (fun v9 v13 wr => ∃ (x : Nat) (ds : List UInt8) (sB : ByteArray), v13 = .int .i64 (x : Int) ∧ v9 = .string sB ∧ sB.size ≤ 7 ∧ Hid (sB.data.toList = ds ∧ Laid true 16 Spec.hexs v x ds) ∧ Below w.heap.size w wr)
    (fun v9 v13 _ => (intOf v13).toNat + (match v9 with | .string s => if s.size = 0 then 1 else 0 | _ => 0))
  case atStart => exact ⟨v, [], ⟨#[]⟩, by rw [HY.out], rfl, by decide, Lib.hid ⟨rfl, laid_start _ _ _ _⟩, Below.refl _ _⟩
  case round =>
    obtain ⟨x, ds, sB, rfl, rfl, hs7, HL, hbw⟩ := hrel
    have hxv : x ≤ 9999999 := by
      have h := HL.out.2.2.2.2.2
      have : 1 ≤ 16 ^ ds.length := Nat.one_le_pow _ _ (by decide)
      have : 1 * x ≤ 16 ^ ds.length * x := Nat.mul_le_mul_right _ this
      omega
    have hstep := laid_step true 16 Spec.hexs v x ds (by decide) (by decide) hv (fun n hn => (digC_ok true n (by omega)).2.1)
    have HS := Lib.hid hstep
    clear hstep
    by_cases hx0 : 0 < x
    · have hxi : (0 : Int) < x := by omega
      go_wp2
      go_roundw
      case rel =>
        have hl := HS.out HL.out.2 (.inl hx0)
        refine ⟨x / 16, digC true (x % 16) :: ds, _, by go_num, rfl, ?_, Lib.hid ⟨?_, hl⟩, hbw.alloc hbw.size _⟩
        · have := hl.2.2.2.1
          rw [Lib.size_eq, one_more, List.length_cons, HL.out.1]; exact this
        · rw [one_more, tab_big, HL.out.1]
      case measure =>
        have h1 : ∀ (s : ByteArray), (match Value.string s with | .string s => if s.size = 0 then 1 else 0 | _ => 0) = if s.size = 0 then 1 else 0 := fun _ => rfl
        simp only [h1, intOf]
        rw [if_neg (by rw [Lib.size_eq, one_more]; simp)]
        have : x / 16 < x := Nat.div_lt_self hx0 (by decide)
        omega
    · have hxi : ¬ (0 : Int) < x := by omega
      by_cases he : ds = []
      · have hemp : sB.toList.isEmpty = true := by rw [emptyB, HL.out.1, he]; rfl
        go_wp2
        go_roundw
        case rel =>
          have hl := HS.out HL.out.2 (.inr he)
          refine ⟨x / 16, digC true (x % 16) :: ds, _, by go_num, rfl, ?_, Lib.hid ⟨?_, hl⟩, hbw.alloc hbw.size _⟩
          · have := hl.2.2.2.1
            rw [Lib.size_eq, one_more, List.length_cons, HL.out.1]; exact this
          · rw [one_more, tab_big, HL.out.1]
        case measure =>
          have h1 : ∀ (s : ByteArray), (match Value.string s with | .string s => if s.size = 0 then 1 else 0 | _ => 0) = if s.size = 0 then 1 else 0 := fun _ => rfl
          simp only [h1, intOf]
          have hx00 : x = 0 := by omega
          rw [if_neg (by rw [Lib.size_eq, one_more]; simp), if_pos (by rw [Lib.size_eq, HL.out.1, he]; rfl), hx00]
          decide
      · have hemp : sB.toList.isEmpty = false := by rw [emptyB, HL.out.1]; cases hds : ds with | nil => exact absurd hds he | cons a t => rfl
        have hvv : Spec.numV 16 ds = v := by
          have := HL.out.2.2.1
          have hx00 : x = 0 := by omega
          rw [hx00] at this; simpa using this
        have HV : Hid (ds ≠ [] ∧ ds.all (Spec.hexs.contains ·) = true ∧ Spec.numV 16 ds = v ∧ sB.data.toList = ds) := Lib.hid ⟨he, HL.out.2.1, hvv, HL.out.1⟩
        clear hvv
        clear HL HS he
        go_wp2
        go_loop [9, 15] (fun v9 v15 => ∃ (i : Nat) (t : ByteArray), v15 = .int .i64 (i : Int) ∧ v9 = .string t ∧ i ≤ z ∧ t.size ≤ 7 + i ∧ Hid (t.data.toList = List.replicate i 48 ++ ds)) (fun _ v15 => z - (intOf v15).toNat)
        case atStart => exact ⟨0, sB, rfl, rfl, Nat.zero_le _, hs7, Lib.hid HV.out.2.2.2⟩
        case round =>
          obtain ⟨i, t, rfl, rfl, hiz, hts, HT⟩ := hrel
          by_cases hlt : i < z
          · have hlti : (i : Int) < z := by omega
            have hcat : ¬ 9223372036854775807 < 1 + t.size := by omega
            go_wp2
            go_round
            case rel => exact ⟨i + 1, _, by go_num, rfl, by omega, by rw [Lib.size_eq, one_more, List.length_cons, ← Lib.size_eq]; omega, Lib.hid (by rw [one_more, HT.out, List.replicate_succ]; rfl)⟩
            case measure => simp [intOf]; omega
          · have hlti : ¬ (i : Int) < z := by omega
            have hiz2 : i = z := by omega
            have HD : Hid (t.data.toList ≠ [] ∧ t.data.toList.all (Spec.hexs.contains ·) = true ∧ Spec.numV 16 t.data.toList = v) := Lib.hid (by
              rw [HT.out]
              refine ⟨?_, all_zeros _ _ (by decide) HV.out.2.1 i, by rw [numV_zeros]; exact HV.out.2.2.1⟩
              intro h
              exact HV.out.1 (List.append_eq_nil_iff.1 h).2)
            clear HT HV
            have hA := fun W (hW : Tabs W) => at_any ((⟨#[38, 35, 120]⟩ : ByteArray) ++ t ++ ⟨#[59, 120]⟩) W (by rw [ByteArray.size_append, ByteArray.size_append]; show 3 + t.size + 2 ≤ _; omega) hW
            rw [show ((⟨#[38, 35, 120]⟩ : ByteArray) ++ t ++ ⟨#[59, 120]⟩).data.toList = 38 :: 35 :: 120 :: (t.data.toList ++ [59, 120]) by rw [ByteArray.data_append, ByteArray.data_append]; simp, ent_num16 _ HD.out.1 HD.out.2.1, HD.out.2.2, ← Lib.size_eq] at hA
            have hcat1 : ¬ 9223372036854775807 < 3 + t.size := by omega
            have hcat2 : ¬ 9223372036854775807 < 3 + t.size + 2 := by omega
            clear hiz2
            by_cases hm : 6 < t.size
            · have hmi : (6 : Int) < t.size := by omega
              rw [if_pos hm] at hA
              have hA : ∀ W, Tabs W → Calls Tryd.prog 9 #[.string ((⟨#[38, 35, 120]⟩ : ByteArray) ++ t ++ ⟨#[59, 120]⟩)] W fun e w' => e = .returned (.tuple #[.string ⟨#[]⟩, .int .i64 0]) ∧ Below W.heap.size W w' := hA
              go_wp2_with fail
              refine (hA _ (hT.below hbw)).mono ?_
              rintro e w1 ⟨rfl, hb1⟩
              have hbw1 := hbw.trans (hb1.mono hbw.size)
              clear hb1 hA
              go_wp2_with fail
              refine (hK _ (hT.below hbw1)).mono ?_
              rintro e w2 ⟨rfl, hb2⟩
              go_wp2
              go_ret
              exact ⟨rfl, hbw1.trans (hb2.mono hbw1.size)⟩
            · have hmi : ¬ (6 : Int) < t.size := by omega
              rw [if_neg hm] at hA
              obtain ⟨r, hr⟩ : ∃ r : ByteArray, r = ⟨(Lib.encodeRune ((Spec.runeOf v : Nat) : Int)).toArray⟩ := ⟨_, rfl⟩
              obtain ⟨n, hn⟩ : ∃ n : Int, n = ((t.size + 4 : Nat) : Int) := ⟨_, rfl⟩
              have hA : ∀ W, Tabs W → Calls Tryd.prog 9 #[.string ((⟨#[38, 35, 120]⟩ : ByteArray) ++ t ++ ⟨#[59, 120]⟩)] W fun e w' => e = .returned (.tuple #[.string r, .int .i64 n]) ∧ Below W.heap.size W w' := fun W hW => by rw [hr, hn]; exact hA W hW
              have hneq : (n == 3 + (t.size : Int) + 1) = true := by rw [hn, beq_iff_eq]; omega
              have hrr : (r.toList == r.toList) = true := beq_self_eq_true _
              have hE0 : Hid (∀ (g : Int), (g = ((Spec.runeOf v : Nat) : Int)) → ∀ W, Calls Tryd.prog 14 #[.int .i32 g] W fun e w' => e = .returned (.string r) ∧ Below W.heap.size W w') := Lib.hid (fun g hg W => by rw [hr, hg]; exact encode_any _ W)
              clear hr hn HD
              have hyv := HY.out
              by_cases hw : v = 0 ∨ 1114111 < v ∨ (55296 ≤ v ∧ v < 57344)
              · have hE := hE0.out 65533 (by rw [runeOf_want v hw]; rfl)
                clear hE0
                have hcase : (y == 0) = true ∨ ((y == 0) = false ∧ (1114111 : Int) < y) ∨ ((y == 0) = false ∧ ¬ (1114111 : Int) < y ∧ (55296 : Int) ≤ y ∧ y < 57344) := by
                  by_cases h0 : v = 0
                  · exact .inl (by rw [beq_iff_eq]; omega)
                  · have h0b : (y == 0) = false := beq_eq_false_iff_ne.2 (by omega)
                    by_cases h1 : 1114111 < v
                    · exact .inr (.inl ⟨h0b, by omega⟩)
                    · exact .inr (.inr ⟨h0b, by omega, by omega, by omega⟩)
                clear hw hyv
                rcases hcase with c1 | ⟨c1, c2⟩ | ⟨c1, c2, c3, c4⟩
                all_goals
                  go_wp2_with fail
                  refine (hA _ (hT.below hbw)).mono ?_
                  rintro e w1 ⟨rfl, hb1⟩
                  have hbw1 := hbw.trans (hb1.mono hbw.size)
                  clear hb1
                  go_wp2_with fail
                  refine (hE _).mono ?_
                  rintro e w2 ⟨rfl, hb2⟩
                  have hbw2 := hbw1.trans (hb2.mono hbw1.size)
                  clear hb2
                  go_wp2_with fail
                  refine (hK _ (hT.below hbw2)).mono ?_
                  rintro e w3 ⟨rfl, hb3⟩
                  go_wp2
                  go_ret
                  exact ⟨rfl, hbw2.trans (hb3.mono hbw2.size)⟩
              · have hE := hE0.out y (by rw [runeOf_same v (fun e => hw (.inl e)) (fun e => hw (.inr e))]; exact HY.out)
                have c1 : (y == 0) = false := beq_eq_false_iff_ne.2 (by omega)
                have c2 : ¬ (1114111 : Int) < y := by omega
                have hcase : ¬ (55296 : Int) ≤ y ∨ ((55296 : Int) ≤ y ∧ ¬ y < 57344) := by omega
                clear hw hE0 hyv
                rcases hcase with c3 | ⟨c3, c4⟩
                all_goals
                  go_wp2_with fail
                  refine (hA _ (hT.below hbw)).mono ?_
                  rintro e w1 ⟨rfl, hb1⟩
                  have hbw1 := hbw.trans (hb1.mono hbw.size)
                  clear hb1
                  go_wp2_with fail
                  refine (hE _).mono ?_
                  rintro e w2 ⟨rfl, hb2⟩
                  have hbw2 := hbw1.trans (hb2.mono hbw1.size)
                  clear hb2
                  go_wp2_with fail
                  refine (hK _ (hT.below hbw2)).mono ?_
                  rintro e w3 ⟨rfl, hb3⟩
                  go_wp2
                  go_ret
                  exact ⟨rfl, hbw2.trans (hb3.mono hbw2.size)⟩

set_option maxHeartbeats 4000000 in
set_option maxRecDepth 100000 in
theorem entNumbers_law (v z : Int) (hex cp : Bool) (w : World) (hv0 : -9223372036854775808 ≤ v) (hv1 : v ≤ 9223372036854775807) (hz0 : -9223372036854775808 ≤ z) (hz1 : z ≤ 9223372036854775807) (hT : Tabs w) :
    Calls Tryd.prog 5 #[.int .i64 v, .int .i64 z, .bool hex, .bool cp] w fun e w' => e = .returned (.bool true) ∧ Below w.heap.size w w' := by
  have hK := fun W (hW : Tabs W) => known_any W hW
  have hc : v < 0 ∨ (¬ v < 0 ∧ 9999999 < v) ∨ (¬ v < 0 ∧ ¬ 9999999 < v ∧ z < 0) ∨ (¬ v < 0 ∧ ¬ 9999999 < v ∧ ¬ z < 0 ∧ 8 < z) ∨ (0 ≤ v ∧ v ≤ 9999999 ∧ 0 ≤ z ∧ z ≤ 8) := by omega
  rcases hc with c1 | ⟨c1, c2⟩ | ⟨c1, c2, c3⟩ | ⟨c1, c2, c3, c4⟩ | ⟨c1, c2, c3, c4⟩
  case inr.inr.inr.inr =>
    obtain ⟨a, rfl⟩ := Int.eq_ofNat_of_zero_le c1
    obtain ⟨b, rfl⟩ := Int.eq_ofNat_of_zero_le c3
    cases hex <;> cases cp
    · exact nums_10_low a b w hT (by omega) (by omega)
    · exact nums_10_big a b w hT (by omega) (by omega)
    · exact nums_16_low a b w hT (by omega) (by omega)
    · exact nums_16_big a b w hT (by omega) (by omega)
  all_goals
    go_enter Tryd.func5, Tryd.ntmps5
    go_wp2_with fail
    refine (hK _ hT).mono ?_
    rintro e w1 ⟨rfl, hb⟩
    go_wp2
    go_ret
    exact ⟨rfl, hb⟩

end Go.Proofs.YtipbmagondoooaaDoor
