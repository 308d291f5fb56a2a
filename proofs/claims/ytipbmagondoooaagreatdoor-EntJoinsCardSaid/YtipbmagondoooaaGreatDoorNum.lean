/-
  A number's digits read: strconv.ParseInt at digits of base 10 or 16, at most seven of them; and ent's function of a number's rune.
-/
import Derived.Test.YtipbmagondoooaaGreatDoorCut
import Derived.Lib.ConvBytes
import Derived.Lib.Walk
import Derived.Lib.Hide
import Derived.Laws.Strings3
import Derived.WalkKit
import Derived.BigCall
import Derived.BigGuard
namespace Go.Proofs.YtipbmagondoooaaGreatDoor
open Go.RowKit

theorem bytesW_below (w : World) (e : TypeId) (s : ByteArray) : Below w.heap.size w (Lib.bytesWorld w e s) :=
  ⟨by unfold Lib.bytesWorld World.freeze; split <;> rfl, by unfold Lib.bytesWorld World.freeze; split <;> rfl, by unfold Lib.bytesWorld World.freeze; split <;> rfl, by rw [Lib.bytesWorld_size]; omega, fun i hi => Lib.bytesWorld_at_old w e s i hi⟩

def Dig10 (b : UInt8) : Prop := 48 ≤ b.toNat ∧ b.toNat ≤ 57
def Dig16 (b : UInt8) : Prop := (48 ≤ b.toNat ∧ b.toNat ≤ 57) ∨ (97 ≤ b.toNat ∧ b.toNat ≤ 102) ∨ (65 ≤ b.toNat ∧ b.toNat ≤ 70)

theorem numV_snoc (base : Nat) (l : List UInt8) (c : UInt8) : Spec.numV base (l ++ [c]) = Spec.numV base l * base + Spec.digV c := by
  unfold Spec.numV; rw [List.foldl_append]; rfl
theorem numV_lt (base : Nat) : ∀ (l : List UInt8), (∀ c ∈ l, Spec.digV c < base) → Spec.numV base l < base ^ l.length := by
  intro l
  induction h : l.length generalizing l with
  | zero => intro _; obtain rfl := List.length_eq_zero_iff.1 h; simp [Spec.numV]
  | succ n ih =>
    intro hd
    obtain ⟨t, c, rfl⟩ : ∃ t c, l = t ++ [c] := ⟨l.dropLast, l.getLast (by intro e; subst e; cases h), (List.dropLast_concat_getLast _).symm⟩
    have hn : t.length = n := by simp at h; exact h
    have i := ih t hn (fun x hx => hd x (by simp [hx]))
    have hc := hd c (by simp)
    rw [numV_snoc, Nat.pow_succ]
    have : (Spec.numV base t + 1) * base ≤ base ^ n * base := Nat.mul_le_mul_right _ i
    rw [Nat.add_mul] at this
    omega
theorem dig10_lt {c : UInt8} (h : Dig10 c) : Spec.digV c = c.toNat - 48 ∧ Spec.digV c < 10 := by
  unfold Dig10 at h; unfold Spec.digV; rw [if_pos h.2]; omega
theorem dig16_lt {c : UInt8} (h : Dig16 c) : Spec.digV c < 16 := by
  unfold Dig16 at h; unfold Spec.digV
  split
  · omega
  · split <;> omega
/-- lower at the letters of hexadecimal digits. -/
theorem lower_hex (c : UInt8) (h : (97 ≤ c.toNat ∧ c.toNat ≤ 102) ∨ (65 ≤ c.toNat ∧ c.toNat ≤ 70)) :
    ∃ v : Int, 97 ≤ v ∧ v ≤ 102 ∧ bits .or .u8 (c.toNat : Int) 32 = v ∧ (Spec.digV c : Int) = v - 87 := by
  have e : c.toNat = 97 ∨ c.toNat = 98 ∨ c.toNat = 99 ∨ c.toNat = 100 ∨ c.toNat = 101 ∨ c.toNat = 102 ∨ c.toNat = 65 ∨ c.toNat = 66 ∨ c.toNat = 67 ∨ c.toNat = 68 ∨ c.toNat = 69 ∨ c.toNat = 70 := by omega
  unfold Spec.digV
  rcases e with e | e | e | e | e | e | e | e | e | e | e | e <;> rw [e]
  · exact ⟨97, by decide, by decide, by decide, by decide⟩
  · exact ⟨98, by decide, by decide, by decide, by decide⟩
  · exact ⟨99, by decide, by decide, by decide, by decide⟩
  · exact ⟨100, by decide, by decide, by decide, by decide⟩
  · exact ⟨101, by decide, by decide, by decide, by decide⟩
  · exact ⟨102, by decide, by decide, by decide, by decide⟩
  · exact ⟨97, by decide, by decide, by decide, by decide⟩
  · exact ⟨98, by decide, by decide, by decide, by decide⟩
  · exact ⟨99, by decide, by decide, by decide, by decide⟩
  · exact ⟨100, by decide, by decide, by decide, by decide⟩
  · exact ⟨101, by decide, by decide, by decide, by decide⟩
  · exact ⟨102, by decide, by decide, by decide, by decide⟩

set_option maxHeartbeats 32000000 in
set_option maxRecDepth 100000 in
theorem parseU10 (t : ByteArray) (w : World) (hne : t.size ≠ 0) (h7 : t.size ≤ 7) (hd : ∀ (j : Nat) b, t.data.toList[j]? = some b → Dig10 b) :
    Calls Tryz.prog 83 #[.string t, .int .i64 10, .int .i64 32] w fun e w' => e = .returned (.tuple #[.int .u64 (Spec.numV 10 t.data.toList : Nat), .nilIface]) ∧ Below w.heap.size w w' := by
  have hemp : t.toList.isEmpty = false := by
    rw [← decide_eq_emptyBytes]
    exact decide_eq_false (fun h => hne (by rw [h]; rfl))
  have hcv := Lib.run_convert_string_bytes (P := Tryz.prog) w 9 29 5 t (u := .string) Tryz.underlying9 Tryz.underlying29 Tryz.underlying5
  have hB : ∀ j, j < t.size → (Lib.bytesWorld w 5 t).cell? ⟨w.heap.size, j, none⟩ = some (.int .u8 (t.data.toList.getD j 0).toNat) := fun j hj => Lib.bytesWorld_cell w 5 t j hj
  have hbel := bytesW_below w 5 t
  obtain ⟨W1, hW1⟩ : ∃ W1, W1 = Lib.bytesWorld w 5 t := ⟨_, rfl⟩
  rw [← hW1] at hcv hB hbel
  clear hW1
  obtain ⟨bs, hL⟩ : ∃ bs, bs = t.data.toList := ⟨_, rfl⟩
  have hLn : bs.length = t.size := by rw [hL, Lib.size_eq]
  rw [← hL] at hB hd ⊢
  clear hL
  have hmv : IntKind.u64.wrap (IntKind.u64.wrap 4294967296 - 1) = 4294967295 := by
    rw [IntKind.wrap_u64, IntKind.wrap_u64]
    decide
  have hdl : ∀ c ∈ bs, Spec.digV c < 10 := fun c hc => by
    obtain ⟨j, hj, rfl⟩ := List.getElem_of_mem hc
    exact (dig10_lt (hd j _ (List.getElem?_eq_getElem hj))).2
  go_enter Tryz.func83, Tryz.ntmps83
  go_wp2
  go_loop [12, 13, 101] (fun vu vn vi => ∃ (k : Nat) (a : Int), vu = .bool false ∧ vn = .int .u64 a ∧ vi = .int .i64 k ∧ k ≤ t.size ∧ Hid (a = ((Spec.numV 10 (bs.take k) : Nat) : Int)))
    (fun _ _ vi => t.size - (intOf vi).toNat)
  case atStart => exact ⟨0, 0, rfl, rfl, rfl, Nat.zero_le _, Lib.hid rfl⟩
  case round =>
    obtain ⟨k, a, rfl, rfl, rfl, hk, hh⟩ := hrel
    have hlt := numV_lt 10 (bs.take k) (fun c hc => hdl c (List.mem_of_mem_take hc))
    have hp : (10 : Nat) ^ (bs.take k).length ≤ 10 ^ 7 := Nat.pow_le_pow_right (by decide) (by simp; omega)
    have a0 : 0 ≤ a := by rw [hh.out]; omega
    have hpn : (10 : Nat) ^ 7 ≤ 16777216 := by decide
    have a1 : a ≤ 16777216 := by rw [hh.out]; omega
    clear hlt hp hpn
    by_cases hkn : k < t.size
    · have hc := hB k hkn
      have hget : bs.getD k 0 = bs[k]'(by omega) := by simp [List.getD, List.getElem?_eq_getElem (show k < bs.length by omega)]
      have hdk := hd k _ (List.getElem?_eq_getElem (show k < bs.length by omega))
      have hts : bs.take (k + 1) = bs.take k ++ [bs[k]'(by omega)] := by rw [List.take_succ_eq_append_getElem (show k < bs.length by omega)]
      rw [hget] at hc
      generalize bs[k]'(by omega) = c at hc hdk hts
      have hc256 : c.toNat < 256 := c.toNat_lt
      clear hB hget
      have HN : Hid (((Spec.numV 10 (bs.take (k + 1)) : Nat) : Int) = a * 10 + (Spec.digV c : Int)) := Lib.hid (by rw [hts, numV_snoc, hh.out]; push_cast; rfl)
      clear hts hh
      by_cases hdig : 48 ≤ c.toNat ∧ c.toNat ≤ 57
      · obtain ⟨hd0, hd1⟩ := hdig
        have hv : Spec.digV c = c.toNat - 48 := (dig10_lt ⟨hd0, hd1⟩).1
        have HV : Hid (((Spec.numV 10 (bs.take (k + 1)) : Nat) : Int) = a * 10 + ((c.toNat : Int) - 48)) := Lib.hid (by rw [HN.out, hv]; omega)
        clear HN hv hdk
        have iov : a * 10 + ((c.toNat : Int) - 48) ≤ 4294967295 := by omega
        go_wp2
        refine ⟨⟨k + 1, a * 10 + ((c.toNat : Int) - 48), rfl, (by first | rfl | (congr 1; omega)), (by first | rfl | (congr 1; omega)), by omega, Lib.hid HV.out.symm⟩, by simp [intOf]; omega⟩
      · exact absurd hdk hdig
    · have hkk : k = t.size := by omega
      have he := hh.out
      rw [hkk, List.take_of_length_le (by omega)] at he
      have HE := Lib.hid he
      clear he hh
      go_wp2
      go_ret2
      exact ⟨by rw [← HE.out]; rfl, hbel⟩

set_option maxHeartbeats 32000000 in
set_option maxRecDepth 100000 in
theorem parseU16 (t : ByteArray) (w : World) (hne : t.size ≠ 0) (h7 : t.size ≤ 6) (hd : ∀ (j : Nat) b, t.data.toList[j]? = some b → Dig16 b) :
    Calls Tryz.prog 83 #[.string t, .int .i64 16, .int .i64 32] w fun e w' => e = .returned (.tuple #[.int .u64 (Spec.numV 16 t.data.toList : Nat), .nilIface]) ∧ Below w.heap.size w w' := by
  have hemp : t.toList.isEmpty = false := by
    rw [← decide_eq_emptyBytes]
    exact decide_eq_false (fun h => hne (by rw [h]; rfl))
  have hcv := Lib.run_convert_string_bytes (P := Tryz.prog) w 9 29 5 t (u := .string) Tryz.underlying9 Tryz.underlying29 Tryz.underlying5
  have hB : ∀ j, j < t.size → (Lib.bytesWorld w 5 t).cell? ⟨w.heap.size, j, none⟩ = some (.int .u8 (t.data.toList.getD j 0).toNat) := fun j hj => Lib.bytesWorld_cell w 5 t j hj
  have hbel := bytesW_below w 5 t
  obtain ⟨W1, hW1⟩ : ∃ W1, W1 = Lib.bytesWorld w 5 t := ⟨_, rfl⟩
  rw [← hW1] at hcv hB hbel
  clear hW1
  obtain ⟨bs, hL⟩ : ∃ bs, bs = t.data.toList := ⟨_, rfl⟩
  have hLn : bs.length = t.size := by rw [hL, Lib.size_eq]
  rw [← hL] at hB hd ⊢
  clear hL
  have hmv : IntKind.u64.wrap (IntKind.u64.wrap 4294967296 - 1) = 4294967295 := by
    rw [IntKind.wrap_u64, IntKind.wrap_u64]
    decide
  have hdl : ∀ c ∈ bs, Spec.digV c < 16 := fun c hc => by
    obtain ⟨j, hj, rfl⟩ := List.getElem_of_mem hc
    exact dig16_lt (hd j _ (List.getElem?_eq_getElem hj))
  go_enter Tryz.func83, Tryz.ntmps83
  go_wp2
  go_loop [12, 13, 101] (fun vu vn vi => ∃ (k : Nat) (a : Int), vu = .bool false ∧ vn = .int .u64 a ∧ vi = .int .i64 k ∧ k ≤ t.size ∧ Hid (a = ((Spec.numV 16 (bs.take k) : Nat) : Int)))
    (fun _ _ vi => t.size - (intOf vi).toNat)
  case atStart => exact ⟨0, 0, rfl, rfl, rfl, Nat.zero_le _, Lib.hid rfl⟩
  case round =>
    obtain ⟨k, a, rfl, rfl, rfl, hk, hh⟩ := hrel
    have hlt := numV_lt 16 (bs.take k) (fun c hc => hdl c (List.mem_of_mem_take hc))
    have hp : (16 : Nat) ^ (bs.take k).length ≤ 16 ^ 6 := Nat.pow_le_pow_right (by decide) (by simp; omega)
    have a0 : 0 ≤ a := by rw [hh.out]; omega
    have hpn : (16 : Nat) ^ 6 ≤ 16777216 := by decide
    have a1 : a ≤ 16777216 := by rw [hh.out]; omega
    clear hlt hp hpn
    by_cases hkn : k < t.size
    · have hc := hB k hkn
      have hget : bs.getD k 0 = bs[k]'(by omega) := by simp [List.getD, List.getElem?_eq_getElem (show k < bs.length by omega)]
      have hdk := hd k _ (List.getElem?_eq_getElem (show k < bs.length by omega))
      have hts : bs.take (k + 1) = bs.take k ++ [bs[k]'(by omega)] := by rw [List.take_succ_eq_append_getElem (show k < bs.length by omega)]
      rw [hget] at hc
      generalize bs[k]'(by omega) = c at hc hdk hts
      have hc256 : c.toNat < 256 := c.toNat_lt
      clear hB hget
      have HN : Hid (((Spec.numV 16 (bs.take (k + 1)) : Nat) : Int) = a * 16 + (Spec.digV c : Int)) := Lib.hid (by rw [hts, numV_snoc, hh.out]; push_cast; rfl)
      clear hts hh
      by_cases hdig : 48 ≤ c.toNat ∧ c.toNat ≤ 57
      · obtain ⟨hd0, hd1⟩ := hdig
        have hv : Spec.digV c = c.toNat - 48 := (dig10_lt ⟨hd0, hd1⟩).1
        have HV : Hid (((Spec.numV 16 (bs.take (k + 1)) : Nat) : Int) = a * 16 + ((c.toNat : Int) - 48)) := Lib.hid (by rw [HN.out, hv]; omega)
        clear HN hv hdk
        have iov : a * 16 + ((c.toNat : Int) - 48) ≤ 4294967295 := by omega
        go_wp2
        refine ⟨⟨k + 1, a * 16 + ((c.toNat : Int) - 48), rfl, (by first | rfl | (congr 1; omega)), (by first | rfl | (congr 1; omega)), by omega, Lib.hid HV.out.symm⟩, by simp [intOf]; omega⟩
      · obtain ⟨v, v0, v1, hbv, hdv⟩ := lower_hex c (by unfold Dig16 at hdk; omega)
        have HV : Hid (((Spec.numV 16 (bs.take (k + 1)) : Nat) : Int) = a * 16 + (v - 97 + 10)) := Lib.hid (by rw [HN.out, hdv]; omega)
        have hlow : ∀ W, Calls Tryz.prog 105 #[.int .u8 (c.toNat : Int)] W fun e w' => e = .returned (.int .u8 v) ∧ w' = W := fun W => by
          have := Tryz.internal_strconv_lower (c.toNat : Int) W
          rw [hbv] at this
          exact this
        have hne95 : (((c.toNat : Nat) : Int) == 95) = false := beq_eq_false_iff_ne.2 (by unfold Dig16 at hdk; omega)
        clear HN hbv hdv hdk
        have iov : a * 16 + (v - 97 + 10) ≤ 4294967295 := by omega
        go_wp2_with (go_at_call 105; refine (hlow _).mono ?_; rintro e w' ⟨rfl, rfl⟩)
        all_goals exact ⟨⟨k + 1, a * 16 + (v - 97 + 10), rfl, rfl, by go_num, by omega, Lib.hid HV.out.symm⟩, by simp [intOf]; omega⟩
    · have hkk : k = t.size := by omega
      have he := hh.out
      rw [hkk, List.take_of_length_le (by omega)] at he
      have HE := Lib.hid he
      clear he hh
      go_wp2
      go_ret2
      exact ⟨by rw [← HE.out]; rfl, hbel⟩

set_option maxHeartbeats 4000000 in
set_option maxRecDepth 100000 in
theorem parseI10 (t : ByteArray) (w : World) (hne : t.size ≠ 0) (h7 : t.size ≤ 7) (hd : ∀ (j : Nat) b, t.data.toList[j]? = some b → Dig10 b) :
    Calls Tryz.prog 48 #[.string t, .int .i64 10, .int .i64 32] w fun e w' => e = .returned (.tuple #[.int .i64 (Spec.numV 10 t.data.toList : Nat), .nilIface]) ∧ Below w.heap.size w w' := by
  have hemp : t.toList.isEmpty = false := by
    rw [← decide_eq_emptyBytes]
    exact decide_eq_false (fun h => hne (by rw [h]; rfl))
  have hlen : t.data.toList.length = t.size := by rw [Lib.size_eq]
  have hdl : ∀ c ∈ t.data.toList, Spec.digV c < 10 := fun c hc => by
    obtain ⟨j, hj, rfl⟩ := List.getElem_of_mem hc
    exact (dig10_lt (hd j _ (List.getElem?_eq_getElem hj))).2
  have hlt := numV_lt 10 t.data.toList hdl
  have hp : (10 : Nat) ^ t.data.toList.length ≤ 10 ^ 7 := Nat.pow_le_pow_right (by decide) (by omega)
  have hpn : (10 : Nat) ^ 7 ≤ 16777216 := by decide
  have h00 : 0 < t.size := by omega
  have hd0 := hd 0 _ (at_list t 0 h00)
  have hcall := parseU10 t
  obtain ⟨V, hV⟩ : ∃ V, V = Spec.numV 10 t.data.toList := ⟨_, rfl⟩
  rw [← hV] at hlt ⊢
  have hcall : ∀ W : World, Calls Tryz.prog 83 #[.string t, .int .i64 10, .int .i64 32] W fun e w' => e = .returned (.tuple #[.int .u64 (V : Nat), .nilIface]) ∧ Below W.heap.size W w' := fun W => by rw [hV]; exact hcall W hne h7 hd
  clear hV
  obtain ⟨a, HAV⟩ : ∃ a : Int, Hid (a = (V : Int)) := ⟨_, Lib.hid rfl⟩
  have v0 : 0 ≤ a := by rw [HAV.out]; omega
  have v1 : a ≤ 16777216 := by rw [HAV.out]; omega
  have hcall : ∀ W : World, Calls Tryz.prog 83 #[.string t, .int .i64 10, .int .i64 32] W fun e w' => e = .returned (.tuple #[.int .u64 a, .nilIface]) ∧ Below W.heap.size W w' := fun W => by rw [HAV.out]; exact hcall W
  rw [← HAV.out]
  clear hlt hp hpn hdl hlen HAV
  have n43 : (((t[0]'h00).toNat : Int) == 43) = false := beq_eq_false_iff_ne.2 (by unfold Dig10 at hd0; omega)
  have n45 : (((t[0]'h00).toNat : Int) == 45) = false := beq_eq_false_iff_ne.2 (by unfold Dig10 at hd0; omega)
  clear hd0 hd
  have hI : Calls Tryz.prog 67 #[.string t, .int .i64 10, .int .i64 32] w fun e w' => e = .returned (.tuple #[.int .i64 a, .nilIface]) ∧ Below w.heap.size w w' := by
    go_enter Tryz.func67, Tryz.ntmps67
    go_wp2_with (go_at_call 83; refine (hcall _).mono ?_)
    rintro e W1 ⟨rfl, hb1⟩
    clear n43 n45 hemp
    go_wp2
    go_ret2
    exact ⟨rfl, hb1⟩
  go_enter Tryz.func48, Tryz.ntmps48
  go_wp2_with (go_at_call 67; refine hI.mono ?_)
  rintro e W1 ⟨rfl, hb1⟩
  clear hI
  go_wp2
  go_ret2
  exact ⟨rfl, hb1⟩

set_option maxHeartbeats 4000000 in
set_option maxRecDepth 100000 in
theorem parseI16 (t : ByteArray) (w : World) (hne : t.size ≠ 0) (h7 : t.size ≤ 6) (hd : ∀ (j : Nat) b, t.data.toList[j]? = some b → Dig16 b) :
    Calls Tryz.prog 48 #[.string t, .int .i64 16, .int .i64 32] w fun e w' => e = .returned (.tuple #[.int .i64 (Spec.numV 16 t.data.toList : Nat), .nilIface]) ∧ Below w.heap.size w w' := by
  have hemp : t.toList.isEmpty = false := by
    rw [← decide_eq_emptyBytes]
    exact decide_eq_false (fun h => hne (by rw [h]; rfl))
  have hlen : t.data.toList.length = t.size := by rw [Lib.size_eq]
  have hdl : ∀ c ∈ t.data.toList, Spec.digV c < 16 := fun c hc => by
    obtain ⟨j, hj, rfl⟩ := List.getElem_of_mem hc
    exact dig16_lt (hd j _ (List.getElem?_eq_getElem hj))
  have hlt := numV_lt 16 t.data.toList hdl
  have hp : (16 : Nat) ^ t.data.toList.length ≤ 16 ^ 6 := Nat.pow_le_pow_right (by decide) (by omega)
  have hpn : (16 : Nat) ^ 6 ≤ 16777216 := by decide
  have h00 : 0 < t.size := by omega
  have hd0 := hd 0 _ (at_list t 0 h00)
  have hcall := parseU16 t
  obtain ⟨V, hV⟩ : ∃ V, V = Spec.numV 16 t.data.toList := ⟨_, rfl⟩
  rw [← hV] at hlt ⊢
  have hcall : ∀ W : World, Calls Tryz.prog 83 #[.string t, .int .i64 16, .int .i64 32] W fun e w' => e = .returned (.tuple #[.int .u64 (V : Nat), .nilIface]) ∧ Below W.heap.size W w' := fun W => by rw [hV]; exact hcall W hne h7 hd
  clear hV
  obtain ⟨a, HAV⟩ : ∃ a : Int, Hid (a = (V : Int)) := ⟨_, Lib.hid rfl⟩
  have v0 : 0 ≤ a := by rw [HAV.out]; omega
  have v1 : a ≤ 16777216 := by rw [HAV.out]; omega
  have hcall : ∀ W : World, Calls Tryz.prog 83 #[.string t, .int .i64 16, .int .i64 32] W fun e w' => e = .returned (.tuple #[.int .u64 a, .nilIface]) ∧ Below W.heap.size W w' := fun W => by rw [HAV.out]; exact hcall W
  rw [← HAV.out]
  clear hlt hp hpn hdl hlen HAV
  have n43 : (((t[0]'h00).toNat : Int) == 43) = false := beq_eq_false_iff_ne.2 (by unfold Dig16 at hd0; omega)
  have n45 : (((t[0]'h00).toNat : Int) == 45) = false := beq_eq_false_iff_ne.2 (by unfold Dig16 at hd0; omega)
  clear hd0 hd
  have hI : Calls Tryz.prog 67 #[.string t, .int .i64 16, .int .i64 32] w fun e w' => e = .returned (.tuple #[.int .i64 a, .nilIface]) ∧ Below w.heap.size w w' := by
    go_enter Tryz.func67, Tryz.ntmps67
    go_wp2_with (go_at_call 83; refine (hcall _).mono ?_)
    rintro e W1 ⟨rfl, hb1⟩
    clear n43 n45 hemp
    go_wp2
    go_ret2
    exact ⟨rfl, hb1⟩
  go_enter Tryz.func48, Tryz.ntmps48
  go_wp2_with (go_at_call 67; refine hI.mono ?_)
  rintro e W1 ⟨rfl, hb1⟩
  clear hI
  go_wp2
  go_ret2
  exact ⟨rfl, hb1⟩

end Go.Proofs.YtipbmagondoooaaGreatDoor
