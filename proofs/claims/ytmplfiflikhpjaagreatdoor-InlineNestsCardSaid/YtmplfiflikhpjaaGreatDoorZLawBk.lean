/-
  The law InlineBrackets: it returns true, whatever its argument.
-/
import Derived.Test.YtmplfiflikhpjaaGreatDoorV19
import Derived.Test.YtmplfiflikhpjaaGreatDoorV01
namespace Go.Proofs.YtmplfiflikhpjaaGreatDoor
open Go.RowKit

/-- A slice of ints in memory. -/
def IntsAt (w : World) (v : Value) (zs : List Int) : Prop :=
  ∃ (A : Option Addr) (cap : Nat), v = .slice A zs.length cap ∧ (0 < zs.length → ∃ b off, A = some ⟨b, off, none⟩ ∧ b < w.heap.size ∧ ∀ (i : Nat) (x : Int), zs[i]? = some x → w.cell? ⟨b, off + i, none⟩ = some (.int .i64 x))
theorem and1023 (x : Int) : ∃ y : Nat, y < 1024 ∧ bits .and .i64 x 1023 = (y : Int) := by
  refine ⟨(BitVec.ofInt 64 x &&& BitVec.ofInt 64 1023).toNat, ?_, ?_⟩
  · rw [BitVec.toNat_and]
    have h : (BitVec.ofInt 64 1023).toNat = 1023 := by decide
    rw [h]
    have := Nat.and_le_right (n := (BitVec.ofInt 64 x).toNat) (m := 1023)
    omega
  · show IntKind.i64.wrap ((BitVec.ofInt 64 x &&& BitVec.ofInt 64 1023).toNat : Int) = _
    refine IntWalk.i64_in _ ?_
    rw [BitVec.toNat_and]
    have h : (BitVec.ofInt 64 1023).toNat = 1023 := by decide
    rw [h]
    have := Nat.and_le_right (n := (BitVec.ofInt 64 x).toNat) (m := 1023)
    omega
theorem tmod_nat (y n k : Nat) (h : y % n = k) : (y : Int).tmod (n : Int) = (k : Int) := by
  subst h
  rw [Int.tmod_eq_emod_of_nonneg (Int.natCast_nonneg y)]
  rfl
structure BrkT (t : ByteArray) (i : Nat) : Prop where
  all : ∀ c ∈ t.data.toList, Pl.brk c
  lo : i ≤ t.size
  hi : t.size ≤ 2 * i
theorem BrkT.add {t : ByteArray} {i : Nat} (h : BrkT t i) (p : ByteArray) (hp : ∀ c ∈ p.data.toList, Pl.brk c) (h1 : 1 ≤ p.size) (h2 : p.size ≤ 2) : BrkT (t ++ p) (i + 1) := by
  refine ⟨fun c hc => ?_, ?_, ?_⟩
  · rw [ByteArray.data_append, Array.toList_append] at hc
    rcases List.mem_append.1 hc with h3 | h3
    · exact h.all c h3
    · exact hp c h3
  · rw [ByteArray.size_append]; have := h.lo; omega
  · rw [ByteArray.size_append]; have := h.hi; omega
theorem at_lst (s : ByteArray) (i : Nat) (h : i < s.size) : s.data.toList[i]? = some (s[i]'h) := List.getElem?_eq_getElem (l := s.data.toList) (by rw [← Lib.size_eq]; exact h)

set_option maxHeartbeats 32000000 in
set_option maxRecDepth 100000 in
theorem inlineBrackets_law (v : Value) (zs : List Int) (w : World) (hv : IntsAt w v zs) (hT : TabsM w) (hlz : zs.length ≤ 9223372036854775807) :
    Calls Tryz.prog 4 #[v] w fun e w' => e = .returned (.bool true) ∧ Below w.heap.size w w' := by
  obtain ⟨A, cap, rfl, hc⟩ := hv
  obtain ⟨n, hn⟩ : ∃ n, n = zs.length := ⟨_, rfl⟩
  rw [← hn] at hc hlz ⊢
  by_cases h1 : 60 < n
  · have h1i : (60 : Int) < n := by omega
    clear hc hn
    go_enter Tryz.func4, Tryz.ntmps4
    go_wp2
    go_ret
    exact ⟨rfl, Below.refl _ _⟩
  · have h1i : ¬ (60 : Int) < n := by omega
    by_cases h0 : n = 0
    · subst h0
      clear hc hn
      go_enter Tryz.func4, Tryz.ntmps4
      go_wp2
      go_ret
      exact ⟨rfl, Below.refl _ _⟩
    · have h0i : ((n : Int) == 0) = false := beq_eq_false_iff_ne.2 (by omega)
      obtain ⟨bb, off, rfl, hbb, hcell⟩ := hc (by omega)
      have HCL := Lib.hid (And.intro hcell hn)
      have hK := fun W (hb : Below w.heap.size w W) => known_any W (hT.below hb)
      have hP := fun W (hb : Below w.heap.size w W) (t : ByteArray) (ht : t.size ≤ 20000) => parse_any W t ht (hT.below hb)
      have HK := Lib.hid hK
      have HP := Lib.hid hP
      clear hK hP hT hc hcell hn
      go_enter Tryz.func4, Tryz.ntmps4
      go_wp2
      go_loopw [3, 4] (fun v3 v4 wr => ∃ (i : Nat) (t : ByteArray), i ≤ n ∧ v3 = .string t ∧ v4 = .int .i64 (i : Int) ∧ Hid (Below w.heap.size w wr) ∧ Hid (BrkT t i)) (fun _ v4 _ => n - (intOf v4).toNat)
      case atStart => exact ⟨0, _, Nat.zero_le _, rfl, rfl, Lib.hid (Below.refl _ _), Lib.hid ⟨fun c hc => absurd hc (by simp), Nat.le_refl _, Nat.le_refl _⟩⟩
      case round =>
        obtain ⟨i, t, hi, rfl, rfl, HB, HT⟩ := hrel
        by_cases hin : i < n
        · have hini : (i : Int) < n := by omega
          obtain ⟨x, hx⟩ : ∃ x, zs[i]? = some x := ⟨_, List.getElem?_eq_getElem (by have := HCL.out.2; omega)⟩
          have hcx := (HB.out.cell (p := ⟨bb, off + i, none⟩) hbb).trans (HCL.out.1 i x hx)
          have zbb : bb < wr.heap.size := Nat.lt_of_lt_of_le hbb HB.out.size
          obtain ⟨y, hy, hand⟩ := and1023 x
          have hcat1 : ¬ 9223372036854775807 < t.size + 1 := by have := HT.out.hi; omega
          have hcat2 : ¬ 9223372036854775807 < t.size + 2 := by have := HT.out.hi; omega
          have HB2 := Lib.hid (HB.out.alloc HB.out.size (.cells #[.string ⟨#[91]⟩, .string ⟨#[93]⟩, .string ⟨#[33, 91]⟩, .string ⟨#[97]⟩, .string ⟨#[40]⟩, .string ⟨#[41]⟩] 9))
          have hmod : y % 6 = 0 ∨ y % 6 = 1 ∨ y % 6 = 2 ∨ y % 6 = 3 ∨ y % 6 = 4 ∨ y % 6 = 5 := by omega
          clear hx hy
          rcases hmod with hm | hm | hm | hm | hm | hm
          · have hrem : ((y : Int)).tmod 6 = 0 := tmod_nat y 6 0 hm
            have hN : Hid (BrkT (t ++ ⟨#[91]⟩) (i + 1)) := Lib.hid (HT.out.add ⟨#[91]⟩ (by unfold Pl.brk; decide) (by decide) (by decide))
            clear hm
            go_wp2
            go_roundw
            case rel => exact ⟨i + 1, _, by omega, rfl, by go_num, HB2, hN⟩
            case measure => simp [intOf]; omega
          · have hrem : ((y : Int)).tmod 6 = 1 := tmod_nat y 6 1 hm
            have hN : Hid (BrkT (t ++ ⟨#[93]⟩) (i + 1)) := Lib.hid (HT.out.add ⟨#[93]⟩ (by unfold Pl.brk; decide) (by decide) (by decide))
            clear hm
            go_wp2
            go_roundw
            case rel => exact ⟨i + 1, _, by omega, rfl, by go_num, HB2, hN⟩
            case measure => simp [intOf]; omega
          · have hrem : ((y : Int)).tmod 6 = 2 := tmod_nat y 6 2 hm
            have hN : Hid (BrkT (t ++ ⟨#[33, 91]⟩) (i + 1)) := Lib.hid (HT.out.add ⟨#[33, 91]⟩ (by unfold Pl.brk; decide) (by decide) (by decide))
            clear hm
            go_wp2
            go_roundw
            case rel => exact ⟨i + 1, _, by omega, rfl, by go_num, HB2, hN⟩
            case measure => simp [intOf]; omega
          · have hrem : ((y : Int)).tmod 6 = 3 := tmod_nat y 6 3 hm
            have hN : Hid (BrkT (t ++ ⟨#[97]⟩) (i + 1)) := Lib.hid (HT.out.add ⟨#[97]⟩ (by unfold Pl.brk; decide) (by decide) (by decide))
            clear hm
            go_wp2
            go_roundw
            case rel => exact ⟨i + 1, _, by omega, rfl, by go_num, HB2, hN⟩
            case measure => simp [intOf]; omega
          · have hrem : ((y : Int)).tmod 6 = 4 := tmod_nat y 6 4 hm
            have hN : Hid (BrkT (t ++ ⟨#[40]⟩) (i + 1)) := Lib.hid (HT.out.add ⟨#[40]⟩ (by unfold Pl.brk; decide) (by decide) (by decide))
            clear hm
            go_wp2
            go_roundw
            case rel => exact ⟨i + 1, _, by omega, rfl, by go_num, HB2, hN⟩
            case measure => simp [intOf]; omega
          · have hrem : ((y : Int)).tmod 6 = 5 := tmod_nat y 6 5 hm
            have hN : Hid (BrkT (t ++ ⟨#[41]⟩) (i + 1)) := Lib.hid (HT.out.add ⟨#[41]⟩ (by unfold Pl.brk; decide) (by decide) (by decide))
            clear hm
            go_wp2
            go_roundw
            case rel => exact ⟨i + 1, _, by omega, rfl, by go_num, HB2, hN⟩
            case measure => simp [intOf]; omega
        · have hini : ¬ (i : Int) < n := by omega
          obtain rfl : i = n := by omega
          have zt : t.size ≤ 120 := by have := HT.out.hi; omega
          have zt0 : 0 < t.size := by have := HT.out.lo; omega
          have HK := Lib.hid (fun W (hb : Below wr.heap.size wr W) => HK.out W (HB.out.trans (hb.mono HB.out.size)))
          go_wp2
          go_loopw [5] (fun v5 wq => ∃ q : Nat, q < t.size ∧ v5 = .int .i64 (q : Int) ∧ wr = wq ∧ Hid (∀ j (h : j + 1 < t.size), j < q → ¬ (t[j]'(by omega) = 93 ∧ t[j + 1]'h = 40))) (fun v5 _ => t.size - (intOf v5).toNat)
          case atStart => exact ⟨0, zt0, rfl, rfl, Lib.hid (fun j h h2 => absurd h2 (by omega))⟩
          case round =>
            obtain ⟨q, hq, rfl, rfl, HQ⟩ := hrel
            by_cases hqn : q + 1 < t.size
            · have hqni : (q : Int) + 1 < t.size := by omega
              have hqi : (q : Int) < t.size := by omega
              have hidx : ∀ W, (Instr.index 9 (.string t) (.int .i64 ((q : Int) + 1))).run Tryz.prog W = .ok (.int .u8 ((t[q + 1]'hqn).toNat : Int)) W := fun W => by
                rw [run_index_string W _ t .i64 ((q : Int) + 1) Tryz.underlying9, dif_pos ⟨by omega, by omega⟩]
                have e : ((q : Int) + 1).toNat = q + 1 := by omega
                simp only [e]
              by_cases c1 : t[q]'hq = 93
              · have e1 := u8_true c1 (x := 93) rfl
                by_cases c2 : t[q + 1]'hqn = 40
                · have e2 := u8_true c2 (x := 40) rfl
                  clear c1 c2
                  go_wp2_with fail
                  refine (HK.out wr (Below.refl _ _)).mono ?_
                  rintro e w3 ⟨rfl, hb3⟩
                  have HB := Lib.hid (HB.out.trans (hb3.mono HB.out.size))
                  clear hb3
                  go_wp2
                  go_ret
                  exact ⟨rfl, HB.out⟩
                · have e2 := u8_false c2 (x := 40) rfl
                  have hN : Hid (∀ j (h : j + 1 < t.size), j < q + 1 → ¬ (t[j]'(by omega) = 93 ∧ t[j + 1]'h = 40)) := Lib.hid (fun j h hj => by
                    by_cases e : j < q
                    · exact HQ.out j h e
                    · obtain rfl : j = q := by omega
                      exact fun hh => c2 hh.2)
                  clear c1 c2
                  go_wp2
                  go_roundw
                  case rel => exact ⟨q + 1, by omega, by go_num, trivial, hN⟩
                  case measure => simp [intOf]; omega
              · have e1 := u8_false c1 (x := 93) rfl
                have hN : Hid (∀ j (h : j + 1 < t.size), j < q + 1 → ¬ (t[j]'(by omega) = 93 ∧ t[j + 1]'h = 40)) := Lib.hid (fun j h hj => by
                  by_cases e : j < q
                  · exact HQ.out j h e
                  · obtain rfl : j = q := by omega
                    exact fun hh => c1 hh.1)
                clear c1
                go_wp2
                go_roundw
                case rel => exact ⟨q + 1, by omega, by go_num, trivial, hN⟩
                case measure => simp [intOf]; omega
            · have hqni : ¬ (q : Int) + 1 < t.size := by omega
              have hpp := Pl.parse_brackets t.data.toList (fun e => by rw [Lib.size_eq, e] at zt0; simp at zt0) HT.out.all (fun j h1 h2 => by
                have hj1 : j + 1 < t.size := by rw [Lib.size_eq]; exact (List.getElem?_eq_some_iff.1 h2).1
                rw [at_lst t j (by omega)] at h1
                rw [at_lst t (j + 1) hj1] at h2
                exact HQ.out j hj1 (by omega) ⟨Option.some.inj h1, Option.some.inj h2⟩)
              have hP := HP.out wr HB.out t (by omega)
              rw [hpp] at hP
              clear hpp
              go_wp2_with fail
              refine hP.mono ?_
              rintro e w1 ⟨kv, rfl, hk, hb⟩
              have hb2 : Below w1.heap.size w1 (w1.alloc (.cells #[.int .i64 10, .int .i64 0, .bool false, .bool false, .string t, .string ⟨#[]⟩, .string ⟨#[]⟩, .slice none 0 0] 27)) := (Below.refl _ _).alloc (Nat.le_refl _) _
              have hS := same_any (sm_txt t.data.toList) _ _ _ (hk.on hb2) (krep_txt w1 t)
              have HB2 := Lib.hid (hb.trans (hb2.mono hb.size))
              clear hk hb hb2 hP
              go_wp2_with fail
              refine hS.mono ?_
              rintro e w3 ⟨rfl, hb3⟩
              have hK := HK.out w3 (HB2.out.trans (hb3.mono HB2.out.size))
              have HB2 := Lib.hid (HB2.out.trans (hb3.mono HB2.out.size))
              clear hb3 hS
              go_wp2_with fail
              refine hK.mono ?_
              rintro e w4 ⟨rfl, hb4⟩
              have HB2 := Lib.hid (HB2.out.trans (hb4.mono HB2.out.size))
              clear hb4 hK
              go_wp2
              go_ret
              exact ⟨rfl, HB.out.trans (HB2.out.mono HB.out.size)⟩
end Go.Proofs.YtmplfiflikhpjaaGreatDoor
