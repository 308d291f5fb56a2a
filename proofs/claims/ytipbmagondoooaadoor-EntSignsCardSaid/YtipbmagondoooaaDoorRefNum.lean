/-
  The reference's At (chapter 9): its numbers, its answer at every text, and that it is ent.At's.
-/
import Derived.Test.YtipbmagondoooaaDoorRefAt
namespace Go.Proofs.YtipbmagondoooaaDoor
open Go.RowKit

def isDig (base : Nat) (c : UInt8) : Bool := decide (0 ≤ digZ c) && decide (digZ c < (base : Int))
/-- The digits that a text begins with, so many at the most. -/
def digs (base : Nat) : Nat → List UInt8 → List UInt8
  | 0, _ => []
  | _ + 1, [] => []
  | n + 1, c :: t => if isDig base c = true then c :: digs base n t else []
def refNum (base most at0 : Nat) (r : List UInt8) : List UInt8 × Nat :=
  if digs base most r = [] ∨ (r.drop (digs base most r).length).head? ≠ some 59 then ([], 0)
  else (Lib.encodeRune ((if Spec.numV base (digs base most r) = 0 then 65533 else Spec.numV base (digs base most r) : Nat) : Int), at0 + (digs base most r).length + 1)

theorem digs_take (base : Nat) : ∀ (most : Nat) (r : List UInt8) (k : Nat), k ≤ most → (∀ c ∈ r.take k, isDig base c = true) → k ≤ r.length → (k = most ∨ k = r.length ∨ ∃ c, r[k]? = some c ∧ isDig base c = false) → digs base most r = r.take k := by
  intro most
  induction most with
  | zero =>
    intro r k hk _ _ _
    obtain rfl : k = 0 := by omega
    rfl
  | succ n ih =>
    intro r k hk hd hkr hend
    cases r with
    | nil =>
      obtain rfl : k = 0 := by simpa using hkr
      rfl
    | cons c t =>
      cases k with
      | zero =>
        rcases hend with h | h | ⟨d, h, h2⟩
        · omega
        · simp at h
        · simp at h
          subst h
          unfold digs
          rw [h2]
          rfl
      | succ k =>
        have hc := hd c (by simp)
        unfold digs
        rw [hc, if_pos rfl, List.take_succ_cons]
        congr 1
        refine ih t k (by omega) (fun x hx => hd x (by simp [hx])) (by simpa using hkr) ?_
        rcases hend with h | h | ⟨d, h, h2⟩
        · exact .inl (by omega)
        · exact .inr (.inl (by simpa using h))
        · exact .inr (.inr ⟨d, by simpa using h, h2⟩)
theorem digZ_val (c : UInt8) (h : 0 ≤ digZ c) : digZ c = (Spec.digV c : Int) ∧ digZ c < 16 := by
  unfold digZ at h ⊢
  unfold Spec.digV
  split
  · rename_i h1; rw [if_pos h1.2]; omega
  · rename_i h1
    split
    · rename_i h2; rw [if_neg (by omega), if_pos h2.1]; omega
    · rename_i h2
      split
      · rename_i h3; rw [if_neg (by omega), if_neg (by omega)]; omega
      · rename_i h3
        rw [if_neg h1, if_neg h2, if_neg h3] at h
        exact absurd h (by decide)
theorem isDig_iff (base : Nat) (c : UInt8) : isDig base c = true ↔ 0 ≤ digZ c ∧ digZ c < base := by
  unfold isDig; simp
theorem digZ_ge (c : UInt8) : -1 ≤ digZ c := by
  unfold digZ; repeat' split
  all_goals omega

set_option maxHeartbeats 16000000 in
set_option maxRecDepth 100000 in
theorem refAt10 (s : ByteArray) (w : World) (hs : s.size ≤ 1000000) (h2 : 2 ≤ s.size) (hN : ∀ W, Calls Tryd.prog 27 #[.string s] W fun e w' => e = .returned (.tuple #[.string (⟨#[]⟩ : ByteArray), .int .i64 0]) ∧ Below W.heap.size W w')
    (hBg : ∀ W, Calls Tryd.prog 28 #[.string s, .string (⟨#[38, 35]⟩ : ByteArray)] W fun e w' => e = .returned (.bool true) ∧ w' = W)
    (hx : ∀ h : 2 < s.size, ((((s[2]'h).toNat : Nat) : Int) == 120) = false ∧ ((((s[2]'h).toNat : Nat) : Int) == 88) = false) :
    Calls Tryd.prog 10 #[.string s] w fun e w' => e = .returned (entRes (refNum 10 7 2 (s.data.toList.drop 2))) ∧ Below w.heap.size w w' := by
  obtain ⟨r, hr⟩ : ∃ r, r = s.data.toList.drop 2 := ⟨_, rfl⟩
  have hrl : r.length + 2 = s.size := by rw [hr, List.length_drop, ← Lib.size_eq]; omega
  have hrk : ∀ k (h : 2 + k < s.size), r[k]? = some (s[2 + k]'h) := fun k h => by
    rw [hr, List.getElem?_drop]; exact at_list s _ h
  rw [← hr]
  have HR := Lib.hid hr
  clear hr
  have hh : (∃ h : 2 < s.size, (2 : Int) < s.size ∧ ((((s[2]'h).toNat : Nat) : Int) == 120) = false ∧ ((((s[2]'h).toNat : Nat) : Int) == 88) = false) ∨ ¬ (2 : Int) < s.size := by
    by_cases h3 : 2 < s.size
    · exact .inl ⟨h3, by omega, hx h3⟩
    · exact .inr (by omega)
  clear hx
  rcases hh with ⟨h3, h3i, hx1, hx2⟩ | h3i
  all_goals
    go_enter Tryd.func10, Tryd.ntmps10
    go_wp2_with (first | (go_at_call 27; refine (hN _).mono ?_; rintro e wb ⟨rfl, hb0⟩) | (go_at_call 28; refine (hBg _).mono ?_; rintro e wc ⟨rfl, rfl⟩))
    go_loop [8, 9] (fun vat v => ∃ (k : Nat) (a : Int), vat = .int .i64 ((2 + k : Nat) : Int) ∧ v = .int .i64 a ∧ k ≤ 7 ∧ 2 + k ≤ s.size ∧ Hid (a = ((Spec.numV 10 (r.take k) : Nat) : Int)) ∧ Hid (∀ c ∈ r.take k, isDig 10 c = true)) (fun vat _ => s.size - (intOf vat).toNat)
    case atStart => exact ⟨0, 0, rfl, rfl, by omega, by omega, Lib.hid rfl, Lib.hid (fun c hc => by simp at hc)⟩
    case round =>
      obtain ⟨k, a, rfl, rfl, hkm, hks, HA, HD⟩ := hrel
      have hlt := numV_lt 10 (r.take k) (fun c hc => by
        have h1 := (isDig_iff 10 c).1 (HD.out c hc)
        have h2 := digZ_val c h1.1
        omega)
      have hpp : (10 : Nat) ^ (r.take k).length ≤ 10 ^ 7 := Nat.pow_le_pow_right (by decide) (by simp; omega)
      have hpn : (10 : Nat) ^ 7 ≤ 16777216 := by decide
      have a0 : 0 ≤ a := by rw [HA.out]; omega
      have a1 : a ≤ 16777216 := by rw [HA.out]; omega
      clear hlt hpp hpn hN hBg
      obtain ⟨p, hp⟩ : ∃ p, p = 2 + k := ⟨_, rfl⟩
      have HP := Lib.hid hp
      rw [← hp] at hks ⊢
      have hpk : p = 2 + k := hp
      have hkr : k ≤ r.length := by omega
      by_cases hlen : p < s.size
      · have heq : ∀ (q : Nat) (hq : q < s.size), q = p → s[q]'hq = s[p]'hlen := fun q hq e => by subst e; rfl
        obtain ⟨c, hat, hc⟩ : ∃ c, r[k]? = some c ∧ c = s[p]'hlen := ⟨s[p]'hlen, (hrk k (by omega)).trans (congrArg some (heq _ _ hp.symm)), rfl⟩
        have hg : ((s[p]'hlen).toNat : Int) = (c.toNat : Int) := by rw [hc]
        have HC := Lib.hid hc
        have HG := Lib.hid hg
        clear hc hg hrk heq
        have hdg : ∀ W, Calls Tryd.prog 29 #[.int .u8 ((s[p]'hlen).toNat : Int)] W fun e w' => e = .returned (.int .i64 (digZ c)) ∧ w' = W := fun W => by rw [HG.out]; exact digit_any c W
        have hge := digZ_ge c
        have hpi : (p : Int) < s.size := by omega
        by_cases hk7 : k < 7
        · have hki : (p : Int) - 2 < 7 := by omega
          by_cases hd : 0 ≤ digZ c ∧ digZ c < 10
          · -- a digit more
            have hv := digZ_val c hd.1
            have hts : r.take (k + 1) = r.take k ++ [c] := by
              have hkl : k < r.length := by omega
              rw [List.getElem?_eq_getElem hkl] at hat
              rw [List.take_succ_eq_append_getElem hkl, Option.some.inj hat]
            have HN2 : Hid (a * 10 + digZ c = ((Spec.numV 10 (r.take (k + 1)) : Nat) : Int)) := Lib.hid (by rw [hts, numV_snoc, HA.out, hv.1]; push_cast; rfl)
            have HD2 : Hid (∀ x ∈ r.take (k + 1), isDig 10 x = true) := Lib.hid (fun x hx => by
              rw [hts] at hx
              rcases List.mem_append.1 hx with h | h
              · exact HD.out x h
              · simp at h; subst h; exact (isDig_iff 10 x).2 hd)
            obtain ⟨z, hz⟩ : ∃ z, z = digZ c := ⟨_, rfl⟩
            rw [← hz] at hdg hd HN2 hge
            obtain ⟨d0, d1⟩ := hd
            clear hz hts hv hat HA HD hge hp hpk hkr hrl
            go_wp2_with (go_at_call 29; refine (hdg _).mono ?_; rintro e wd ⟨rfl, rfl⟩)
            go_round
            case rel => exact ⟨k + 1, a * 10 + z, by rw [HP.out]; go_num, rfl, by omega, by have := HP.out; omega, HN2, HD2⟩
            case measure => simp [intOf]; omega
          · -- no digit: the number ends here
            have hds : digs 10 7 r = r.take k := digs_take 10 7 r k hkm HD.out hkr (.inr (.inr ⟨c, hat, by rw [Bool.eq_false_iff]; exact fun h => hd ((isDig_iff 10 c).1 h)⟩))
            have hlenk : (r.take k).length = k := by rw [List.length_take]; omega
            have hhead : (r.drop k).head? = some c := by rw [List.head?_drop]; exact hat
            have hspec : refNum 10 7 2 r = if k = 0 ∨ c ≠ 59 then ([], 0) else (Lib.encodeRune ((if a = 0 then 65533 else a) : Int), p + 1) := by
              unfold refNum
              rw [hds, hlenk, hhead, hp]
              have e1 : r.take k = [] ↔ k = 0 := by rw [← List.length_eq_zero_iff, hlenk]
              have e2 : (Spec.numV 10 (r.take k) = 0) ↔ a = 0 := by rw [HA.out]; omega
              by_cases hz : k = 0 ∨ c ≠ 59
              · rw [if_pos hz, if_pos (hz.imp e1.2 (fun h e => h (Option.some.inj e)))]
              · rw [if_neg hz, if_neg (fun h => hz (h.imp e1.1 (fun h2 e3 => h2 (by rw [e3]))))]
                by_cases ha : a = 0
                · rw [if_pos ha, if_pos (e2.2 ha)]; rfl
                · rw [if_neg ha, if_neg (fun h => ha (e2.1 h)), HA.out]
            have HS := Lib.hid hspec
            have hdd : digZ c = -1 ∨ 10 ≤ digZ c := by omega
            have HNE : Hid (10 ≤ digZ c → c ≠ 59) := Lib.hid (fun h e => by rw [e] at h; exact absurd h (by decide))
            obtain ⟨z, hz⟩ : ∃ z, z = digZ c := ⟨_, rfl⟩
            rw [← hz] at hdg hdd hge HNE
            clear hz hds hlenk hhead hspec hat hd HA HD hkr hrl
            have hpk0 : k = 0 ∨ 0 < k := by omega
            rcases hdd with hdd | hdd
            · subst hdd
              rcases hpk0 with h0 | h0
              · have hpp : p = 2 := by omega
                subst hpp
                have HF : Hid (entRes (refNum 10 7 2 r) = .tuple #[.string (⟨#[]⟩ : ByteArray), .int .i64 0]) := Lib.hid (by rw [HS.out, if_pos (.inl h0)]; rfl)
                clear HS h0 hpk hp hkm
                go_wp2_with (go_at_call 29; refine (hdg _).mono ?_; rintro e wd ⟨rfl, rfl⟩)
                all_goals go_ret2
                all_goals exact ⟨by rw [HF.out]; rfl, hb0⟩
              · have hne : ((p : Int) == 2) = false := beq_eq_false_iff_ne.2 (by omega)
                have hne2 : ((p : Int) == (s.size : Int)) = false := beq_eq_false_iff_ne.2 (by omega)
                by_cases h59 : c = 59
                · have hb59 : (((s[p]'hlen).toNat : Int) != 59) = false := bne_eq_false_iff_eq.2 (by rw [HG.out, h59]; rfl)
                  by_cases ha : a = 0
                  · have he := fun W => encode_any 65533 W
                    have HF : Hid (entRes (refNum 10 7 2 r) = .tuple #[.string ⟨(Lib.encodeRune 65533).toArray⟩, .int .i64 ((p : Int) + 1)]) := Lib.hid (by rw [HS.out, if_neg (fun h => h.elim (fun e => by omega) (fun e => e h59)), if_pos ha]; rfl)
                    clear HS h0 hpk hp hkm h59
                    subst ha
                    go_wp2_with (first | (go_at_call 29; refine (hdg _).mono ?_; rintro e wd ⟨rfl, rfl⟩) | (go_at_call 14; refine (he _).mono ?_; rintro e we ⟨rfl, hbe⟩))
                    all_goals go_ret2
                    all_goals exact ⟨by rw [HF.out]; rfl, hb0.trans (hbe.mono hb0.size)⟩
                  · have he := fun W => encode_any a W
                    have hane : (a == 0) = false := beq_eq_false_iff_ne.2 ha
                    have HF : Hid (entRes (refNum 10 7 2 r) = .tuple #[.string ⟨(Lib.encodeRune a).toArray⟩, .int .i64 ((p : Int) + 1)]) := Lib.hid (by rw [HS.out, if_neg (fun h => h.elim (fun e => by omega) (fun e => e h59)), if_neg ha]; rfl)
                    clear HS h0 hpk hp hkm h59 ha
                    go_wp2_with (first | (go_at_call 29; refine (hdg _).mono ?_; rintro e wd ⟨rfl, rfl⟩) | (go_at_call 14; refine (he _).mono ?_; rintro e we ⟨rfl, hbe⟩))
                    all_goals go_ret2
                    all_goals exact ⟨by rw [HF.out]; rfl, hb0.trans (hbe.mono hb0.size)⟩
                · have hb59 : (((s[p]'hlen).toNat : Int) != 59) = true := bne_iff_ne.2 (by rw [HG.out]; intro e; exact h59 (UInt8.toNat_inj.1 (by have : (59 : UInt8).toNat = 59 := rfl; omega)))
                  have HF : Hid (entRes (refNum 10 7 2 r) = .tuple #[.string (⟨#[]⟩ : ByteArray), .int .i64 0]) := Lib.hid (by rw [HS.out, if_pos (.inr h59)]; rfl)
                  clear HS h0 hpk hp hkm h59
                  go_wp2_with (go_at_call 29; refine (hdg _).mono ?_; rintro e wd ⟨rfl, rfl⟩)
                  all_goals go_ret2
                  all_goals exact ⟨by rw [HF.out]; rfl, hb0⟩
            · have h59 : c ≠ 59 := HNE.out hdd
              rcases hpk0 with h0 | h0
              · have hpp : p = 2 := by omega
                subst hpp
                have HF : Hid (entRes (refNum 10 7 2 r) = .tuple #[.string (⟨#[]⟩ : ByteArray), .int .i64 0]) := Lib.hid (by rw [HS.out, if_pos (.inl h0)]; rfl)
                clear HS h0 hpk hp hkm
                go_wp2_with (go_at_call 29; refine (hdg _).mono ?_; rintro e wd ⟨rfl, rfl⟩)
                all_goals go_ret2
                all_goals exact ⟨by rw [HF.out]; rfl, hb0⟩
              · have hne : ((p : Int) == 2) = false := beq_eq_false_iff_ne.2 (by omega)
                have hne2 : ((p : Int) == (s.size : Int)) = false := beq_eq_false_iff_ne.2 (by omega)
                have hb59 : (((s[p]'hlen).toNat : Int) != 59) = true := bne_iff_ne.2 (by rw [HG.out]; intro e; exact h59 (UInt8.toNat_inj.1 (by have : (59 : UInt8).toNat = 59 := rfl; omega)))
                have HF : Hid (entRes (refNum 10 7 2 r) = .tuple #[.string (⟨#[]⟩ : ByteArray), .int .i64 0]) := Lib.hid (by rw [HS.out, if_pos (.inr h59)]; rfl)
                clear HS h0 hpk hp hkm h59
                go_wp2_with (go_at_call 29; refine (hdg _).mono ?_; rintro e wd ⟨rfl, rfl⟩)
                all_goals go_ret2
                all_goals exact ⟨by rw [HF.out]; rfl, hb0⟩
        · -- as many as may be
          have hkm' : k = 7 := by omega
          have hds : digs 10 7 r = r.take k := digs_take 10 7 r k hkm HD.out hkr (.inl hkm')
          have hlenk : (r.take k).length = k := by rw [List.length_take]; omega
          have hhead : (r.drop k).head? = some c := by rw [List.head?_drop]; exact hat
          have hspec : refNum 10 7 2 r = if k = 0 ∨ c ≠ 59 then ([], 0) else (Lib.encodeRune ((if a = 0 then 65533 else a) : Int), p + 1) := by
            unfold refNum
            rw [hds, hlenk, hhead, hp]
            have e1 : r.take k = [] ↔ k = 0 := by rw [← List.length_eq_zero_iff, hlenk]
            have e2 : (Spec.numV 10 (r.take k) = 0) ↔ a = 0 := by rw [HA.out]; omega
            by_cases hz : k = 0 ∨ c ≠ 59
            · rw [if_pos hz, if_pos (hz.imp e1.2 (fun h e => h (Option.some.inj e)))]
            · rw [if_neg hz, if_neg (fun h => hz (h.imp e1.1 (fun h2 e3 => h2 (by rw [e3]))))]
              by_cases ha : a = 0
              · rw [if_pos ha, if_pos (e2.2 ha)]; rfl
              · rw [if_neg ha, if_neg (fun h => ha (e2.1 h)), HA.out]
          have HS := Lib.hid hspec
          have h0 : 0 < k := by omega
          have hki : ¬ (p : Int) - 2 < 7 := by omega
          clear hds hlenk hhead hspec hat HA HD hkr hrl hge hk7 hkm'
          have hne : ((p : Int) == 2) = false := beq_eq_false_iff_ne.2 (by omega)
          have hne2 : ((p : Int) == (s.size : Int)) = false := beq_eq_false_iff_ne.2 (by omega)
          by_cases h59 : c = 59
          · have hb59 : (((s[p]'hlen).toNat : Int) != 59) = false := bne_eq_false_iff_eq.2 (by rw [HG.out, h59]; rfl)
            by_cases ha : a = 0
            · have he := fun W => encode_any 65533 W
              have HF : Hid (entRes (refNum 10 7 2 r) = .tuple #[.string ⟨(Lib.encodeRune 65533).toArray⟩, .int .i64 ((p : Int) + 1)]) := Lib.hid (by rw [HS.out, if_neg (fun h => h.elim (fun e => by omega) (fun e => e h59)), if_pos ha]; rfl)
              clear HS h0 hpk hp hkm h59
              subst ha
              go_wp2_with (first | (go_at_call 29; refine (hdg _).mono ?_; rintro e wd ⟨rfl, rfl⟩) | (go_at_call 14; refine (he _).mono ?_; rintro e we ⟨rfl, hbe⟩))
              all_goals go_ret2
              all_goals exact ⟨by rw [HF.out]; rfl, hb0.trans (hbe.mono hb0.size)⟩
            · have he := fun W => encode_any a W
              have hane : (a == 0) = false := beq_eq_false_iff_ne.2 ha
              have HF : Hid (entRes (refNum 10 7 2 r) = .tuple #[.string ⟨(Lib.encodeRune a).toArray⟩, .int .i64 ((p : Int) + 1)]) := Lib.hid (by rw [HS.out, if_neg (fun h => h.elim (fun e => by omega) (fun e => e h59)), if_neg ha]; rfl)
              clear HS h0 hpk hp hkm h59 ha
              go_wp2_with (first | (go_at_call 29; refine (hdg _).mono ?_; rintro e wd ⟨rfl, rfl⟩) | (go_at_call 14; refine (he _).mono ?_; rintro e we ⟨rfl, hbe⟩))
              all_goals go_ret2
              all_goals exact ⟨by rw [HF.out]; rfl, hb0.trans (hbe.mono hb0.size)⟩
          · have hb59 : (((s[p]'hlen).toNat : Int) != 59) = true := bne_iff_ne.2 (by rw [HG.out]; intro e; exact h59 (UInt8.toNat_inj.1 (by have : (59 : UInt8).toNat = 59 := rfl; omega)))
            have HF : Hid (entRes (refNum 10 7 2 r) = .tuple #[.string (⟨#[]⟩ : ByteArray), .int .i64 0]) := Lib.hid (by rw [HS.out, if_pos (.inr h59)]; rfl)
            clear HS h0 hpk hp hkm h59
            go_wp2_with (go_at_call 29; refine (hdg _).mono ?_; rintro e wd ⟨rfl, rfl⟩)
            all_goals go_ret2
            all_goals exact ⟨by rw [HF.out]; rfl, hb0⟩
      · -- the text is through
        have hpe : p = s.size := by omega
        have hks0 : k = r.length := by omega
        have hds : digs 10 7 r = r.take k := digs_take 10 7 r k hkm HD.out hkr (.inr (.inl hks0))
        have hlenk : (r.take k).length = k := by rw [List.length_take]; omega
        have HF : Hid (entRes (refNum 10 7 2 r) = .tuple #[.string (⟨#[]⟩ : ByteArray), .int .i64 0]) := Lib.hid (by
          unfold refNum
          rw [hds, hlenk, if_pos (.inr (by rw [List.head?_drop, List.getElem?_eq_none (by omega)]; simp))]
          rfl)
        have hpi : ¬ (p : Int) < s.size := by omega
        have hpk0 : k = 0 ∨ 0 < k := by omega
        have hb2 : ((p : Int) == (s.size : Int)) = true := beq_iff_eq.2 (by omega)
        clear hds hlenk HA HD hkr hrl hrk hks0 hpe
        rcases hpk0 with h0 | h0
        · have hb1 : ((p : Int) == 2) = true := beq_iff_eq.2 (by omega)
          clear h0 hpk hp hkm
          go_wp2
          all_goals go_ret2
          all_goals exact ⟨by rw [HF.out]; rfl, hb0⟩
        · have hb1 : ((p : Int) == 2) = false := beq_eq_false_iff_ne.2 (by omega)
          clear h0 hpk hp hkm
          go_wp2
          all_goals go_ret2
          all_goals exact ⟨by rw [HF.out]; rfl, hb0⟩

set_option maxHeartbeats 16000000 in
set_option maxRecDepth 100000 in
theorem refAt16 (s : ByteArray) (w : World) (hs : s.size ≤ 1000000) (h2 : 3 ≤ s.size) (hN : ∀ W, Calls Tryd.prog 27 #[.string s] W fun e w' => e = .returned (.tuple #[.string (⟨#[]⟩ : ByteArray), .int .i64 0]) ∧ Below W.heap.size W w')
    (hBg : ∀ W, Calls Tryd.prog 28 #[.string s, .string (⟨#[38, 35]⟩ : ByteArray)] W fun e w' => e = .returned (.bool true) ∧ w' = W)
    (hx : ∃ h : 2 < s.size, ((((s[2]'h).toNat : Nat) : Int) == 120) = true ∨ (((((s[2]'h).toNat : Nat) : Int) == 120) = false ∧ ((((s[2]'h).toNat : Nat) : Int) == 88) = true)) :
    Calls Tryd.prog 10 #[.string s] w fun e w' => e = .returned (entRes (refNum 16 6 3 (s.data.toList.drop 3))) ∧ Below w.heap.size w w' := by
  obtain ⟨r, hr⟩ : ∃ r, r = s.data.toList.drop 3 := ⟨_, rfl⟩
  have hrl : r.length + 3 = s.size := by rw [hr, List.length_drop, ← Lib.size_eq]; omega
  have hrk : ∀ k (h : 3 + k < s.size), r[k]? = some (s[3 + k]'h) := fun k h => by
    rw [hr, List.getElem?_drop]; exact at_list s _ h
  rw [← hr]
  have HR := Lib.hid hr
  clear hr
  obtain ⟨h3, hx⟩ := hx
  have h3i : (2 : Int) < s.size := by omega
  rcases hx with hx1 | ⟨hx1, hx2⟩
  all_goals
    go_enter Tryd.func10, Tryd.ntmps10
    go_wp2_with (first | (go_at_call 27; refine (hN _).mono ?_; rintro e wb ⟨rfl, hb0⟩) | (go_at_call 28; refine (hBg _).mono ?_; rintro e wc ⟨rfl, rfl⟩))
    go_loop [8, 9] (fun vat v => ∃ (k : Nat) (a : Int), vat = .int .i64 ((3 + k : Nat) : Int) ∧ v = .int .i64 a ∧ k ≤ 6 ∧ 3 + k ≤ s.size ∧ Hid (a = ((Spec.numV 16 (r.take k) : Nat) : Int)) ∧ Hid (∀ c ∈ r.take k, isDig 16 c = true)) (fun vat _ => s.size - (intOf vat).toNat)
    case atStart => exact ⟨0, 0, rfl, rfl, by omega, by omega, Lib.hid rfl, Lib.hid (fun c hc => by simp at hc)⟩
    case round =>
      obtain ⟨k, a, rfl, rfl, hkm, hks, HA, HD⟩ := hrel
      have hlt := numV_lt 16 (r.take k) (fun c hc => by
        have h1 := (isDig_iff 16 c).1 (HD.out c hc)
        have h2 := digZ_val c h1.1
        omega)
      have hpp : (16 : Nat) ^ (r.take k).length ≤ 16 ^ 6 := Nat.pow_le_pow_right (by decide) (by simp; omega)
      have hpn : (16 : Nat) ^ 6 ≤ 16777216 := by decide
      have a0 : 0 ≤ a := by rw [HA.out]; omega
      have a1 : a ≤ 16777216 := by rw [HA.out]; omega
      clear hlt hpp hpn hN hBg
      obtain ⟨p, hp⟩ : ∃ p, p = 3 + k := ⟨_, rfl⟩
      have HP := Lib.hid hp
      rw [← hp] at hks ⊢
      have hpk : p = 3 + k := hp
      have hkr : k ≤ r.length := by omega
      by_cases hlen : p < s.size
      · have heq : ∀ (q : Nat) (hq : q < s.size), q = p → s[q]'hq = s[p]'hlen := fun q hq e => by subst e; rfl
        obtain ⟨c, hat, hc⟩ : ∃ c, r[k]? = some c ∧ c = s[p]'hlen := ⟨s[p]'hlen, (hrk k (by omega)).trans (congrArg some (heq _ _ hp.symm)), rfl⟩
        have hg : ((s[p]'hlen).toNat : Int) = (c.toNat : Int) := by rw [hc]
        have HC := Lib.hid hc
        have HG := Lib.hid hg
        clear hc hg hrk heq
        have hdg : ∀ W, Calls Tryd.prog 29 #[.int .u8 ((s[p]'hlen).toNat : Int)] W fun e w' => e = .returned (.int .i64 (digZ c)) ∧ w' = W := fun W => by rw [HG.out]; exact digit_any c W
        have hge := digZ_ge c
        have hpi : (p : Int) < s.size := by omega
        by_cases hk7 : k < 6
        · have hki : (p : Int) - 3 < 6 := by omega
          by_cases hd : 0 ≤ digZ c ∧ digZ c < 16
          · -- a digit more
            have hv := digZ_val c hd.1
            have hts : r.take (k + 1) = r.take k ++ [c] := by
              have hkl : k < r.length := by omega
              rw [List.getElem?_eq_getElem hkl] at hat
              rw [List.take_succ_eq_append_getElem hkl, Option.some.inj hat]
            have HN2 : Hid (a * 16 + digZ c = ((Spec.numV 16 (r.take (k + 1)) : Nat) : Int)) := Lib.hid (by rw [hts, numV_snoc, HA.out, hv.1]; push_cast; rfl)
            have HD2 : Hid (∀ x ∈ r.take (k + 1), isDig 16 x = true) := Lib.hid (fun x hx => by
              rw [hts] at hx
              rcases List.mem_append.1 hx with h | h
              · exact HD.out x h
              · simp at h; subst h; exact (isDig_iff 16 x).2 hd)
            obtain ⟨z, hz⟩ : ∃ z, z = digZ c := ⟨_, rfl⟩
            rw [← hz] at hdg hd HN2 hge
            obtain ⟨d0, d1⟩ := hd
            clear hz hts hv hat HA HD hge hp hpk hkr hrl
            go_wp2_with (go_at_call 29; refine (hdg _).mono ?_; rintro e wd ⟨rfl, rfl⟩)
            go_round
            case rel => exact ⟨k + 1, a * 16 + z, by rw [HP.out]; go_num, rfl, by omega, by have := HP.out; omega, HN2, HD2⟩
            case measure => simp [intOf]; omega
          · -- no digit: the number ends here
            have hds : digs 16 6 r = r.take k := digs_take 16 6 r k hkm HD.out hkr (.inr (.inr ⟨c, hat, by rw [Bool.eq_false_iff]; exact fun h => hd ((isDig_iff 16 c).1 h)⟩))
            have hlenk : (r.take k).length = k := by rw [List.length_take]; omega
            have hhead : (r.drop k).head? = some c := by rw [List.head?_drop]; exact hat
            have hspec : refNum 16 6 3 r = if k = 0 ∨ c ≠ 59 then ([], 0) else (Lib.encodeRune ((if a = 0 then 65533 else a) : Int), p + 1) := by
              unfold refNum
              rw [hds, hlenk, hhead, hp]
              have e1 : r.take k = [] ↔ k = 0 := by rw [← List.length_eq_zero_iff, hlenk]
              have e2 : (Spec.numV 16 (r.take k) = 0) ↔ a = 0 := by rw [HA.out]; omega
              by_cases hz : k = 0 ∨ c ≠ 59
              · rw [if_pos hz, if_pos (hz.imp e1.2 (fun h e => h (Option.some.inj e)))]
              · rw [if_neg hz, if_neg (fun h => hz (h.imp e1.1 (fun h2 e3 => h2 (by rw [e3]))))]
                by_cases ha : a = 0
                · rw [if_pos ha, if_pos (e2.2 ha)]; rfl
                · rw [if_neg ha, if_neg (fun h => ha (e2.1 h)), HA.out]
            have HS := Lib.hid hspec
            have hdd : digZ c = -1 ∨ 16 ≤ digZ c := by omega
            have HNE : Hid (16 ≤ digZ c → c ≠ 59) := Lib.hid (fun h e => by rw [e] at h; exact absurd h (by decide))
            obtain ⟨z, hz⟩ : ∃ z, z = digZ c := ⟨_, rfl⟩
            rw [← hz] at hdg hdd hge HNE
            clear hz hds hlenk hhead hspec hat hd HA HD hkr hrl
            have hpk0 : k = 0 ∨ 0 < k := by omega
            rcases hdd with hdd | hdd
            · subst hdd
              rcases hpk0 with h0 | h0
              · have hpp : p = 3 := by omega
                subst hpp
                have HF : Hid (entRes (refNum 16 6 3 r) = .tuple #[.string (⟨#[]⟩ : ByteArray), .int .i64 0]) := Lib.hid (by rw [HS.out, if_pos (.inl h0)]; rfl)
                clear HS h0 hpk hp hkm
                go_wp2_with (go_at_call 29; refine (hdg _).mono ?_; rintro e wd ⟨rfl, rfl⟩)
                all_goals go_ret2
                all_goals exact ⟨by rw [HF.out]; rfl, hb0⟩
              · have hne : ((p : Int) == 3) = false := beq_eq_false_iff_ne.2 (by omega)
                have hne2 : ((p : Int) == (s.size : Int)) = false := beq_eq_false_iff_ne.2 (by omega)
                by_cases h59 : c = 59
                · have hb59 : (((s[p]'hlen).toNat : Int) != 59) = false := bne_eq_false_iff_eq.2 (by rw [HG.out, h59]; rfl)
                  by_cases ha : a = 0
                  · have he := fun W => encode_any 65533 W
                    have HF : Hid (entRes (refNum 16 6 3 r) = .tuple #[.string ⟨(Lib.encodeRune 65533).toArray⟩, .int .i64 ((p : Int) + 1)]) := Lib.hid (by rw [HS.out, if_neg (fun h => h.elim (fun e => by omega) (fun e => e h59)), if_pos ha]; rfl)
                    clear HS h0 hpk hp hkm h59
                    subst ha
                    go_wp2_with (first | (go_at_call 29; refine (hdg _).mono ?_; rintro e wd ⟨rfl, rfl⟩) | (go_at_call 14; refine (he _).mono ?_; rintro e we ⟨rfl, hbe⟩))
                    all_goals go_ret2
                    all_goals exact ⟨by rw [HF.out]; rfl, hb0.trans (hbe.mono hb0.size)⟩
                  · have he := fun W => encode_any a W
                    have hane : (a == 0) = false := beq_eq_false_iff_ne.2 ha
                    have HF : Hid (entRes (refNum 16 6 3 r) = .tuple #[.string ⟨(Lib.encodeRune a).toArray⟩, .int .i64 ((p : Int) + 1)]) := Lib.hid (by rw [HS.out, if_neg (fun h => h.elim (fun e => by omega) (fun e => e h59)), if_neg ha]; rfl)
                    clear HS h0 hpk hp hkm h59 ha
                    go_wp2_with (first | (go_at_call 29; refine (hdg _).mono ?_; rintro e wd ⟨rfl, rfl⟩) | (go_at_call 14; refine (he _).mono ?_; rintro e we ⟨rfl, hbe⟩))
                    all_goals go_ret2
                    all_goals exact ⟨by rw [HF.out]; rfl, hb0.trans (hbe.mono hb0.size)⟩
                · have hb59 : (((s[p]'hlen).toNat : Int) != 59) = true := bne_iff_ne.2 (by rw [HG.out]; intro e; exact h59 (UInt8.toNat_inj.1 (by have : (59 : UInt8).toNat = 59 := rfl; omega)))
                  have HF : Hid (entRes (refNum 16 6 3 r) = .tuple #[.string (⟨#[]⟩ : ByteArray), .int .i64 0]) := Lib.hid (by rw [HS.out, if_pos (.inr h59)]; rfl)
                  clear HS h0 hpk hp hkm h59
                  go_wp2_with (go_at_call 29; refine (hdg _).mono ?_; rintro e wd ⟨rfl, rfl⟩)
                  all_goals go_ret2
                  all_goals exact ⟨by rw [HF.out]; rfl, hb0⟩
            · have h59 : c ≠ 59 := HNE.out hdd
              rcases hpk0 with h0 | h0
              · have hpp : p = 3 := by omega
                subst hpp
                have HF : Hid (entRes (refNum 16 6 3 r) = .tuple #[.string (⟨#[]⟩ : ByteArray), .int .i64 0]) := Lib.hid (by rw [HS.out, if_pos (.inl h0)]; rfl)
                clear HS h0 hpk hp hkm
                go_wp2_with (go_at_call 29; refine (hdg _).mono ?_; rintro e wd ⟨rfl, rfl⟩)
                all_goals go_ret2
                all_goals exact ⟨by rw [HF.out]; rfl, hb0⟩
              · have hne : ((p : Int) == 3) = false := beq_eq_false_iff_ne.2 (by omega)
                have hne2 : ((p : Int) == (s.size : Int)) = false := beq_eq_false_iff_ne.2 (by omega)
                have hb59 : (((s[p]'hlen).toNat : Int) != 59) = true := bne_iff_ne.2 (by rw [HG.out]; intro e; exact h59 (UInt8.toNat_inj.1 (by have : (59 : UInt8).toNat = 59 := rfl; omega)))
                have HF : Hid (entRes (refNum 16 6 3 r) = .tuple #[.string (⟨#[]⟩ : ByteArray), .int .i64 0]) := Lib.hid (by rw [HS.out, if_pos (.inr h59)]; rfl)
                clear HS h0 hpk hp hkm h59
                go_wp2_with (go_at_call 29; refine (hdg _).mono ?_; rintro e wd ⟨rfl, rfl⟩)
                all_goals go_ret2
                all_goals exact ⟨by rw [HF.out]; rfl, hb0⟩
        · -- as many as may be
          have hkm' : k = 6 := by omega
          have hds : digs 16 6 r = r.take k := digs_take 16 6 r k hkm HD.out hkr (.inl hkm')
          have hlenk : (r.take k).length = k := by rw [List.length_take]; omega
          have hhead : (r.drop k).head? = some c := by rw [List.head?_drop]; exact hat
          have hspec : refNum 16 6 3 r = if k = 0 ∨ c ≠ 59 then ([], 0) else (Lib.encodeRune ((if a = 0 then 65533 else a) : Int), p + 1) := by
            unfold refNum
            rw [hds, hlenk, hhead, hp]
            have e1 : r.take k = [] ↔ k = 0 := by rw [← List.length_eq_zero_iff, hlenk]
            have e2 : (Spec.numV 16 (r.take k) = 0) ↔ a = 0 := by rw [HA.out]; omega
            by_cases hz : k = 0 ∨ c ≠ 59
            · rw [if_pos hz, if_pos (hz.imp e1.2 (fun h e => h (Option.some.inj e)))]
            · rw [if_neg hz, if_neg (fun h => hz (h.imp e1.1 (fun h2 e3 => h2 (by rw [e3]))))]
              by_cases ha : a = 0
              · rw [if_pos ha, if_pos (e2.2 ha)]; rfl
              · rw [if_neg ha, if_neg (fun h => ha (e2.1 h)), HA.out]
          have HS := Lib.hid hspec
          have h0 : 0 < k := by omega
          have hki : ¬ (p : Int) - 3 < 6 := by omega
          clear hds hlenk hhead hspec hat HA HD hkr hrl hge hk7 hkm'
          have hne : ((p : Int) == 3) = false := beq_eq_false_iff_ne.2 (by omega)
          have hne2 : ((p : Int) == (s.size : Int)) = false := beq_eq_false_iff_ne.2 (by omega)
          by_cases h59 : c = 59
          · have hb59 : (((s[p]'hlen).toNat : Int) != 59) = false := bne_eq_false_iff_eq.2 (by rw [HG.out, h59]; rfl)
            by_cases ha : a = 0
            · have he := fun W => encode_any 65533 W
              have HF : Hid (entRes (refNum 16 6 3 r) = .tuple #[.string ⟨(Lib.encodeRune 65533).toArray⟩, .int .i64 ((p : Int) + 1)]) := Lib.hid (by rw [HS.out, if_neg (fun h => h.elim (fun e => by omega) (fun e => e h59)), if_pos ha]; rfl)
              clear HS h0 hpk hp hkm h59
              subst ha
              go_wp2_with (first | (go_at_call 29; refine (hdg _).mono ?_; rintro e wd ⟨rfl, rfl⟩) | (go_at_call 14; refine (he _).mono ?_; rintro e we ⟨rfl, hbe⟩))
              all_goals go_ret2
              all_goals exact ⟨by rw [HF.out]; rfl, hb0.trans (hbe.mono hb0.size)⟩
            · have he := fun W => encode_any a W
              have hane : (a == 0) = false := beq_eq_false_iff_ne.2 ha
              have HF : Hid (entRes (refNum 16 6 3 r) = .tuple #[.string ⟨(Lib.encodeRune a).toArray⟩, .int .i64 ((p : Int) + 1)]) := Lib.hid (by rw [HS.out, if_neg (fun h => h.elim (fun e => by omega) (fun e => e h59)), if_neg ha]; rfl)
              clear HS h0 hpk hp hkm h59 ha
              go_wp2_with (first | (go_at_call 29; refine (hdg _).mono ?_; rintro e wd ⟨rfl, rfl⟩) | (go_at_call 14; refine (he _).mono ?_; rintro e we ⟨rfl, hbe⟩))
              all_goals go_ret2
              all_goals exact ⟨by rw [HF.out]; rfl, hb0.trans (hbe.mono hb0.size)⟩
          · have hb59 : (((s[p]'hlen).toNat : Int) != 59) = true := bne_iff_ne.2 (by rw [HG.out]; intro e; exact h59 (UInt8.toNat_inj.1 (by have : (59 : UInt8).toNat = 59 := rfl; omega)))
            have HF : Hid (entRes (refNum 16 6 3 r) = .tuple #[.string (⟨#[]⟩ : ByteArray), .int .i64 0]) := Lib.hid (by rw [HS.out, if_pos (.inr h59)]; rfl)
            clear HS h0 hpk hp hkm h59
            go_wp2_with (go_at_call 29; refine (hdg _).mono ?_; rintro e wd ⟨rfl, rfl⟩)
            all_goals go_ret2
            all_goals exact ⟨by rw [HF.out]; rfl, hb0⟩
      · -- the text is through
        have hpe : p = s.size := by omega
        have hks0 : k = r.length := by omega
        have hds : digs 16 6 r = r.take k := digs_take 16 6 r k hkm HD.out hkr (.inr (.inl hks0))
        have hlenk : (r.take k).length = k := by rw [List.length_take]; omega
        have HF : Hid (entRes (refNum 16 6 3 r) = .tuple #[.string (⟨#[]⟩ : ByteArray), .int .i64 0]) := Lib.hid (by
          unfold refNum
          rw [hds, hlenk, if_pos (.inr (by rw [List.head?_drop, List.getElem?_eq_none (by omega)]; simp))]
          rfl)
        have hpi : ¬ (p : Int) < s.size := by omega
        have hpk0 : k = 0 ∨ 0 < k := by omega
        have hb2 : ((p : Int) == (s.size : Int)) = true := beq_iff_eq.2 (by omega)
        clear hds hlenk HA HD hkr hrl hrk hks0 hpe
        rcases hpk0 with h0 | h0
        · have hb1 : ((p : Int) == 3) = true := beq_iff_eq.2 (by omega)
          clear h0 hpk hp hkm
          go_wp2
          all_goals go_ret2
          all_goals exact ⟨by rw [HF.out]; rfl, hb0⟩
        · have hb1 : ((p : Int) == 3) = false := beq_eq_false_iff_ne.2 (by omega)
          clear h0 hpk hp hkm
          go_wp2
          all_goals go_ret2
          all_goals exact ⟨by rw [HF.out]; rfl, hb0⟩

end Go.Proofs.YtipbmagondoooaaDoor
