/-
  ent.At: what a text begins with that is spelt, at every text.
-/
import Derived.Test.YtipbmagondoooaaGreatDoorNumber
import Derived.Laws.Runes
namespace Go.Proofs.YtipbmagondoooaaGreatDoor
open Go.RowKit

theorem bytes_eq {s : ByteArray} {l : List UInt8} (h : s.data.toList = l) : s = ⟨l.toArray⟩ := by
  apply ByteArray.ext
  apply Array.toList_inj.1
  rw [h]
theorem beq_list (s : ByteArray) (l : List UInt8) (h : s.data.toList ≠ l) : (s.toList == l) = false := by
  rw [ByteArray.toList_eq]
  exact beq_eq_false_iff_ne.2 h
theorem encode_eq (r : Int) : Utf8.encode r = ⟨(Lib.encodeRune r).toArray⟩ := by
  unfold Utf8.encode Lib.encodeRune
  by_cases h : r < 0 ∨ (55296 ≤ r ∧ r ≤ 57343) ∨ 1114111 < r
  · rw [Lib.encodeRuneZ_bad h]
    have hv : Utf8.valid r = false := by
      unfold Utf8.valid
      rw [Bool.eq_false_iff]
      simp only [ne_eq, Bool.or_eq_true, Bool.and_eq_true, decide_eq_true_eq]
      omega
    rw [hv]
    simp only [Bool.false_eq_true, if_false, Utf8.runeError]
    decide
  · have hv : Utf8.valid r = true := by
      unfold Utf8.valid
      simp only [Bool.or_eq_true, Bool.and_eq_true, decide_eq_true_eq]
      omega
    rw [hv]
    simp only [if_true]
    obtain ⟨n, rfl⟩ : ∃ n : Nat, r = n := ⟨r.toNat, by omega⟩
    rw [Int.toNat_natCast]
    have hb : ∀ (z : Int) (m : Nat), z = m → z.toNat.toUInt8 = UInt8.ofNat m := fun z m e => by subst e; rfl
    by_cases h1 : n < 128
    · rw [if_pos h1, Lib.encodeRuneZ_one (by omega) (by omega)]
      simp only [List.map_cons, List.map_nil, hb n n rfl]
    · rw [if_neg h1]
      by_cases h2 : n < 2048
      · rw [if_pos h2, Lib.encodeRuneZ_two (by omega) (by omega)]
        simp only [List.map_cons, List.map_nil]
        rw [hb _ (192 + n / 64) (by omega), hb _ (128 + n % 64) (by omega)]
      · rw [if_neg h2]
        by_cases h3 : n < 65536
        · rw [if_pos h3, Lib.encodeRuneZ_three (by omega)]
          simp only [List.map_cons, List.map_nil]
          rw [hb _ (224 + n / 4096) (by omega), hb _ (128 + n / 64 % 64) (by omega), hb _ (128 + n % 64) (by omega)]
        · rw [if_neg h3, Lib.encodeRuneZ_four (by omega) (by omega)]
          simp only [List.map_cons, List.map_nil]
          rw [hb _ (240 + n / 262144) (by omega), hb _ (128 + n / 4096 % 64) (by omega), hb _ (128 + n / 64 % 64) (by omega), hb _ (128 + n % 64) (by omega)]

set_option maxHeartbeats 4000000 in
set_option maxRecDepth 100000 in
theorem named_any (s : ByteArray) (w : World) :
    Calls Tryz.prog 35 #[.string s] w fun e w' => e = .returned (.string ⟨(Spec.named s.data.toList).toArray⟩) ∧ w' = w := by
  by_cases h1 : s.data.toList = [97, 109, 112]
  · obtain rfl := bytes_eq h1
    clear h1
    go_enter Tryz.func35, Tryz.ntmps35
    go_wp2
    go_ret
    exact ⟨rfl, rfl⟩
  have e1 := beq_list s _ h1
  by_cases h2 : s.data.toList = [108, 116]
  · obtain rfl := bytes_eq h2
    clear h1 e1 h2
    go_enter Tryz.func35, Tryz.ntmps35
    go_wp2
    go_ret
    exact ⟨rfl, rfl⟩
  have e2 := beq_list s _ h2
  by_cases h3 : s.data.toList = [103, 116]
  · obtain rfl := bytes_eq h3
    clear h1 e1 h2 e2 h3
    go_enter Tryz.func35, Tryz.ntmps35
    go_wp2
    go_ret
    exact ⟨rfl, rfl⟩
  have e3 := beq_list s _ h3
  by_cases h4 : s.data.toList = [113, 117, 111, 116]
  · obtain rfl := bytes_eq h4
    clear h1 e1 h2 e2 h3 e3 h4
    go_enter Tryz.func35, Tryz.ntmps35
    go_wp2
    go_ret
    exact ⟨rfl, rfl⟩
  have e4 := beq_list s _ h4
  by_cases h5 : s.data.toList = [97, 112, 111, 115]
  · obtain rfl := bytes_eq h5
    clear h1 e1 h2 e2 h3 e3 h4 e4 h5
    go_enter Tryz.func35, Tryz.ntmps35
    go_wp2
    go_ret
    exact ⟨rfl, rfl⟩
  have e5 := beq_list s _ h5
  by_cases h6 : s.data.toList = [110, 98, 115, 112]
  · obtain rfl := bytes_eq h6
    clear h1 e1 h2 e2 h3 e3 h4 e4 h5 e5 h6
    go_enter Tryz.func35, Tryz.ntmps35
    go_wp2
    go_ret
    exact ⟨rfl, rfl⟩
  have e6 := beq_list s _ h6
  by_cases h7 : s.data.toList = [99, 111, 112, 121]
  · obtain rfl := bytes_eq h7
    clear h1 e1 h2 e2 h3 e3 h4 e4 h5 e5 h6 e6 h7
    go_enter Tryz.func35, Tryz.ntmps35
    go_wp2
    go_ret
    exact ⟨rfl, rfl⟩
  have e7 := beq_list s _ h7
  by_cases h8 : s.data.toList = [104, 101, 108, 108, 105, 112]
  · obtain rfl := bytes_eq h8
    clear h1 e1 h2 e2 h3 e3 h4 e4 h5 e5 h6 e6 h7 e7 h8
    go_enter Tryz.func35, Tryz.ntmps35
    go_wp2
    go_ret
    exact ⟨rfl, rfl⟩
  have e8 := beq_list s _ h8
  by_cases h9 : s.data.toList = [109, 100, 97, 115, 104]
  · obtain rfl := bytes_eq h9
    clear h1 e1 h2 e2 h3 e3 h4 e4 h5 e5 h6 e6 h7 e7 h8 e8 h9
    go_enter Tryz.func35, Tryz.ntmps35
    go_wp2
    go_ret
    exact ⟨rfl, rfl⟩
  have e9 := beq_list s _ h9
  have hn : Spec.named s.data.toList = [] := by
    unfold Spec.named
    rw [if_neg h1, if_neg h2, if_neg h3, if_neg h4, if_neg h5, if_neg h6, if_neg h7, if_neg h8, if_neg h9]
  rw [hn]
  clear hn h1 h2 h3 h4 h5 h6 h7 h8 h9
  go_enter Tryz.func35, Tryz.ntmps35
  go_wp2
  go_ret
  exact ⟨rfl, rfl⟩

def entRes (p : Spec.B × Nat) : Value := .tuple #[.string ⟨p.1.toArray⟩, .int .i64 (p.2 : Int)]
theorem idx_cons (c : UInt8) (t : List UInt8) (h : c ≠ 59) : Lib.indexByte (c :: t) 59 = if Lib.indexByte t 59 = -1 then -1 else Lib.indexByte t 59 + 1 := by
  rw [Lib.indexByte, beq_eq_false_iff_ne.2 h]
  by_cases e : Lib.indexByte t 59 = -1
  · rw [if_neg (by simp), if_pos (beq_iff_eq.2 e), if_pos e]
  · rw [if_neg (by simp), if_neg (fun h => e (beq_iff_eq.1 h)), if_neg e]
theorem idx_lt (t : List UInt8) : Lib.indexByte t 59 < t.length := by
  induction t with
  | nil => decide
  | cons a t ih =>
    rw [Lib.indexByte]
    simp only [List.length_cons]
    split
    · omega
    · split
      · omega
      · omega
theorem ent_no (c : UInt8) (t : List UInt8) (h : c ≠ 38 ∨ Lib.indexByte (c :: t) 59 < 0) : Spec.ent (c :: t) = ([], 0) := by
  unfold Spec.ent
  simp only
  rw [if_neg]
  rintro ⟨rfl, h2⟩
  rcases h with h | h
  · exact h rfl
  · rw [idx_cons _ _ (by decide)] at h
    split at h
    · omega
    · omega
theorem ent_yes (t : List UInt8) (h : 0 ≤ Lib.indexByte t 59) : Spec.ent (38 :: t) =
    match Spec.inner (t.take (Lib.indexByte t 59).toNat) with
    | some r => (r, (Lib.indexByte t 59).toNat + 2)
    | none => ([], 0) := by
  unfold Spec.ent
  simp only
  rw [if_pos ⟨trivial, h⟩]
  rfl

set_option maxHeartbeats 4000000 in
set_option maxRecDepth 100000 in
theorem at_no (s : ByteArray) (w : World) (hs : s.size ≤ 1000000) (h : s.data.toList = [] ∨ ∃ c t, s.data.toList = c :: t ∧ (c ≠ 38 ∨ Lib.indexByte (c :: t) 59 < 0)) :
    Calls Tryz.prog 19 #[.string s] w fun e w' => e = .returned (entRes ([], 0)) ∧ Below w.heap.size w w' := by
  have hI := Tryz.strings_IndexByte s 59 w
  obtain ⟨i, hi⟩ : ∃ i, i = Lib.indexByte s.data.toList (59 : Int).toNat.toUInt8 := ⟨_, rfl⟩
  rw [← hi] at hI
  have hge := Lib.indexByte_ge s.data.toList (59 : Int).toNat.toUInt8
  rw [← hi] at hge
  by_cases hneg : i < 0
  · clear hi h
    go_enter Tryz.func19, Tryz.ntmps19
    go_wp2_with (go_at_call 23; refine hI.mono ?_; rintro e w1 ⟨rfl, rfl⟩)
    go_wp2
    go_ret2
    exact ⟨rfl, Below.refl _ _⟩
  · have h2 : ∃ h0 : 0 < s.size, (s[0]'h0).toNat ≠ 38 := by
      rcases h with h | ⟨c, t, h, hc⟩
      · rw [h] at hi; exact absurd (by rw [hi]; decide) hneg
      · have h0 : 0 < s.size := by rw [Lib.size_eq, h]; simp
        have hat := at_list s 0 h0
        rw [h] at hat
        simp only [List.getElem?_cons_zero, Option.some.injEq] at hat
        refine ⟨h0, fun e => ?_⟩
        rcases hc with hc | hc
        · exact hc (by rw [hat]; exact UInt8.toNat_inj.1 e)
        · rw [h] at hi; exact hneg (by rw [hi]; exact hc)
    obtain ⟨h0, h38⟩ := h2
    have hb : ((((s[0]'h0).toNat : Nat) : Int) != 38) = true := bne_iff_ne.2 (by omega)
    clear hi h h38
    go_enter Tryz.func19, Tryz.ntmps19
    go_wp2_with (go_at_call 23; refine hI.mono ?_; rintro e w1 ⟨rfl, rfl⟩)
    go_wp2
    go_ret2
    exact ⟨rfl, Below.refl _ _⟩

/-- What stands behind the number's digits is known: the call's last part. -/
theorem ref_nil : Spec.ref [] = none := rfl
theorem num_nil : Spec.number [] Spec.decs 10 7 = none := rfl
theorem num_x (c : UInt8) (t : List UInt8) (h : c = 120 ∨ c = 88) : Spec.number (c :: t) Spec.decs 10 7 = none := by
  unfold Spec.number
  rw [if_pos]
  refine .inr (.inr ?_)
  rw [List.all_cons]
  rcases h with rfl | rfl <;> simp [Spec.decs]

theorem num_cases (dg : ByteArray) (w : World) (hs : dg.size ≤ 1000000) (hT : Tabs w) (o : Option Nat) (ho : o = Spec.number dg.data.toList Spec.decs 10 7) :
    Calls Tryz.prog 37 #[.string dg, .string decB, .int .i64 10, .int .i64 7] w fun e w' => e = .returned (numRes o) ∧ Below w.heap.size w w' := by
  rw [ho]; exact number10_any dg w hs hT
theorem num_cases16 (dg : ByteArray) (w : World) (hs : dg.size ≤ 1000000) (hT : Tabs w) (o : Option Nat) (ho : o = Spec.number dg.data.toList Spec.hexs 16 6) :
    Calls Tryz.prog 37 #[.string dg, .string hexB, .int .i64 16, .int .i64 6] w fun e w' => e = .returned (numRes o) ∧ Below w.heap.size w w' := by
  rw [ho]; exact number16_any dg w hs hT

/-- ent.At behind a name that is none of the nine. -/
structure Unnamed (s nm : ByteArray) (k : Nat) (hb0 : 0 < s.size) : Prop where
  h38 : ((((s[0]'hb0).toNat : Nat) : Int) != 38) = false
  hI : ∀ w, Calls Tryz.prog 23 #[.string s, .int .u8 59] w fun e w' => e = .returned (.int .i64 ((k : Int) + 1)) ∧ w' = w
  hsl : ∀ W, (Instr.slice 9 (.string s) (some (.int .i64 1)) (some (.int .i64 ((k : Int) + 1))) none).run Tryz.prog W = .ok (.string nm) W
  hN : ∀ W, Calls Tryz.prog 35 #[.string nm] W fun e w' => e = .returned (.string (⟨#[]⟩ : ByteArray)) ∧ w' = W
  hk : (k : Int) + 1 ≤ (s.size : Int)

set_option maxHeartbeats 8000000 in
set_option maxRecDepth 100000 in
theorem at_nosign (s nm : ByteArray) (w : World) (k : Nat) (hs : s.size ≤ 1000000) (hb0 : 0 < s.size) (U : Unnamed s nm k hb0)
    (x : ByteArray) (hC : ∀ W, Calls Tryz.prog 36 #[.string nm, .string (⟨#[35]⟩ : ByteArray)] W fun e w' => e = .returned (.tuple #[.string x, .bool false]) ∧ w' = W) :
    Calls Tryz.prog 19 #[.string s] w fun e w' => e = .returned (entRes ([], 0)) ∧ Below w.heap.size w w' := by
  obtain ⟨h38, hI, hsl, hN, hkb⟩ := U
  go_enter Tryz.func19, Tryz.ntmps19
  go_wp2_with (first | (go_at_call 23; refine (hI _).mono ?_; rintro e w1 ⟨rfl, rfl⟩) | (go_at_call 35; refine (hN _).mono ?_; rintro e w1 ⟨rfl, rfl⟩) | (go_at_call 36; refine (hC _).mono ?_; rintro e w1 ⟨rfl, rfl⟩))
  go_ret2
  exact ⟨rfl, Below.refl _ _⟩

set_option maxHeartbeats 8000000 in
set_option maxRecDepth 100000 in
theorem at_empty (s nm : ByteArray) (w : World) (k : Nat) (hs : s.size ≤ 1000000) (hT : Tabs w) (hb0 : 0 < s.size) (U : Unnamed s nm k hb0)
    (hC : ∀ W, Calls Tryz.prog 36 #[.string nm, .string (⟨#[35]⟩ : ByteArray)] W fun e w' => e = .returned (.tuple #[.string (⟨#[]⟩ : ByteArray), .bool true]) ∧ w' = W) :
    Calls Tryz.prog 19 #[.string s] w fun e w' => e = .returned (entRes ([], 0)) ∧ Below w.heap.size w w' := by
  obtain ⟨h38, hI, hsl, hN, hkb⟩ := U
  have hM : ∀ W, Tabs W → Calls Tryz.prog 37 #[.string (⟨#[]⟩ : ByteArray), .string decB, .int .i64 10, .int .i64 7] W fun e w' => e = .returned (.tuple #[.int .i32 0, .bool false]) ∧ Below W.heap.size W w' := fun W hW => number10_any ⟨#[]⟩ W (by decide) hW
  go_enter Tryz.func19, Tryz.ntmps19
  go_wp2_with (first | (go_at_call 23; refine (hI _).mono ?_; rintro e w1 ⟨rfl, rfl⟩) | (go_at_call 35; refine (hN _).mono ?_; rintro e w1 ⟨rfl, rfl⟩) | (go_at_call 36; refine (hC _).mono ?_; rintro e w1 ⟨rfl, rfl⟩) | (go_at_call 37; refine (hM _ hT).mono ?_; rintro e w2 ⟨rfl, hb⟩))
  go_ret2
  exact ⟨rfl, hb⟩

set_option maxHeartbeats 8000000 in
set_option maxRecDepth 100000 in
/-- The number is decimal. -/
theorem at_dec (s nm dg : ByteArray) (w : World) (k : Nat) (hs : s.size ≤ 1000000) (hT : Tabs w) (hb0 : 0 < s.size) (U : Unnamed s nm k hb0) (hd : dg.size ≤ 1000000) (hd0 : 0 < dg.size)
    (n120 : ((((dg[0]'hd0).toNat : Nat) : Int) == 120) = false) (n88 : ((((dg[0]'hd0).toNat : Nat) : Int) == 88) = false)
    (hC : ∀ W, Calls Tryz.prog 36 #[.string nm, .string (⟨#[35]⟩ : ByteArray)] W fun e w' => e = .returned (.tuple #[.string dg, .bool true]) ∧ w' = W) :
    Calls Tryz.prog 19 #[.string s] w fun e w' => e = .returned (entRes (match Spec.number dg.data.toList Spec.decs 10 7 with | some r => (Lib.encodeRune r, k + 2) | none => ([], 0))) ∧ Below w.heap.size w w' := by
  obtain ⟨h38, hI, hsl, hN, hkb⟩ := U
  have hde : dg.toList.isEmpty = false := by
    rw [← decide_eq_emptyBytes]
    exact decide_eq_false (fun h => by rw [h] at hd0; exact absurd hd0 (by decide))
  cases ho : Spec.number dg.data.toList Spec.decs 10 7 with
  | none =>
    have hM : ∀ W, Tabs W → Calls Tryz.prog 37 #[.string dg, .string decB, .int .i64 10, .int .i64 7] W fun e w' => e = .returned (.tuple #[.int .i32 0, .bool false]) ∧ Below W.heap.size W w' := fun W hW => num_cases dg W hd hW none ho.symm
    clear ho
    go_enter Tryz.func19, Tryz.ntmps19
    go_wp2_with (first | (go_at_call 23; refine (hI _).mono ?_; rintro e w1 ⟨rfl, rfl⟩) | (go_at_call 35; refine (hN _).mono ?_; rintro e w1 ⟨rfl, rfl⟩) | (go_at_call 36; refine (hC _).mono ?_; rintro e w1 ⟨rfl, rfl⟩) | (go_at_call 37; refine (hM _ hT).mono ?_; rintro e w2 ⟨rfl, hb⟩))
    go_ret2
    exact ⟨rfl, hb⟩
  | some r =>
    have hM : ∀ W, Tabs W → Calls Tryz.prog 37 #[.string dg, .string decB, .int .i64 10, .int .i64 7] W fun e w' => e = .returned (.tuple #[.int .i32 (r : Int), .bool true]) ∧ Below W.heap.size W w' := fun W hW => num_cases dg W hd hW (some r) ho.symm
    clear ho
    have hres : entRes (Lib.encodeRune (r : Int), k + 2) = .tuple #[.string (Utf8.encode (r : Int)), .int .i64 ((k : Int) + 2)] := by
      unfold entRes
      rw [encode_eq]
      rfl
    simp only
    rw [hres]
    clear hres
    go_enter Tryz.func19, Tryz.ntmps19
    go_wp2_with (first | (go_at_call 23; refine (hI _).mono ?_; rintro e w1 ⟨rfl, rfl⟩) | (go_at_call 35; refine (hN _).mono ?_; rintro e w1 ⟨rfl, rfl⟩) | (go_at_call 36; refine (hC _).mono ?_; rintro e w1 ⟨rfl, rfl⟩) | (go_at_call 37; refine (hM _ hT).mono ?_; rintro e w2 ⟨rfl, hb⟩))
    go_ret2
    exact ⟨rfl, hb⟩

set_option maxHeartbeats 8000000 in
set_option maxRecDepth 100000 in
/-- The number is hexadecimal. -/
theorem at_hex (s nm dg d2 : ByteArray) (w : World) (k : Nat) (hs : s.size ≤ 1000000) (hT : Tabs w) (hb0 : 0 < s.size) (U : Unnamed s nm k hb0) (hd : dg.size ≤ 1000000) (hd2 : d2.size ≤ 1000000) (hd0 : 0 < dg.size)
    (hx : ((((dg[0]'hd0).toNat : Nat) : Int) == 120) = true ∨ (((((dg[0]'hd0).toNat : Nat) : Int) == 120) = false ∧ ((((dg[0]'hd0).toNat : Nat) : Int) == 88) = true))
    (hn : Spec.number dg.data.toList Spec.decs 10 7 = none) (hsl2 : ∀ W, (Instr.slice 9 (.string dg) (some (.int .i64 1)) none none).run Tryz.prog W = .ok (.string d2) W)
    (hC : ∀ W, Calls Tryz.prog 36 #[.string nm, .string (⟨#[35]⟩ : ByteArray)] W fun e w' => e = .returned (.tuple #[.string dg, .bool true]) ∧ w' = W) :
    Calls Tryz.prog 19 #[.string s] w fun e w' => e = .returned (entRes (match Spec.number d2.data.toList Spec.hexs 16 6 with | some r => (Lib.encodeRune r, k + 2) | none => ([], 0))) ∧ Below w.heap.size w w' := by
  obtain ⟨h38, hI, hsl, hN, hkb⟩ := U
  have hde : dg.toList.isEmpty = false := by
    rw [← decide_eq_emptyBytes]
    exact decide_eq_false (fun h => by rw [h] at hd0; exact absurd hd0 (by decide))
  have hM : ∀ W, Tabs W → Calls Tryz.prog 37 #[.string dg, .string (⟨#[48, 49, 50, 51, 52, 53, 54, 55, 56, 57]⟩ : ByteArray), .int .i64 10, .int .i64 7] W fun e w' => e = .returned (.tuple #[.int .i32 0, .bool false]) ∧ Below W.heap.size W w' := fun W hW => num_cases dg W hd hW none hn.symm
  clear hn
  cases ho : Spec.number d2.data.toList Spec.hexs 16 6 with
  | none =>
    have hH : ∀ W, Tabs W → Calls Tryz.prog 37 #[.string d2, .string (⟨#[48, 49, 50, 51, 52, 53, 54, 55, 56, 57, 97, 98, 99, 100, 101, 102, 65, 66, 67, 68, 69, 70]⟩ : ByteArray), .int .i64 16, .int .i64 6] W fun e w' => e = .returned (.tuple #[.int .i32 0, .bool false]) ∧ Below W.heap.size W w' := fun W hW => num_cases16 d2 W hd2 hW none ho.symm
    clear ho
    rcases hx with hx | ⟨hx, hx2⟩
    all_goals
      go_enter Tryz.func19, Tryz.ntmps19
      go_wp2_with (first | (go_at_call 23; refine (hI _).mono ?_; rintro e w1 ⟨rfl, rfl⟩) | (go_at_call 35; refine (hN _).mono ?_; rintro e w1 ⟨rfl, rfl⟩) | (go_at_call 36; refine (hC _).mono ?_; rintro e w1 ⟨rfl, rfl⟩) | (go_at_call 37; ((with_reducible refine (hM _ hT).mono ?_); rintro e w2 ⟨rfl, hb⟩)) | (go_at_call 37; ((with_reducible refine (hH _ (hT.below hb)).mono ?_); rintro e w3 ⟨rfl, hb3⟩)))
      go_ret2
      exact ⟨rfl, hb.trans (hb3.mono hb.size)⟩
  | some r =>
    have hH : ∀ W, Tabs W → Calls Tryz.prog 37 #[.string d2, .string (⟨#[48, 49, 50, 51, 52, 53, 54, 55, 56, 57, 97, 98, 99, 100, 101, 102, 65, 66, 67, 68, 69, 70]⟩ : ByteArray), .int .i64 16, .int .i64 6] W fun e w' => e = .returned (.tuple #[.int .i32 (r : Int), .bool true]) ∧ Below W.heap.size W w' := fun W hW => num_cases16 d2 W hd2 hW (some r) ho.symm
    clear ho
    have hres : entRes (Lib.encodeRune (r : Int), k + 2) = .tuple #[.string (Utf8.encode (r : Int)), .int .i64 ((k : Int) + 2)] := by
      unfold entRes
      rw [encode_eq]
      rfl
    simp only
    rw [hres]
    clear hres
    rcases hx with hx | ⟨hx, hx2⟩
    all_goals
      go_enter Tryz.func19, Tryz.ntmps19
      go_wp2_with (first | (go_at_call 23; refine (hI _).mono ?_; rintro e w1 ⟨rfl, rfl⟩) | (go_at_call 35; refine (hN _).mono ?_; rintro e w1 ⟨rfl, rfl⟩) | (go_at_call 36; refine (hC _).mono ?_; rintro e w1 ⟨rfl, rfl⟩) | (go_at_call 37; ((with_reducible refine (hM _ hT).mono ?_); rintro e w2 ⟨rfl, hb⟩)) | (go_at_call 37; ((with_reducible refine (hH _ (hT.below hb)).mono ?_); rintro e w3 ⟨rfl, hb3⟩)))
      go_ret2
      exact ⟨rfl, hb.trans (hb3.mono hb.size)⟩

set_option maxHeartbeats 8000000 in
set_option maxRecDepth 100000 in
theorem at_amp (s : ByteArray) (w : World) (hs : s.size ≤ 1000000) (hT : Tabs w) (t : List UInt8) (hL : s.data.toList = 38 :: t) (h0 : 0 ≤ Lib.indexByte t 59) :
    Calls Tryz.prog 19 #[.string s] w fun e w' => e = .returned (entRes (Spec.ent s.data.toList)) ∧ Below w.heap.size w w' := by
  obtain ⟨k, hk⟩ : ∃ k : Nat, k = (Lib.indexByte t 59).toNat := ⟨_, rfl⟩
  have hkI : Lib.indexByte t 59 = k := by omega
  have hlt := idx_lt t
  have hsz : s.size = t.length + 1 := by rw [Lib.size_eq, hL]; rfl
  rw [hL, ent_yes t h0, ← hk]
  have hI : Calls Tryz.prog 23 #[.string s, .int .u8 59] w fun e w' => e = .returned (.int .i64 ((k : Int) + 1)) ∧ w' = w := by
    have hI := Tryz.strings_IndexByte s 59 w
    rw [show ((59 : Int).toNat.toUInt8) = (59 : UInt8) from rfl, hL, idx_cons _ _ (by decide), if_neg (by omega), hkI] at hI
    exact hI
  have hb0 : 0 < s.size := by omega
  have h38 : ((((s[0]'hb0).toNat : Nat) : Int) != 38) = false := by
    have hat := at_list s 0 hb0
    rw [hL] at hat
    simp only [List.getElem?_cons_zero, Option.some.injEq] at hat
    rw [← hat]
    decide
  obtain ⟨nm, hnm⟩ : ∃ nm, nm = s.extract 1 (k + 1) := ⟨_, rfl⟩
  have hnl : nm.data.toList = t.take k := by rw [hnm, Lib.extract_data, hL]; simp
  have hns : nm.size ≤ 1000000 := by rw [Lib.size_eq, hnl, List.length_take]; omega
  have hkb : (k : Int) + 1 ≤ (s.size : Int) := by omega
  have hsl : ∀ W, (Instr.slice 9 (.string s) (some (.int .i64 1)) (some (.int .i64 ((k : Int) + 1))) none).run Tryz.prog W = .ok (.string nm) W := fun W => by
    rw [run_slice_string W _ s .i64 .i64 1 _ Tryz.underlying9 (by omega) (by omega) hkb, hnm]
    rfl
  rw [← hnl]
  have hN := fun W => named_any nm W
  by_cases hnn : Spec.named nm.data.toList = []
  · have hN' : ∀ W, Calls Tryz.prog 35 #[.string nm] W fun e w' => e = .returned (.string (⟨#[]⟩ : ByteArray)) ∧ w' = W := fun W => by
      have := hN W
      rw [hnn] at this
      exact this
    have hIW : ∀ W, Calls Tryz.prog 23 #[.string s, .int .u8 59] W fun e w' => e = .returned (.int .i64 ((k : Int) + 1)) ∧ w' = W := fun W => by
      have hI := Tryz.strings_IndexByte s 59 W
      rw [show ((59 : Int).toNat.toUInt8) = (59 : UInt8) from rfl, hL, idx_cons _ _ (by decide), if_neg (by omega), hkI] at hI
      exact hI
    have U : Unnamed s nm k hb0 := ⟨h38, hIW, hsl, hN', hkb⟩
    have hCP := fun W => Tryz.strings_CutPrefix nm ⟨#[35]⟩ W
    cases hm : nm.data.toList with
    | nil =>
      have hin : Spec.inner [] = none := rfl
      rw [hin]
      rw [hm] at hCP
      exact at_nosign s nm w k hs hb0 U ⟨#[]⟩ (fun W => hCP W)
    | cons a d =>
      rw [hm] at hCP hnn
      by_cases ha : a = 35
      · subst ha
        have hin : Spec.inner (35 :: d) = (Spec.ref d).map (fun (r : Nat) => Lib.encodeRune (r : Int)) := by unfold Spec.inner; rw [if_neg (by simp [hnn])]; rfl
        rw [hin]
        have hds : (⟨d.toArray⟩ : ByteArray).size ≤ 1000000 := by
          have := hns
          rw [Lib.size_eq, hm] at this
          rw [Lib.size_eq]
          simp only [List.length_cons] at this
          simp only
          omega
        cases d with
        | nil => exact at_empty s nm w k hs hT hb0 U (fun W => hCP W)
        | cons c d2 =>
          have hd0 : 0 < (⟨(c :: d2).toArray⟩ : ByteArray).size := by rw [Lib.size_eq]; simp
          have hget : ((⟨(c :: d2).toArray⟩ : ByteArray)[0]'hd0) = c := rfl
          have hC : ∀ W, Calls Tryz.prog 36 #[.string nm, .string (⟨#[35]⟩ : ByteArray)] W fun e w' => e = .returned (.tuple #[.string ⟨(c :: d2).toArray⟩, .bool true]) ∧ w' = W := fun W => hCP W
          have hsz2 : (⟨d2.toArray⟩ : ByteArray).size ≤ 1000000 := by
            rw [Lib.size_eq] at hds ⊢
            simp only [List.length_cons] at hds
            simp only
            omega
          by_cases hx : c = 120 ∨ c = 88
          · have hr : Spec.ref (c :: d2) = Spec.number d2 Spec.hexs 16 6 := by unfold Spec.ref; simp only; rw [if_pos hx]
            rw [hr]
            have hsl2 : ∀ W, (Instr.slice 9 (.string ⟨(c :: d2).toArray⟩) (some (.int .i64 1)) none none).run Tryz.prog W = .ok (.string ⟨d2.toArray⟩) W := fun W => by
              rw [run_slice_string_from_if W _ _ .i64 1 Tryz.underlying9, if_pos ⟨by omega, by omega⟩]
              rw [show ((1 : Int).toNat) = 1 from rfl, drop_text _ 1 (by omega)]
              rfl
            have h := at_hex s nm ⟨(c :: d2).toArray⟩ ⟨d2.toArray⟩ w k hs hT hb0 U hds hsz2 hd0 (by rcases hx with rfl | rfl <;> rw [hget] <;> decide) (num_x c d2 hx) hsl2 hC
            refine h.mono fun e w' ⟨he, hb⟩ => ⟨?_, hb⟩
            rw [he]
            cases Spec.number d2 Spec.hexs 16 6 <;> rfl
          · have hr : Spec.ref (c :: d2) = Spec.number (c :: d2) Spec.decs 10 7 := by unfold Spec.ref; simp only; rw [if_neg hx]
            rw [hr]
            have hne : c.toNat ≠ 120 ∧ c.toNat ≠ 88 := ⟨fun e => hx (.inl (UInt8.toNat_inj.1 e)), fun e => hx (.inr (UInt8.toNat_inj.1 e))⟩
            have h := at_dec s nm ⟨(c :: d2).toArray⟩ w k hs hT hb0 U hds hd0 (beq_eq_false_iff_ne.2 (by rw [hget]; omega)) (beq_eq_false_iff_ne.2 (by rw [hget]; omega)) hC
            refine h.mono fun e w' ⟨he, hb⟩ => ⟨?_, hb⟩
            rw [he]
            cases Spec.number (c :: d2) Spec.decs 10 7 <;> rfl
      · have hin : Spec.inner (a :: d) = none := by unfold Spec.inner; rw [if_neg (by simp [hnn])]; simp only; rw [if_neg ha]
        rw [hin]
        have hp : Lib.hasPrefix (a :: d) (⟨#[35]⟩ : ByteArray).data.toList = false := by
          unfold Lib.hasPrefix
          show ([35] : List UInt8).isPrefixOf (a :: d) = false
          simp only [List.isPrefixOf, Bool.and_true]
          exact beq_eq_false_iff_ne.2 (fun e => ha e.symm)
        rw [hp] at hCP
        exact at_nosign s nm w k hs hb0 U _ hCP
  · have hin : Spec.inner nm.data.toList = some (Spec.named nm.data.toList) := by unfold Spec.inner; rw [if_pos hnn]
    rw [hin]
    obtain ⟨u, hu⟩ : ∃ u : ByteArray, u = ⟨(Spec.named nm.data.toList).toArray⟩ := ⟨_, rfl⟩
    have hue : u.toList.isEmpty = false := by
      rw [emptyB, hu]
      cases h : Spec.named nm.data.toList with
      | nil => exact absurd h hnn
      | cons a l => rfl
    have hres : entRes (Spec.named nm.data.toList, k + 2) = .tuple #[.string u, .int .i64 ((k : Int) + 2)] := by
      unfold entRes
      rw [hu]
      rfl
    simp only
    rw [hres]
    rw [← hu] at hN
    clear hres hu hin hnn hkI h0 hk hL hnl hsz hlt
    clear hnm
    go_enter Tryz.func19, Tryz.ntmps19
    go_wp2_with (go_at_call 23; refine hI.mono ?_; rintro e w1 ⟨rfl, rfl⟩)
    go_wp2_with (go_at_call 35; refine (hN _).mono ?_; rintro e w1 ⟨rfl, rfl⟩)
    go_ret2
    exact ⟨rfl, Below.refl _ _⟩

/-- **ent.At, at every text.** -/
theorem at_any (s : ByteArray) (w : World) (hs : s.size ≤ 1000000) (hT : Tabs w) :
    Calls Tryz.prog 19 #[.string s] w fun e w' => e = .returned (entRes (Spec.ent s.data.toList)) ∧ Below w.heap.size w w' := by
  cases hL : s.data.toList with
  | nil => exact at_no s w hs (.inl hL)
  | cons c t =>
    by_cases h : c ≠ 38 ∨ Lib.indexByte (c :: t) 59 < 0
    · rw [ent_no c t h]
      exact at_no s w hs (.inr ⟨c, t, hL, h⟩)
    · have hc : c = 38 := Decidable.byContradiction fun e => h (.inl e)
      subst hc
      have h0 : 0 ≤ Lib.indexByte t 59 := by
        have h2 : ¬ Lib.indexByte (38 :: t) 59 < 0 := fun e => h (.inr e)
        rw [idx_cons _ _ (by decide)] at h2
        split at h2
        · omega
        · have := Lib.indexByte_ge t 59
          omega
      have := at_amp s w hs hT t hL h0
      rw [hL] at this
      exact this
end Go.Proofs.YtipbmagondoooaaGreatDoor
