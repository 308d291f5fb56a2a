/-
  ent's number: the rune that digits of base 10 or 16 spell, at every text.
-/
import Derived.Test.YtipbmagondoooaaGreatDoorNum
namespace Go.Proofs.YtipbmagondoooaaGreatDoor
open Go.RowKit

theorem dropWhile_nil {α : Type} (p : α → Bool) (l : List α) : l.dropWhile p = [] ↔ l.all p = true := by
  induction l with
  | nil => simp
  | cons a t ih =>
    rw [List.dropWhile_cons, List.all_cons]
    cases h : p a with
    | true => simpa using ih
    | false => simp
theorem trim_all (l cs : List UInt8) : Lib.trimRightS (Lib.trimLeftS l cs) cs = [] ↔ l.all (cs.contains ·) = true := by
  unfold Lib.trimRightS Lib.trimLeftS
  rw [List.reverse_eq_nil_iff, dropWhile_nil, List.all_reverse]
  constructor
  · intro h
    induction l with
    | nil => rfl
    | cons a t ih =>
      rw [List.dropWhile_cons] at h
      rw [List.all_cons]
      cases ha : cs.contains a with
      | true => rw [ha] at h; simpa using ih (by simpa using h)
      | false =>
        rw [ha, if_neg (by simp)] at h
        simp only [List.all_cons, ha, Bool.false_and, Bool.false_eq_true] at h
  · intro h
    rw [(dropWhile_nil _ l).2 h]
    rfl
theorem trimLeft_length (l cs : List UInt8) : (Lib.trimLeftS l cs).length ≤ l.length := by
  unfold Lib.trimLeftS
  exact (List.dropWhile_sublist _).length_le

def decB : ByteArray := ⟨#[48, 49, 50, 51, 52, 53, 54, 55, 56, 57]⟩
def hexB : ByteArray := ⟨#[48, 49, 50, 51, 52, 53, 54, 55, 56, 57, 97, 98, 99, 100, 101, 102, 65, 66, 67, 68, 69, 70]⟩
theorem decB_ascii : Ascii decB := by unfold Ascii decB; decide
theorem hexB_ascii : Ascii hexB := by unfold Ascii hexB; decide
theorem mem_decs (c : UInt8) (h : Spec.decs.contains c = true) : Dig10 c := by
  have : c ∈ Spec.decs := List.contains_iff_mem.1 h
  unfold Spec.decs at this
  simp only [List.mem_cons, List.not_mem_nil, or_false] at this
  unfold Dig10
  rcases this with rfl | rfl | rfl | rfl | rfl | rfl | rfl | rfl | rfl | rfl <;> decide
theorem mem_hexs (c : UInt8) (h : Spec.hexs.contains c = true) : Dig16 c := by
  have : c ∈ Spec.hexs := List.contains_iff_mem.1 h
  unfold Spec.hexs at this
  simp only [List.mem_cons, List.not_mem_nil, or_false] at this
  unfold Dig16
  rcases this with rfl | rfl | rfl | rfl | rfl | rfl | rfl | rfl | rfl | rfl | rfl | rfl | rfl | rfl | rfl | rfl | rfl | rfl | rfl | rfl | rfl | rfl <;> decide

/-- What the number of digits is, as the call hands it back. -/
def numRes (o : Option Nat) : Value := match o with
  | some r => .tuple #[.int .i32 (r : Int), .bool true]
  | none => .tuple #[.int .i32 0, .bool false]
theorem validRune_nat (v : Nat) : Lib.validRune (v : Int) = Spec.validR v := by
  unfold Lib.validRune Spec.validR
  rw [Bool.eq_iff_iff]
  simp only [decide_eq_true_eq, Bool.or_eq_true, Bool.and_eq_true]
  omega
theorem emptyB (s : ByteArray) : s.toList.isEmpty = s.data.toList.isEmpty := by
  rw [← decide_eq_emptyBytes]
  cases s with
  | mk d =>
    cases d with
    | mk l =>
      cases l with
      | nil => rfl
      | cons a t =>
        apply decide_eq_false
        intro h
        have := congrArg (fun x : ByteArray => x.data.toList) h
        cases this

set_option maxHeartbeats 4000000 in
set_option maxRecDepth 100000 in
theorem number10_any (s : ByteArray) (w : World) (hs : s.size ≤ 1000000) (hT : Tabs w) :
    Calls Tryz.prog 37 #[.string s, .string decB, .int .i64 10, .int .i64 7] w fun e w' => e = .returned (numRes (Spec.number s.data.toList Spec.decs 10 7)) ∧ Below w.heap.size w w' := by
  have hlen : s.data.toList.length = s.size := by rw [Lib.size_eq]
  by_cases h0 : s.data.toList = []
  · have hr : Spec.number s.data.toList Spec.decs 10 7 = none := by unfold Spec.number; rw [if_pos (.inl h0)]
    rw [hr]
    have he : s.toList.isEmpty = true := by rw [emptyB, h0]; rfl
    clear hr hlen h0
    go_enter Tryz.func37, Tryz.ntmps37
    go_wp2
    go_ret2
    exact ⟨rfl, Below.refl _ _⟩
  · have he : s.toList.isEmpty = false := by rw [emptyB]; cases h : s.data.toList with | nil => exact absurd h h0 | cons a t => rfl
    by_cases h7 : 7 < s.size
    · have hr : Spec.number s.data.toList Spec.decs 10 7 = none := by unfold Spec.number; rw [if_pos (.inr (.inl (by omega)))]
      rw [hr]
      clear hr hlen h0
      go_enter Tryz.func37, Tryz.ntmps37
      go_wp2
      go_ret2
      exact ⟨rfl, Below.refl _ _⟩
    · cases hall : s.data.toList.all (Spec.decs.contains ·) with
      | false =>
        have hr : Spec.number s.data.toList Spec.decs 10 7 = none := by unfold Spec.number; rw [if_pos (.inr (.inr hall))]
        rw [hr]
        obtain ⟨u, hu⟩ : ∃ u : ByteArray, u = ⟨(Lib.trimLeftS s.data.toList decB.data.toList).toArray⟩ := ⟨_, rfl⟩
        have hc1 := cutLeft_any s decB decB_ascii w hs
        rw [← hu] at hc1
        have hul : u.size ≤ 1000000 := by
          have := trimLeft_length s.data.toList decB.data.toList
          rw [hu, Lib.size_eq]
          simp only
          omega
        obtain ⟨v, hv⟩ : ∃ v : ByteArray, v = ⟨(Lib.trimRightS u.data.toList decB.data.toList).toArray⟩ := ⟨_, rfl⟩
        have hve : v.toList.isEmpty = false := by
          rw [emptyB, hv, hu]
          cases h : Lib.trimRightS (Lib.trimLeftS s.data.toList decB.data.toList) decB.data.toList with
          | nil => rw [trim_all] at h; rw [show decB.data.toList = Spec.decs from rfl] at h; rw [hall] at h; cases h
          | cons a t => rfl
        have hc2 : ∀ W, Tabs W → Calls Tryz.prog 46 #[.string u, .string decB] W fun e w' => e = .returned (.string v) ∧ Below W.heap.size W w' := fun W hW => by
          rw [hv]; exact cutRight_any u decB decB_ascii W hul hW
        clear hr hlen h0 hu hv hall
        go_enter Tryz.func37, Tryz.ntmps37
        go_wp2_with (go_at_call 47; refine hc1.mono ?_)
        rintro e w1 ⟨rfl, hb1⟩
        go_wp2_with (go_at_call 46; refine (hc2 _ (hT.below hb1)).mono ?_)
        rintro e w2 ⟨rfl, hb2⟩
        go_wp2
        go_ret2
        exact ⟨rfl, hb1.trans (hb2.mono hb1.size)⟩
      | true =>
        obtain ⟨V, hV⟩ : ∃ V, V = Spec.numV 10 s.data.toList := ⟨_, rfl⟩
        have hr : Spec.number s.data.toList Spec.decs 10 7 = some (Spec.runeOf V) := by
          unfold Spec.number
          rw [if_neg (fun h => h.elim h0 (fun h => h.elim (fun h => by omega) (fun h => by rw [hall] at h; cases h))), hV]
        rw [hr]
        have hdig : ∀ (j : Nat) b, s.data.toList[j]? = some b → Dig10 b := fun j b hj =>
          mem_decs b (List.all_eq_true.1 hall b (List.mem_of_getElem? hj))
        have hle : V ≤ 16777216 := by
          have h1 := numV_lt 10 s.data.toList (fun c hc => by
            obtain ⟨j, hj, rfl⟩ := List.getElem_of_mem hc
            exact (dig10_lt (hdig j _ (List.getElem?_eq_getElem hj))).2)
          have h2 : (10 : Nat) ^ s.data.toList.length ≤ 10 ^ 7 := Nat.pow_le_pow_right (by decide) (by omega)
          have h3 : (10 : Nat) ^ 7 ≤ 16777216 := by decide
          omega
        have hc1 := cutLeft_any s decB decB_ascii w hs
        rw [show Lib.trimLeftS s.data.toList decB.data.toList = [] from (dropWhile_nil _ _).2 hall] at hc1
        have hc2 : ∀ W, Tabs W → Calls Tryz.prog 46 #[.string (⟨#[]⟩ : ByteArray), .string decB] W fun e w' => e = .returned (.string (⟨#[]⟩ : ByteArray)) ∧ Below W.heap.size W w' := fun W hW =>
          cutRight_any ⟨#[]⟩ decB decB_ascii W (by decide) hW
        have hne0 : s.size ≠ 0 := fun e => h0 (List.length_eq_zero_iff.1 (by omega))
        have hc3 := fun W => parseI10 s W hne0 (by omega) hdig
        rw [← hV] at hc3
        have hvr := validRune_nat V
        obtain ⟨a, HAV⟩ : ∃ a : Int, Hid (a = (V : Int)) := ⟨_, Lib.hid rfl⟩
        have v0 : 0 ≤ a := by rw [HAV.out]; omega
        have v1 : a ≤ 16777216 := by rw [HAV.out]; omega
        rw [← HAV.out] at hc3 hvr
        have hc4 := fun W => Tryz.utf8_ValidRune a W
        rw [hvr] at hc4
        clear hr hlen h0 hall hdig hV hle hne0 hvr
        have hfin : numRes (some (Spec.runeOf V)) = if a ≠ 0 ∧ Spec.validR V = true then .tuple #[.int .i32 a, .bool true] else .tuple #[.int .i32 65533, .bool true] := by
          have h1 := HAV.out
          unfold numRes Spec.runeOf
          simp only
          by_cases hz : V = 0
          · rw [if_neg (by simp [hz]), if_neg (by intro h; exact h.1 (by omega))]; rfl
          · cases hvd : Spec.validR V with
            | true => rw [if_pos ⟨hz, rfl⟩, if_pos ⟨by omega, rfl⟩, h1]
            | false => rw [if_neg (by simp), if_neg (by simp)]; rfl
        rw [hfin]
        have HF := HAV
        clear hfin HAV
        by_cases hz : a = 0
        · subst hz
          rw [if_neg (by simp)]
          go_enter Tryz.func37, Tryz.ntmps37
          go_wp2_with (go_at_call 47; refine hc1.mono ?_)
          rintro e w1 ⟨rfl, hb1⟩
          go_wp2_with (go_at_call 46; refine (hc2 _ (hT.below hb1)).mono ?_)
          rintro e w2 ⟨rfl, hb2⟩
          go_wp2_with (go_at_call 48; refine (hc3 _).mono ?_)
          rintro e w3 ⟨rfl, hb3⟩
          go_wp2
          go_ret2
          exact ⟨rfl, (hb1.trans (hb2.mono hb1.size)).trans (hb3.mono (hb1.trans (hb2.mono hb1.size)).size)⟩
        · have hz' : (a == 0) = false := beq_eq_false_iff_ne.2 hz
          have hz2 : (a != 0) = true := bne_iff_ne.2 hz
          cases hvd : Spec.validR V with
          | true =>
            rw [if_pos ⟨hz, rfl⟩]
            rw [hvd] at hc4
            clear hz hvd
            go_enter Tryz.func37, Tryz.ntmps37
            go_wp2_with (go_at_call 47; refine hc1.mono ?_)
            rintro e w1 ⟨rfl, hb1⟩
            go_wp2_with (go_at_call 46; refine (hc2 _ (hT.below hb1)).mono ?_)
            rintro e w2 ⟨rfl, hb2⟩
            go_wp2_with (go_at_call 48; refine (hc3 _).mono ?_)
            rintro e w3 ⟨rfl, hb3⟩
            go_wp2_with (go_at_call 49; refine (hc4 _).mono ?_)
            rintro e w4 ⟨rfl, rfl⟩
            go_wp2
            go_ret2
            exact ⟨rfl, (hb1.trans (hb2.mono hb1.size)).trans (hb3.mono (hb1.trans (hb2.mono hb1.size)).size)⟩
          | false =>
            rw [if_neg (by simp)]
            rw [hvd] at hc4
            clear hz hvd
            go_enter Tryz.func37, Tryz.ntmps37
            go_wp2_with (go_at_call 47; refine hc1.mono ?_)
            rintro e w1 ⟨rfl, hb1⟩
            go_wp2_with (go_at_call 46; refine (hc2 _ (hT.below hb1)).mono ?_)
            rintro e w2 ⟨rfl, hb2⟩
            go_wp2_with (go_at_call 48; refine (hc3 _).mono ?_)
            rintro e w3 ⟨rfl, hb3⟩
            go_wp2_with (go_at_call 49; refine (hc4 _).mono ?_)
            rintro e w4 ⟨rfl, rfl⟩
            go_wp2
            go_ret2
            exact ⟨rfl, (hb1.trans (hb2.mono hb1.size)).trans (hb3.mono (hb1.trans (hb2.mono hb1.size)).size)⟩
set_option maxHeartbeats 4000000 in
set_option maxRecDepth 100000 in
theorem number16_any (s : ByteArray) (w : World) (hs : s.size ≤ 1000000) (hT : Tabs w) :
    Calls Tryz.prog 37 #[.string s, .string hexB, .int .i64 16, .int .i64 6] w fun e w' => e = .returned (numRes (Spec.number s.data.toList Spec.hexs 16 6)) ∧ Below w.heap.size w w' := by
  have hlen : s.data.toList.length = s.size := by rw [Lib.size_eq]
  by_cases h0 : s.data.toList = []
  · have hr : Spec.number s.data.toList Spec.hexs 16 6 = none := by unfold Spec.number; rw [if_pos (.inl h0)]
    rw [hr]
    have he : s.toList.isEmpty = true := by rw [emptyB, h0]; rfl
    clear hr hlen h0
    go_enter Tryz.func37, Tryz.ntmps37
    go_wp2
    go_ret2
    exact ⟨rfl, Below.refl _ _⟩
  · have he : s.toList.isEmpty = false := by rw [emptyB]; cases h : s.data.toList with | nil => exact absurd h h0 | cons a t => rfl
    by_cases h6 : 6 < s.size
    · have hr : Spec.number s.data.toList Spec.hexs 16 6 = none := by unfold Spec.number; rw [if_pos (.inr (.inl (by omega)))]
      rw [hr]
      clear hr hlen h0
      go_enter Tryz.func37, Tryz.ntmps37
      go_wp2
      go_ret2
      exact ⟨rfl, Below.refl _ _⟩
    · cases hall : s.data.toList.all (Spec.hexs.contains ·) with
      | false =>
        have hr : Spec.number s.data.toList Spec.hexs 16 6 = none := by unfold Spec.number; rw [if_pos (.inr (.inr hall))]
        rw [hr]
        obtain ⟨u, hu⟩ : ∃ u : ByteArray, u = ⟨(Lib.trimLeftS s.data.toList hexB.data.toList).toArray⟩ := ⟨_, rfl⟩
        have hc1 := cutLeft_any s hexB hexB_ascii w hs
        rw [← hu] at hc1
        have hul : u.size ≤ 1000000 := by
          have := trimLeft_length s.data.toList hexB.data.toList
          rw [hu, Lib.size_eq]
          simp only
          omega
        obtain ⟨v, hv⟩ : ∃ v : ByteArray, v = ⟨(Lib.trimRightS u.data.toList hexB.data.toList).toArray⟩ := ⟨_, rfl⟩
        have hve : v.toList.isEmpty = false := by
          rw [emptyB, hv, hu]
          cases h : Lib.trimRightS (Lib.trimLeftS s.data.toList hexB.data.toList) hexB.data.toList with
          | nil => rw [trim_all] at h; rw [show hexB.data.toList = Spec.hexs from rfl] at h; rw [hall] at h; cases h
          | cons a t => rfl
        have hc2 : ∀ W, Tabs W → Calls Tryz.prog 46 #[.string u, .string hexB] W fun e w' => e = .returned (.string v) ∧ Below W.heap.size W w' := fun W hW => by
          rw [hv]; exact cutRight_any u hexB hexB_ascii W hul hW
        clear hr hlen h0 hu hv hall
        go_enter Tryz.func37, Tryz.ntmps37
        go_wp2_with (go_at_call 47; refine hc1.mono ?_)
        rintro e w1 ⟨rfl, hb1⟩
        go_wp2_with (go_at_call 46; refine (hc2 _ (hT.below hb1)).mono ?_)
        rintro e w2 ⟨rfl, hb2⟩
        go_wp2
        go_ret2
        exact ⟨rfl, hb1.trans (hb2.mono hb1.size)⟩
      | true =>
        obtain ⟨V, hV⟩ : ∃ V, V = Spec.numV 16 s.data.toList := ⟨_, rfl⟩
        have hr : Spec.number s.data.toList Spec.hexs 16 6 = some (Spec.runeOf V) := by
          unfold Spec.number
          rw [if_neg (fun h => h.elim h0 (fun h => h.elim (fun h => by omega) (fun h => by rw [hall] at h; cases h))), hV]
        rw [hr]
        have hdig : ∀ (j : Nat) b, s.data.toList[j]? = some b → Dig16 b := fun j b hj =>
          mem_hexs b (List.all_eq_true.1 hall b (List.mem_of_getElem? hj))
        have hle : V ≤ 16777216 := by
          have h1 := numV_lt 16 s.data.toList (fun c hc => by
            obtain ⟨j, hj, rfl⟩ := List.getElem_of_mem hc
            exact dig16_lt (hdig j _ (List.getElem?_eq_getElem hj)))
          have h2 : (16 : Nat) ^ s.data.toList.length ≤ 16 ^ 6 := Nat.pow_le_pow_right (by decide) (by omega)
          have h3 : (16 : Nat) ^ 6 ≤ 16777216 := by decide
          omega
        have hc1 := cutLeft_any s hexB hexB_ascii w hs
        rw [show Lib.trimLeftS s.data.toList hexB.data.toList = [] from (dropWhile_nil _ _).2 hall] at hc1
        have hc2 : ∀ W, Tabs W → Calls Tryz.prog 46 #[.string (⟨#[]⟩ : ByteArray), .string hexB] W fun e w' => e = .returned (.string (⟨#[]⟩ : ByteArray)) ∧ Below W.heap.size W w' := fun W hW =>
          cutRight_any ⟨#[]⟩ hexB hexB_ascii W (by decide) hW
        have hne0 : s.size ≠ 0 := fun e => h0 (List.length_eq_zero_iff.1 (by omega))
        have hc3 := fun W => parseI16 s W hne0 (by omega) hdig
        rw [← hV] at hc3
        have hvr := validRune_nat V
        obtain ⟨a, HAV⟩ : ∃ a : Int, Hid (a = (V : Int)) := ⟨_, Lib.hid rfl⟩
        have v0 : 0 ≤ a := by rw [HAV.out]; omega
        have v1 : a ≤ 16777216 := by rw [HAV.out]; omega
        rw [← HAV.out] at hc3 hvr
        have hc4 := fun W => Tryz.utf8_ValidRune a W
        rw [hvr] at hc4
        clear hr hlen h0 hall hdig hV hle hne0 hvr
        have hfin : numRes (some (Spec.runeOf V)) = if a ≠ 0 ∧ Spec.validR V = true then .tuple #[.int .i32 a, .bool true] else .tuple #[.int .i32 65533, .bool true] := by
          have h1 := HAV.out
          unfold numRes Spec.runeOf
          simp only
          by_cases hz : V = 0
          · rw [if_neg (by simp [hz]), if_neg (by intro h; exact h.1 (by omega))]; rfl
          · cases hvd : Spec.validR V with
            | true => rw [if_pos ⟨hz, rfl⟩, if_pos ⟨by omega, rfl⟩, h1]
            | false => rw [if_neg (by simp), if_neg (by simp)]; rfl
        rw [hfin]
        have HF := HAV
        clear hfin HAV
        by_cases hz : a = 0
        · subst hz
          rw [if_neg (by simp)]
          go_enter Tryz.func37, Tryz.ntmps37
          go_wp2_with (go_at_call 47; refine hc1.mono ?_)
          rintro e w1 ⟨rfl, hb1⟩
          go_wp2_with (go_at_call 46; refine (hc2 _ (hT.below hb1)).mono ?_)
          rintro e w2 ⟨rfl, hb2⟩
          go_wp2_with (go_at_call 48; refine (hc3 _).mono ?_)
          rintro e w3 ⟨rfl, hb3⟩
          go_wp2
          go_ret2
          exact ⟨rfl, (hb1.trans (hb2.mono hb1.size)).trans (hb3.mono (hb1.trans (hb2.mono hb1.size)).size)⟩
        · have hz' : (a == 0) = false := beq_eq_false_iff_ne.2 hz
          have hz2 : (a != 0) = true := bne_iff_ne.2 hz
          cases hvd : Spec.validR V with
          | true =>
            rw [if_pos ⟨hz, rfl⟩]
            rw [hvd] at hc4
            clear hz hvd
            go_enter Tryz.func37, Tryz.ntmps37
            go_wp2_with (go_at_call 47; refine hc1.mono ?_)
            rintro e w1 ⟨rfl, hb1⟩
            go_wp2_with (go_at_call 46; refine (hc2 _ (hT.below hb1)).mono ?_)
            rintro e w2 ⟨rfl, hb2⟩
            go_wp2_with (go_at_call 48; refine (hc3 _).mono ?_)
            rintro e w3 ⟨rfl, hb3⟩
            go_wp2_with (go_at_call 49; refine (hc4 _).mono ?_)
            rintro e w4 ⟨rfl, rfl⟩
            go_wp2
            go_ret2
            exact ⟨rfl, (hb1.trans (hb2.mono hb1.size)).trans (hb3.mono (hb1.trans (hb2.mono hb1.size)).size)⟩
          | false =>
            rw [if_neg (by simp)]
            rw [hvd] at hc4
            clear hz hvd
            go_enter Tryz.func37, Tryz.ntmps37
            go_wp2_with (go_at_call 47; refine hc1.mono ?_)
            rintro e w1 ⟨rfl, hb1⟩
            go_wp2_with (go_at_call 46; refine (hc2 _ (hT.below hb1)).mono ?_)
            rintro e w2 ⟨rfl, hb2⟩
            go_wp2_with (go_at_call 48; refine (hc3 _).mono ?_)
            rintro e w3 ⟨rfl, hb3⟩
            go_wp2_with (go_at_call 49; refine (hc4 _).mono ?_)
            rintro e w4 ⟨rfl, rfl⟩
            go_wp2
            go_ret2
            exact ⟨rfl, (hb1.trans (hb2.mono hb1.size)).trans (hb3.mono (hb1.trans (hb2.mono hb1.size)).size)⟩
end Go.Proofs.YtipbmagondoooaaGreatDoor
