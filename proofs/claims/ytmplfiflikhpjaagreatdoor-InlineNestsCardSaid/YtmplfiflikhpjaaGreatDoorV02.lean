/-
  Texts of one proof, joined: PlF, InWr, ParG, ParH, ParI.
-/
import Derived.Test.YtmplfiflikhpjaaGreatDoorV01
import Derived.Lib.RuneBytes
/-
  PLAIN LEAN: words in stresses, links and images within one another are parsed as they stand.
-/
namespace Go.Proofs.YtmplfiflikhpjaaGreatDoor.Pl
open Go.Proofs.YtmplfiflikhpjaaGreatDoor.Spec (B Piece txt MState)

def Ascii7 (s : B) : Prop := ∀ c ∈ s, c.toNat < 128
def Loose (ps : List Piece) : Prop := ∀ p, ps.getLast? = some p → p.raw = false
def Clear (e : Nest) (ps : List Piece) : Prop := e.noLink ∨ ∀ p ∈ ps, p.noted = true → p.image = true
theorem loose_snoc (ps : List Piece) (p : Piece) (h : p.raw = false) : Loose (ps ++ [p]) := fun q hq => by
  rw [List.getLast?_concat] at hq
  obtain rfl := Option.some.inj hq
  exact h
theorem addText_loose (ps : List Piece) (x : B) (h : Loose ps) : Spec.addText ps x true = ps ++ [rawP x] := by
  unfold Spec.addText
  cases hl : ps.getLast? with
  | none =>
    rw [List.getLast?_eq_none_iff] at hl
    subst hl
    rfl
  | some p =>
    simp only
    rw [if_neg (fun h2 => by rw [h p hl] at h2; cases h2.1)]
    rfl
theorem lt_of_drop (s : B) (k : Nat) (c : UInt8) (r : B) (h : s.drop k = c :: r) : k < s.length := by
  apply Decidable.byContradiction
  intro hk
  rw [List.drop_of_length_le (by omega)] at h
  cases h
theorem dulls_step (s : B) (k : Nat) (ps : List Piece) (x r : B) (hd : s.drop k = x ++ r) (h0 : x ≠ []) (hx : ∀ c ∈ x, Dull c) (hr : ∀ c, r.head? = some c → ¬ Dull c) (hl : Loose ps) :
    parseC s k ps = parseC s (k + x.length) (ps ++ [rawP x]) := by
  have hk : k < s.length := by
    cases x with
    | nil => exact absurd rfl h0
    | cons c t => exact lt_of_drop s k c (t ++ r) hd
  have hst : stepAt s k ps = (x.length, ps ++ [rawP x]) := by
    unfold stepAt
    rw [hd, stepP_dulls _ _ x h0 hx r hr ps, addText_loose ps x hl]
  rw [parseC_step s k ps hk, hst]
theorem run_stars (b : Bool) (r : B) (h : r.head? ≠ some 42) : Spec.run (stars b ++ r) 42 = nOf b := by
  have h1 : r.takeWhile (· == 42) = [] := by
    cases r with
    | nil => rfl
    | cons c t =>
      have : (c == 42) = false := by simpa using h
      rw [List.takeWhile_cons, if_neg (by rw [this]; decide)]
  unfold Spec.run
  cases b with
  | false =>
    show ((42 :: r).takeWhile (· == 42)).length = 1
    rw [List.takeWhile_cons, if_pos (by rfl), h1]
    rfl
  | true =>
    show ((42 :: 42 :: r).takeWhile (· == 42)).length = 2
    rw [List.takeWhile_cons, if_pos (by rfl), List.takeWhile_cons, if_pos (by rfl), h1]
    rfl
theorem stars_len (b : Bool) : (stars b).length = nOf b := by cases b <;> rfl
theorem stars_step (b : Bool) (s : B) (ha : Ascii7 s) (k : Nat) (ps : List Piece) (r : B) (hd : s.drop k = stars b ++ r) (hr : r.head? ≠ some 42) (o c : Bool)
    (hlook : Spec.look 42 (nOf b) (((s.take k).getLast?.map (·.toNat)).getD 10) ((r.head?.map (·.toNat)).getD 10) = markM b o c) :
    parseC s k ps = parseC s (k + (stars b).length) (ps ++ [markP b o c (nOf b)]) := by
  obtain ⟨t, ht⟩ : ∃ t, stars b ++ r = 42 :: t := by cases b <;> exact ⟨_, rfl⟩
  have hk : k < s.length := lt_of_drop s k 42 t (hd.trans ht)
  have hbef : lastR (last16 ⟨(s.take k).toArray⟩) = ((s.take k).getLast?.map (·.toNat)).getD 10 := lastR_ascii _ (fun c hc => ha c (List.mem_of_mem_take hc))
  have hmr : ∀ c, r.head? = some c → c.toNat < 128 := fun c hc => ha c (List.mem_of_mem_drop (i := k) (by rw [hd]; exact List.mem_append_right _ (List.mem_of_head? hc)))
  have haft := firstR_ascii r hmr
  have hrun := run_stars b r hr
  have hst : stepAt s k ps = (nOf b, ps ++ [markP b o c (nOf b)]) := by
    unfold stepAt
    rw [hbef, hd]
    rw [ht] at hrun ⊢
    unfold Spec.stepP
    simp only [show ¬ ((42 : UInt8) = 92) by decide, show ¬ ((42 : UInt8) = 96) by decide, show ¬ ((42 : UInt8) = 60) by decide, show ¬ ((42 : UInt8) = 38) by decide, if_false, true_or, if_true]
    rw [hrun, ← ht, List.drop_left' (stars_len b), haft, hlook]
    rfl
  rw [parseC_step s k ps hk, hst, stars_len]
theorem look_open (b bk : Bool) (x : Option UInt8) (hx : if bk = true then x = some 120 else (x = none ∨ x = some 32)) : Spec.look 42 (nOf b) ((x.map (·.toNat)).getD 10) 120 = markM b true bk := by
  cases bk with
  | true =>
    obtain rfl : x = some 120 := hx
    cases b <;> rfl
  | false =>
    rcases (show x = none ∨ x = some 32 from hx) with rfl | rfl <;> cases b <;> rfl
theorem look_close (b bk : Bool) (x : Option UInt8) (hx : if bk = true then x = some 121 else (x = none ∨ x = some 32)) : Spec.look 42 (nOf b) 121 ((x.map (·.toNat)).getD 10) = markM b bk true := by
  cases bk with
  | true =>
    obtain rfl : x = some 121 := hx
    cases b <;> rfl
  | false =>
    rcases (show x = none ∨ x = some 32 from hx) with rfl | rfl <;> cases b <;> rfl

theorem find_last (P : Nat → Bool) (m : Nat) (hm : P m = true) : ∀ n, m < n → (∀ i, m < i → i < n → P i = false) → (List.range n).reverse.find? P = some m
  | 0, h, _ => by omega
  | n + 1, h, hP => by
    rw [List.range_succ, List.reverse_append, List.reverse_singleton, List.singleton_append, List.find?_cons]
    by_cases e : m = n
    · subst e
      rw [hm]
    · rw [hP n (by omega) (by omega)]
      exact find_last P m hm n (by omega) (fun i h1 h2 => hP i h1 (by omega))
theorem lastNoted_mid (A G : List Piece) (b : Piece) (hb : b.noted = true) (hG : ∀ p ∈ G, p.noted = false) : Spec.lastNoted (A ++ b :: G) = some A.length := by
  unfold Spec.lastNoted
  refine find_last _ A.length ?_ _ (by simp) (fun i h1 h2 => ?_)
  · rw [List.getElem?_append_right (Nat.le_refl _), Nat.sub_self]
    simpa using hb
  · obtain ⟨j, rfl⟩ : ∃ j, i = A.length + (j + 1) := ⟨i - A.length - 1, by omega⟩
    rw [List.getElem?_append_right (by omega), Nat.add_sub_cancel_left, List.getElem?_cons_succ]
    cases hg : G[j]? with
    | none => rfl
    | some p => simpa using hG p (List.mem_of_getElem? hg)
theorem pcs_noted (e : Nest) : ∀ bk, ∀ p ∈ e.pcs bk, p.noted = false := by
  have hg : ∀ (pre t post : B) (w : Bool) (L : List Piece), (∀ p ∈ L, p.noted = false) → ∀ p ∈ grp pre w t L post, p.noted = false := by
    intro pre t post w L hL p hp
    unfold grp at hp
    split at hp
    · simp only [List.mem_singleton] at hp; subst hp; rfl
    · simp only [List.mem_cons, List.mem_append, List.not_mem_nil, or_false] at hp
      rcases hp with rfl | hp | rfl
      · rfl
      · exact hL p hp
      · rfl
  induction e with
  | word w => intro bk p hp; simp only [Nest.pcs, List.mem_singleton] at hp; subst hp; rfl
  | link im e _ => intro bk p hp; simp only [Nest.pcs, List.mem_singleton] at hp; subst hp; rfl
  | emph b e ih =>
    intro bk p hp
    simp only [Nest.pcs, List.mem_cons, List.mem_append, List.not_mem_nil, or_false] at hp
    rcases hp with rfl | hp | rfl
    · rfl
    · exact hg _ _ _ _ _ (ih false) p hp
    · rfl
theorem grp_noted (e : Nest) (bk : Bool) (pre post : B) : ∀ p ∈ grp pre e.isWord e.text (e.pcs bk) post, p.noted = false := by
  intro p hp
  unfold grp at hp
  split at hp
  · simp only [List.mem_singleton] at hp; subst hp; rfl
  · simp only [List.mem_cons, List.mem_append, List.not_mem_nil, or_false] at hp
    rcases hp with rfl | hp | rfl
    · rfl
    · exact pcs_noted e bk p hp
    · rfl
theorem pcs_loose (e : Nest) (h : e.isWord = false) (bk : Bool) (ps : List Piece) : Loose (ps ++ e.pcs bk) := by
  cases e with
  | word w => cases h
  | link im e => exact loose_snoc ps _ rfl
  | emph b e =>
    have : ps ++ (Nest.emph b e).pcs bk = (ps ++ (markP b true bk (nOf b) :: grp [120, 32] e.isWord e.text (e.pcs false) [32, 121])) ++ [markP b bk true (nOf b)] := by simp [Nest.pcs]
    rw [this]
    exact loose_snoc _ _ rfl
theorem text_head (e : Nest) (h : e.isWord = false) (r : B) : ∀ c, (e.text ++ r).head? = some c → ¬ Dull c := by
  intro c hc
  have : c = 42 ∨ c = 33 ∨ c = 91 := by
    cases e with
    | word w => cases h
    | link im e => cases im <;> simp [Nest.text] at hc <;> simp [← hc]
    | emph b e => cases b <;> simp [Nest.text, stars] at hc <;> simp [← hc]
  unfold Dull
  rcases this with rfl | rfl | rfl <;> decide
def preOf (bk : Bool) : B := if bk = true then [120] else [120, 32]
def postOf (bk : Bool) : B := if bk = true then [121] else [32, 121]
theorem pre_dull (bk : Bool) : ∀ c ∈ preOf bk, Dull c := by cases bk <;> (intro c hc; simp [preOf] at hc; unfold Dull; rcases hc with rfl | rfl <;> decide) <;> skip
theorem post_dull (bk : Bool) : ∀ c ∈ postOf bk, Dull c := by cases bk <;> (intro c hc; simp [postOf] at hc; unfold Dull; rcases hc with rfl | rfl <;> decide) <;> skip
/-- What parsing one nest does. -/
def Elt (e : Nest) : Prop := ∀ (bk : Bool) (s r : B) (k : Nat) (ps : List Piece), Ascii7 s → s.drop k = e.text ++ r → (if bk = true then (s.take k).getLast? = some 120 else ((s.take k).getLast? = none ∨ (s.take k).getLast? = some 32)) →
  (if bk = true then r.head? = some 121 else (r.head? = none ∨ r.head? = some 32)) → Clear e ps → parseC s k ps = parseC s (k + e.text.length) (ps ++ e.pcs bk)
theorem take_add_last (s : B) (k : Nat) (x r : B) (hd : s.drop k = x ++ r) (c : UInt8) (hx : x.getLast? = some c) : (s.take (k + x.length)).getLast? = some c := by
  rw [List.take_add, hd, List.take_left' rfl, List.getLast?_append, hx]
  rfl
theorem drop_add_len (s : B) (k : Nat) (x r : B) (hd : s.drop k = x ++ r) : s.drop (k + x.length) = r := by
  rw [← List.drop_drop, hd, List.drop_left' rfl]
theorem grp_step (e : Nest) (he : e.ok) (helt : e.isWord = false → Elt e) (bk : Bool) (s r : B) (k : Nat) (ps : List Piece) (ha : Ascii7 s) (hd : s.drop k = preOf bk ++ e.text ++ postOf bk ++ r)
    (hr : ∀ c, r.head? = some c → ¬ Dull c) (hl : Loose ps) (hc : Clear e ps) : parseC s k ps = parseC s (k + (preOf bk ++ e.text ++ postOf bk).length) (ps ++ grp (preOf bk) e.isWord e.text (e.pcs bk) (postOf bk)) := by
  have p0 : preOf bk ≠ [] := by cases bk <;> simp [preOf]
  have q0 : postOf bk ≠ [] := by cases bk <;> simp [postOf]
  cases hw : e.isWord with
  | true =>
    cases e with
    | emph b e => cases hw
    | link im e => cases hw
    | word w =>
      refine dulls_step s k ps _ r hd (by simp [p0]) (fun c hc => ?_) hr hl
      rcases List.mem_append.1 hc with h | h
      · rcases List.mem_append.1 h with h | h
        · exact pre_dull bk c h
        · exact wordy_dull c (he.2 c h)
      · exact post_dull bk c h
  | false =>
    have hd1 : s.drop k = preOf bk ++ (e.text ++ (postOf bk ++ r)) := by rw [hd]; simp
    have hd2 := drop_add_len s k _ _ hd1
    have hd3 := drop_add_len s _ _ _ hd2
    rw [dulls_step s k ps (preOf bk) _ hd1 p0 (pre_dull bk) (text_head e hw _) hl]
    rw [helt hw bk s (postOf bk ++ r) (k + (preOf bk).length) _ ha hd2 ?_ ?_ ?_]
    · rw [dulls_step s _ _ (postOf bk) r hd3 q0 (post_dull bk) hr (pcs_loose e hw bk _)]
      unfold grp
      rw [if_neg (by decide)]
      simp only [List.length_append, List.append_assoc, List.singleton_append]
      congr 1
      omega
    · cases bk with
      | true => exact take_add_last s k _ _ hd1 120 rfl
      | false => exact .inr (take_add_last s k _ _ hd1 32 rfl)
    · cases bk with
      | true => rfl
      | false => exact .inr rfl
    · rcases hc with h | h
      · exact .inl h
      · refine .inr (fun p hp hn => ?_)
        rcases List.mem_append.1 hp with h1 | h1
        · exact h p h1 hn
        · simp only [List.mem_singleton] at h1; subst h1; cases hn
theorem dest_u (r : B) : Spec.dest (40 :: 117 :: 41 :: r) = ([117], [], 3) := by
  have := dest_bare false [117] r (fun c hc => by simp only [List.mem_singleton] at hc; subst hc; unfold urlC; decide) (by simp [angled])
  exact this
theorem elt_all (e : Nest) : e.ok → e.isWord = false → Elt e := by
  induction e with
  | word w => intro _ h; cases h
  | emph b e ih =>
    intro he _ bk s r k ps ha hd hb hf hc
    have hd1 : s.drop k = stars b ++ ([120, 32] ++ (e.text ++ [32, 121] ++ stars b ++ r)) := by rw [hd]; simp [Nest.text]
    have hd2 := drop_add_len s k _ _ hd1
    have hd2' : s.drop (k + (stars b).length) = preOf false ++ e.text ++ postOf false ++ (stars b ++ r) := by rw [hd2]; simp [preOf, postOf]
    have hd3 := drop_add_len s _ (preOf false ++ e.text ++ postOf false) _ hd2'
    have hs42 : ∀ c, (stars b ++ r).head? = some c → ¬ Dull c := by
      intro c hc
      have : c = 42 := by cases b <;> simp [stars] at hc <;> simp [← hc]
      subst this
      unfold Dull; decide
    rw [stars_step b s ha k ps _ hd1 (by simp) true bk (look_open b bk _ hb)]
    rw [grp_step e he (ih he) false s (stars b ++ r) _ _ ha hd2' hs42 (loose_snoc _ _ rfl) ?_]
    · rw [stars_step b s ha _ _ r hd3 ?_ bk true ?_]
      · have e1 : k + (stars b).length + (preOf false ++ e.text ++ postOf false).length + (stars b).length = k + (Nest.emph b e).text.length := by
          simp [Nest.text, preOf, postOf]; omega
        rw [e1]
        congr 1
        simp [Nest.pcs, preOf, postOf]
      · cases bk with
        | true => rw [show r.head? = some 121 from hf]; decide
        | false => rcases (show r.head? = none ∨ r.head? = some 32 from hf) with h | h <;> rw [h] <;> decide
      · have e2 : (s.take (k + (stars b).length + (preOf false ++ e.text ++ postOf false).length)).getLast? = some 121 := take_add_last s _ _ _ hd2' 121 (by simp [postOf])
        rw [e2]
        exact look_close b bk _ hf
    · rcases hc with h | h
      · exact .inl h
      · refine .inr (fun p hp hn => ?_)
        rcases List.mem_append.1 hp with h1 | h1
        · exact h p h1 hn
        · simp only [List.mem_singleton] at h1; subst h1; cases hn
  | link im e ih =>
    intro he _ bk s r k ps ha hd hb hf hc
    obtain ⟨br, hbr⟩ : ∃ br : Piece, br = ⟨txt (if im = true then [33, 91] else [91]), false, none, 0, im, true, false⟩ := ⟨_, rfl⟩
    have hd1 : s.drop k = (if im = true then [33, 91] else [91]) ++ ([120] ++ (e.text ++ [121] ++ (93 :: 40 :: 117 :: 41 :: r))) := by rw [hd]; simp [Nest.text]
    have hopen : parseC s k ps = parseC s (k + (if im = true then [33, 91] else [91] : B).length) (ps ++ [br]) := by
      cases im with
      | true =>
        have hk : k < s.length := lt_of_drop s k 33 _ hd1
        rw [parseC_step s k ps hk]
        have hst : stepAt s k ps = (2, ps ++ [br]) := by
          unfold stepAt
          rw [hd1, hbr]
          unfold Spec.stepP
          simp
        rw [hst]
        rfl
      | false =>
        have hk : k < s.length := lt_of_drop s k 91 _ hd1
        rw [parseC_step s k ps hk]
        have hst : stepAt s k ps = (1, ps ++ [br]) := by
          unfold stepAt
          rw [hd1, hbr]
          unfold Spec.stepP
          simp
        rw [hst]
        rfl
    have hd2 := drop_add_len s k _ _ hd1
    have hd2' : s.drop (k + (if im = true then [33, 91] else [91] : B).length) = preOf true ++ e.text ++ postOf true ++ (93 :: 40 :: 117 :: 41 :: r) := by rw [hd2]; simp [preOf, postOf]
    have hd3 := drop_add_len s _ (preOf true ++ e.text ++ postOf true) _ hd2'
    have hbrn : br.noted = true := by rw [hbr]
    have hbrd : br.dead = false := by rw [hbr]
    have hbri : br.image = im := by rw [hbr]
    rw [hopen, grp_step e he.1 (ih he.1) true s (93 :: 40 :: 117 :: 41 :: r) _ _ ha hd2' (by rintro c hc; obtain rfl : 93 = c := (by simpa using hc); unfold Dull; decide) (loose_snoc _ _ (by rw [hbr])) ?_]
    · obtain ⟨k3, hk3⟩ : ∃ k3, k3 = k + (if im = true then [33, 91] else [91] : B).length + (preOf true ++ e.text ++ postOf true).length := ⟨_, rfl⟩
      rw [← hk3] at hd3 ⊢
      have hlt : k3 < s.length := lt_of_drop s k3 93 _ hd3
      rw [parseC_step s k3 _ hlt]
      have hbrk : stepAt s k3 (ps ++ [br] ++ grp (preOf true) e.isWord e.text (e.pcs true) (postOf true)) = (4, ps ++ [Spec.plainP (Nest.link im e).node]) := by
        unfold stepAt
        rw [hd3]
        have hst : ∀ b a L, Spec.stepP b a (93 :: (40 :: 117 :: 41 :: r)) L = Spec.bracket (40 :: 117 :: 41 :: r) L := fun b a L => by
          unfold Spec.stepP
          simp
        rw [hst]
        have hL : ps ++ [br] ++ grp (preOf true) e.isWord e.text (e.pcs true) (postOf true) = ps ++ br :: grp (preOf true) e.isWord e.text (e.pcs true) (postOf true) := by simp
        have hget : (ps ++ br :: grp (preOf true) e.isWord e.text (e.pcs true) (postOf true))[ps.length]? = some br := by
          rw [List.getElem?_append_right (Nat.le_refl _), Nat.sub_self]; rfl
        have hdrop : (ps ++ br :: grp (preOf true) e.isWord e.text (e.pcs true) (postOf true)).drop (ps.length + 1) = grp (preOf true) e.isWord e.text (e.pcs true) (postOf true) := by
          have : ps ++ br :: grp (preOf true) e.isWord e.text (e.pcs true) (postOf true) = (ps ++ [br]) ++ grp (preOf true) e.isWord e.text (e.pcs true) (postOf true) := by simp
          rw [this, List.drop_left' (by simp)]
        rw [hL]
        unfold Spec.bracket
        rw [lastNoted_mid ps _ br hbrn (grp_noted e true _ _)]
        simp only
        rw [hget]
        simp only
        rw [dest_u r, hbrd, hbri, if_neg (by simp), hdrop, nodes_grp e true _ _ (by simp [preOf]) (by simp [postOf]), List.take_left' rfl]
        have hmap : ps.map (fun p => if im = false ∧ p.noted = true ∧ p.image = false then { p with dead := true } else p) = ps := by
          have : ∀ p ∈ ps, (if im = false ∧ p.noted = true ∧ p.image = false then { p with dead := true } else p) = p := fun p hp => by
            rw [if_neg]
            rintro ⟨h1, h2, h3⟩
            rcases hc with h | h
            · rw [h1] at h; cases h.1
            · rw [h p hp h2] at h3; cases h3
          rw [List.map_congr_left this, List.map_id']
        rw [hmap]
        rfl
      rw [hbrk]
      have e1 : k3 + (4, ps ++ [Spec.plainP (Nest.link im e).node]).1 = k + (Nest.link im e).text.length := by
        rw [hk3]
        simp [Nest.text, preOf, postOf]
        omega
      rw [e1]
      rfl
    · cases im with
      | false => exact .inl (he.2 rfl)
      | true =>
        rcases hc with h | h
        · exact .inl h.2
        · refine .inr (fun p hp hn => ?_)
          rcases List.mem_append.1 hp with h1 | h1
          · exact h p h1 hn
          · simp only [List.mem_singleton] at h1; subst h1; exact hbri
theorem text_ascii (e : Nest) (he : e.ok) : Ascii7 e.text := by
  have hap : ∀ a b : B, Ascii7 a → Ascii7 b → Ascii7 (a ++ b) := fun a b ha hb c hc => by
    rcases List.mem_append.1 hc with h | h
    · exact ha c h
    · exact hb c h
  have hst : ∀ b, Ascii7 (stars b) := fun b c hc => by
    have : c = 42 := by cases b <;> simpa [stars] using hc
    subst this; decide
  have lits : ∀ l : B, l.all (fun c => decide (c.toNat < 128)) = true → Ascii7 l := fun l h c hc => by
    simpa using List.all_eq_true.1 h c hc
  induction e with
  | word w =>
    intro c hc
    have := he.2 c hc
    unfold Wordy Spec.letter at this
    simp only [Bool.or_eq_true, Bool.and_eq_true, decide_eq_true_eq] at this
    omega
  | emph b e ih =>
    exact hap _ _ (hst b) (hap _ _ (hap _ _ (hap _ _ (lits _ (by decide)) (ih he)) (lits _ (by decide))) (hst b))
  | link im e ih =>
    refine hap _ _ ?_ (hap _ _ (hap _ _ (hap _ _ (lits _ (by decide)) (ih he.1)) (lits _ (by decide))) (lits _ (by decide)))
    cases im <;> exact lits _ (by decide)
/-- Words within one another are told as they stand. -/
theorem parse_nest (e : Nest) (he : e.ok) : parse e.text = [e.node] := by
  cases hw : e.isWord with
  | true =>
    cases e with
    | emph b e => cases hw
    | link im e => cases hw
    | word w => exact parse_plain w he.1 (fun c hc => wordy_dull c (he.2 c hc))
  | false =>
    have := elt_all e he hw false e.text [] 0 [] (text_ascii e he) (by simp) (.inl rfl) (.inl rfl) (.inr (fun p hp => absurd hp (by simp)))
    rw [parse_eq, this, Nat.zero_add, parseC_end, List.nil_append, nodes_top e he]
end Go.Proofs.YtmplfiflikhpjaaGreatDoor.Pl
/-
  PLAIN LEAN: the Pairs of marks among pieces, laid one by one: at each both marks are there, with signs enough left, and something between them.
-/
namespace Go.Proofs.YtmplfiflikhpjaaGreatDoor.Pl
open Go.Proofs.YtmplfiflikhpjaaGreatDoor.Spec (B Piece txt MState)

abbrev NP := Piece × Option Nat
structure WOk (L : List NP) (p : Spec.Pair) (A M C : List NP) (x y : Piece) : Prop where
  eq : L = A ++ (x, some p.from_) :: (M ++ (y, some p.to) :: C)
  ne : p.from_ ≠ p.to
  hA : ∀ z ∈ A, z.2 ≠ some p.from_ ∧ z.2 ≠ some p.to
  hM : ∀ z ∈ M, z.2 ≠ some p.from_ ∧ z.2 ≠ some p.to
  M0 : M ≠ []
  l1 : nOf p.strong ≤ x.left
  l2 : nOf p.strong ≤ y.left
theorem WOk.wrap {L A M C : List NP} {p : Spec.Pair} {x y : Piece} (h : WOk L p A M C x y) :
    Spec.wrap L p = A ++ (cutP x (nOf p.strong), some p.from_) :: (Spec.plainP (.mk (if p.strong = true then 14 else 13) [] [] [] (Spec.flat (M.map (·.1)))), none) :: (cutP y (nOf p.strong), some p.to) :: C := by
  rw [h.eq]
  exact wrap_at A M C x y p.from_ p.to p.strong h.ne h.hA (fun z hz => (h.hM z hz).2)
inductive Good : List Spec.Pair → List NP → Prop
  | nil (L : List NP) : Good [] L
  | cons (p : Spec.Pair) (ps : List Spec.Pair) (L A M C : List NP) (x y : Piece) : WOk L p A M C x y → Good ps (Spec.wrap L p) → Good (p :: ps) L
theorem Good.app {ps qs : List Spec.Pair} {L : List NP} (h : Good ps L) (k : Good qs (ps.foldl Spec.wrap L)) : Good (ps ++ qs) L := by
  induction h with
  | nil L => exact k
  | cons p ps L A M C x y hw _ ih => exact .cons p _ L A M C x y hw (ih k)

/-- No two marks of one sign stand side by side. -/
def Apt : List Piece → Prop
  | p :: q :: t => (∀ m n, p.mark = some m → q.mark = some n → m.sign ≠ n.sign) ∧ Apt (q :: t)
  | _ => True
theorem Apt.tail {p : Piece} {t : List Piece} (h : Apt (p :: t)) : Apt t := by
  cases t with
  | nil => exact trivial
  | cons q t => exact h.2
theorem Apt.right {a b : List Piece} (h : Apt (a ++ b)) : Apt b := by
  induction a with
  | nil => exact h
  | cons p t ih => exact ih (Apt.tail h)
theorem Apt.left {a b : List Piece} (h : Apt (a ++ b)) : Apt a := by
  induction a with
  | nil => exact trivial
  | cons p t ih =>
    cases t with
    | nil => exact trivial
    | cons q t => exact ⟨h.1, ih h.2⟩
theorem Apt.drop {l : List Piece} (h : Apt l) (n : Nat) : Apt (l.drop n) := Apt.right (a := l.take n) (by rw [List.take_append_drop]; exact h)
theorem Apt.take {l : List Piece} (h : Apt l) (n : Nat) : Apt (l.take n) := Apt.left (b := l.drop n) (by rw [List.take_append_drop]; exact h)
theorem Apt.swap {a b : List Piece} {p q : Piece} (h : Apt (a ++ p :: b)) (e : q.mark = p.mark) : Apt (a ++ q :: b) := by
  induction a with
  | nil =>
    cases b with
    | nil => exact trivial
    | cons r b => exact ⟨fun m n hm hn => h.1 m n (e ▸ hm) hn, h.2⟩
  | cons r t ih =>
    have ih := ih (Apt.tail h)
    cases t with
    | nil => exact ⟨fun m n hm hn => h.1 m n hm (e ▸ hn), ih⟩
    | cons s t => exact ⟨h.1, ih⟩
theorem Apt.join {a b : List Piece} {p : Piece} (h1 : Apt (a ++ [p])) (h2 : Apt (p :: b)) : Apt (a ++ p :: b) := by
  induction a with
  | nil => exact h2
  | cons r t ih =>
    have ih := ih (Apt.tail h1)
    cases t with
    | nil => exact ⟨h1.1, ih⟩
    | cons s t => exact ⟨h1.1, ih⟩
theorem Apt.snoc {a : List Piece} {p : Piece} (h : Apt a) (hp : ∀ q m n, a.getLast? = some q → q.mark = some m → p.mark = some n → m.sign ≠ n.sign) : Apt (a ++ [p]) := by
  induction a with
  | nil => exact trivial
  | cons r t ih =>
    cases t with
    | nil => exact ⟨fun m n hm hn => hp r m n rfl hm hn, trivial⟩
    | cons s t => exact ⟨h.1, ih h.2 (fun q m n hq => hp q m n (by rw [List.getLast?_cons_cons]; exact hq))⟩
theorem Apt.unmarked {b : List Piece} {p : Piece} (h : Apt b) (hp : p.mark = none) : Apt (p :: b) := by
  cases b with
  | nil => exact trivial
  | cons q t => exact ⟨fun m n hm _ => (by rw [hp] at hm; cases hm), h⟩

def nums (L : List NP) : List Nat := L.filterMap (·.2)
theorem nums_app (a b : List NP) : nums (a ++ b) = nums a ++ nums b := by unfold nums; rw [List.filterMap_append]
theorem nums_some (x : Piece) (q : Nat) (t : List NP) : nums ((x, some q) :: t) = q :: nums t := rfl
theorem nums_none (x : Piece) (t : List NP) : nums ((x, none) :: t) = nums t := rfl
theorem mem_nums {L : List NP} {q : Nat} : q ∈ nums L ↔ ∃ x, (x, some q) ∈ L := by
  unfold nums
  rw [List.mem_filterMap]
  constructor
  · rintro ⟨⟨x, o⟩, hx, ho⟩
    simp only at ho
    subst ho
    exact ⟨x, hx⟩
  · rintro ⟨x, hx⟩
    exact ⟨_, hx, rfl⟩
structure Inv (marks : List Spec.Mark) (st : MState) (L : List NP) : Prop where
  sorted : (nums L).Pairwise (· < ·)
  mkd : ∀ x q, (x, some q) ∈ L → x.mark = marks[q]? ∧ q < marks.length ∧ x.left = st.left.getD q 0
  un : ∀ x, (x, none) ∈ L → x.mark = none
  pres : ∀ q, q < marks.length → st.out.getD q true = false → q ∈ nums L
  apt : Apt (L.map (·.1))
  nl : st.left.length = marks.length
  no : st.out.length = marks.length
theorem pairUp_out (st : MState) (i k x : Nat) (_hi : i < st.out.length) (_hk : k < st.out.length) (h : (Spec.pairUp st i k).2.out.getD x true = false) : st.out.getD x true = false ∧ ¬ (i < x ∧ x < k) ∨ x = i ∨ x = k := by
  by_cases e1 : x = k
  · exact .inr (.inr e1)
  · by_cases e2 : x = i
    · exact .inr (.inl e2)
    · left
      have hO : (Spec.pairUp st i k).2.out = (((List.range st.out.length).map fun j => if i < j ∧ j < k then true else st.out.getD j true).set i ((Spec.pairUp st i k).2.left.getD i 0 == 0)).set k ((Spec.pairUp st i k).2.left.getD k 0 == 0) := rfl
      rw [hO] at h
      by_cases hx : x < st.out.length
      · simp only [List.getD, List.getElem?_set, if_neg (Ne.symm e1), if_neg (Ne.symm e2), List.getElem?_map, List.getElem?_range hx, Option.map_some, Option.getD_some] at h
        by_cases hb : i < x ∧ x < k
        · rw [if_pos hb] at h; cases h
        · rw [if_neg hb] at h
          exact ⟨h, hb⟩
      · rw [List.getD, List.getElem?_eq_none (by simpa using hx)] at h
        cases h
theorem pair_step (marks : List Spec.Mark) (st : MState) (L : List NP) (h : Inv marks st L) (i k : Nat) (hik : i < k) (hk : k < marks.length) (hoi : st.out.getD i true = false) (hok : st.out.getD k true = false)
    (hli : 0 < st.left.getD i 0) (hlk : 0 < st.left.getD k 0) (a b : Spec.Mark) (ha : marks[i]? = some a) (hb : marks[k]? = some b) (hs : a.sign = b.sign) :
    ∃ A M C x y, WOk L (Spec.pairUp st i k).1 A M C x y ∧ Inv marks (Spec.pairUp st i k).2 (Spec.wrap L (Spec.pairUp st i k).1) := by
  obtain ⟨x, hx⟩ := mem_nums.1 (h.pres i (by omega) hoi)
  obtain ⟨A, R, rfl⟩ := List.append_of_mem hx
  have hsort := h.sorted
  rw [nums_app, nums_some, List.pairwise_append, List.pairwise_cons] at hsort
  obtain ⟨sA, ⟨sR1, sR⟩, sAR⟩ := hsort
  have hkR : k ∈ nums R := by
    have := h.pres k hk hok
    rw [nums_app, nums_some] at this
    rcases List.mem_append.1 this with h1 | h1
    · have := sAR k h1 i (by simp); omega
    · rcases List.mem_cons.1 h1 with h2 | h2
      · omega
      · exact h2
  obtain ⟨y, hy⟩ := mem_nums.1 hkR
  obtain ⟨M, C, rfl⟩ := List.append_of_mem hy
  rw [nums_app, nums_some, List.pairwise_append, List.pairwise_cons] at sR
  obtain ⟨sM, ⟨sC1, sC⟩, sMC⟩ := sR
  have tk := takes_le st i k hli hlk
  have hstr : (Spec.pairUp st i k).1.strong = (decide (2 ≤ st.left.getD i 0) && decide (2 ≤ st.left.getD k 0)) := rfl
  have hfr : (Spec.pairUp st i k).1.from_ = i := rfl
  have hto : (Spec.pairUp st i k).1.to = k := rfl
  have htk : nOf (Spec.pairUp st i k).1.strong = takes st i k := by rw [hstr]; rfl
  obtain ⟨mx, qx, lx⟩ := h.mkd x i (by simp)
  obtain ⟨my, qy, ly⟩ := h.mkd y k (by simp)
  have numA : ∀ z ∈ A, ∀ q, z.2 = some q → q < i := fun z hz q hq => sAR q (mem_nums.2 ⟨z.1, by rw [← hq]; exact hz⟩) i (by simp)
  have numM : ∀ z ∈ M, ∀ q, z.2 = some q → i < q ∧ q < k := fun z hz q hq => by
    have hm : q ∈ nums M := mem_nums.2 ⟨z.1, by rw [← hq]; exact hz⟩
    refine ⟨sR1 q ?_, sMC q hm k (by simp)⟩
    rw [nums_app]
    exact List.mem_append_left _ hm
  have numC : ∀ z ∈ C, ∀ q, z.2 = some q → k < q := fun z hz q hq => sC1 q (mem_nums.2 ⟨z.1, by rw [← hq]; exact hz⟩)
  have hM0 : M ≠ [] := by
    rintro rfl
    have hap := h.apt
    rw [List.map_append, List.map_cons, List.nil_append, List.map_cons] at hap
    have := (Apt.right hap).1 a b (mx.trans ha) (my.trans hb)
    exact this hs
  have hW : WOk (A ++ (x, some i) :: (M ++ (y, some k) :: C)) (Spec.pairUp st i k).1 A M C x y :=
    ⟨rfl, by rw [hfr, hto]; omega, fun z hz => by rw [hfr, hto]; exact ⟨fun e => by have := numA z hz _ e; omega, fun e => by have := numA z hz _ e; omega⟩,
      fun z hz => by rw [hfr, hto]; exact ⟨fun e => by have := numM z hz _ e; omega, fun e => by have := numM z hz _ e; omega⟩, hM0, by rw [htk, lx]; exact tk.2.1, by rw [htk, ly]; exact tk.2.2⟩
  refine ⟨A, M, C, x, y, hW, ?_⟩
  rw [hW.wrap, hfr, hto, htk]
  have hlen := pairUp_len st i k
  have hleft : ∀ q, (Spec.pairUp st i k).2.left.getD q 0 = if q = k then st.left.getD k 0 - takes st i k else if q = i then st.left.getD i 0 - takes st i k else st.left.getD q 0 := fun q => by
    have hn := h.nl
    rw [pairUp_left]
    by_cases e1 : q = k
    · subst e1
      rw [if_pos rfl]
      simp [List.getD, show q < st.left.length by omega]
    · rw [if_neg e1]
      by_cases e2 : q = i
      · subst e2
        rw [if_pos rfl]
        simp [List.getD, Ne.symm e1, show q < st.left.length by omega]
      · rw [if_neg e2]
        simp [List.getD, Ne.symm e1, Ne.symm e2]
  refine ⟨?_, ?_, ?_, ?_, ?_, by rw [hlen.1, h.nl], by rw [hlen.2, h.no]⟩
  · rw [nums_app, nums_some, nums_none, nums_some, List.pairwise_append, List.pairwise_cons, List.pairwise_cons]
    refine ⟨sA, ⟨fun q hq => ?_, sC1, sC⟩, fun u hu v hv => ?_⟩
    · rcases List.mem_cons.1 hq with rfl | hq
      · exact hik
      · have := sC1 q hq; omega
    · have hu2 := sAR u hu i (by simp)
      rcases List.mem_cons.1 hv with rfl | hv
      · exact hu2
      · rcases List.mem_cons.1 hv with rfl | hv
        · omega
        · have := sC1 v hv; omega
  · intro z q hz
    rcases List.mem_append.1 hz with hz | hz
    · have hq := numA _ hz q rfl
      obtain ⟨e1, e2, e3⟩ := h.mkd z q (List.mem_append_left _ hz)
      exact ⟨e1, e2, by rw [e3, hleft, if_neg (by omega), if_neg (by omega)]⟩
    · simp only [List.mem_cons] at hz
      rcases hz with hz | hz | hz | hz
      · injection hz with e1 e2
        obtain rfl := Option.some.inj e2
        subst e1
        exact ⟨mx, qx, by rw [hleft, if_neg (by omega), if_pos rfl]; show x.left - _ = _; rw [lx]⟩
      · injection hz with e1 e2
        cases e2
      · injection hz with e1 e2
        obtain rfl := Option.some.inj e2
        subst e1
        exact ⟨my, qy, by rw [hleft, if_pos rfl]; show y.left - _ = _; rw [ly]⟩
      · have hq := numC _ hz q rfl
        obtain ⟨e1, e2, e3⟩ := h.mkd z q (by simp [hz])
        exact ⟨e1, e2, by rw [e3, hleft, if_neg (by omega), if_neg (by omega)]⟩
  · intro z hz
    rcases List.mem_append.1 hz with hz | hz
    · exact h.un z (List.mem_append_left _ hz)
    · simp only [List.mem_cons] at hz
      rcases hz with hz | hz | hz | hz
      · injection hz with e1 e2; cases e2
      · injection hz with e1 e2; subst e1; rfl
      · injection hz with e1 e2; cases e2
      · exact h.un z (by simp [hz])
  · intro q hq ho
    rw [nums_app, nums_some, nums_none, nums_some]
    rcases pairUp_out st i k q (by rw [h.no]; omega) (by rw [h.no]; omega) ho with ⟨h1, h2⟩ | rfl | rfl
    · have := h.pres q hq h1
      rw [nums_app, nums_some, nums_app, nums_some] at this
      simp only [List.mem_append, List.mem_cons] at this ⊢
      rcases this with h3 | h3 | h3 | h3 | h3
      · exact .inl h3
      · exact .inr (.inl h3)
      · exfalso
        obtain ⟨z, hz⟩ := mem_nums.1 h3
        exact h2 (numM _ hz q rfl)
      · exact .inr (.inr (.inl h3))
      · exact .inr (.inr (.inr h3))
    · simp
    · simp
  · have hap := h.apt
    rw [List.map_append, List.map_cons, List.map_append, List.map_cons] at hap
    rw [List.map_append, List.map_cons, List.map_cons, List.map_cons]
    have h1 : Apt (A.map (·.1) ++ [x]) := by
      have e : A.map (·.1) ++ x :: (M.map (·.1) ++ y :: C.map (·.1)) = (A.map (·.1) ++ [x]) ++ (M.map (·.1) ++ y :: C.map (·.1)) := by simp
      rw [e] at hap
      exact Apt.left hap
    have h2 : Apt (y :: C.map (·.1)) := by
      have e : A.map (·.1) ++ x :: (M.map (·.1) ++ y :: C.map (·.1)) = (A.map (·.1) ++ x :: M.map (·.1)) ++ (y :: C.map (·.1)) := by simp
      rw [e] at hap
      exact Apt.right hap
    have h3 : Apt (A.map (·.1) ++ [cutP x (takes st i k)]) := Apt.swap h1 rfl
    have h4 : Apt (cutP y (takes st i k) :: C.map (·.1)) := Apt.swap (a := []) h2 rfl
    refine Apt.join h3 ?_
    refine ⟨fun m n _ hn => (by cases hn), Apt.unmarked h4 rfl⟩
theorem out_step (marks : List Spec.Mark) (st : MState) (L : List NP) (h : Inv marks st L) (k : Nat) (v : Bool) (hk : st.out.getD k true = false) : Inv marks ⟨st.left, st.out.set k v⟩ L := by
  refine ⟨h.sorted, h.mkd, h.un, fun q hq ho => h.pres q hq ?_, h.apt, h.nl, by rw [List.length_set]; exact h.no⟩
  by_cases e : q = k
  · subst e; exact hk
  · simpa [List.getD, List.getElem?_set, Ne.symm e] using ho
theorem matchAt_good (marks : List Spec.Mark) (k : Nat) (hk : k < marks.length) : ∀ (f : Nat) (st : MState) (L : List NP), Inv marks st L → Good (Spec.matchAt marks k f st).1 L ∧ Inv marks (Spec.matchAt marks k f st).2 ((Spec.matchAt marks k f st).1.foldl Spec.wrap L)
  | 0, st, L, h => ⟨.nil L, h⟩
  | f + 1, st, L, h => by
    have hb : marks[k]? = some marks[k] := List.getElem?_eq_getElem hk
    by_cases hc : st.out.getD k true = false ∧ marks[k].cls = true ∧ 0 < st.left.getD k 0
    · cases ho : Spec.opener marks st k k with
      | none =>
        rw [matchAt_none marks k f st _ hb hc ho]
        exact ⟨.nil L, out_step marks st L h k _ hc.1⟩
      | some i =>
        obtain ⟨hik, hfit⟩ := opener_some marks st k k i ho
        have hli := fits_left marks st i k hfit
        have ha : marks[i]? = some (marks[i]'(by omega)) := List.getElem?_eq_getElem (by omega)
        have hf2 := hfit
        rw [Spec.fits, ha, hb] at hf2
        simp only [Bool.and_eq_true, Bool.not_eq_true', beq_iff_eq] at hf2
        obtain ⟨A, M, C, x, y, hW, hI⟩ := pair_step marks st L h i k hik hk hf2.1.1.1.1 hc.1 hli hc.2.2 _ _ ha hb hf2.1.1.2
        obtain ⟨g1, g2⟩ := matchAt_good marks k hk f _ _ hI
        rw [matchAt_some marks k f st _ hb hc i ho]
        exact ⟨.cons _ _ L A M C x y hW g1, g2⟩
    · rw [matchAt_stop marks k f st _ hb hc]
      exact ⟨.nil L, h⟩
theorem matchFrom_good (marks : List Spec.Mark) (f : Nat) : ∀ (m k : Nat) (st : MState) (L : List NP), k + m ≤ marks.length → Inv marks st L → Good (Spec.matchFrom marks f m k st).1 L ∧ Inv marks (Spec.matchFrom marks f m k st).2 ((Spec.matchFrom marks f m k st).1.foldl Spec.wrap L)
  | 0, k, st, L, _, h => ⟨.nil L, h⟩
  | m + 1, k, st, L, hk, h => by
    rw [matchFrom_succ]
    obtain ⟨g1, g2⟩ := matchAt_good marks k (by omega) f st L h
    obtain ⟨g3, g4⟩ := matchFrom_good marks f m (k + 1) _ _ (by omega) g2
    refine ⟨g1.app g3, ?_⟩
    simp only [List.foldl_append]
    exact g4
/-- Marks of pieces have as many signs left as they have. -/
def Fresh (l : List Piece) : Prop := ∀ p ∈ l, ∀ m, p.mark = some m → p.left = m.n ∧ m.n ≠ 0
theorem numbered_inv (l : List Piece) (hA : Apt l) (hF : Fresh l) : Inv (l.filterMap (·.mark)) ⟨(l.filterMap (·.mark)).map (·.n), (l.filterMap (·.mark)).map (·.n == 0)⟩ (Spec.numbered 0 l) := by
  have key : ∀ (l : List Piece) (n : Nat), (nums (Spec.numbered n l) = (List.range (l.filterMap (·.mark)).length).map (n + ·)) ∧ (∀ x q, (x, some q) ∈ Spec.numbered n l → n ≤ q ∧ x.mark = (l.filterMap (·.mark))[q - n]? ∧ q - n < (l.filterMap (·.mark)).length ∧ x ∈ l) ∧ (∀ x, (x, none) ∈ Spec.numbered n l → x.mark = none) := by
    intro l
    induction l with
    | nil => intro n; exact ⟨rfl, fun x q h => (by cases h), fun x h => (by cases h)⟩
    | cons p t ih =>
      intro n
      cases hm : p.mark with
      | none =>
        have e : Spec.numbered n (p :: t) = (p, none) :: Spec.numbered n t := by rw [Spec.numbered]; simp only [hm]
        have ef : (p :: t).filterMap (·.mark) = t.filterMap (·.mark) := by rw [List.filterMap_cons]; simp only [hm]
        obtain ⟨i1, i2, i3⟩ := ih n
        rw [e, ef]
        refine ⟨i1, fun x q h => ?_, fun x h => ?_⟩
        · rcases List.mem_cons.1 h with h | h
          · injection h with _ h; cases h
          · obtain ⟨a1, a2, a3, a4⟩ := i2 x q h
            exact ⟨a1, a2, a3, List.mem_cons_of_mem _ a4⟩
        · rcases List.mem_cons.1 h with h | h
          · injection h with h _; subst h; exact hm
          · exact i3 x h
      | some m =>
        have e : Spec.numbered n (p :: t) = (p, some n) :: Spec.numbered (n + 1) t := by rw [Spec.numbered]; simp only [hm]
        have ef : (p :: t).filterMap (·.mark) = m :: t.filterMap (·.mark) := by rw [List.filterMap_cons]; simp only [hm]
        obtain ⟨i1, i2, i3⟩ := ih (n + 1)
        rw [e, ef]
        refine ⟨?_, fun x q h => ?_, fun x h => ?_⟩
        · rw [nums_some, i1, List.length_cons, List.range_succ_eq_map, List.map_cons, List.map_map]
          congr 1
          refine List.map_congr_left (fun x _ => ?_)
          show n + 1 + x = n + (x + 1)
          omega
        · rcases List.mem_cons.1 h with h | h
          · injection h with h1 h2
            obtain rfl := Option.some.inj h2
            subst h1
            exact ⟨Nat.le_refl _, by rw [Nat.sub_self]; exact hm, by simp, by simp⟩
          · obtain ⟨a1, a2, a3, a4⟩ := i2 x q h
            refine ⟨by omega, ?_, ?_, List.mem_cons_of_mem _ a4⟩
            · rw [a2, show q - n = (q - (n + 1)) + 1 by omega, List.getElem?_cons_succ]
            · rw [List.length_cons]; omega
        · rcases List.mem_cons.1 h with h | h
          · injection h with _ h; cases h
          · exact i3 x h
  obtain ⟨k1, k2, k3⟩ := key l 0
  refine ⟨?_, fun x q h => ?_, k3, fun q hq _ => ?_, by rw [numbered_fst]; exact hA, by simp, by simp⟩
  · rw [k1, List.pairwise_map]
    exact List.pairwise_lt_range.imp (fun h => by omega)
  · obtain ⟨a1, a2, a3, a4⟩ := k2 x q h
    rw [Nat.sub_zero] at a2 a3
    refine ⟨a2, a3, ?_⟩
    have hx : x.mark = some ((l.filterMap (·.mark))[q]) := by rw [a2, List.getElem?_eq_getElem a3]
    have := (hF x a4 _ hx).1
    rw [this]
    simp [List.getD, List.getElem?_eq_getElem a3]
  · rw [k1]
    exact List.mem_map.2 ⟨q, List.mem_range.2 hq, by omega⟩
theorem matches_good (l : List Piece) (hA : Apt l) (hF : Fresh l) : Good (Spec.matches_ (l.filterMap (·.mark))) (Spec.numbered 0 l) := by
  unfold Spec.matches_
  exact (matchFrom_good _ _ _ 0 _ _ (by omega) (numbered_inv l hA hF)).1
end Go.Proofs.YtmplfiflikhpjaaGreatDoor.Pl
/-
  PLAIN LEAN: what is kept of the pieces while a text is parsed.
-/
namespace Go.Proofs.YtmplfiflikhpjaaGreatDoor.Pl
open Go.Proofs.YtmplfiflikhpjaaGreatDoor.Spec (B Piece txt MState)

/-- How much text a piece may lay. -/
def wt (p : Piece) : Nat := match p.mark with
  | some _ => p.left
  | none => if p.node.kind = 10 then p.node.text.length else 0
def wtL (l : List Piece) : Nat := (l.map wt).sum
theorem wtL_app (a b : List Piece) : wtL (a ++ b) = wtL a + wtL b := by simp [wtL]
theorem wtL_one (p : Piece) : wtL [p] = wt p := by simp [wtL]
theorem wtL_take (l : List Piece) (n : Nat) : wtL (l.take n) ≤ wtL l := by
  have := wtL_app (l.take n) (l.drop n)
  rw [List.take_append_drop] at this
  omega
theorem wtL_drop (l : List Piece) (n : Nat) : wtL (l.drop n) ≤ wtL l := by
  have := wtL_app (l.take n) (l.drop n)
  rw [List.take_append_drop] at this
  omega
def MarkOk (p : Piece) : Prop := ∀ m, p.mark = some m → p.left = m.n ∧ m.n ≠ 0 ∧ p.raw = false ∧ p.noted = false
structure PG (s : B) (k : Nat) (ps : List Piece) : Prop where
  apt : Apt ps
  ok : ∀ p ∈ ps, MarkOk p
  next : ∀ p m, ps.getLast? = some p → p.mark = some m → s[k]? ≠ some m.sign
  lenk : ps.length ≤ k
  wtk : wtL ps ≤ k
theorem PG.fresh {s : B} {k : Nat} {ps : List Piece} (h : PG s k ps) : Fresh ps := fun p hp m hm => ⟨(h.ok p hp m hm).1, (h.ok p hp m hm).2.1⟩
theorem pg_nil (s : B) : PG s 0 [] := ⟨trivial, fun p hp => absurd hp (by simp), fun p m h => (by cases h), Nat.le_refl _, Nat.le_refl _⟩
/-- A piece without a mark is laid. -/
theorem PG.lay {s : B} {k : Nat} {ps : List Piece} (h : PG s k ps) (p : Piece) (hp : p.mark = none) (n : Nat) (hn : 0 < n) (hw : wt p ≤ n) : PG s (k + n) (ps ++ [p]) := by
  refine ⟨Apt.snoc h.apt (fun q m n _ _ hn => by rw [hp] at hn; cases hn), fun q hq => ?_, fun q m hq hm => ?_, ?_, ?_⟩
  · rcases List.mem_append.1 hq with h1 | h1
    · exact h.ok q h1
    · simp only [List.mem_singleton] at h1; subst h1
      intro m hm; rw [hp] at hm; cases hm
  · rw [List.getLast?_concat] at hq
    obtain rfl := Option.some.inj hq
    rw [hp] at hm; cases hm
  · have := h.lenk; simp; omega
  · have := h.wtk; rw [wtL_app, wtL_one]; omega
theorem wt_text (p : Piece) (t : B) : wt { p with node := p.node.addText t } ≤ wt p + t.length := by
  unfold wt
  cases p.mark with
  | some m => simp only; omega
  | none =>
    have h1 : (p.node.addText t).kind = p.node.kind := by cases p.node; rfl
    have h2 : (p.node.addText t).text = p.node.text ++ t := by cases p.node; rfl
    simp only [h1, h2]
    split
    · rw [List.length_append]; omega
    · omega
theorem PG.last {s : B} {k : Nat} {a : List Piece} {p : Piece} (h : PG s k (a ++ [p])) (q : Piece) (hq : q.mark = none) (hpm : p.mark = none) (n : Nat) (hw : wt q ≤ wt p + n) : PG s (k + n) (a ++ [q]) := by
  refine ⟨Apt.swap h.apt (hq.trans hpm.symm), fun r hr => ?_, fun r m hr hm => ?_, ?_, ?_⟩
  · rcases List.mem_append.1 hr with h1 | h1
    · exact h.ok r (by simp [h1])
    · simp only [List.mem_singleton] at h1; subst h1
      intro m hm; rw [hq] at hm; cases hm
  · rw [List.getLast?_concat] at hr
    obtain rfl := Option.some.inj hr
    rw [hq] at hm; cases hm
  · have := h.lenk; simp at this ⊢; omega
  · have := h.wtk; rw [wtL_app, wtL_one] at this ⊢; omega
theorem raw_unmarked {s : B} {k : Nat} {ps : List Piece} (h : PG s k ps) (p : Piece) (hp : p ∈ ps) (hr : p.raw = true) : p.mark = none := by
  cases hm : p.mark with
  | none => rfl
  | some m => have := (h.ok p hp m hm).2.2.1; rw [hr] at this; cases this
theorem PG.text {s : B} {k : Nat} {ps : List Piece} (h : PG s k ps) (t : B) (raw : Bool) (n : Nat) (hn : 0 < n) (ht : t.length ≤ n) : PG s (k + n) (Spec.addText ps t raw) := by
  have hw : wt ⟨txt t, raw, none, 0, false, false, false⟩ ≤ n := ht
  unfold Spec.addText
  cases hl : ps.getLast? with
  | none =>
    rw [List.getLast?_eq_none_iff] at hl
    subst hl
    exact h.lay ⟨txt t, raw, none, 0, false, false, false⟩ rfl n hn hw
  | some p =>
    obtain ⟨a, rfl⟩ := List.getLast?_eq_some_iff.1 hl
    simp only
    split
    · rename_i hc
      rw [List.dropLast_concat]
      have hm := raw_unmarked h p (by simp) hc.1
      exact h.last { p with node := p.node.addText t } hm hm n (by have := wt_text p t; omega)
    · exact h.lay ⟨txt t, raw, none, 0, false, false, false⟩ rfl n hn hw
theorem modify_ok (ps : List Piece) (i : Nat) (f : Piece → Piece) (hf : ∀ p, (f p).mark = p.mark ∧ (MarkOk p → MarkOk (f p)) ∧ wt (f p) = wt p) (h : ∀ p ∈ ps, MarkOk p) :
    (Apt ps → Apt (ps.modify i f)) ∧ (∀ p ∈ ps.modify i f, MarkOk p) ∧ (ps.modify i f).getLast?.map (·.mark) = ps.getLast?.map (·.mark) ∧ wtL (ps.modify i f) = wtL ps ∧ (ps.modify i f).map (·.mark) = ps.map (·.mark) := by
  have hmap : (ps.modify i f).map (·.mark) = ps.map (·.mark) := by
    induction ps generalizing i with
    | nil => simp
    | cons p t ih =>
      cases i with
      | zero => simp [(hf p).1]
      | succ i => simpa using ih i (fun q hq => h q (by simp [hq]))
  refine ⟨fun ha => ?_, ?_, ?_, ?_, hmap⟩
  · have aux : ∀ (a b : List Piece), a.map (·.mark) = b.map (·.mark) → Apt a → Apt b := by
      intro a
      induction a with
      | nil =>
        intro b hb _
        cases b with
        | nil => exact trivial
        | cons q t => simp at hb
      | cons p t ih =>
        intro b hb ha
        cases b with
        | nil => exact trivial
        | cons q u =>
          rw [List.map_cons, List.map_cons] at hb
          injection hb with h1 h2
          have hu := ih u h2 (Apt.tail ha)
          cases u with
          | nil => exact trivial
          | cons r u =>
            cases t with
            | nil => simp at h2
            | cons p2 t =>
              rw [List.map_cons, List.map_cons] at h2
              injection h2 with h3 h4
              exact ⟨fun m n hm hn => ha.1 m n (h1.trans hm) (h3.trans hn), hu⟩
    exact aux ps _ hmap.symm ha
  · clear hmap
    induction ps generalizing i with
    | nil => simp
    | cons p t ih =>
      cases i with
      | zero =>
        intro q hq
        simp only [List.modify_zero_cons, List.mem_cons] at hq
        rcases hq with rfl | hq
        · exact (hf p).2.1 (h p (by simp))
        · exact h q (by simp [hq])
      | succ i =>
        intro q hq
        simp only [List.modify_succ_cons, List.mem_cons] at hq
        rcases hq with rfl | hq
        · exact h _ (by simp)
        · exact ih i (fun r hr => h r (by simp [hr])) q hq
  · rw [← List.getLast?_map, ← List.getLast?_map, hmap]
  · clear hmap
    unfold wtL
    induction ps generalizing i with
    | nil => simp
    | cons p t ih =>
      cases i with
      | zero => simp [(hf p).2.2]
      | succ i => have := ih i (fun q hq => h q (by simp [hq])); simp at this ⊢; omega
theorem map_ok (ps : List Piece) (f : Piece → Piece) (hf : ∀ p, (f p).mark = p.mark ∧ (MarkOk p → MarkOk (f p)) ∧ wt (f p) = wt p) : (Apt ps → Apt (ps.map f)) ∧ ((∀ p ∈ ps, MarkOk p) → ∀ p ∈ ps.map f, MarkOk p) ∧ wtL (ps.map f) = wtL ps := by
  refine ⟨?_, ?_, ?_⟩
  · induction ps with
    | nil => intro _; exact trivial
    | cons p t ih =>
      intro ha
      have ih := ih (Apt.tail ha)
      cases t with
      | nil => exact trivial
      | cons q t => exact ⟨fun m n hm hn => ha.1 m n ((hf p).1 ▸ hm) ((hf q).1 ▸ hn), ih⟩
  · intro h p hp
    obtain ⟨q, hq, rfl⟩ := List.mem_map.1 hp
    exact (hf q).2.1 (h q hq)
  · unfold wtL
    rw [List.map_map]
    congr 1
    exact List.map_congr_left (fun p _ => (hf p).2.2)
theorem encodeRune_le (r : Int) : (Lib.encodeRune r).length ≤ 4 := by
  unfold Lib.encodeRune; rw [List.length_map]; exact (Lib.encodeRuneZ_length r).2
theorem named_le (s : B) : (Spec.named s).length ≤ 4 := by
  unfold Spec.named; repeat' split
  all_goals simp
theorem inner_le (s r : B) (h : Spec.inner s = some r) : r.length ≤ 4 := by
  unfold Spec.inner at h
  split at h
  · cases h; exact named_le s
  · split at h
    · cases h
    · split at h
      · obtain ⟨x, _, rfl⟩ := Option.map_eq_some_iff.1 h
        exact encodeRune_le _
      · cases h
theorem inner_two (name r : B) (h : Spec.inner name = some r) : 2 ≤ name.length := by
  cases name with
  | nil => exact absurd (show (Spec.inner []).isSome = true by rw [h]; rfl) (by decide)
  | cons c t =>
    cases t with
    | cons d u => simp
    | nil =>
      exfalso
      have hn : Spec.named [c] = [] := by
        unfold Spec.named
        simp
      unfold Spec.inner at h
      rw [hn, if_neg (by simp)] at h
      simp only at h
      split at h
      · cases h
      · cases h
theorem ent_small (l : B) : (Spec.ent l).1.length ≤ (Spec.ent l).2 := by
  cases l with
  | nil => exact Nat.le_refl _
  | cons c t =>
    unfold Spec.ent
    simp only
    split
    · split
      · rename_i r hr
        have h1 := inner_two _ _ hr
        have h2 := inner_le _ _ hr
        rw [List.length_take] at h1
        show r.length ≤ _ + 2
        omega
      · exact Nat.le_refl _
    · exact Nat.le_refl _
theorem run_next (c : UInt8) (l : B) : l[Spec.run l c]? ≠ some c := by
  unfold Spec.run
  induction l with
  | nil => simp
  | cons d t ih =>
    by_cases h : (d == c) = true
    · rw [List.takeWhile_cons, if_pos h, List.length_cons, List.getElem?_cons_succ]
      exact ih
    · rw [List.takeWhile_cons, if_neg h]
      simpa using h
theorem lastNoted_lt (ps : List Piece) (i : Nat) (h : Spec.lastNoted ps = some i) : i < ps.length := by
  unfold Spec.lastNoted at h
  have := List.mem_of_find?_eq_some h
  rw [List.mem_reverse, List.mem_range] at this
  exact this
theorem PG.bracket {s : B} {k : Nat} {ps : List Piece} (h : PG s k ps) (t : B) : PG s (k + (Spec.bracket t ps).1) (Spec.bracket t ps).2 := by
  unfold Spec.bracket
  cases hl : Spec.lastNoted ps with
  | none => exact h.text [93] true 1 (by omega) (by simp)
  | some i =>
    simp only
    have hi := lastNoted_lt ps i hl
    rw [List.getElem?_eq_getElem hi]
    simp only
    split
    · have hm := modify_ok ps i (fun p => { p with noted := false, raw := false }) (fun p => ⟨rfl, fun hp m hm => ⟨(hp m hm).1, (hp m hm).2.1, rfl, rfl⟩, rfl⟩) h.ok
      have h2 : PG s k (ps.modify i fun p => { p with noted := false, raw := false }) := by
        refine ⟨hm.1 h.apt, hm.2.1, fun p m hp hpm => ?_, by rw [List.length_modify]; exact h.lenk, by rw [hm.2.2.2.1]; exact h.wtk⟩
        have e := hm.2.2.1
        rw [hp] at e
        cases hlast : ps.getLast? with
        | none => rw [hlast] at e; cases e
        | some q =>
          rw [hlast] at e
          exact h.next q m hlast ((Option.some.inj e).symm.trans hpm)
      exact h2.text [93] true 1 (by omega) (by simp)
    · have hm := map_ok (ps.take i) (fun p => if ps[i].image = false ∧ p.noted = true ∧ p.image = false then { p with dead := true } else p) (fun p => by
        split
        · exact ⟨rfl, fun hp => hp, rfl⟩
        · exact ⟨rfl, fun hp => hp, rfl⟩)
      have hw := wtL_take ps i
      have hk := h.wtk
      have hlen := h.lenk
      refine ⟨Apt.snoc (hm.1 (Apt.take h.apt i)) (fun q m n _ _ hn => by cases hn), fun q hq => ?_, fun q m hq hm => ?_, ?_, ?_⟩
      · rcases List.mem_append.1 hq with h1 | h1
        · exact hm.2.1 (fun p hp => h.ok p (List.mem_of_mem_take hp)) q h1
        · simp only [List.mem_singleton] at h1; subst h1
          intro m hm; cases hm
      · rw [List.getLast?_concat] at hq
        obtain rfl := Option.some.inj hq
        cases hm
      · simp; omega
      · rw [wtL_app, wtL_one, hm.2.2]
        have : wt (Spec.plainP (Spec.Node.mk (if ps[i].image = true then 17 else 16) [] (Spec.dest t).1 (Spec.dest t).2.1 (Spec.nodes (ps.drop (i + 1))))) = 0 := by
          cases ps[i].image <;> rfl
        rw [this]
        omega
theorem trimRight_le (t c : B) : (Lib.trimRightS t c).length ≤ t.length := by
  unfold Lib.trimRightS
  rw [List.length_reverse]
  have := (List.dropWhile_sublist (c.contains ·) (l := t.reverse)).length_le
  rw [List.length_reverse] at this
  exact this
theorem PG.newline {s : B} {k : Nat} {ps : List Piece} (h : PG s k ps) (t : B) : PG s (k + (Spec.newline t ps).1) (Spec.newline t ps).2 := by
  unfold Spec.newline
  have hle := skipB_le t
  obtain ⟨n, hn⟩ : ∃ n, n = 1 + t.length - (Spec.skipB t).length := ⟨_, rfl⟩
  have hn0 : 0 < n := by omega
  simp only
  rw [← hn]
  have lay : ∀ (qs : List Piece) (kd : Nat), (kd = 11 ∨ kd = 12) → PG s k qs → PG s (k + n) (qs ++ [Spec.plainP (.mk kd [] [] [] [])]) := fun qs kd hkd hq => hq.lay _ rfl n hn0 (by
    unfold wt Spec.plainP Spec.Node.kind
    simp only
    rcases hkd with rfl | rfl <;> simp)
  cases hl : ps.getLast? with
  | none => exact lay ps 11 (.inl rfl) h
  | some p =>
    simp only
    obtain ⟨a, rfl⟩ := List.getLast?_eq_some_iff.1 hl
    split
    · rename_i hr
      have hm := raw_unmarked h p (by simp) hr
      refine lay _ _ (by split <;> simp) ?_
      rw [List.dropLast_concat]
      have := h.last { p with node := p.node.setText (Lib.trimRightS p.node.text [32]) } hm hm 0 (by
        unfold wt
        simp only [hm]
        have h1 : (p.node.setText (Lib.trimRightS p.node.text [32])).kind = p.node.kind := by cases p.node; rfl
        have h2 : (p.node.setText (Lib.trimRightS p.node.text [32])).text = Lib.trimRightS p.node.text [32] := by cases p.node; rfl
        rw [h1, h2]
        have := trimRight_le p.node.text [32]
        split <;> omega)
      exact this
    · exact lay _ 11 (.inl rfl) h
theorem PG.step {s : B} {k : Nat} {ps : List Piece} (h : PG s k ps) (hk : k < s.length) : PG s (k + (stepAt s k ps).1) (stepAt s k ps).2 := by
  unfold stepAt
  generalize lastR (last16 ⟨(s.take k).toArray⟩) = b
  generalize (fun l => firstR ⟨l.toArray⟩ : B → Nat) = a
  have hd := List.drop_eq_getElem_cons hk
  rw [hd]
  obtain ⟨c, hc⟩ : ∃ c, c = s[k] := ⟨_, rfl⟩
  obtain ⟨t, ht⟩ : ∃ t, t = s.drop (k + 1) := ⟨_, rfl⟩
  rw [← hc, ← ht] at hd
  rw [← hc, ← ht]
  have hpos := stepP_pos b a c t ps
  unfold Spec.stepP at hpos ⊢
  simp only at hpos ⊢
  have plainNode : ∀ (n : Spec.Node), n.kind ≠ 10 → wt (Spec.plainP n) = 0 := fun n hn => by
    unfold wt Spec.plainP
    simp only
    rw [if_neg hn]
  by_cases h1 : c = 92
  · rw [if_pos h1] at hpos ⊢
    split at hpos
    · rename_i h2
      rw [if_pos h2]
      exact h.lay _ rfl _ hpos.1 (by rw [plainNode _ (by intro e; cases e)]; exact Nat.zero_le _)
    · rename_i h2
      rw [if_neg h2]
      split
      · exact h.text _ false 2 (by omega) (by rw [List.length_take]; omega)
      · exact h.text _ true 1 (by omega) (by simp)
  rw [if_neg h1] at hpos ⊢
  by_cases h2 : c = 96
  · rw [if_pos h2] at hpos ⊢
    split at hpos
    · rename_i h3
      rw [if_pos h3]
      exact h.lay _ rfl _ hpos.1 (by rw [plainNode _ (by intro e; cases e)]; exact Nat.zero_le _)
    · rename_i h3
      rw [if_neg h3]
      exact h.text _ true _ hpos.1 (by rw [List.length_take]; exact Nat.min_le_left _ _)
  rw [if_neg h2] at hpos ⊢
  by_cases h3 : c = 60
  · rw [if_pos h3] at hpos ⊢
    split at hpos
    · rename_i h4
      rw [if_pos h4]
      exact h.lay _ rfl _ hpos.1 (by rw [plainNode _ (by show 16 ≠ 10; decide)]; exact Nat.zero_le _)
    · rename_i h4
      rw [if_neg h4]
      exact h.text _ true 1 (by omega) (by simp)
  rw [if_neg h3] at hpos ⊢
  by_cases h4 : c = 38
  · rw [if_pos h4] at hpos ⊢
    split at hpos
    · rename_i h5
      rw [if_pos h5]
      exact h.text _ false _ hpos.1 (ent_small _)
    · rename_i h5
      rw [if_neg h5]
      exact h.text _ true 1 (by omega) (by simp)
  rw [if_neg h4] at hpos ⊢
  by_cases h5 : c = 42 ∨ c = 95
  · rw [if_pos h5] at hpos ⊢
    simp only at hpos ⊢
    have hr0 := run_pos c t
    have hmark : ∀ m, (some (Spec.look c (Spec.run (c :: t) c) b (a ((c :: t).drop (Spec.run (c :: t) c)))) : Option Spec.Mark) = some m → m.sign = c ∧ m.n = Spec.run (c :: t) c := fun m hm => by
      obtain rfl := Option.some.inj hm
      unfold Spec.look
      simp only
      split <;> exact ⟨rfl, rfl⟩
    refine ⟨Apt.snoc h.apt (fun q m n hq hm hn => ?_), fun q hq => ?_, fun q m hq hm => ?_, ?_, ?_⟩
    · have h6 := h.next q m hq hm
      have h7 := (hmark n hn).1
      rw [List.getElem?_eq_getElem hk, ← hc] at h6
      rw [h7]
      exact fun e => h6 (by rw [e])
    · rcases List.mem_append.1 hq with h6 | h6
      · exact h.ok q h6
      · simp only [List.mem_singleton] at h6; subst h6
        intro m hm
        have := hmark m hm
        exact ⟨this.2.symm, by rw [this.2]; omega, rfl, rfl⟩
    · rw [List.getLast?_concat] at hq
      obtain rfl := Option.some.inj hq
      have := hmark m hm
      rw [this.1, ← List.getElem?_drop, hd]
      exact run_next c (c :: t)
    · have := h.lenk; simp; omega
    · rw [wtL_app, wtL_one]
      have := h.wtk
      show _ + Spec.run (c :: t) c ≤ _
      omega
  rw [if_neg h5] at hpos ⊢
  by_cases h6 : c = 33
  · rw [if_pos h6]
    split
    · exact h.lay _ rfl 2 (by omega) (by show 2 ≤ 2; omega)
    · exact h.text _ true 1 (by omega) (by simp)
  rw [if_neg h6] at hpos ⊢
  by_cases h7 : c = 91
  · rw [if_pos h7]
    exact h.lay _ rfl 1 (by omega) (by show 1 ≤ 1; omega)
  rw [if_neg h7] at hpos ⊢
  by_cases h8 : c = 93
  · rw [if_pos h8]
    exact h.bracket t
  rw [if_neg h8] at hpos ⊢
  by_cases h9 : c = 10
  · rw [if_pos h9]
    exact h.newline t
  rw [if_neg h9] at hpos ⊢
  exact h.text _ true _ hpos.1 (by rw [List.length_take]; exact Nat.min_le_left _ _)
end Go.Proofs.YtmplfiflikhpjaaGreatDoor.Pl
/-
  PLAIN LEAN: the last bracket that is noted.
-/
namespace Go.Proofs.YtmplfiflikhpjaaGreatDoor.Pl
open Go.Proofs.YtmplfiflikhpjaaGreatDoor.Spec (B Piece txt)

theorem find_rev_none (p : Nat → Bool) : ∀ n, (∀ j, j < n → p j = false) → (List.range n).reverse.find? p = none
  | 0, _ => rfl
  | n + 1, h => by
    rw [List.range_succ, List.reverse_append, List.reverse_singleton, List.singleton_append, List.find?_cons, h n (by omega)]
    exact find_rev_none p n (fun j hj => h j (by omega))
theorem find_rev_some (p : Nat → Bool) (i : Nat) (hp : p i = true) : ∀ n, i < n → (∀ j, i < j → j < n → p j = false) → (List.range n).reverse.find? p = some i
  | 0, h, _ => absurd h (by omega)
  | n + 1, hi, h => by
    rw [List.range_succ, List.reverse_append, List.reverse_singleton, List.singleton_append, List.find?_cons]
    by_cases e : i = n
    · subst e
      rw [hp]
    · rw [h n (by omega) (by omega)]
      exact find_rev_some p i hp n (by omega) (fun j h1 h2 => h j h1 (by omega))
def notedAt (ps : List Piece) (j : Nat) : Bool := (ps[j]?.map (·.noted)).getD false
theorem lastNoted_none (ps : List Piece) (h : ∀ j, j < ps.length → notedAt ps j = false) : Spec.lastNoted ps = none := find_rev_none _ _ h
theorem lastNoted_some (ps : List Piece) (i : Nat) (hi : i < ps.length) (hp : notedAt ps i = true) (h : ∀ j, i < j → j < ps.length → notedAt ps j = false) : Spec.lastNoted ps = some i := find_rev_some _ i hp _ hi h
/-- What becomes of the brackets ahead of a link. -/
def deadP (b : Piece) (p : Piece) : Piece := if b.image = false ∧ p.noted = true ∧ p.image = false then { p with dead := true } else p
theorem bracket_off (t : B) (ps : List Piece) (h : Spec.lastNoted ps = none) : Spec.bracket t ps = (1, Spec.addText ps [93] true) := by
  unfold Spec.bracket
  rw [h]
theorem bracket_no (t : B) (ps : List Piece) (i : Nat) (b : Piece) (h : Spec.lastNoted ps = some i) (hb : ps[i]? = some b) (hd : b.dead = true ∨ (Spec.dest t).2.2 = 0) :
    Spec.bracket t ps = (1, Spec.addText (ps.set i { b with noted := false, raw := false }) [93] true) := by
  unfold Spec.bracket
  rw [h]
  simp only
  rw [hb]
  simp only
  rw [if_pos hd]
  have e : ps.modify i (fun p => { p with noted := false, raw := false }) = ps.set i { b with noted := false, raw := false } := by
    apply List.ext_getElem?
    intro j
    rw [List.getElem?_modify, List.getElem?_set]
    by_cases hj : i = j
    · subst hj
      rw [if_pos rfl, if_pos (List.getElem?_eq_some_iff.1 hb).1, hb]
      simp
    · rw [if_neg hj]
      simp [hj]
  rw [e]
theorem bracket_yes (t : B) (ps : List Piece) (i : Nat) (b : Piece) (h : Spec.lastNoted ps = some i) (hb : ps[i]? = some b) (hd : ¬ (b.dead = true ∨ (Spec.dest t).2.2 = 0)) :
    Spec.bracket t ps = ((Spec.dest t).2.2 + 1, (ps.take i).map (deadP b) ++ [Spec.plainP (.mk (if b.image = true then 17 else 16) [] (Spec.dest t).1 (Spec.dest t).2.1 (Spec.nodes (ps.drop (i + 1))))]) := by
  unfold Spec.bracket
  rw [h]
  simp only
  rw [hb]
  simp only
  rw [if_neg hd]
  rfl
end Go.Proofs.YtmplfiflikhpjaaGreatDoor.Pl
/-
  PLAIN LEAN: a piece that stands as it is in the text is text.
-/
namespace Go.Proofs.YtmplfiflikhpjaaGreatDoor.Pl
open Go.Proofs.YtmplfiflikhpjaaGreatDoor.Spec (B Piece txt)

def RawK (ps : List Piece) : Prop := ∀ p ∈ ps, p.raw = true → p.node.kind = 10
theorem rawK_nil : RawK [] := fun p hp => absurd hp (by simp)
theorem RawK.lay {ps : List Piece} (h : RawK ps) (p : Piece) (hp : p.raw = true → p.node.kind = 10) : RawK (ps ++ [p]) := fun q hq => by
  rcases List.mem_append.1 hq with h1 | h1
  · exact h q h1
  · simp only [List.mem_singleton] at h1
    subst h1
    exact hp
theorem RawK.text {ps : List Piece} (h : RawK ps) (t : B) (raw : Bool) : RawK (Spec.addText ps t raw) := by
  unfold Spec.addText
  cases hl : ps.getLast? with
  | none =>
    intro p hp _
    simp only [List.mem_singleton] at hp
    subst hp; rfl
  | some p =>
    obtain ⟨a, rfl⟩ := List.getLast?_eq_some_iff.1 hl
    simp only
    split
    · rename_i hc
      rw [List.dropLast_concat]
      refine RawK.lay (fun q hq => h q (by simp [hq])) _ (fun _ => ?_)
      show (p.node.addText t).kind = 10
      rw [← hc.2.2.1]
      cases p.node; rfl
    · exact h.lay _ (fun _ => rfl)
theorem RawK.bracket {ps : List Piece} (h : RawK ps) (t : B) : RawK (Spec.bracket t ps).2 := by
  cases hl : Spec.lastNoted ps with
  | none => rw [bracket_off t ps hl]; exact h.text _ _
  | some i =>
    have hi := lastNoted_lt ps i hl
    have hb : ps[i]? = some ps[i] := List.getElem?_eq_getElem hi
    by_cases hd : ps[i].dead = true ∨ (Spec.dest t).2.2 = 0
    · rw [bracket_no t ps i _ hl hb hd]
      refine RawK.text (fun p hp hr => ?_) _ _
      rcases List.mem_or_eq_of_mem_set hp with h1 | h1
      · exact h p h1 hr
      · subst h1; cases hr
    · rw [bracket_yes t ps i _ hl hb hd]
      refine RawK.lay (fun p hp hr => ?_) _ (fun hr => by cases hr)
      obtain ⟨q, hq, rfl⟩ := List.mem_map.1 hp
      have hq2 := h q (List.mem_of_mem_take hq)
      unfold deadP at hr ⊢
      split at hr
      · rename_i hc; rw [if_pos hc]; exact hq2 hr
      · rename_i hc; rw [if_neg hc]; exact hq2 hr
theorem RawK.newline {ps : List Piece} (h : RawK ps) (t : B) : RawK (Spec.newline t ps).2 := by
  unfold Spec.newline
  simp only
  refine RawK.lay ?_ _ (fun hr => by cases hr)
  cases hl : ps.getLast? with
  | none => exact h
  | some p =>
    obtain ⟨a, rfl⟩ := List.getLast?_eq_some_iff.1 hl
    simp only
    split
    · rename_i hr
      rw [List.dropLast_concat]
      refine RawK.lay (fun q hq => h q (by simp [hq])) _ (fun _ => ?_)
      have := h p (by simp) hr
      show (p.node.setText _).kind = 10
      rw [← this]
      cases p.node; rfl
    · exact h
theorem RawK.step {ps : List Piece} (h : RawK ps) (b : Nat) (a : B → Nat) (s : B) : RawK (Spec.stepP b a s ps).2 := by
  unfold Spec.stepP
  cases s with
  | nil => exact h
  | cons c t =>
    simp only
    repeat' split
    all_goals first
      | exact h.text _ _
      | exact h.bracket _
      | exact h.newline _
      | exact h.lay _ (fun hr => by cases hr)
end Go.Proofs.YtmplfiflikhpjaaGreatDoor.Pl
