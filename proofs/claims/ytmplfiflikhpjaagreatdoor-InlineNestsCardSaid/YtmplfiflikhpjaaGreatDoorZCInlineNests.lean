/-
  The law InlineNests: its row, and its card, out of the walk of the law. The variables that the row lists are read as the row lists them.
-/
import Derived.Test.YtmplfiflikhpjaaGreatDoorZLawNe
import Derived.Test.YtmplfiflikhpjaaGreatDoorZCInts
import Derived.SizedLaws
namespace Go.Proofs.YtmplfiflikhpjaaGreatDoor
open Go.ChangeShapes Go.WideShapes Go.ChangeMaps Go.ChangeAt Go.RowKit Go.Shelf Go.Lib

set_option maxRecDepth 100000 in
theorem inlineNests_tabs (w : World) (hL : laidMet Tryz.prog Rows.inlineNestsRow.laid w) : Tabs w :=
  ⟨utf8Tabs_of_reads Tryz.lays260 inline_u8 (Lib.laidMet.reads hL (by rw [← Pinned.utf8First_eq]; unfold Rows.inlineNestsRow; repeat (first | exact .head _ | refine .tail _ ?_))) (Lib.laidMet.reads hL (by rw [show acceptData = Rows.laid_unicode_utf8_acceptRanges from by kernel_rfl]; unfold Rows.inlineNestsRow; repeat (first | exact .head _ | refine .tail _ ?_)))⟩
set_option maxRecDepth 100000 in
theorem inlineNests_lifted (os : Os) (started : os.Started) (H : Type) (enc : TypeId × Value → H) :
    ReturnsInHanded {} Tryz.checked os 3 .any (fun w args => (Rows.inlineNestsSpec.pre enc Tryz.prog Tryz.f3 [] false w args ∧ laidMetH Tryz.prog Rows.inlineNestsRow.laid w) ∧ sizedMet enc Tryz.prog Tryz.f3 (OpenSpec.ofChange Rows.inlineNestsSpec) false w args)
      (Rows.inlineNestsSpec.post enc Tryz.prog Tryz.f3 false true false false) := by
  refine returnsInHanded_of_change_open (C := Tryz.checked) (X := fun w _ => laidMetH Tryz.prog Rows.inlineNestsRow.laid w) (fun _ _ _ hh h => h.of_heap hh) inline_own started (by kernel_rfl) Tryz.func3
    (ChangeSpec.witness_shaped (enc := enc) (C := Tryz.checked) (os := os) (X := fun w _ => laidMetH Tryz.prog Rows.inlineNestsRow.laid w) false (World.laidAll Tryz.prog os Rows.inlineNestsRow.laid) #[.string ⟨#[]⟩, .slice none 0 0] 8 (World.laidAll_os _ _ _)
      (World.shaped_of_ZipB (by kernel_rfl) (by kernel_rfl)) (by kernel_rfl) (by kernel_rfl) (by kernel_rfl)
      (by rw [MakeChecks.laidMetH_plain _ _ _ (by kernel_rfl)]; exact laidMet_laidAll _ (by kernel_rfl) (by kernel_rfl))) ?_
  intro W base args ds gs before hso hval0 hW _ hsz hL _
  have hval : ∀ (j : Nat) t v, Tryz.f3.params[j]? = some t → args[j]? = some v → Value.okWide Tryz.prog W .any base t v := hval0
  have hW' := hW
  obtain ⟨p, q, hA0, hV, rfl, _, _⟩ := hW
  have hA : DataW.TrodAll enc Tryz.prog W 0 (fun _ => true) true Tryz.f3.params.toList args.toList ds p := hA0
  rw [Tryz.params3] at hA hval
  obtain ⟨v0, v1, d0, d1, p0, p1, rfl, rfl, rfl, h0, h1⟩ := trodAll_two hA
  obtain ⟨rfl, rfl⟩ := trodVars_none hV
  obtain ⟨x0, rfl, rfl, rfl, wx0⟩ := open_string Tryz.underlying9 (hval 0 9 v0 rfl rfl) h0
  have hr0 : x0.size ≤ 140737488351232 := by
    have h := sized_string hsz (j := 0) (t := 9) (bytes := x0.data.toList) (by rw [Tryz.params3]; rfl) rfl
    have e : x0.size = x0.data.toList.length := Lib.size_eq x0
    unfold reachBytes at h
    omega
  obtain ⟨a1, len1, cap1, rfl⟩ := okWide_slice Tryz.underlying22 (hval 1 22 v1 rfl rfl)
  obtain ⟨zs1, hzs1, hzl1, hzb1⟩ := ints_arg h1
  simp only [List.append_nil] at hW'
  rw [MakeChecks.laidMetH_plain _ _ _ (by kernel_rfl)] at hL
  have hT : TabsM W := ⟨inlineNests_tabs W hL, maxLen_cell W hso⟩
  refine (inlineNests_law x0 _ zs1 W hr0 hzs1 hT hzl1).mono fun e W' ⟨he, hb⟩ => ?_
  subst he
  exact ⟨_, rfl, _, _, _, [], _, [], hW', trodAll_mk1 (shut_bool Tryz.underlying4 _), trodAll_mk2 (shut_string Tryz.underlying9 wx0) (hzb1 W' hb), rfl, hb.frame _, fun h => by cases h⟩

theorem inlineNests_holds : Rows.InlineNestsSaid :=
  OpenClaim.holds_of_wide 3 Tryz.f3 rfl rfl rfl rfl rfl rfl rfl ⟨rfl, rfl, rfl, rfl, rfl⟩ rfl rfl rfl rfl rfl (by kernel_rfl) Tryz.func3 (by kernel_rfl)
    (of_decide_eq_true (by kernel_rfl)) (by unfold Func.isWrapper; first | (rw [if_pos (by decide +kernel)]; kernel_rfl) | (rw [if_neg (by decide +kernel)]; exact ⟨rfl, rfl⟩))
    (fun os started H enc _ => inlineNests_lifted os started H enc)
theorem inlineNests_card : Rows.InlineNestsCardSaid :=
  Claim7.holds_tied_plain_at .later [] Rows.inlineNestsCard.laidKinds true Rows.inlineNestsCard.stood.harness Rows.inlineNestsCard.stood.looks inlineNests_holds (fun _ h => by cases h) (by kernel_rfl) (fun _ h => by cases h) inlineNests_row_tie rfl ⟨rfl, rfl⟩ (by kernel_rfl) rfl
    (fun f fn hf hfn => by
      obtain rfl : f = 3 := Option.some.inj ((show Tryz.prog.funcNamed "rubricator/rubricatorlaw21.InlineNests" = some 3 by kernel_rfl).symm.trans hf) |>.symm
      obtain rfl : fn = Tryz.f3 := (Option.some.inj (Tryz.func3.symm.trans hfn)).symm
      exact ⟨by kernel_rfl, fun j t ht => by
        rw [Tryz.params3] at ht
        have hm : t ∈ [9, 22] := by simpa using Array.mem_of_getElem? ht
        have hall : ([9, 22].all fun u => !Tryz.prog.wantsStandIn u) = true := by kernel_rfl
        exact (show Tryz.prog.wantsStandIn t = false by simpa using List.all_eq_true.1 hall t hm)⟩)
    (by kernel_rfl)
#print axioms inlineNests_card
end Go.Proofs.YtmplfiflikhpjaaGreatDoor
