/-
  The law InlineCode: its row, and its card, out of the walk of the law. The variables that the row lists are read as the row lists them.
-/
import Derived.Test.YtmplfiflikhpjaaGreatDoorZLawCo
import Derived.Test.YtmplfiflikhpjaaGreatDoorV19
namespace Go.Proofs.YtmplfiflikhpjaaGreatDoor
open Go.ChangeShapes Go.WideShapes Go.ChangeMaps Go.ChangeAt Go.RowKit Go.Shelf Go.Lib

set_option maxRecDepth 100000 in
theorem inlineCode_tabs (w : World) (hL : laidMet Tryz.prog Rows.inlineCodeRow.laid w) : Tabs w :=
  ⟨utf8Tabs_of_reads Tryz.lays260 inline_u8 (Lib.laidMet.reads hL (by rw [← Pinned.utf8First_eq]; unfold Rows.inlineCodeRow; repeat (first | exact .head _ | refine .tail _ ?_))) (Lib.laidMet.reads hL (by rw [show acceptData = Rows.laid_unicode_utf8_acceptRanges from by kernel_rfl]; unfold Rows.inlineCodeRow; repeat (first | exact .head _ | refine .tail _ ?_)))⟩
set_option maxRecDepth 100000 in
theorem inlineCode_lifted (os : Os) (started : os.Started) (H : Type) (enc : TypeId × Value → H) :
    ReturnsInHanded {} Tryz.checked os 9 .any (fun w args => (Rows.inlineCodeSpec.pre enc Tryz.prog Tryz.f9 [] false w args ∧ laidMetH Tryz.prog Rows.inlineCodeRow.laid w) ∧ sizedMet enc Tryz.prog Tryz.f9 (OpenSpec.ofChange Rows.inlineCodeSpec) false w args)
      (Rows.inlineCodeSpec.post enc Tryz.prog Tryz.f9 false true false false) := by
  refine returnsInHanded_of_change_open (C := Tryz.checked) (X := fun w _ => laidMetH Tryz.prog Rows.inlineCodeRow.laid w) (fun _ _ _ hh h => h.of_heap hh) inline_own started (by kernel_rfl) Tryz.func9
    (ChangeSpec.witness_shaped (enc := enc) (C := Tryz.checked) (os := os) (X := fun w _ => laidMetH Tryz.prog Rows.inlineCodeRow.laid w) false (World.laidAll Tryz.prog os Rows.inlineCodeRow.laid) #[.string ⟨#[]⟩, .int .i64 0] 8 (World.laidAll_os _ _ _)
      (World.shaped_of_ZipB (by kernel_rfl) (by kernel_rfl)) (by kernel_rfl) (by kernel_rfl) (by kernel_rfl)
      (by rw [MakeChecks.laidMetH_plain _ _ _ (by kernel_rfl)]; exact laidMet_laidAll _ (by kernel_rfl) (by kernel_rfl))) ?_
  intro W base args ds gs before hso hval0 hW _ _ hL _
  have hval : ∀ (j : Nat) t v, Tryz.f9.params[j]? = some t → args[j]? = some v → Value.okWide Tryz.prog W .any base t v := hval0
  have hW' := hW
  obtain ⟨p, q, hA0, hV, rfl, _, _⟩ := hW
  have hA : DataW.TrodAll enc Tryz.prog W 0 (fun _ => true) true Tryz.f9.params.toList args.toList ds p := hA0
  rw [Tryz.params9] at hA hval
  obtain ⟨v0, v1, d0, d1, p0, p1, rfl, rfl, rfl, h0, h1⟩ := trodAll_two hA
  obtain ⟨rfl, rfl⟩ := trodVars_none hV
  obtain ⟨x0, rfl, rfl, rfl, wx0⟩ := open_string Tryz.underlying9 (hval 0 9 v0 rfl rfl) h0
  obtain ⟨x1, rfl, rfl, rfl, wx1⟩ := open_int Tryz.underlying3 (hval 1 3 v1 rfl rfl) h1
  have hx1 : -9223372036854775808 ≤ x1 ∧ x1 ≤ 9223372036854775807 := by simpa [Lit.wf, IntKind.min, IntKind.max, IntKind.signed, IntKind.bits] using wx1
  simp only [List.append_nil] at hW'
  rw [MakeChecks.laidMetH_plain _ _ _ (by kernel_rfl)] at hL
  have hT : TabsM W := ⟨inlineCode_tabs W hL, maxLen_cell W hso⟩
  refine (inlineCode_law x0 x1 W hx1.1 hx1.2 hT).mono fun e W' ⟨he, hb⟩ => ?_
  subst he
  exact ⟨_, rfl, _, _, _, [], [], [], hW', trodAll_mk1 (shut_bool Tryz.underlying4 _), trodAll_mk2 (shut_string Tryz.underlying9 wx0) (shut_int Tryz.underlying3 wx1), rfl, hb.frame _, fun h => by cases h⟩

theorem inlineCode_holds : Rows.InlineCodeSaid :=
  OpenClaim.holds_of_wide 9 Tryz.f9 rfl rfl rfl rfl rfl rfl rfl ⟨rfl, rfl, rfl, rfl, rfl⟩ rfl rfl rfl rfl rfl (by kernel_rfl) Tryz.func9 (by kernel_rfl)
    (of_decide_eq_true (by kernel_rfl)) (by unfold Func.isWrapper; first | (rw [if_pos (by decide +kernel)]; kernel_rfl) | (rw [if_neg (by decide +kernel)]; exact ⟨rfl, rfl⟩))
    (fun os started H enc _ => inlineCode_lifted os started H enc)
theorem inlineCode_card : Rows.InlineCodeCardSaid :=
  Claim7.holds_tied_plain_at .later [] Rows.inlineCodeCard.laidKinds true Rows.inlineCodeCard.stood.harness Rows.inlineCodeCard.stood.looks inlineCode_holds (fun _ h => by cases h) (by kernel_rfl) (fun _ h => by cases h) inlineCode_row_tie rfl ⟨rfl, rfl⟩ (by kernel_rfl) rfl
    (fun f fn hf hfn => by
      obtain rfl : f = 9 := Option.some.inj ((show Tryz.prog.funcNamed "rubricator/rubricatorlaw21.InlineCode" = some 9 by kernel_rfl).symm.trans hf) |>.symm
      obtain rfl : fn = Tryz.f9 := (Option.some.inj (Tryz.func9.symm.trans hfn)).symm
      exact ⟨by kernel_rfl, fun j t ht => by
        rw [Tryz.params9] at ht
        have hm : t ∈ [9, 3] := by simpa using Array.mem_of_getElem? ht
        have hall : ([9, 3].all fun u => !Tryz.prog.wantsStandIn u) = true := by kernel_rfl
        exact (show Tryz.prog.wantsStandIn t = false by simpa using List.all_eq_true.1 hall t hm)⟩)
    (by kernel_rfl)
#print axioms inlineCode_card
end Go.Proofs.YtmplfiflikhpjaaGreatDoor
