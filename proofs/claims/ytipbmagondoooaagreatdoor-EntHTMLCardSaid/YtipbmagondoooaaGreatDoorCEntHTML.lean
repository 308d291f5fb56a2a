/-
  The law EntHTML: its row, and its card, out of the walk of the law. The variables that the row lists are read as the row lists them.
-/
import Derived.Test.YtipbmagondoooaaGreatDoorLawHt
import Derived.Test.YtipbmagondoooaaGreatDoorTie
import Derived.Test.YtipbmagondoooaaGreatDoorCards
import Derived.ProofKit
import Derived.PinnedBridge
import Derived.Lay
import Derived.LaidOnce
import Derived.SevenTiedAt
import Derived.Lib.LaidU8
namespace Go.Proofs.YtipbmagondoooaaGreatDoor
open Go.ChangeShapes Go.WideShapes Go.ChangeMaps Go.ChangeAt Go.RowKit Go.Shelf Go.Lib

theorem entHTML_own : ownKnob Tryz.prog.godebug = none := by kernel_rfl
theorem entHTML_u8 : U8Extra Tryz.prog Tryz.lays260_ren := ⟨by kernel_rfl, by kernel_rfl, by kernel_rfl, by kernel_rfl, by kernel_rfl, by kernel_rfl, by kernel_rfl⟩
set_option maxRecDepth 100000 in
theorem entHTML_tabs (w : World) (hL : laidMet Tryz.prog Rows.entHTMLRow.laid w) : Tabs w :=
  ⟨utf8Tabs_of_reads Tryz.lays260 entHTML_u8 (Lib.laidMet.reads hL (by rw [← Pinned.utf8First_eq]; unfold Rows.entHTMLRow; repeat (first | exact .head _ | refine .tail _ ?_))) (Lib.laidMet.reads hL (by rw [show acceptData = Rows.laid_unicode_utf8_acceptRanges from by kernel_rfl]; unfold Rows.entHTMLRow; repeat (first | exact .head _ | refine .tail _ ?_)))⟩
set_option maxRecDepth 100000 in
theorem entHTML_lifted (os : Os) (started : os.Started) (H : Type) (enc : TypeId × Value → H) :
    ReturnsInHanded {} Tryz.checked os 3 .any (fun w args => (Rows.entHTMLSpec.pre enc Tryz.prog Tryz.f3 [] false w args ∧ laidMetH Tryz.prog Rows.entHTMLRow.laid w) ∧ sizedMet enc Tryz.prog Tryz.f3 (OpenSpec.ofChange Rows.entHTMLSpec) false w args)
      (Rows.entHTMLSpec.post enc Tryz.prog Tryz.f3 false true false false) := by
  refine returnsInHanded_of_change_and (C := Tryz.checked) (X := fun w _ => laidMetH Tryz.prog Rows.entHTMLRow.laid w) (fun _ _ _ hh h => h.of_heap hh) entHTML_own started (by kernel_rfl) Tryz.func3
    (ChangeSpec.witness_shaped (enc := enc) (C := Tryz.checked) (os := os) (X := fun w _ => laidMetH Tryz.prog Rows.entHTMLRow.laid w) false (World.laidAll Tryz.prog os Rows.entHTMLRow.laid) #[.string ⟨#[]⟩] 8 (World.laidAll_os _ _ _)
      (World.shaped_of_ZipB (by kernel_rfl) (by kernel_rfl)) (by kernel_rfl) (by kernel_rfl) (by kernel_rfl)
      (by rw [MakeChecks.laidMetH_plain _ _ _ (by kernel_rfl)]; exact laidMet_laidAll _ (by kernel_rfl) (by kernel_rfl))) ?_
  intro W base args ds gs before hval0 hW _ _ hL _
  have hval : ∀ (j : Nat) t v, Tryz.f3.params[j]? = some t → args[j]? = some v → Value.okWide Tryz.prog W .any base t v := hval0
  have hW' := hW
  obtain ⟨p, q, hA0, hV, rfl, _, _⟩ := hW
  have hA : DataW.TrodAll enc Tryz.prog W 0 (fun _ => true) true Tryz.f3.params.toList args.toList ds p := hA0
  rw [Tryz.params3] at hA hval
  obtain ⟨v0, d0, rfl, rfl, h0⟩ := trodAll_one hA
  obtain ⟨rfl, rfl⟩ := trodVars_none hV
  obtain ⟨x0, rfl, rfl, rfl, wx0⟩ := open_string Tryz.underlying9 (hval 0 9 v0 rfl rfl) h0
  simp only [List.append_nil] at hW'
  rw [MakeChecks.laidMetH_plain _ _ _ (by kernel_rfl)] at hL
  have hT := entHTML_tabs W hL
  refine (entHTML_law x0 W  hT).mono fun e W' ⟨he, hb⟩ => ?_
  subst he
  exact ⟨_, rfl, _, _, _, [], [], [], hW', trodAll_mk1 (shut_bool Tryz.underlying4 _), trodAll_mk1 (shut_string Tryz.underlying9 wx0), rfl, hb.frame _, fun h => by cases h⟩

theorem entHTML_holds : Rows.EntHTMLSaid :=
  OpenClaim.holds_of_wide 3 Tryz.f3 rfl rfl rfl rfl rfl rfl rfl ⟨rfl, rfl, rfl, rfl, rfl⟩ rfl rfl rfl rfl rfl (by kernel_rfl) Tryz.func3 (by kernel_rfl)
    (of_decide_eq_true (by kernel_rfl)) (by unfold Func.isWrapper; first | (rw [if_pos (by decide +kernel)]; kernel_rfl) | (rw [if_neg (by decide +kernel)]; exact ⟨rfl, rfl⟩))
    (fun os started H enc _ => entHTML_lifted os started H enc)
theorem entHTML_card : Rows.EntHTMLCardSaid :=
  Claim7.holds_tied_plain_at .later [] Rows.entHTMLCard.laidKinds true Rows.entHTMLCard.stood.harness Rows.entHTMLCard.stood.looks entHTML_holds (fun _ h => by cases h) (by kernel_rfl) (fun _ h => by cases h) entHTML_row_tie rfl ⟨rfl, rfl⟩ (by kernel_rfl) rfl
    (fun f fn hf hfn => by
      obtain rfl : f = 3 := Option.some.inj ((show Tryz.prog.funcNamed "rubricator/rubricatorlaw9.EntHTML" = some 3 by kernel_rfl).symm.trans hf) |>.symm
      obtain rfl : fn = Tryz.f3 := (Option.some.inj (Tryz.func3.symm.trans hfn)).symm
      exact ⟨by kernel_rfl, fun j t ht => by
        rw [Tryz.params3] at ht
        have hm : t ∈ [9] := by simpa using Array.mem_of_getElem? ht
        have hall : ([9].all fun u => !Tryz.prog.wantsStandIn u) = true := by kernel_rfl
        exact (show Tryz.prog.wantsStandIn t = false by simpa using List.all_eq_true.1 hall t hm)⟩)
    (by kernel_rfl)
#print axioms entHTML_card
end Go.Proofs.YtipbmagondoooaaGreatDoor
