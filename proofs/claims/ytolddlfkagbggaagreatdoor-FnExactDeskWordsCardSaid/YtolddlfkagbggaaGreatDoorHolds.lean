/-
  The card of laws.FnExactDeskWords holds: from every start the function returns true, without a data race, nobody is left behind, and what was there before is as it was; the listed package variables are tied to the program's text by the given tie. Conditions: none of our own.
-/
import Derived.Test.YtolddlfkagbggaaGreatDoorDesk
import Derived.Test.YtolddlfkagbggaaGreatDoorShelf
import Derived.Test.YtolddlfkagbggaaGreatDoorFacts
import Derived.Test.YtolddlfkagbggaaGreatDoorCards
import Derived.Test.YtolddlfkagbggaaGreatDoorTie
import Derived.ProofKit
import Derived.OpenShut
import Derived.LaidMore
import Derived.Lay
import Derived.OpenVars
import Derived.SevenTiedAt
import Derived.Stop.Joined
import Derived.Conc.Holds
namespace Go.Proofs.YtolddlfkagbggaaGreatDoor
open Go.ChangeShapes Go.WideShapes Go.ChangeAt Go.RowKit

theorem laidOut : laidOutB Tryz.prog = true := by kernel_rfl
theorem desk_own : ownKnob Tryz.prog.godebug = none := by kernel_rfl

/-- A call that was alone at its return leaves nobody behind. -/
theorem leaving_of_handed {a : Assume} {C : Checked} {os : Os} {f : FuncId} {r : Reach} {Pre : World → Array Value → Prop} {Post : World → Array Value → Value → World → Prop}
    (h : ReturnsInHanded a C os f r Pre Post) : ReturnsInLeavingWide a C os f r Pre Post := fun e =>
  ReturnsInOpen.mono (fun m w t x => ⟨x.2.1, ⟨fun g hg => ⟨0, by
    have h1 := x.1.1
    unfold Machine.othersDone at h1
    exact eq_of_beq (List.all_eq_true.1 h1 g hg)⟩, x.1.2⟩, x.2.2⟩) (fun _ x => x) (h e)

set_option maxRecDepth 100000 in
theorem lifted (hsort : SortStrings) (os : Os) (started : os.Started) (H : Type) (enc : TypeId × Value → H) :
    ReturnsInHanded {} Tryz.checked os 3 .any (fun w args => (Rows.fnExactDeskWordsSpec.pre enc Tryz.prog Tryz.f3 Rows.fnExactDeskWordsRow.domain false w args ∧ laidMetH Tryz.prog Rows.fnExactDeskWordsRow.laid w) ∧ sizedMet enc Tryz.prog Tryz.f3 (OpenSpec.ofChange Rows.fnExactDeskWordsSpec) false w args)
      (Rows.fnExactDeskWordsSpec.post enc Tryz.prog Tryz.f3 false true false false) := by
  refine returnsInHanded_of_change_and (C := Tryz.checked) (X := fun w _ => laidMetH Tryz.prog Rows.fnExactDeskWordsRow.laid w) (fun _ _ _ hh h => h.of_heap hh) desk_own started (by kernel_rfl) Tryz.func3
    (ChangeSpec.witness_shaped (enc := enc) (C := Tryz.checked) (os := os) (X := fun w _ => laidMetH Tryz.prog Rows.fnExactDeskWordsRow.laid w) false (World.laidAll Tryz.prog os Rows.fnExactDeskWordsRow.laid) #[] 8 (World.laidAll_os _ _ _)
      (World.shaped_of_ZipB (by kernel_rfl) (by kernel_rfl)) (by kernel_rfl) (by kernel_rfl) (by kernel_rfl)
      (by rw [MakeChecks.laidMetH_plain _ _ _ (by kernel_rfl)]; exact laidMet_laidAll _ (by kernel_rfl) (by kernel_rfl))) ?_
  intro W base args ds gs before hval0 hW hc _ hL _
  have hW' := hW
  obtain ⟨p, q, hA0, hV, rfl, _, _⟩ := hW
  have hA : DataW.TrodAll enc Tryz.prog W 0 (fun _ => true) true Tryz.f3.params.toList args.toList ds p := hA0
  obtain ⟨rfl, rfl, rfl⟩ := trodAll_none hA
  obtain ⟨g1, hg1⟩ : ∃ g1, gs = [g1] := by obtain ⟨_, _, _, _, d, _, h, _⟩ := trodVars_one hV; exact ⟨d, h⟩
  subst hg1
  simp only [List.nil_append] at hW'
  refine (law_any hsort W).mono fun e W' ⟨he, hb⟩ => ?_
  subst he
  exact ⟨_, rfl, _, _, _, [], [], q, hW', trodAll_mk1 (shut_bool Tryz.underlying4 _), trodAll_mk0, hb.trodVars laidOut (by kernel_rfl) hV, hb.frame _, fun h => by cases h⟩

theorem sortStrings : SortStrings := fun blk off cap ss w hH hb hl => Any.slices_Sort_string Tryz.lays190 blk off cap ss w hH hb hl

theorem row_holds : Rows.FnExactDeskWordsSaid :=
  OpenClaim.holds_of_wide_leaving 3 Tryz.f3 rfl rfl rfl rfl rfl rfl rfl ⟨rfl, rfl, rfl, rfl, rfl⟩ rfl rfl rfl rfl rfl named_fact Tryz.func3 row_facts inst_fact wrap_fact
    (fun os started H enc _ => leaving_of_handed (lifted sortStrings os started H enc))

/-- A tied card whose cut holds go statements. -/
theorem tied_goes (Lk : Looks) {p : Pinned} {s : OpenSpec} {c : OpenClaim} (kinds : List LaidKind) (tests : Bool) (har : Bool × String) (lk : Bool)
    (hc : c.holds p s) (hw : c.wfByText s = true) (htie : c.laidByTextAt Lk p kinds tests)
    (hst : c.start = .entering) (hnb : c.noBlocks = false ∧ c.again = false) (hm : p.checked.prog.mainIs = some (har.1, har.2.toList)) (hn : (!har.1 && har.2.isEmpty && !lk) = false)
    (hl : ∀ f fn, p.checked.prog.funcNamed c.func = some f → p.checked.prog.funcs[f]? = some fn → lk = p.checked.prog.looks [] ∧ ∀ (j : Nat) t, fn.params[j]? = some t → p.checked.prog.wantsStandIn t = false)
    (hg : true = c.goesBy p.checked.prog) :
    Claim7.holds p (.plain s) { stood := { row := c, standIns := [], harness := har, looks := lk }, kinds := [], alts := [], goes := true, laidByText := true, laidKinds := kinds, laidTests := tests, laidLooks := Lk } := by
  have h6 : Claim7.isSixth { stood := { row := c, standIns := [], harness := har, looks := lk }, kinds := [] } = false := by simpa [Claim7.isSixth] using hn
  exact ⟨Claim7.tied_new_at Lk kinds tests (Claim7.new_of_sixth hc har lk hst hnb hm h6 hl) hw, (fun D hD => by cases hD), htie, (fun h => by cases h), hg⟩

theorem card_holds : Rows.FnExactDeskWordsCardSaid :=
  tied_goes .later _ true _ true row_holds text_fact fnExactDeskWords_row_tie rfl ⟨rfl, rfl⟩ main_fact rfl
    (fun f fn hf hfn => by
      obtain rfl : f = 3 := Option.some.inj (named_fact.symm.trans hf) |>.symm
      obtain rfl : fn = Tryz.f3 := (Option.some.inj (Tryz.func3.symm.trans hfn)).symm
      exact ⟨looks_fact, fun j t ht => by
        rw [Tryz.params3] at ht
        simp at ht⟩)
    goes_fact
end Go.Proofs.YtolddlfkagbggaaGreatDoor
