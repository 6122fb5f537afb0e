/-
  The closed facts of the given row of laws.FnExactDeskWords (its cells are what the kernel reckons from the program), each as a theorem of its own, for memory's sake. Conditions: none.
-/
import Derived.Test.YtolddlfkagbggaaGreatDoorRows
import Derived.JoinedOf
import GoSem.ClaimSeven
namespace Go.Proofs.YtolddlfkagbggaaGreatDoor

theorem fact1 : (Rows.fnExactDeskWordsRow.wf (OpenSpec.ofChange Rows.fnExactDeskWordsSpec) : Bool) = true := by kernel_rfl
theorem fact2 : (laidOutB Tryz.pinned.checked.prog : Bool) = true := by kernel_rfl
theorem fact3 : (mapsRowed Tryz.pinned.checked.prog : Bool) = true := by kernel_rfl
theorem fact4 : (Tryz.f3.params.all (Tryz.pinned.checked.prog.readableRec ·) : Bool) = true := by kernel_rfl
theorem fact5 : (namedTie Tryz.pinned.checked.prog Rows.fnExactDeskWordsRow.named Rows.fnExactDeskWordsSpec.vars : Bool) = true := by kernel_rfl
theorem fact6 : ((Rows.fnExactDeskWordsRow.stops == []) : Bool) = true := by kernel_rfl
theorem fact7 : ((Tryz.pinned.checked.prog.stops == []) : Bool) = true := by kernel_rfl
theorem fact8 : ((Rows.fnExactDeskWordsRow.knobs == []) : Bool) = true := by kernel_rfl
theorem fact9 : ((Tryz.pinned.checked.prog.stopKnobs == []) : Bool) = true := by kernel_rfl
theorem fact10 : ((Rows.fnExactDeskWordsRow.inPlace == Tryz.pinned.checked.prog.inPlace 3) : Bool) = true := by kernel_rfl
theorem fact11 : ((Rows.fnExactDeskWordsRow.unfollowed == Tryz.pinned.checked.prog.unfollowed 3) : Bool) = true := by kernel_rfl
theorem fact12 : ((Rows.fnExactDeskWordsRow.recurses == Tryz.pinned.checked.prog.recurses 3) : Bool) = true := by kernel_rfl
theorem fact13 : ((Rows.fnExactDeskWordsRow.named == Tryz.pinned.checked.prog.varsNamed 3) : Bool) = true := by kernel_rfl
theorem fact14 : ((Rows.fnExactDeskWordsRow.maps == (Tryz.f3.params.toList ++ Rows.fnExactDeskWordsSpec.plain.varTypes Tryz.pinned.checked.prog).any (Tryz.pinned.checked.prog.mapsRec ·)) : Bool) = true := by kernel_rfl
theorem fact15 : ((Rows.fnExactDeskWordsRow.ifaces == (Tryz.f3.params.toList ++ Rows.fnExactDeskWordsSpec.plain.varTypes Tryz.pinned.checked.prog).any (Tryz.pinned.checked.prog.ifacesRec ·)) : Bool) = true := by kernel_rfl
theorem fact16 : ((Rows.fnExactDeskWordsRow.mapsOut == Tryz.pinned.checked.prog.mapsAmong Tryz.f3.resultTypes.toList) : Bool) = true := by kernel_rfl
theorem fact17 : ((Rows.fnExactDeskWordsRow.loops == (Tryz.f3.params.toList ++ Rows.fnExactDeskWordsSpec.plain.varTypes Tryz.pinned.checked.prog).any (Tryz.pinned.checked.prog.loopsFrom ·)) : Bool) = true := by kernel_rfl
theorem fact18 : ((Rows.fnExactDeskWordsRow.wideKeys == (Tryz.f3.params.toList ++ Rows.fnExactDeskWordsSpec.plain.varTypes Tryz.pinned.checked.prog ++ Tryz.f3.resultTypes.toList).any (Tryz.pinned.checked.prog.wideKeysFrom ·)) : Bool) = true := by kernel_rfl
theorem fact19 : (Rows.fnExactDeskWordsSpec.vars.all (Tryz.pinned.checked.prog.varReadable ·) : Bool) = true := by kernel_rfl
theorem fact20 : (Tryz.f3.resultTypes.all (fun t => Tryz.pinned.checked.prog.readableRec t && decide (t < Tryz.pinned.checked.prog.types.size)) : Bool) = true := by kernel_rfl
theorem fact21 : ((Rows.fnExactDeskWordsRow.ifacesOut == Tryz.f3.resultTypes.toList.any (Tryz.pinned.checked.prog.ifacesRec ·)) : Bool) = true := by kernel_rfl
theorem fact22 : ((Rows.fnExactDeskWordsRow.loopsOut == Tryz.f3.resultTypes.toList.any (Tryz.pinned.checked.prog.loopsFrom ·)) : Bool) = true := by kernel_rfl
theorem fact23 : ((Rows.fnExactDeskWordsRow.plainKeys == Tryz.pinned.checked.prog.plainKeys) : Bool) = true := by kernel_rfl
theorem fact24 : (Rows.fnExactDeskWordsRow.shortTexts.isNone : Bool) = true := by kernel_rfl
theorem fact25 : (Tryz.pinned.checked.prog.stopsHeard : Bool) = true := by kernel_rfl
theorem fact26 : (Tryz.pinned.checked.prog.mayEnter : Bool) = true := by kernel_rfl
theorem fact27 : ((Rows.fnExactDeskWordsRow.lifted == Tryz.pinned.checked.prog.liftsFinal) : Bool) = true := by kernel_rfl
theorem fact28 : ((Tryz.pinned.checked.prog.make == some Rows.fnExactDeskWordsRow.make) : Bool) = true := by kernel_rfl
theorem fact29 : ((Rows.fnExactDeskWordsRow.kinds == (if Rows.fnExactDeskWordsRow.domain.isEmpty then [] else Tryz.f3.params.toList.map fun t => match Tryz.pinned.checked.prog.underlying t with | some (.int k) => some k | _ => none)) : Bool) = true := by kernel_rfl
theorem fact30 : ((Rows.fnExactDeskWordsRow.pinned == Rows.fnExactDeskWordsRow.pinnedBy) : Bool) = true := by kernel_rfl
theorem fact31 : ((Rows.fnExactDeskWordsRow.veiled == (Tryz.f3.params.toList ++ Rows.fnExactDeskWordsSpec.plain.varTypes Tryz.pinned.checked.prog ++ Tryz.f3.resultTypes.toList).any (Tryz.pinned.checked.prog.veiledRec ·)) : Bool) = true := by kernel_rfl
theorem fact32 : (Rows.fnExactDeskWordsRow.veiledFits Tryz.pinned.checked.prog Tryz.f3.params.toList (Tryz.f3.params.toList ++ Rows.fnExactDeskWordsSpec.plain.varTypes Tryz.pinned.checked.prog ++ Tryz.f3.resultTypes.toList) : Bool) = true := by kernel_rfl
theorem both {a b : Bool} (ha : a = true) (hb : b = true) : (a && b) = true := by rw [ha, hb]; rfl
set_option maxRecDepth 100000 in
theorem row_facts : joinedFacts Tryz.pinned.checked.prog 3 Tryz.f3 Rows.fnExactDeskWordsSpec Rows.fnExactDeskWordsRow = true := by
  unfold joinedFacts
  exact (both (both (both (both (both (both (both (both (both (both (both (both (both (both (both (both (both (both (both (both (both (both (both (both (both (both (both (both (both (both (both fact1 fact2) fact3) fact4) fact5) fact6) fact7) fact8) fact9) fact10) fact11) fact12) fact13) fact14) fact15) fact16) fact17) fact18) fact19) fact20) fact21) fact22) fact23) fact24) fact25) fact26) fact27) fact28) fact29) fact30) fact31) fact32)
theorem goes_fact : (true : Bool) = Rows.fnExactDeskWordsRow.goesBy Tryz.pinned.checked.prog := by kernel_rfl
theorem looks_fact : (true : Bool) = Tryz.pinned.checked.prog.looks [] := by kernel_rfl
theorem main_fact : Tryz.pinned.checked.prog.mainIs = some (true, "b3834842f4583a18bda37c55d736f2bd18f65dd4f6c03fb00f31a36b6ce7de88".toList) := by kernel_rfl
theorem text_fact : Rows.fnExactDeskWordsRow.wfByText (OpenSpec.ofChange Rows.fnExactDeskWordsSpec) = true := by kernel_rfl
theorem wrap_fact : Tryz.f3.isWrapper Tryz.pinned.checked.prog Rows.fnExactDeskWordsRow.wrapper Rows.fnExactDeskWordsRow.mainSum := by
  unfold Func.isWrapper
  rw [if_neg (of_decide_eq_false (by kernel_rfl))]
  exact ⟨rfl, rfl⟩
theorem inst_fact : Tryz.f3.isInstance Tryz.pinned.checked.prog Rows.fnExactDeskWordsRow.origin Rows.fnExactDeskWordsRow.targs := of_decide_eq_true (by kernel_rfl)
theorem named_fact : Tryz.pinned.checked.prog.funcNamed Rows.fnExactDeskWordsRow.func = some 3 := by kernel_rfl

end Go.Proofs.YtolddlfkagbggaaGreatDoor
