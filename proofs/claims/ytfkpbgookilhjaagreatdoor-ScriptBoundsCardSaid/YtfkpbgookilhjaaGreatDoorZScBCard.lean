/-
  Whatever the input, clevislaw26.ScriptBounds returns true, and each of its arguments reads behind the call as it read before; the listed variables of Go's library hold what the program's text lays.
-/
import Derived.Test.YtfkpbgookilhjaaGreatDoorZScBl
import Derived.Test.YtfkpbgookilhjaaGreatDoorZOpenH
import Derived.Test.YtfkpbgookilhjaaGreatDoorZOpen
import Derived.Test.YtfkpbgookilhjaaGreatDoorTie
import Derived.Test.YtfkpbgookilhjaaGreatDoorCards
import Derived.ProofKit
import Derived.LaidMore
import Derived.OpenShut
import Derived.Stop.Joined
import Derived.SevenTiedAt
namespace Go.Proofs.YtfkpbgookilhjaaGreatDoor.scriptBounds
set_option linter.unusedSimpArgs false
set_option linter.unusedVariables false
open Go.ChangeShapes Go.WideShapes Go.ChangeAt Go.RowKit
open Go.ChangeMaps (open_string shut_string)

theorem band {a b : Bool} (ha : a = true) (hb : b = true) : (a && b) = true := by rw [ha, hb]; rfl
theorem q0 : (Rows.scriptBoundsRow.wf (OpenSpec.ofChange Rows.scriptBoundsSpec)) = true := by kernel_rfl
theorem q1 : (laidOutB Tryz.prog) = true := by kernel_rfl
theorem q2 : (mapsRowed Tryz.prog) = true := by kernel_rfl
theorem q3 : (Tryz.f4.params.all (Tryz.prog.readableRec ·)) = true := by kernel_rfl
theorem q4 : (namedTie Tryz.prog Rows.scriptBoundsRow.named Rows.scriptBoundsSpec.vars) = true := by kernel_rfl
theorem q5 : ((Rows.scriptBoundsRow.stops == [])) = true := by kernel_rfl
theorem q6 : ((Tryz.prog.stops == [])) = true := by kernel_rfl
theorem q7 : ((Rows.scriptBoundsRow.knobs == [])) = true := by kernel_rfl
theorem q8 : ((Tryz.prog.stopKnobs == [])) = true := by kernel_rfl
theorem q9 : ((Rows.scriptBoundsRow.inPlace == Tryz.prog.inPlace 4)) = true := by kernel_rfl
theorem q10 : ((Rows.scriptBoundsRow.unfollowed == Tryz.prog.unfollowed 4)) = true := by kernel_rfl
theorem q11 : ((Rows.scriptBoundsRow.recurses == Tryz.prog.recurses 4)) = true := by kernel_rfl
theorem q12 : ((Rows.scriptBoundsRow.named == Tryz.prog.varsNamed 4)) = true := by kernel_rfl
theorem q13 : ((Rows.scriptBoundsRow.maps == (Tryz.f4.params.toList ++ Rows.scriptBoundsSpec.plain.varTypes Tryz.prog).any (Tryz.prog.mapsRec ·))) = true := by kernel_rfl
theorem q14 : ((Rows.scriptBoundsRow.ifaces == (Tryz.f4.params.toList ++ Rows.scriptBoundsSpec.plain.varTypes Tryz.prog).any (Tryz.prog.ifacesRec ·))) = true := by kernel_rfl
theorem q15 : ((Rows.scriptBoundsRow.mapsOut == Tryz.prog.mapsAmong Tryz.f4.resultTypes.toList)) = true := by kernel_rfl
theorem q16 : ((Rows.scriptBoundsRow.loops == (Tryz.f4.params.toList ++ Rows.scriptBoundsSpec.plain.varTypes Tryz.prog).any (Tryz.prog.loopsFrom ·))) = true := by kernel_rfl
theorem q17 : ((Rows.scriptBoundsRow.wideKeys == (Tryz.f4.params.toList ++ Rows.scriptBoundsSpec.plain.varTypes Tryz.prog ++ Tryz.f4.resultTypes.toList).any (Tryz.prog.wideKeysFrom ·))) = true := by kernel_rfl
theorem q18 : (Rows.scriptBoundsSpec.vars.all (Tryz.prog.varReadable ·)) = true := by kernel_rfl
theorem q19 : (Tryz.f4.resultTypes.all (fun t => Tryz.prog.readableRec t && decide (t < Tryz.prog.types.size))) = true := by kernel_rfl
theorem q20 : ((Rows.scriptBoundsRow.ifacesOut == Tryz.f4.resultTypes.toList.any (Tryz.prog.ifacesRec ·))) = true := by kernel_rfl
theorem q21 : ((Rows.scriptBoundsRow.loopsOut == Tryz.f4.resultTypes.toList.any (Tryz.prog.loopsFrom ·))) = true := by kernel_rfl
theorem q22 : ((Rows.scriptBoundsRow.plainKeys == Tryz.prog.plainKeys)) = true := by kernel_rfl
theorem q23 : (Rows.scriptBoundsRow.shortTexts.isNone) = true := by kernel_rfl
theorem q24 : (Tryz.prog.stopsHeard) = true := by kernel_rfl
theorem q25 : (Tryz.prog.mayEnter) = true := by kernel_rfl
theorem q26 : ((Rows.scriptBoundsRow.lifted == Tryz.prog.liftsFinal)) = true := by kernel_rfl
theorem q27 : ((Tryz.prog.make == some Rows.scriptBoundsRow.make)) = true := by kernel_rfl
theorem q28 : ((Rows.scriptBoundsRow.kinds == (if Rows.scriptBoundsRow.domain.isEmpty then [] else Tryz.f4.params.toList.map fun t => match Tryz.prog.underlying t with | some (.int k) => some k | _ => none))) = true := by kernel_rfl
theorem q29 : ((Rows.scriptBoundsRow.pinned == Rows.scriptBoundsRow.pinnedBy)) = true := by kernel_rfl
theorem q30 : ((Rows.scriptBoundsRow.veiled == (Tryz.f4.params.toList ++ Rows.scriptBoundsSpec.plain.varTypes Tryz.prog ++ Tryz.f4.resultTypes.toList).any (Tryz.prog.veiledRec ·))) = true := by kernel_rfl
theorem q31 : (Rows.scriptBoundsRow.veiledFits Tryz.prog Tryz.f4.params.toList (Tryz.f4.params.toList ++ Rows.scriptBoundsSpec.plain.varTypes Tryz.prog ++ Tryz.f4.resultTypes.toList)) = true := by kernel_rfl
set_option maxRecDepth 100000 in
theorem closed : joinedFacts Tryz.prog 4 Tryz.f4 Rows.scriptBoundsSpec Rows.scriptBoundsRow = true := by
  unfold joinedFacts
  exact (band (band (band (band (band (band (band (band (band (band (band (band (band (band (band (band (band (band (band (band (band (band (band (band (band (band (band (band (band (band (band q0 q1) q2) q3) q4) q5) q6) q7) q8) q9) q10) q11) q12) q13) q14) q15) q16) q17) q18) q19) q20) q21) q22) q23) q24) q25) q26) q27) q28) q29) q30) q31)
theorem named : Tryz.prog.funcNamed "clevis/clevislaw26.ScriptBounds" = some 4 := by kernel_rfl
theorem inst : Tryz.f4.isInstance Tryz.prog Rows.scriptBoundsRow.origin Rows.scriptBoundsRow.targs := of_decide_eq_true (by kernel_rfl)
theorem wrap : Tryz.f4.isWrapper Tryz.prog Rows.scriptBoundsRow.wrapper Rows.scriptBoundsRow.mainSum := by unfold Func.isWrapper; first | (rw [if_pos (by decide +kernel)]; kernel_rfl) | (rw [if_neg (by decide +kernel)]; exact ⟨rfl, rfl⟩)
theorem wft : Rows.scriptBoundsRow.wfByText (OpenSpec.ofChange Rows.scriptBoundsSpec) = true := by kernel_rfl
theorem looks : true = Tryz.prog.looks [] := by kernel_rfl
theorem goesNo (P : Program) (h : P.funcs.any Func.goes = false) (f : FuncId) : P.goes f = false := by
  unfold Program.goes
  rw [h, Bool.and_false, Bool.or_false]
  rw [List.any_eq_false]
  intro g _ hg
  cases hq : P.funcs[g]? with
  | none => rw [hq] at hg; cases hg
  | some fn =>
    rw [hq] at hg
    have h1 := Array.any_eq_false.1 h g (Array.getElem?_eq_some_iff.1 hq).1
    rw [(Array.getElem?_eq_some_iff.1 hq).2] at h1
    exact h1 hg
theorem noGo : Tryz.prog.funcs.any Func.goes = false := by kernel_rfl
theorem goes : false = Rows.scriptBoundsRow.goesBy Tryz.prog := by
  have h : Tryz.prog.goesFrom "clevis/clevislaw26.ScriptBounds" = false := by unfold Program.goesFrom; rw [named, Option.any_some]; exact goesNo Tryz.prog noGo 4
  show false = (Tryz.prog.goesFrom "clevis/clevislaw26.ScriptBounds" || false)
  rw [h]; rfl
theorem mainIs : Tryz.prog.mainIs = some (true, ("35bd0de36451d3e66ee9f48b0f08ee93d341ee92d60f80b2858adfc862cc7bf1" : String).toList) := by kernel_rfl
theorem laidOut : laidOutB Tryz.prog = true := q1
theorem own : ownKnob Tryz.prog.godebug = none := by kernel_rfl

set_option maxRecDepth 100000 in
theorem lifted (os : Os) (started : os.Started) (H : Type) (enc : TypeId × Value → H) :
    ReturnsInHanded {} Tryz.checked os 4 .any (fun w args => (Rows.scriptBoundsSpec.pre enc Tryz.prog Tryz.f4 [] false w args ∧ laidMetH Tryz.prog [("errors.errorType", Rows.laid_errors_errorType)] w) ∧ sizedMet enc Tryz.prog Tryz.f4 (OpenSpec.ofChange Rows.scriptBoundsSpec) false w args)
      (Rows.scriptBoundsSpec.post enc Tryz.prog Tryz.f4 false true false false) := by
  refine returnsInHanded_of_change_and (C := Tryz.checked) (X := fun w _ => laidMetH Tryz.prog [("errors.errorType", Rows.laid_errors_errorType)] w) (fun _ _ _ hh h => h.of_heap hh) own started (by kernel_rfl) Tryz.func4
    (ChangeSpec.witness_at (enc := enc) (C := Tryz.checked) (os := os) (X := fun w _ => laidMetH Tryz.prog [("errors.errorType", Rows.laid_errors_errorType)] w) false (laidWorld os) #[] 8 rfl (by kernel_rfl) (by kernel_rfl) (by kernel_rfl) (by kernel_rfl) (by kernel_rfl) (laidWorld_met os _)) ?_
  intro W base args ds gs before hval0 hW _ hsh hL _
  have hval : ∀ (j : Nat) t v, Tryz.f4.params[j]? = some t → args[j]? = some v → Value.okWide Tryz.prog W .any base t v := hval0
  have hW' := hW
  obtain ⟨p, q, hA0, hV, rfl, hfz, hnd⟩ := hW
  have hA : DataW.TrodAll enc Tryz.prog W 0 (fun _ => true) true Tryz.f4.params.toList args.toList ds p := hA0
  rw [Tryz.params4] at hA hval
  obtain ⟨hargs, rfl, rfl⟩ := trodAll_nil hA
  obtain rfl : args = #[] := by cases args; simp_all
  obtain ⟨rfl, rfl⟩ := trodVars_none hV
  clear hA0 hval0
  refine (sb_law W (et_of_laid hL)).mono fun e W' ⟨he, bel⟩ => ?_
  subst he
  exact ⟨_, rfl, _, _, _, [], _, [], hW', trodAll_mk1 (shut_bool Tryz.underlying4 _), trodAll_mk0, rfl, bel.frame _, fun h => by cases h⟩

theorem over : Rows.ScriptBoundsSaid :=
  OpenClaim.holds_of_wide 4 Tryz.f4 rfl rfl rfl rfl rfl rfl rfl ⟨rfl, rfl, rfl, rfl, rfl⟩ rfl rfl rfl rfl rfl named Tryz.func4 closed
    inst wrap
    (fun os started H enc _ => lifted os started H enc)

/-- The statement: the tied card. -/
theorem proved : Rows.ScriptBoundsCardSaid :=
  Claim7.holds_tied_plain_at .later [] [.handle] true (true, "35bd0de36451d3e66ee9f48b0f08ee93d341ee92d60f80b2858adfc862cc7bf1") true
    over (fun _ h => by cases h) wft (fun _ h => by cases h) scriptBounds_row_tie rfl ⟨rfl, rfl⟩ mainIs rfl
    (fun f fn hf hfn => by
      obtain rfl : f = 4 := Option.some.inj (named.symm.trans hf) |>.symm
      obtain rfl : fn = Tryz.f4 := (Option.some.inj (Tryz.func4.symm.trans hfn)).symm
      exact ⟨looks, fun j t ht => by
        rw [Tryz.params4] at ht
        simp at ht⟩)
    goes
end Go.Proofs.YtfkpbgookilhjaaGreatDoor.scriptBounds
