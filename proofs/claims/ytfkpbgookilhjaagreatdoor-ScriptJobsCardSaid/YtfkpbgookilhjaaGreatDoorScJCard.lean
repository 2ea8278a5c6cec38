/-
  Whatever the input, clevislaw26.ScriptJobs returns true, and each of its arguments reads behind the call as it read before; the listed variables of Go's library hold what the program's text lays.
-/
import Derived.Test.YtfkpbgookilhjaaGreatDoorScJw
import Derived.Test.YtfkpbgookilhjaaGreatDoorScOp
import Derived.Test.YtfkpbgookilhjaaGreatDoorOpenH
import Derived.Test.YtfkpbgookilhjaaGreatDoorOpen
import Derived.Test.YtfkpbgookilhjaaGreatDoorTie
import Derived.Test.YtfkpbgookilhjaaGreatDoorCards
import Derived.ProofKit
import Derived.LaidMore
import Derived.OpenShut
import Derived.Stop.Joined
import Derived.SevenTiedAt
namespace Go.Proofs.YtfkpbgookilhjaaGreatDoor.scriptJobs
set_option linter.unusedSimpArgs false
set_option linter.unusedVariables false
open Go.ChangeShapes Go.WideShapes Go.ChangeAt Go.RowKit
open Go.ChangeMaps (open_string shut_string)

theorem band {a b : Bool} (ha : a = true) (hb : b = true) : (a && b) = true := by rw [ha, hb]; rfl
theorem q0 : (Rows.scriptJobsRow.wf (OpenSpec.ofChange Rows.scriptJobsSpec)) = true := by kernel_rfl
theorem q1 : (laidOutB Tryz.prog) = true := by kernel_rfl
theorem q2 : (mapsRowed Tryz.prog) = true := by kernel_rfl
theorem q3 : (Tryz.f3.params.all (Tryz.prog.readableRec ·)) = true := by kernel_rfl
theorem q4 : (namedTie Tryz.prog Rows.scriptJobsRow.named Rows.scriptJobsSpec.vars) = true := by kernel_rfl
theorem q5 : ((Rows.scriptJobsRow.stops == [])) = true := by kernel_rfl
theorem q6 : ((Tryz.prog.stops == [])) = true := by kernel_rfl
theorem q7 : ((Rows.scriptJobsRow.knobs == [])) = true := by kernel_rfl
theorem q8 : ((Tryz.prog.stopKnobs == [])) = true := by kernel_rfl
theorem q9 : ((Rows.scriptJobsRow.inPlace == Tryz.prog.inPlace 3)) = true := by kernel_rfl
theorem q10 : ((Rows.scriptJobsRow.unfollowed == Tryz.prog.unfollowed 3)) = true := by kernel_rfl
theorem q11 : ((Rows.scriptJobsRow.recurses == Tryz.prog.recurses 3)) = true := by kernel_rfl
theorem q12 : ((Rows.scriptJobsRow.named == Tryz.prog.varsNamed 3)) = true := by kernel_rfl
theorem q13 : ((Rows.scriptJobsRow.maps == (Tryz.f3.params.toList ++ Rows.scriptJobsSpec.plain.varTypes Tryz.prog).any (Tryz.prog.mapsRec ·))) = true := by kernel_rfl
theorem q14 : ((Rows.scriptJobsRow.ifaces == (Tryz.f3.params.toList ++ Rows.scriptJobsSpec.plain.varTypes Tryz.prog).any (Tryz.prog.ifacesRec ·))) = true := by kernel_rfl
theorem q15 : ((Rows.scriptJobsRow.mapsOut == Tryz.prog.mapsAmong Tryz.f3.resultTypes.toList)) = true := by kernel_rfl
theorem q16 : ((Rows.scriptJobsRow.loops == (Tryz.f3.params.toList ++ Rows.scriptJobsSpec.plain.varTypes Tryz.prog).any (Tryz.prog.loopsFrom ·))) = true := by kernel_rfl
theorem q17 : ((Rows.scriptJobsRow.wideKeys == (Tryz.f3.params.toList ++ Rows.scriptJobsSpec.plain.varTypes Tryz.prog ++ Tryz.f3.resultTypes.toList).any (Tryz.prog.wideKeysFrom ·))) = true := by kernel_rfl
theorem q18 : (Rows.scriptJobsSpec.vars.all (Tryz.prog.varReadable ·)) = true := by kernel_rfl
theorem q19 : (Tryz.f3.resultTypes.all (fun t => Tryz.prog.readableRec t && decide (t < Tryz.prog.types.size))) = true := by kernel_rfl
theorem q20 : ((Rows.scriptJobsRow.ifacesOut == Tryz.f3.resultTypes.toList.any (Tryz.prog.ifacesRec ·))) = true := by kernel_rfl
theorem q21 : ((Rows.scriptJobsRow.loopsOut == Tryz.f3.resultTypes.toList.any (Tryz.prog.loopsFrom ·))) = true := by kernel_rfl
theorem q22 : ((Rows.scriptJobsRow.plainKeys == Tryz.prog.plainKeys)) = true := by kernel_rfl
theorem q23 : (Rows.scriptJobsRow.shortTexts.isNone) = true := by kernel_rfl
theorem q24 : (Tryz.prog.stopsHeard) = true := by kernel_rfl
theorem q25 : (Tryz.prog.mayEnter) = true := by kernel_rfl
theorem q26 : ((Rows.scriptJobsRow.lifted == Tryz.prog.liftsFinal)) = true := by kernel_rfl
theorem q27 : ((Tryz.prog.make == some Rows.scriptJobsRow.make)) = true := by kernel_rfl
theorem q28 : ((Rows.scriptJobsRow.kinds == (if Rows.scriptJobsRow.domain.isEmpty then [] else Tryz.f3.params.toList.map fun t => match Tryz.prog.underlying t with | some (.int k) => some k | _ => none))) = true := by kernel_rfl
theorem q29 : ((Rows.scriptJobsRow.pinned == Rows.scriptJobsRow.pinnedBy)) = true := by kernel_rfl
theorem q30 : ((Rows.scriptJobsRow.veiled == (Tryz.f3.params.toList ++ Rows.scriptJobsSpec.plain.varTypes Tryz.prog ++ Tryz.f3.resultTypes.toList).any (Tryz.prog.veiledRec ·))) = true := by kernel_rfl
theorem q31 : (Rows.scriptJobsRow.veiledFits Tryz.prog Tryz.f3.params.toList (Tryz.f3.params.toList ++ Rows.scriptJobsSpec.plain.varTypes Tryz.prog ++ Tryz.f3.resultTypes.toList)) = true := by kernel_rfl
set_option maxRecDepth 100000 in
theorem closed : joinedFacts Tryz.prog 3 Tryz.f3 Rows.scriptJobsSpec Rows.scriptJobsRow = true := by
  unfold joinedFacts
  exact (band (band (band (band (band (band (band (band (band (band (band (band (band (band (band (band (band (band (band (band (band (band (band (band (band (band (band (band (band (band (band q0 q1) q2) q3) q4) q5) q6) q7) q8) q9) q10) q11) q12) q13) q14) q15) q16) q17) q18) q19) q20) q21) q22) q23) q24) q25) q26) q27) q28) q29) q30) q31)
theorem named : Tryz.prog.funcNamed "clevis/clevislaw26.ScriptJobs" = some 3 := by kernel_rfl
theorem inst : Tryz.f3.isInstance Tryz.prog Rows.scriptJobsRow.origin Rows.scriptJobsRow.targs := of_decide_eq_true (by kernel_rfl)
theorem wrap : Tryz.f3.isWrapper Tryz.prog Rows.scriptJobsRow.wrapper Rows.scriptJobsRow.mainSum := by unfold Func.isWrapper; first | (rw [if_pos (by decide +kernel)]; kernel_rfl) | (rw [if_neg (by decide +kernel)]; exact ⟨rfl, rfl⟩)
theorem wft : Rows.scriptJobsRow.wfByText (OpenSpec.ofChange Rows.scriptJobsSpec) = true := by kernel_rfl
theorem looks : true = Tryz.prog.looks [] := by kernel_rfl
theorem goesNo (P : Program) (h : P.funcs.any Func.goes = false) (f : FuncId) : P.goes f = false := by
  unfold Program.goes
  rw [h, Bool.and_false, Bool.or_false]
  rw [List.any_eq_false]
  intro g _ hg
  cases hq : P.funcs[g]? with
  | none => rw [hq] at hg; cases hg
  | some fn =>
    rw [hq] at hg
    have h1 := Array.any_eq_false.1 h g (Array.getElem?_eq_some_iff.1 hq).1
    rw [(Array.getElem?_eq_some_iff.1 hq).2] at h1
    exact h1 hg
theorem noGo : Tryz.prog.funcs.any Func.goes = false := by kernel_rfl
theorem goes : false = Rows.scriptJobsRow.goesBy Tryz.prog := by
  have h : Tryz.prog.goesFrom "clevis/clevislaw26.ScriptJobs" = false := by unfold Program.goesFrom; rw [named, Option.any_some]; exact goesNo Tryz.prog noGo 3
  show false = (Tryz.prog.goesFrom "clevis/clevislaw26.ScriptJobs" || false)
  rw [h]; rfl
theorem mainIs : Tryz.prog.mainIs = some (true, ("35bd0de36451d3e66ee9f48b0f08ee93d341ee92d60f80b2858adfc862cc7bf1" : String).toList) := by kernel_rfl
theorem laidOut : laidOutB Tryz.prog = true := q1
theorem own : ownKnob Tryz.prog.godebug = none := by kernel_rfl

set_option maxRecDepth 100000 in
theorem lifted (os : Os) (started : os.Started) (H : Type) (enc : TypeId × Value → H) :
    ReturnsInHanded {} Tryz.checked os 3 .any (fun w args => (Rows.scriptJobsSpec.pre enc Tryz.prog Tryz.f3 [] false w args ∧ laidMetH Tryz.prog [("errors.errorType", Rows.laid_errors_errorType)] w) ∧ sizedMet enc Tryz.prog Tryz.f3 (OpenSpec.ofChange Rows.scriptJobsSpec) false w args)
      (Rows.scriptJobsSpec.post enc Tryz.prog Tryz.f3 false true false false) := by
  refine returnsInHanded_of_change_and (C := Tryz.checked) (X := fun w _ => laidMetH Tryz.prog [("errors.errorType", Rows.laid_errors_errorType)] w) (fun _ _ _ hh h => h.of_heap hh) own started (by kernel_rfl) Tryz.func3
    (ChangeSpec.witness_at (enc := enc) (C := Tryz.checked) (os := os) (X := fun w _ => laidMetH Tryz.prog [("errors.errorType", Rows.laid_errors_errorType)] w) false (laidWorld os) #[.agg #[.slice none 0 0, .string ByteArray.empty, .slice none 0 0, .int .i64 0, .int .u64 0, .bool false]] 8 rfl (by kernel_rfl) (by kernel_rfl) (by kernel_rfl) (by kernel_rfl) (by kernel_rfl) (laidWorld_met os _)) ?_
  intro W base args ds gs before hval0 hW _ hsh hL _
  have hval : ∀ (j : Nat) t v, Tryz.f3.params[j]? = some t → args[j]? = some v → Value.okWide Tryz.prog W .any base t v := hval0
  have hW' := hW
  obtain ⟨p, q, hA0, hV, rfl, hfz, hnd⟩ := hW
  have hA : DataW.TrodAll enc Tryz.prog W 0 (fun _ => true) true Tryz.f3.params.toList args.toList ds p := hA0
  rw [Tryz.params3] at hA hval
  obtain ⟨v0, vs0, d0, ds0, p0, q0, hargs, rfl, rfl, h0, r0⟩ := trodAll_cons hA
  obtain ⟨rfl, rfl, rfl⟩ := trodAll_nil r0
  obtain rfl : args = #[v0] := by cases args; simp_all
  obtain ⟨rfl, rfl⟩ := trodVars_none hV
  have lt0 : ∀ x ∈ p0, x.block < W.heap.size := by obtain ⟨m, hm⟩ := h0; exact DataW.trod_lt m _ _ _ hm
  have k0 := h0
  obtain ⟨j0, rfl, hj0⟩ := open_job (hval 0 27 v0 rfl rfl) h0
  clear hA0 hval0
  refine (sj_law W j0 hj0 (et_of_laid hL)).mono fun e W' ⟨he, bel⟩ => ?_
  subst he
  exact ⟨_, rfl, _, _, _, [], _, [], hW', trodAll_mk1 (shut_bool Tryz.underlying4 _), (trodAll_cons_mk (Below.trod laidOut (by kernel_rfl) (of_decide_eq_true (by kernel_rfl)) k0 bel lt0) trodAll_mk0), rfl, bel.frame _, fun h => by cases h⟩

theorem over : Rows.ScriptJobsSaid :=
  OpenClaim.holds_of_wide 3 Tryz.f3 rfl rfl rfl rfl rfl rfl rfl ⟨rfl, rfl, rfl, rfl, rfl⟩ rfl rfl rfl rfl rfl named Tryz.func3 closed
    inst wrap
    (fun os started H enc _ => lifted os started H enc)

/-- The statement: the tied card. -/
theorem proved : Rows.ScriptJobsCardSaid :=
  Claim7.holds_tied_plain_at .later [] [.handle] true (true, "35bd0de36451d3e66ee9f48b0f08ee93d341ee92d60f80b2858adfc862cc7bf1") true
    over (fun _ h => by cases h) wft (fun _ h => by cases h) scriptJobs_row_tie rfl ⟨rfl, rfl⟩ mainIs rfl
    (fun f fn hf hfn => by
      obtain rfl : f = 3 := Option.some.inj (named.symm.trans hf) |>.symm
      obtain rfl : fn = Tryz.f3 := (Option.some.inj (Tryz.func3.symm.trans hfn)).symm
      exact ⟨looks, fun j t ht => by
        rw [Tryz.params3] at ht
        have hm : t ∈ [27] := by simpa using Array.mem_of_getElem? ht
        have hall : ([27].all fun u => !Tryz.prog.wantsStandIn u) = true := by kernel_rfl
        exact (show Tryz.prog.wantsStandIn t = false by simpa using List.all_eq_true.1 hall t hm)⟩)
    goes
end Go.Proofs.YtfkpbgookilhjaaGreatDoor.scriptJobs
