/- The given statement on FnExactBusyPeriods, out of its pure statement (YteakcmjkiamnmaaPureFnExactBusyPeriods) and the walks. No condition beyond the statement's own. -/
import Derived.Test.YteakcmjkiamnmaaRows
import Derived.Test.YteakcmjkiamnmaaOpen
import Derived.Test.YteakcmjkiamnmaaPFnExactBusyPeriodsx8
import Derived.Test.YteakcmjkiamnmaaPureFnExactBusyPeriods
import Derived.WalkKit
import Derived.ProofKit
import Derived.OpenShut
import Derived.ShutString
import Derived.ChangeOld
import Derived.Below
import Derived.SizedLaws
import Derived.Lib.SmallJoins
namespace Go.Proofs.Yteakcmjkiamnmaa.fnExactBusyPeriods
open Go.Joins Go.ChangeShapes Go.WideShapes Go.ChangeAt Go.RowKit Go.Proofs.Yteakcmjkiamnmaa.Open Go.Proofs.Yteakcmjkiamnmaa.PFnExactBusyPeriods Go.Proofs.YteakcmjkiamnmaaW.PrintWords
open Go.ChangeMaps (open_string shut_string)
set_option linter.unusedVariables false
theorem own : ownKnob Try.prog.godebug = none := by kernel_rfl
theorem laidOut : laidOutB Try.prog = true := by kernel_rfl
set_option maxRecDepth 100000 in
theorem lifted (os : Os) (started : os.Started) (H : Type) (enc : TypeId × Value → H) :
    ReturnsInHanded {} Try.checked os 6 .any (Rows.fnExactBusyPeriodsSpec.pre6 enc Try.prog Try.f6 Rows.fnExactBusyPeriodsRow.domain false) (Rows.fnExactBusyPeriodsSpec.post enc Try.prog Try.f6 false true false false) := by
  refine returnsInHanded_of_change_sized (C := Try.checked) own started (by kernel_rfl) Try.func6
    (ChangeSpec.witness6 (enc := enc) (C := Try.checked) false ⟨#[], #[.slice none 0 0], []⟩ 8 (by kernel_rfl) (by kernel_rfl) (by kernel_rfl) (by kernel_rfl)) ?_
  intro W base args ds gs before hval0 hW hcnd hsz0 _
  have hsz : (DataW.weightsEach Try.prog (Try.f6.params.toList ++ Rows.fnExactBusyPeriodsSpec.plain.varTypes Try.prog) (ds ++ gs)).all (· ≤ reachBytes) = true := hsz0
  have hval : ∀ (j : Nat) t v, Try.f6.params[j]? = some t → args[j]? = some v → Value.okWide Try.prog W .any base t v := hval0
  have hW' := hW
  obtain ⟨p, q, hA0, hV, rfl, hfz, hnd⟩ := hW
  have hA : DataW.TrodAll enc Try.prog W 0 (fun _ => true) true Try.f6.params.toList args.toList ds p := hA0
  rw [Try.params6] at hA hval hsz
  obtain ⟨v0, vs0, d0, ds0, p0, q0, hargs, rfl, rfl, h0, r0⟩ := trodAll_cons hA
  obtain ⟨rfl, rfl, rfl⟩ := trodAll_nil r0
  obtain rfl : args = #[v0] := by cases args; simp_all
  obtain ⟨rfl, rfl⟩ := trodVars_none hV
  have k0 := h0
  have lt0 : ∀ x ∈ p0, x.block < W.heap.size := by obtain ⟨m, hm⟩ := k0; exact DataW.trod_lt m _ _ _ hm
  obtain ⟨b0, len0, cap0, rfl⟩ := okWide_slice Try.underlying22 (hval 0 22 v0 rfl rfl)
  obtain ⟨u0, f0⟩ := h0
  have g0 : DataW.trod enc Try.prog W 0 (fun _ => true) true u0 22 [Value.slice b0 len0 cap0] = some (d0, p0) := by simpa [Value.cells] using f0
  obtain ⟨A0, c0, l0, hv0, hC0, hc0, hm0, hw0⟩ := at_slice (d := k53) Try.underlying22 (by kernel_rfl) (rd_iso (fun p => (⟨p.1, p.2.1, p.2.2⟩ : S53)) (fun _ => rfl) (rd_struct3 Try.underlying53 (by kernel_rfl) (by kernel_rfl) (rd_int Try.underlying3) (rd_int Try.underlying3) (rd_int Try.underlying3))) g0
  obtain ⟨rfl, rfl, rfl⟩ : A0 = b0 ∧ l0.length = len0 ∧ c0 = cap0 := by simpa using hv0.symm
  clear hv0
  clear hA0 hval0 hsz0 hsz
  obtain ⟨k_, h_⟩ := Pure.FnExactBusyPeriods l0 hm0 hw0
  refine (PFnExactBusyPeriods.laws_FnExactBusyPeriods.calls k_ A0 c0 l0 true W hC0 hc0 h_).mono fun e W' ⟨he, hd⟩ => ?_
  have bel : Below W.heap.size W W' := hd
  subst he
  exact ⟨_, rfl, _, _, _, [], _, [], hW', trodAll_mk1 (shut_bool Try.underlying4 _), (trodAll_cons_mk (Below.trod laidOut (by kernel_rfl) (of_decide_eq_true (by kernel_rfl)) k0 bel lt0) trodAll_mk0), rfl, bel.frame _, fun h => by cases h⟩
theorem over : Rows.fnExactBusyPeriodsRow.holds Try.pinned (OpenSpec.ofChange Rows.fnExactBusyPeriodsSpec) :=
  OpenClaim.holds_of_wide 6 Try.f6 rfl rfl rfl rfl rfl rfl rfl ⟨rfl, rfl, rfl, rfl, rfl⟩ rfl rfl rfl rfl rfl (by kernel_rfl) Try.func6 (by kernel_rfl)
    (of_decide_eq_true (by kernel_rfl)) (by unfold Func.isWrapper; first | (rw [if_pos (by decide +kernel)]; kernel_rfl) | (rw [if_neg (by decide +kernel)]; exact ⟨rfl, rfl⟩))
    (fun os started H enc _ => lifted os started H enc)
theorem proved : Rows.FnExactBusyPeriodsSaid := over
#print axioms proved
end Go.Proofs.Yteakcmjkiamnmaa.fnExactBusyPeriods
namespace Go.Proofs.Yteakcmjkiamnmaa
/-- The row, under a short name, for the claim. -/
theorem fnExactBusyPeriods_holds : Rows.FnExactBusyPeriodsSaid := fnExactBusyPeriods.proved
end Go.Proofs.Yteakcmjkiamnmaa
