/- The given statement on FnExactOrderOfArrival, out of its pure statement (YtgminjippechkaaPureFnExactOrderOfArrival) and the walks. No condition beyond the statement's own. -/
import Derived.Test.YtgminjippechkaaRows
import Derived.Test.YtgminjippechkaaOpen
import Derived.Test.YtgminjippechkaaPFnExactOrderOfArrivalx8
import Derived.Test.YtgminjippechkaaPureFnExactOrderOfArrival
import Derived.WalkKit
import Derived.ProofKit
import Derived.OpenShut
import Derived.ShutString
import Derived.ChangeOld
import Derived.Below
import Derived.SizedLaws
import Derived.Lib.SmallJoins
namespace Go.Proofs.Ytgminjippechkaa.fnExactOrderOfArrival
open Go.Joins Go.ChangeShapes Go.WideShapes Go.ChangeAt Go.RowKit Go.Proofs.Ytgminjippechkaa.Open Go.Proofs.Ytgminjippechkaa.PFnExactOrderOfArrival Go.Proofs.YtgminjippechkaaW.PrintWords
open Go.ChangeMaps (open_string shut_string)
set_option linter.unusedVariables false
theorem own : ownKnob Try.prog.godebug = none := by kernel_rfl
theorem laidOut : laidOutB Try.prog = true := by kernel_rfl
set_option maxRecDepth 100000 in
theorem lifted (os : Os) (started : os.Started) (H : Type) (enc : TypeId × Value → H) :
    ReturnsInHanded {} Try.checked os 3 .any (Rows.fnExactOrderOfArrivalSpec.pre6 enc Try.prog Try.f3 Rows.fnExactOrderOfArrivalRow.domain false) (Rows.fnExactOrderOfArrivalSpec.post enc Try.prog Try.f3 false true false false) := by
  refine returnsInHanded_of_change_sized (C := Try.checked) own started (by kernel_rfl) Try.func3
    (ChangeSpec.witness6 (enc := enc) (C := Try.checked) false ⟨#[], #[.agg #[.int .i64 0, .int .i64 0, .int .i64 0], .slice none 0 0], []⟩ 8 (by kernel_rfl) (by kernel_rfl) (by kernel_rfl) (by kernel_rfl)) ?_
  intro W base args ds gs before hval0 hW hcnd hsz0 _
  have hsz : (DataW.weightsEach Try.prog (Try.f3.params.toList ++ Rows.fnExactOrderOfArrivalSpec.plain.varTypes Try.prog) (ds ++ gs)).all (· ≤ reachBytes) = true := hsz0
  have hval : ∀ (j : Nat) t v, Try.f3.params[j]? = some t → args[j]? = some v → Value.okWide Try.prog W .any base t v := hval0
  have hW' := hW
  obtain ⟨p, q, hA0, hV, rfl, hfz, hnd⟩ := hW
  have hA : DataW.TrodAll enc Try.prog W 0 (fun _ => true) true Try.f3.params.toList args.toList ds p := hA0
  rw [Try.params3] at hA hval hsz
  obtain ⟨v0, vs0, d0, ds0, p0, q0, hargs, rfl, rfl, h0, r0⟩ := trodAll_cons hA
  obtain ⟨v1, vs1, d1, ds1, p1, q1, rfl, rfl, rfl, h1, r1⟩ := trodAll_cons r0
  obtain ⟨rfl, rfl, rfl⟩ := trodAll_nil r1
  obtain rfl : args = #[v0, v1] := by cases args; simp_all
  obtain ⟨rfl, rfl⟩ := trodVars_none hV
  have k0 := h0
  have lt0 : ∀ x ∈ p0, x.block < W.heap.size := by obtain ⟨m, hm⟩ := k0; exact DataW.trod_lt m _ _ _ hm
  obtain ⟨e0_0, e0_1, e0_2, y0_0, y0_1, y0_2, n0, rfl, _, _, t0_0, t0_1, t0_2⟩ := open_agg3 Try.underlying23 (by kernel_rfl) (by kernel_rfl) (hval 0 23 v0 rfl rfl) h0
  obtain ⟨a0_0, rfl, w0_0⟩ := at_int Try.underlying3 t0_0
  obtain ⟨a0_1, rfl, w0_1⟩ := at_int Try.underlying3 t0_1
  obtain ⟨a0_2, rfl, w0_2⟩ := at_int Try.underlying3 t0_2
  have k1 := h1
  have lt1 : ∀ x ∈ p1, x.block < W.heap.size := by obtain ⟨m, hm⟩ := k1; exact DataW.trod_lt m _ _ _ hm
  obtain ⟨b1, len1, cap1, rfl⟩ := okWide_slice Try.underlying24 (hval 1 24 v1 rfl rfl)
  obtain ⟨u1, f1⟩ := h1
  have g1 : DataW.trod enc Try.prog W 0 (fun _ => true) true u1 24 [Value.slice b1 len1 cap1] = some (d1, p1) := by simpa [Value.cells] using f1
  obtain ⟨A1, c1, l1, hv1, hC1, hc1, hm1, hw1⟩ := at_slice (d := k60) Try.underlying24 (by kernel_rfl) (rd_iso (fun p => (⟨p.1, p.2.1, p.2.2⟩ : S60)) (fun _ => rfl) (rd_struct3 Try.underlying60 (by kernel_rfl) (by kernel_rfl) (rd_int Try.underlying3) (rd_int Try.underlying3) (rd_int Try.underlying3))) g1
  obtain ⟨rfl, rfl, rfl⟩ : A1 = b1 ∧ l1.length = len1 ∧ c1 = cap1 := by simpa using hv1.symm
  clear hv1
  clear hA0 hval0 hsz0 hsz
  obtain ⟨k_, h_⟩ := Pure.FnExactOrderOfArrival a0_0 a0_1 a0_2 l1 w0_0 w0_1 w0_2 hm1 hw1
  refine (PFnExactOrderOfArrival.laws_FnExactOrderOfArrival.calls k_ a0_0 a0_1 a0_2 A1 c1 l1 true W hC1 hc1 h_).mono fun e W' ⟨he, hd⟩ => ?_
  have bel : Below W.heap.size W W' := hd
  subst he
  exact ⟨_, rfl, _, _, _, [], _, [], hW', trodAll_mk1 (shut_bool Try.underlying4 _), (trodAll_cons_mk (Below.trod laidOut (by kernel_rfl) (of_decide_eq_true (by kernel_rfl)) k0 bel lt0) (trodAll_cons_mk (Below.trod laidOut (by kernel_rfl) (of_decide_eq_true (by kernel_rfl)) k1 bel lt1) trodAll_mk0)), rfl, bel.frame _, fun h => by cases h⟩
theorem over : Rows.fnExactOrderOfArrivalRow.holds Try.pinned (OpenSpec.ofChange Rows.fnExactOrderOfArrivalSpec) :=
  OpenClaim.holds_of_wide 3 Try.f3 rfl rfl rfl rfl rfl rfl rfl ⟨rfl, rfl, rfl, rfl, rfl⟩ rfl rfl rfl rfl rfl (by kernel_rfl) Try.func3 (by kernel_rfl)
    (of_decide_eq_true (by kernel_rfl)) (by unfold Func.isWrapper; first | (rw [if_pos (by decide +kernel)]; kernel_rfl) | (rw [if_neg (by decide +kernel)]; exact ⟨rfl, rfl⟩))
    (fun os started H enc _ => lifted os started H enc)
theorem proved : Rows.FnExactOrderOfArrivalSaid := over
#print axioms proved
end Go.Proofs.Ytgminjippechkaa.fnExactOrderOfArrival
namespace Go.Proofs.Ytgminjippechkaa
/-- The row, under a short name, for the claim. -/
theorem fnExactOrderOfArrival_holds : Rows.FnExactOrderOfArrivalSaid := fnExactOrderOfArrival.proved
end Go.Proofs.Ytgminjippechkaa
