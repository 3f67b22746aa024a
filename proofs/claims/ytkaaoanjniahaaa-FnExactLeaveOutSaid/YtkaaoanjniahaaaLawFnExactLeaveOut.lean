/- The given statement on FnExactLeaveOut, out of its pure statement (YtkaaoanjniahaaaPureFnExactLeaveOut) and the walks. No condition beyond the statement's own. -/
import Derived.Test.YtkaaoanjniahaaaRows
import Derived.Test.YtkaaoanjniahaaaOpen
import Derived.Test.YtkaaoanjniahaaaPFnExactLeaveOutx5
import Derived.Test.YtkaaoanjniahaaaPureFnExactLeaveOut
import Derived.WalkKit
import Derived.ProofKit
import Derived.OpenShut
import Derived.ShutString
import Derived.ChangeOld
import Derived.Below
import Derived.SizedLaws
import Derived.Lib.SmallJoins
namespace Go.Proofs.Ytkaaoanjniahaaa.fnExactLeaveOut
open Go.Joins Go.ChangeShapes Go.WideShapes Go.ChangeAt Go.RowKit Go.Proofs.Ytkaaoanjniahaaa.Open Go.Proofs.Ytkaaoanjniahaaa.PFnExactLeaveOut Go.Proofs.YtkaaoanjniahaaaW.PrintWords
open Go.ChangeMaps (open_string shut_string)
set_option linter.unusedVariables false
theorem own : ownKnob Try.prog.godebug = none := by kernel_rfl
theorem laidOut : laidOutB Try.prog = true := by kernel_rfl
set_option maxRecDepth 100000 in
theorem lifted (os : Os) (started : os.Started) (H : Type) (enc : TypeId × Value → H) :
    ReturnsInHanded {} Try.checked os 13 .any (Rows.fnExactLeaveOutSpec.pre6 enc Try.prog Try.f13 Rows.fnExactLeaveOutRow.domain false) (Rows.fnExactLeaveOutSpec.post enc Try.prog Try.f13 false true false false) := by
  refine returnsInHanded_of_change_sized (C := Try.checked) own started (by kernel_rfl) Try.func13
    (ChangeSpec.witness6 (enc := enc) (C := Try.checked) false ⟨#[], #[.agg #[.int .i64 0, .slice none 0 0], .int .i64 0], []⟩ 8 (by kernel_rfl) (by kernel_rfl) (by kernel_rfl) (by kernel_rfl)) ?_
  intro W base args ds gs before hval0 hW hcnd hsz0 _
  have hsz : (DataW.weightsEach Try.prog (Try.f13.params.toList ++ Rows.fnExactLeaveOutSpec.plain.varTypes Try.prog) (ds ++ gs)).all (· ≤ reachBytes) = true := hsz0
  have hval : ∀ (j : Nat) t v, Try.f13.params[j]? = some t → args[j]? = some v → Value.okWide Try.prog W .any base t v := hval0
  have hW' := hW
  obtain ⟨p, q, hA0, hV, rfl, hfz, hnd⟩ := hW
  have hA : DataW.TrodAll enc Try.prog W 0 (fun _ => true) true Try.f13.params.toList args.toList ds p := hA0
  rw [Try.params13] at hA hval hsz
  obtain ⟨v0, vs0, d0, ds0, p0, q0, hargs, rfl, rfl, h0, r0⟩ := trodAll_cons hA
  obtain ⟨v1, vs1, d1, ds1, p1, q1, rfl, rfl, rfl, h1, r1⟩ := trodAll_cons r0
  obtain ⟨rfl, rfl, rfl⟩ := trodAll_nil r1
  obtain rfl : args = #[v0, v1] := by cases args; simp_all
  obtain ⟨rfl, rfl⟩ := trodVars_none hV
  have k0 := h0
  have lt0 : ∀ x ∈ p0, x.block < W.heap.size := by obtain ⟨m, hm⟩ := k0; exact DataW.trod_lt m _ _ _ hm
  obtain ⟨e0_0, e0_1, y0_0, y0_1, n0, rfl, _, _, t0_0, t0_1⟩ := open_agg2 Try.underlying24 (by kernel_rfl) (by kernel_rfl) (hval 0 24 v0 rfl rfl) h0
  obtain ⟨a0_0, rfl, w0_0⟩ := at_int Try.underlying3 t0_0
  obtain ⟨A0_1, c0_1, l0_1, rfl, hC0_1, hc0_1, hm0_1, hw0_1⟩ := at_slice (d := (Kd.int .i64)) Try.underlying22 (by kernel_rfl) (rd_int Try.underlying3) t0_1
  obtain ⟨a1, rfl, rfl, rfl, w1⟩ := open_int Try.underlying3 (hval 1 3 v1 rfl rfl) h1
  clear hA0 hval0 hsz0 hsz
  obtain ⟨k_, h_⟩ := Pure.FnExactLeaveOut a0_0 l0_1 a1 w0_0 hm0_1 hw0_1 w1
  refine (PFnExactLeaveOut.laws_FnExactLeaveOut.calls k_ a0_0 A0_1 c0_1 l0_1 a1 true W hC0_1 hc0_1 h_).mono fun e W' ⟨he, hd⟩ => ?_
  have bel : Below W.heap.size W W' := hd
  subst he
  exact ⟨_, rfl, _, _, _, [], _, [], hW', trodAll_mk1 (shut_bool Try.underlying4 _), (trodAll_cons_mk (Below.trod laidOut (by kernel_rfl) (of_decide_eq_true (by kernel_rfl)) k0 bel lt0) (trodAll_cons_mk (shut_int Try.underlying3 w1) trodAll_mk0)), rfl, bel.frame _, fun h => by cases h⟩
theorem over : Rows.fnExactLeaveOutRow.holds Try.pinned (OpenSpec.ofChange Rows.fnExactLeaveOutSpec) :=
  OpenClaim.holds_of_wide 13 Try.f13 rfl rfl rfl rfl rfl rfl rfl ⟨rfl, rfl, rfl, rfl, rfl⟩ rfl rfl rfl rfl rfl (by kernel_rfl) Try.func13 (by kernel_rfl)
    (of_decide_eq_true (by kernel_rfl)) (by unfold Func.isWrapper; first | (rw [if_pos (by decide +kernel)]; kernel_rfl) | (rw [if_neg (by decide +kernel)]; exact ⟨rfl, rfl⟩))
    (fun os started H enc _ => lifted os started H enc)
theorem proved : Rows.FnExactLeaveOutSaid := over
#print axioms proved
end Go.Proofs.Ytkaaoanjniahaaa.fnExactLeaveOut
namespace Go.Proofs.Ytkaaoanjniahaaa
/-- The row, under a short name, for the claim. -/
theorem fnExactLeaveOut_holds : Rows.FnExactLeaveOutSaid := fnExactLeaveOut.proved
end Go.Proofs.Ytkaaoanjniahaaa
