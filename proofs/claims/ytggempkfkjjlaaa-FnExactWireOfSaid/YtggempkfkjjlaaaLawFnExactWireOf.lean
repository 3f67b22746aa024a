/- The given statement on FnExactWireOf, out of its pure statement (YtggempkfkjjlaaaPureFnExactWireOf) and the walks. No condition beyond the statement's own. -/
import Derived.Test.YtggempkfkjjlaaaRows
import Derived.Test.YtggempkfkjjlaaaOpen
import Derived.Test.YtggempkfkjjlaaaPFnExactWireOfx6
import Derived.Test.YtggempkfkjjlaaaPureFnExactWireOf
import Derived.WalkKit
import Derived.ProofKit
import Derived.OpenShut
import Derived.ShutString
import Derived.ChangeOld
import Derived.Below
import Derived.SizedLaws
import Derived.Lib.SmallJoins
namespace Go.Proofs.Ytggempkfkjjlaaa.fnExactWireOf
open Go.Joins Go.ChangeShapes Go.WideShapes Go.ChangeAt Go.RowKit Go.Proofs.Ytggempkfkjjlaaa.Open Go.Proofs.Ytggempkfkjjlaaa.PFnExactWireOf Go.Proofs.YtggempkfkjjlaaaW.PrintWords
open Go.ChangeMaps (open_string shut_string)
set_option linter.unusedVariables false
theorem own : ownKnob Try.prog.godebug = none := by kernel_rfl
theorem laidOut : laidOutB Try.prog = true := by kernel_rfl
set_option maxRecDepth 100000 in
theorem lifted (os : Os) (started : os.Started) (H : Type) (enc : TypeId × Value → H) :
    ReturnsInHanded {} Try.checked os 13 .any (Rows.fnExactWireOfSpec.pre6 enc Try.prog Try.f13 Rows.fnExactWireOfRow.domain false) (Rows.fnExactWireOfSpec.post enc Try.prog Try.f13 false true false false) := by
  refine returnsInHanded_of_change_sized (C := Try.checked) own started (by kernel_rfl) Try.func13
    (ChangeSpec.witness6 (enc := enc) (C := Try.checked) false ⟨#[], #[.agg #[.int .i64 0, .int .i64 0, .int .i64 0, .slice none 0 0]], []⟩ 8 (by kernel_rfl) (by kernel_rfl) (by kernel_rfl) (by kernel_rfl)) ?_
  intro W base args ds gs before hval0 hW hcnd hsz0 _
  have hsz : (DataW.weightsEach Try.prog (Try.f13.params.toList ++ Rows.fnExactWireOfSpec.plain.varTypes Try.prog) (ds ++ gs)).all (· ≤ reachBytes) = true := hsz0
  have hval : ∀ (j : Nat) t v, Try.f13.params[j]? = some t → args[j]? = some v → Value.okWide Try.prog W .any base t v := hval0
  have hW' := hW
  obtain ⟨p, q, hA0, hV, rfl, hfz, hnd⟩ := hW
  have hA : DataW.TrodAll enc Try.prog W 0 (fun _ => true) true Try.f13.params.toList args.toList ds p := hA0
  rw [Try.params13] at hA hval hsz
  obtain ⟨v0, vs0, d0, ds0, p0, q0, hargs, rfl, rfl, h0, r0⟩ := trodAll_cons hA
  obtain ⟨rfl, rfl, rfl⟩ := trodAll_nil r0
  obtain rfl : args = #[v0] := by cases args; simp_all
  obtain ⟨rfl, rfl⟩ := trodVars_none hV
  have k0 := h0
  have lt0 : ∀ x ∈ p0, x.block < W.heap.size := by obtain ⟨m, hm⟩ := k0; exact DataW.trod_lt m _ _ _ hm
  obtain ⟨e0_0, e0_1, e0_2, e0_3, y0_0, y0_1, y0_2, y0_3, n0, rfl, _, _, t0_0, t0_1, t0_2, t0_3⟩ := open_agg4 Try.underlying31 (by kernel_rfl) (by kernel_rfl) (hval 0 31 v0 rfl rfl) h0
  obtain ⟨a0_0, rfl, w0_0⟩ := at_int Try.underlying3 t0_0
  obtain ⟨a0_1, rfl, w0_1⟩ := at_int Try.underlying3 t0_1
  obtain ⟨a0_2, rfl, w0_2⟩ := at_int Try.underlying3 t0_2
  obtain ⟨A0_3, c0_3, l0_3, rfl, hC0_3, hc0_3, hm0_3, hw0_3⟩ := at_slice (d := (Kd.int .i64)) Try.underlying22 (by kernel_rfl) (rd_int Try.underlying3) t0_3
  clear hA0 hval0 hsz0 hsz
  obtain ⟨k_, h_⟩ := Pure.FnExactWireOf a0_0 a0_1 a0_2 l0_3 w0_0 w0_1 w0_2 hm0_3 hw0_3
  refine (PFnExactWireOf.laws_FnExactWireOf.calls k_ a0_0 a0_1 a0_2 A0_3 c0_3 l0_3 true W hC0_3 hc0_3 h_).mono fun e W' ⟨he, hd⟩ => ?_
  have bel : Below W.heap.size W W' := hd
  subst he
  exact ⟨_, rfl, _, _, _, [], _, [], hW', trodAll_mk1 (shut_bool Try.underlying4 _), (trodAll_cons_mk (Below.trod laidOut (by kernel_rfl) (of_decide_eq_true (by kernel_rfl)) k0 bel lt0) trodAll_mk0), rfl, bel.frame _, fun h => by cases h⟩
theorem over : Rows.fnExactWireOfRow.holds Try.pinned (OpenSpec.ofChange Rows.fnExactWireOfSpec) :=
  OpenClaim.holds_of_wide 13 Try.f13 rfl rfl rfl rfl rfl rfl rfl ⟨rfl, rfl, rfl, rfl, rfl⟩ rfl rfl rfl rfl rfl (by kernel_rfl) Try.func13 (by kernel_rfl)
    (of_decide_eq_true (by kernel_rfl)) (by unfold Func.isWrapper; first | (rw [if_pos (by decide +kernel)]; kernel_rfl) | (rw [if_neg (by decide +kernel)]; exact ⟨rfl, rfl⟩))
    (fun os started H enc _ => lifted os started H enc)
theorem proved : Rows.FnExactWireOfSaid := over
#print axioms proved
end Go.Proofs.Ytggempkfkjjlaaa.fnExactWireOf
namespace Go.Proofs.Ytggempkfkjjlaaa
/-- The row, under a short name, for the claim. -/
theorem fnExactWireOf_holds : Rows.FnExactWireOfSaid := fnExactWireOf.proved
end Go.Proofs.Ytggempkfkjjlaaa
