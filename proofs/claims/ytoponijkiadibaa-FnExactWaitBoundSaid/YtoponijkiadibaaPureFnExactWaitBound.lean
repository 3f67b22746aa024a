/- FnExactWaitBound: the program's answer is the reference's, as plain functions over numbers and lists; no condition beyond the sizes that every value has. -/
import Derived.Test.YtoponijkiadibaaPFnExactWaitBoundx1
namespace Go.Proofs.Ytoponijkiadibaa.Pure
open Go.RowKit Go.Proofs.Ytoponijkiadibaa.PFnExactWaitBound Go.Proofs.YtoponijkiadibaaW.PrintWords Go.Proofs.YtoponijkiadibaaW.PrintLast

/- It reaches: laws_toTokenRing.f, spec_l1In.f, spec_tkGood.f, spec_tkRound.f, spec_WaitBound.f, impl_within.f, impl_isRingSize.f, impl_IsTokenRing.f, impl_TokenRing_longestRound.f, impl_WaitBound.f, laws_FnExactWaitBound.f -/
def FnExactWaitBoundPure : Prop := ∀ (a0_0 : Int) (a0_1 : Int) (a0_2 : Int) (a1 : Int), (Lit.int .i64 a0_0).wf = true → (Lit.int .i64 a0_1).wf = true → (Lit.int .i64 a0_2).wf = true → (Lit.int .i64 a1).wf = true → laws_FnExactWaitBound.f a0_0 a0_1 a0_2 a1 = some true
theorem spec_l1In_eq (a b c : Int) : spec_l1In.f a b c = some (decide (b ≤ a ∧ a ≤ c)) := by
  unfold spec_l1In.f
  by_cases h : b ≤ a <;> simp [h]
theorem impl_within_eq (a b c : Int) : impl_within.f a b c = some (decide (b ≤ a ∧ a ≤ c)) := by
  unfold impl_within.f
  by_cases h : b ≤ a <;> simp [h]

theorem toTokenRing_eq (a b c : Int) : laws_toTokenRing.f a b c = some (a, b, c) := rfl
/-- What both call a token ring. -/
def ring3 (a b c : Int) : Prop := (2 ≤ a ∧ a ≤ 12) ∧ (1 ≤ b ∧ b ≤ 10) ∧ (1 ≤ c ∧ c ≤ 10)
instance (a b c : Int) : Decidable (ring3 a b c) := by unfold ring3; infer_instance
theorem spec_tkGood_eq (a b c : Int) : spec_tkGood.f a b c = some (decide (ring3 a b c)) := by
  unfold spec_tkGood.f ring3
  simp only [spec_l1In_eq, Option.bind_some]
  by_cases h1 : 2 ≤ a ∧ a ≤ 12 <;> by_cases h2 : 1 ≤ b ∧ b ≤ 10 <;> simp [h1, h2]
theorem impl_IsTokenRing_eq (a b c : Int) : impl_IsTokenRing.f a b c = some (decide (ring3 a b c)) := by
  unfold impl_IsTokenRing.f impl_isRingSize.f ring3
  simp only [impl_within_eq, Option.bind_some]
  by_cases h1 : 2 ≤ a ∧ a ≤ 12 <;> by_cases h2 : 1 ≤ b ∧ b ≤ 10 <;> simp [h1, h2]

theorem FnExactWaitBound : FnExactWaitBoundPure := by
  intro a b c d _ _ _ _
  unfold laws_FnExactWaitBound.f spec_WaitBound.f impl_WaitBound.f spec_tkRound.f impl_TokenRing_longestRound.f
  simp only [toTokenRing_eq, spec_tkGood_eq, impl_IsTokenRing_eq, spec_l1In_eq, impl_within_eq, Option.bind_some]
  by_cases h : ring3 a b c
  · have hb : ¬ b = 0 := by unfold ring3 at h; omega
    by_cases h2 : 0 ≤ d ∧ d ≤ 100 <;> simp [h, h2, hb]
  · simp [h]

end Go.Proofs.Ytoponijkiadibaa.Pure
