/- FnExactIsFrame: the program's answer is the reference's, as plain functions over numbers and lists; no condition beyond the sizes that every value has. -/
import Derived.Test.YtggempkfkjjlaaaPFnExactIsFramex2
namespace Go.Proofs.Ytggempkfkjjlaaa.Pure
open Go.RowKit Go.Proofs.Ytggempkfkjjlaaa.PFnExactIsFrame Go.Proofs.YtggempkfkjjlaaaW.PrintWords Go.Proofs.YtggempkfkjjlaaaW.PrintLast

/- It reaches: laws_szIntS.f, laws_szFrame.f, spec_l1In.f, spec_l1All.f, spec_frStation.f, spec_frGood.f, spec_IsFrame.f, laws_toIntS.f, laws_toFrame.f, impl_within.f, impl_isStation.f, impl_allWithin.f, impl_IsFrame.f, laws_eqIntS.f, laws_eqFrame.f, laws_FnExactIsFrame.f -/
def FnExactIsFramePure : Prop := ∀ (a0_0 : Int) (a0_1 : Int) (a0_2 : Int) (l0_3 : List Int), (Lit.int .i64 a0_0).wf = true → (Lit.int .i64 a0_1).wf = true → (Lit.int .i64 a0_2).wf = true → l0_3.length ≤ maxLen → (∀ x ∈ l0_3, (Lit.int .i64 x).wf = true) → ∃ k, laws_FnExactIsFrame.f k a0_0 a0_1 a0_2 l0_3 = some true
set_option linter.unusedSimpArgs false
set_option linter.unusedVariables false
theorem wrap_id {x : Int} (h1 : -9223372036854775808 ≤ x) (h2 : x ≤ 9223372036854775807) : wrap64 x = x := by unfold wrap64; omega
theorem wrap_succ {i n : Nat} (h : i < n) (hn : n ≤ 4611686018427387904) : wrap64 ((i : Int) + 1) = ((i + 1 : Nat) : Int) := by rw [wrap_id] <;> omega
theorem rd_nat (l : List Int) {i : Nat} (h : i < l.length) : rd l (i : Int) = l[i] := by simp [rd, h]
theorem rd_mem (l : List Int) {i : Nat} (h : i < l.length) : rd l (i : Int) ∈ l := by rw [rd_nat l h]; exact List.getElem_mem h
/-- One round, and the end. -/
theorem ev_end {α : Type} {g : Nat → Option α} {r : α} (h : ∀ k, g (k + 1) = some r) : Ev g r := Ev.step h (Ev.now r)
theorem ev_of {α : Type} {g : Nat → Option α} {r : α} (h : ∀ k, g k = some r) : Ev g r := ⟨0, fun k _ => h k⟩
theorem ev_eq {α : Type} {g : Nat → Option α} {r r' : α} (h : Ev g r) (e : r = r') : Ev g r' := e ▸ h

theorem spec_l1In_eq (a b c : Int) : spec_l1In.f a b c = some (decide (b ≤ a ∧ a ≤ c)) := by
  unfold spec_l1In.f
  by_cases h : b ≤ a <;> simp [h]

theorem l1All_loop (lo hi : Int) (l : List Int) (hn : l.length ≤ 1048576) : ∀ (d i k : Nat), i + d = l.length → d < k → spec_l1All.l0 k lo hi l (l.length : Int) (i : Int) = some ((l.drop i).all fun x => decide (lo ≤ x ∧ x ≤ hi)) := by
  intro d
  induction d with
  | zero =>
    intro i k h hk
    obtain ⟨k, rfl⟩ : ∃ m, k = m + 1 := ⟨k - 1, by omega⟩
    simp only [spec_l1All.l0]
    rw [if_neg (by omega), List.drop_of_length_le (by omega)]
    rfl
  | succ d ih =>
    intro i k h hk
    obtain ⟨k, rfl⟩ : ∃ m, k = m + 1 := ⟨k - 1, by omega⟩
    have hlt : i < l.length := by omega
    simp only [spec_l1All.l0, spec_l1In_eq, Option.bind_some]
    rw [if_pos (by omega), if_pos (by omega), if_pos (by omega), rd_nat l hlt, wrap_succ hlt (by omega), ih (i + 1) k (by omega) (by omega), List.drop_eq_getElem_cons hlt, List.all_cons]
    by_cases c : lo ≤ l[i] ∧ l[i] ≤ hi <;> simp [c]
theorem spec_l1All_eq {k : Nat} {l : List Int} {lo hi : Int} (hn : l.length ≤ 1048576) (hk : l.length < k) : spec_l1All.f k l lo hi = some (l.all fun x => decide (lo ≤ x ∧ x ≤ hi)) := by
  unfold spec_l1All.f
  simpa using l1All_loop lo hi l hn l.length 0 k (by omega) hk

theorem impl_within_eq (a b c : Int) : impl_within.f a b c = some (decide (b ≤ a ∧ a ≤ c)) := by
  unfold impl_within.f
  by_cases h : b ≤ a <;> simp [h]

theorem toIntS_loop (l : List Int) (hn : l.length ≤ 1048576) : ∀ (d i k : Nat), i + d = l.length → d < k → laws_toIntS.l0 k l (l.take i ++ List.replicate d 0) (i : Int) = some l := by
  intro d
  induction d with
  | zero =>
    intro i k h hk
    obtain ⟨k, rfl⟩ : ∃ m, k = m + 1 := ⟨k - 1, by omega⟩
    simp only [laws_toIntS.l0]
    rw [if_neg (by omega)]
    simp [List.take_of_length_le (show l.length ≤ i by omega)]
  | succ d ih =>
    intro i k h hk
    obtain ⟨k, rfl⟩ : ∃ m, k = m + 1 := ⟨k - 1, by omega⟩
    have hi : i < l.length := by omega
    have e : (l.take i ++ List.replicate (d + 1) 0).set i (rd l (i : Int)) = l.take (i + 1) ++ List.replicate d 0 := by
      rw [rd_nat l hi, List.set_append_right _ _ (by simp; omega)]
      simp only [List.length_take, Nat.min_eq_left (Nat.le_of_lt hi), Nat.sub_self, List.replicate_succ, List.set_cons_zero]
      rw [List.take_succ_eq_append_getElem hi, List.append_assoc]; rfl
    simp only [laws_toIntS.l0]
    rw [if_pos (by omega), if_pos (by omega), if_pos (by simp; omega), Int.toNat_natCast, e, wrap_succ hi (by omega)]
    exact ih (i + 1) k (by omega) (by omega)
theorem toIntS_eq {k : Nat} {l : List Int} (hn : l.length ≤ 1048576) (hk : l.length < k) : laws_toIntS.f k l = some l := by
  unfold laws_toIntS.f
  rw [if_pos (by omega), if_pos (by omega), Int.toNat_natCast]
  have := toIntS_loop l hn l.length 0 k (by omega) hk
  simpa using this

theorem eqIntS_loop (l : List Int) (hn : l.length ≤ 1048576) : ∀ (d i k : Nat), i + d = l.length → d < k → laws_eqIntS.l0 k l l (i : Int) = some true := by
  intro d
  induction d with
  | zero =>
    intro i k h hk
    obtain ⟨k, rfl⟩ : ∃ m, k = m + 1 := ⟨k - 1, by omega⟩
    simp only [laws_eqIntS.l0]
    rw [if_neg (by omega)]
  | succ d ih =>
    intro i k h hk
    obtain ⟨k, rfl⟩ : ∃ m, k = m + 1 := ⟨k - 1, by omega⟩
    simp only [laws_eqIntS.l0]
    rw [if_pos (by omega), if_pos (by omega), if_pos (by omega), if_pos trivial, wrap_succ (n := l.length) (by omega) (by omega)]
    exact ih (i + 1) k (by omega) (by omega)
theorem eqIntS_refl {k : Nat} {l : List Int} (hn : l.length ≤ 1048576) (hk : l.length < k) : laws_eqIntS.f k l l = some true := by
  unfold laws_eqIntS.f
  rw [if_pos rfl]
  exact eqIntS_loop l hn l.length 0 k (by omega) hk

/-- What both call a frame. -/
def frameB (a b p : Int) (l : List Int) : Bool := decide ((0 ≤ a ∧ a ≤ 11) ∧ (0 ≤ b ∧ b ≤ 11) ∧ (0 ≤ p ∧ p ≤ 7)) && (decide (l.length ≤ 16) && l.all fun x => decide (0 ≤ x ∧ x ≤ 255))
theorem frameB_head {a b p : Int} {l : List Int} (h : frameB a b p l = true) : (0 ≤ a ∧ a ≤ 11) ∧ (0 ≤ b ∧ b ≤ 11) ∧ (0 ≤ p ∧ p ≤ 7) := by simp only [frameB, Bool.and_eq_true, decide_eq_true_eq] at h; exact h.1
theorem frameB_len {a b p : Int} {l : List Int} (h : frameB a b p l = true) : l.length ≤ 16 := by simp only [frameB, Bool.and_eq_true, decide_eq_true_eq] at h; exact h.2.1
theorem frameB_mem {a b p : Int} {l : List Int} (h : frameB a b p l = true) : ∀ x ∈ l, 0 ≤ x ∧ x ≤ 255 := by simp only [frameB, Bool.and_eq_true, decide_eq_true_eq, List.all_eq_true] at h; exact h.2.2
theorem spec_frGood_eq {k : Nat} {a b p : Int} {l : List Int} (hn : l.length ≤ 1048576) (hk : l.length < k) : spec_frGood.f k a b p l = some (frameB a b p l) := by
  unfold spec_frGood.f spec_frStation.f frameB
  simp only [spec_l1In_eq, Option.bind_some, spec_l1All_eq hn hk]
  by_cases h0 : 0 ≤ a ∧ a ≤ 11 <;> by_cases h1 : 0 ≤ b ∧ b ≤ 11 <;> by_cases h2 : 0 ≤ p ∧ p ≤ 7 <;> by_cases h3 : l.length ≤ 16 <;>
    simp only [h0, h1, h2, h3, decide_true, decide_false, if_true, and_true, true_and, and_false, false_and, Bool.true_and, Bool.false_and, if_neg (show ¬ (false = true) by decide), show ((l.length : Int) ≤ 16) = (l.length ≤ 16) from propext ⟨fun h => by omega, fun h => by omega⟩, if_false]
theorem impl_IsFrame_eq (a b p : Int) (l : List Int) : impl_IsFrame.f a b p l = some (frameB a b p l) := by
  unfold impl_IsFrame.f impl_isStation.f impl_allWithin.f frameB
  simp only [impl_within_eq, Option.bind_some]
  by_cases h0 : 0 ≤ a ∧ a ≤ 11 <;> by_cases h1 : 0 ≤ b ∧ b ≤ 11 <;> by_cases h2 : 0 ≤ p ∧ p ≤ 7 <;> by_cases h3 : l.length ≤ 16 <;>
    simp only [h0, h1, h2, h3, decide_true, decide_false, if_true, and_true, true_and, and_false, false_and, Bool.true_and, Bool.false_and, if_neg (show ¬ (false = true) by decide), show ((l.length : Int) ≤ 16) = (l.length ≤ 16) from propext ⟨fun h => by omega, fun h => by omega⟩, if_false]
theorem szFrame_big {a b p : Int} {l : List Int} (hm : l.length ≤ 9223372036854775807) (h : ¬ l.length ≤ 1048576) : laws_szFrame.f a b p l 1048576 = some (-1) := by
  unfold laws_szFrame.f laws_szIntS.f
  rw [wrap_id (by omega) (by omega), if_pos (by omega)]; rfl
theorem szFrame_ok {a b p : Int} {l : List Int} (h : l.length ≤ 1048576) : laws_szFrame.f a b p l 1048576 = some (1048576 - (l.length : Int)) := by
  unfold laws_szFrame.f laws_szIntS.f
  rw [wrap_id (by omega) (by omega), if_neg (by omega), Option.bind_some, if_neg (by omega)]
theorem toFrame_eq {k : Nat} {a b p : Int} {l : List Int} (hn : l.length ≤ 1048576) (hk : l.length < k) : laws_toFrame.f k a b p l = some (a, b, p, l) := by
  unfold laws_toFrame.f
  rw [toIntS_eq hn hk]; rfl
theorem eqFrame_refl {k : Nat} {a b p : Int} {l : List Int} (hn : l.length ≤ 1048576) (hk : l.length < k) : laws_eqFrame.f k a b p l a b p l = some true := by
  unfold laws_eqFrame.f
  simp only [if_true, eqIntS_refl hn hk, Option.bind_some]

theorem FnExactIsFrame : FnExactIsFramePure := by
  intro a b p l _ _ _ hm _
  unfold maxLen at hm
  by_cases hn : l.length ≤ 1048576
  · have n1 : ¬ (1048576 - (l.length : Int) < 0) := by omega
    refine ⟨l.length + 10, ?_⟩
    simp (disch := omega) [laws_FnExactIsFrame.f, szFrame_ok hn, n1, toFrame_eq hn, spec_IsFrame.f, spec_frGood_eq hn, impl_IsFrame_eq, eqFrame_refl hn]
  · exact ⟨0, by unfold laws_FnExactIsFrame.f; rw [szFrame_big hm hn]; rfl⟩

end Go.Proofs.Ytggempkfkjjlaaa.Pure
