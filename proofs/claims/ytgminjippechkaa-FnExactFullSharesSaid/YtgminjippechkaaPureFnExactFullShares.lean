/- FnExactFullShares: the program's answer is the reference's, as plain functions over numbers and lists; no condition beyond the sizes that every value has. -/
import Derived.Test.YtgminjippechkaaPFnExactFullSharesx2
namespace Go.Proofs.Ytgminjippechkaa.Pure
open Go.RowKit Go.Proofs.Ytgminjippechkaa.PFnExactFullShares Go.Proofs.YtgminjippechkaaW.PrintWords Go.Proofs.YtgminjippechkaaW.PrintLast Go.Proofs.YtgminjippechkaaW.PrintMore

/- It reaches: laws_toTokenRing.f, laws_eqIntS.f, laws_markIntS.f, laws_heldIntS.f, spec_l1In.f, spec_tkGood.f, spec_FullShares.f, impl_within.f, impl_isRingSize.f, impl_IsTokenRing.f, bits_Mul32.f, bits_Mul64.f, bits_Mul.f, slices_Repeat_int_int.f, impl_FullShares.f, laws_FnExactFullShares.f -/
def FnExactFullSharesPure : Prop := ∀ (a0_0 : Int) (a0_1 : Int) (a0_2 : Int) (a1 : Int), (Lit.int .i64 a0_0).wf = true → (Lit.int .i64 a0_1).wf = true → (Lit.int .i64 a0_2).wf = true → (Lit.int .i64 a1).wf = true → ∃ k, laws_FnExactFullShares.f k a0_0 a0_1 a0_2 a1 = some true
set_option linter.unusedSimpArgs false
set_option linter.unusedVariables false
theorem spec_l1In_eq (a b c : Int) : spec_l1In.f a b c = some (decide (b ≤ a ∧ a ≤ c)) := by
  unfold spec_l1In.f
  by_cases h : b ≤ a <;> simp [h]

theorem impl_within_eq (a b c : Int) : impl_within.f a b c = some (decide (b ≤ a ∧ a ≤ c)) := by
  unfold impl_within.f
  by_cases h : b ≤ a <;> simp [h]


theorem toTokenRing_eq (a b c : Int) : laws_toTokenRing.f a b c = some (a, b, c) := rfl
/-- What both call a token ring. -/
def ring3 (a b c : Int) : Prop := (2 ≤ a ∧ a ≤ 12) ∧ (1 ≤ b ∧ b ≤ 10) ∧ (1 ≤ c ∧ c ≤ 10)
instance (a b c : Int) : Decidable (ring3 a b c) := by unfold ring3; infer_instance
theorem spec_tkGood_eq (a b c : Int) : spec_tkGood.f a b c = some (decide (ring3 a b c)) := by
  unfold spec_tkGood.f ring3
  simp only [spec_l1In_eq, Option.bind_some]
  by_cases h1 : 2 ≤ a ∧ a ≤ 12 <;> by_cases h2 : 1 ≤ b ∧ b ≤ 10 <;> simp [h1, h2]
theorem impl_IsTokenRing_eq (a b c : Int) : impl_IsTokenRing.f a b c = some (decide (ring3 a b c)) := by
  unfold impl_IsTokenRing.f impl_isRingSize.f ring3
  simp only [impl_within_eq, Option.bind_some]
  by_cases h1 : 2 ≤ a ∧ a ≤ 12 <;> by_cases h2 : 1 ≤ b ∧ b ≤ 10 <;> simp [h1, h2]

theorem wrap_id {x : Int} (h1 : -9223372036854775808 ≤ x) (h2 : x ≤ 9223372036854775807) : wrap64 x = x := by unfold wrap64; omega
theorem wrap_succ {i n : Nat} (h : i < n) (hn : n ≤ 4611686018427387904) : wrap64 ((i : Int) + 1) = ((i + 1 : Nat) : Int) := by rw [wrap_id] <;> omega
theorem rd_nat (l : List Int) {i : Nat} (h : i < l.length) : rd l (i : Int) = l[i] := by simp [rd, h]
theorem rd_mem (l : List Int) {i : Nat} (h : i < l.length) : rd l (i : Int) ∈ l := by rw [rd_nat l h]; exact List.getElem_mem h
/-- One round, and the end. -/
theorem ev_end {α : Type} {g : Nat → Option α} {r : α} (h : ∀ k, g (k + 1) = some r) : Ev g r := Ev.step h (Ev.now r)
theorem ev_of {α : Type} {g : Nat → Option α} {r : α} (h : ∀ k, g k = some r) : Ev g r := ⟨0, fun k _ => h k⟩
theorem ev_eq {α : Type} {g : Nat → Option α} {r r' : α} (h : Ev g r) (e : r = r') : Ev g r' := e ▸ h

theorem eqIntS_loop (l : List Int) (hn : l.length ≤ 1048576) : ∀ (d i k : Nat), i + d = l.length → d < k → laws_eqIntS.l0 k l l (i : Int) = some true := by
  intro d
  induction d with
  | zero =>
    intro i k h hk
    obtain ⟨k, rfl⟩ : ∃ m, k = m + 1 := ⟨k - 1, by omega⟩
    simp only [laws_eqIntS.l0]
    rw [if_neg (by omega)]
  | succ d ih =>
    intro i k h hk
    obtain ⟨k, rfl⟩ : ∃ m, k = m + 1 := ⟨k - 1, by omega⟩
    simp only [laws_eqIntS.l0]
    rw [if_pos (by omega), if_pos (by omega), if_pos (by omega), if_pos trivial, wrap_succ (n := l.length) (by omega) (by omega)]
    exact ih (i + 1) k (by omega) (by omega)
theorem eqIntS_refl {k : Nat} {l : List Int} (hn : l.length ≤ 1048576) (hk : l.length < k) : laws_eqIntS.f k l l = some true := by
  unfold laws_eqIntS.f
  rw [if_pos rfl]
  exact eqIntS_loop l hn l.length 0 k (by omega) hk

/-- n numbers from m on. -/
def marks (m : Int) (n : Nat) : List Int := (List.range n).map fun (j : Nat) => m + (j : Int)
theorem marks_length (m : Int) (n : Nat) : (marks m n).length = n := by simp [marks]
theorem marks_succ (m : Int) (n : Nat) : marks m (n + 1) = marks m n ++ [m + (n : Int)] := by simp [marks, List.range_succ]
theorem markIntS_loop (l : List Int) (m : Int) (hm : 0 ≤ m) (hm2 : m ≤ 1099511627776) (hn : l.length ≤ 1048576) : ∀ (d i k : Nat), i + d = l.length → d < k →
    laws_markIntS.l0 k (marks m i ++ l.drop i) (m + (i : Int)) (i : Int) = some (m + (l.length : Int), marks m l.length) := by
  intro d
  induction d with
  | zero =>
    intro i k h hk
    obtain ⟨k, rfl⟩ : ∃ m, k = m + 1 := ⟨k - 1, by omega⟩
    obtain rfl : i = l.length := by omega
    simp only [laws_markIntS.l0]
    rw [if_neg (by simp [marks_length])]
    simp
  | succ d ih =>
    intro i k h hk
    obtain ⟨k, rfl⟩ : ∃ m, k = m + 1 := ⟨k - 1, by omega⟩
    have hi : i < l.length := by omega
    have e : (marks m i ++ l.drop i).set i (m + (i : Int)) = marks m (i + 1) ++ l.drop (i + 1) := by
      rw [List.set_append_right _ _ (by simp [marks_length]), marks_length, Nat.sub_self, List.drop_eq_getElem_cons hi, List.set_cons_zero, marks_succ, List.append_assoc]; rfl
    simp only [laws_markIntS.l0]
    rw [if_pos (by simp [marks_length]; omega), if_pos (by omega), Int.toNat_natCast, e, wrap_succ hi (by omega), show wrap64 (m + (i : Int) + 1) = m + ((i + 1 : Nat) : Int) from by rw [wrap_id] <;> omega]
    exact ih (i + 1) k (by omega) (by omega)
theorem markIntS_eq {k : Nat} {l : List Int} {m : Int} (hm : 0 ≤ m) (hm2 : m ≤ 1099511627776) (hn : l.length ≤ 1048576) (hk : l.length < k) : laws_markIntS.f k l m = some (m + (l.length : Int), marks m l.length) := by
  unfold laws_markIntS.f
  have := markIntS_loop l m hm hm2 hn l.length 0 k (by omega) hk
  simpa [marks] using this
theorem heldIntS_loop (n : Nat) (m : Int) (hm : 0 ≤ m) (hm2 : m ≤ 1099511627776) (hn : n ≤ 1048576) : ∀ (d i k : Nat), i + d = n → d < k → laws_heldIntS.l0 k (marks m n) (m + (i : Int)) (i : Int) = some (m + (n : Int)) := by
  intro d
  induction d with
  | zero =>
    intro i k h hk
    obtain ⟨k, rfl⟩ : ∃ m, k = m + 1 := ⟨k - 1, by omega⟩
    obtain rfl : i = n := by omega
    simp only [laws_heldIntS.l0]
    rw [if_neg (by simp [marks_length])]
  | succ d ih =>
    intro i k h hk
    obtain ⟨k, rfl⟩ : ∃ m, k = m + 1 := ⟨k - 1, by omega⟩
    have hi : i < n := by omega
    have e : rd (marks m n) (i : Int) = m + (i : Int) := by rw [rd_nat _ (by simpa [marks_length] using hi)]; simp [marks]
    simp only [laws_heldIntS.l0]
    rw [if_pos (by simp [marks_length]; omega), if_pos (by omega), if_pos e, wrap_succ hi (by omega), show wrap64 (m + (i : Int) + 1) = m + ((i + 1 : Nat) : Int) from by rw [wrap_id] <;> omega]
    exact ih (i + 1) k (by omega) (by omega)
theorem heldIntS_eq {k n : Nat} {m : Int} (hm : 0 ≤ m) (hm2 : m ≤ 1099511627776) (hn : n ≤ 1048576) (hk : n < k) : laws_heldIntS.f k (marks m n) m = some (m + (n : Int)) := by
  unfold laws_heldIntS.f
  simpa using heldIntS_loop n m hm hm2 hn n 0 k (by omega) hk

theorem spec_shares_l0 (x a b c : Int) (ha : 2 ≤ a ∧ a ≤ 12) : ∀ (d : Nat) (i : Int) (k : Nat) (acc : List Int), 0 ≤ i → i + (d : Int) = a → d < k → (acc.length : Int) ≤ i →
    spec_FullShares.l0 k x acc i a b c = some (acc ++ List.replicate d (wrap64 (x * b)), true) := by
  intro d
  induction d with
  | zero =>
    intro i k acc h0 h hk _
    obtain ⟨k, rfl⟩ : ∃ m, k = m + 1 := ⟨k - 1, by omega⟩
    simp only [spec_FullShares.l0]
    rw [if_neg (by omega)]; simp
  | succ d ih =>
    intro i k acc h0 h hk hl
    obtain ⟨k, rfl⟩ : ∃ m, k = m + 1 := ⟨k - 1, by omega⟩
    simp only [spec_FullShares.l0]
    rw [if_pos (by omega), if_pos (by omega), wrap_id (x := i + 1) (by omega) (by omega), ih (i + 1) k _ (by omega) (by omega) (by omega) (by simp; omega), List.append_assoc, List.replicate_succ]; rfl
theorem both (a b c x : Int) : ∃ v : List Int × Bool, Ev (fun k => spec_FullShares.f k a b c x) v ∧ impl_FullShares.f a b c x = some v ∧ v.1.length ≤ 100 := by
  have e0 := spec_tkGood_eq a b c
  have e1 := impl_IsTokenRing_eq a b c
  by_cases hb : ring3 a b c
  case neg =>
    rw [decide_eq_false hb] at e0 e1
    refine ⟨([], false), ⟨1, fun k hk => ?_⟩, ?_, by simp⟩
    · show spec_FullShares.f k a b c x = _
      obtain ⟨k, rfl⟩ : ∃ m, k = m + 1 := ⟨k - 1, by omega⟩
      unfold spec_FullShares.f; rw [e0, Option.bind_some, if_neg (by simp)]; simp [spec_FullShares.j0]
    · unfold impl_FullShares.f; rw [e1]; rfl
  case pos =>
    rw [decide_eq_true hb] at e0 e1
    have ha := hb.1
    by_cases hx : 0 ≤ x ∧ x ≤ 100
    · refine ⟨(List.replicate a.toNat (wrap64 (x * b)), true), ⟨20, fun k hk => ?_⟩, ?_, by simp; omega⟩
      · show spec_FullShares.f k a b c x = _
        obtain ⟨k, rfl⟩ : ∃ m, k = m + 1 := ⟨k - 1, by omega⟩
        unfold spec_FullShares.f; rw [e0, Option.bind_some, if_pos rfl, spec_l1In_eq, Option.bind_some, decide_eq_true hx]
        simp only [spec_FullShares.j0]
        rw [if_neg (by simp), spec_shares_l0 x a b c ha a.toNat 0 k [] (by omega) (by omega) (by omega) (by simp)]; rfl
      · unfold impl_FullShares.f slices_Repeat_int_int.f
        rw [e1, Option.bind_some, if_pos rfl, impl_within_eq, Option.bind_some, decide_eq_true hx, if_pos rfl, if_pos ⟨rfl, by omega, by omega⟩, Option.bind_some]; rfl
    · refine ⟨([], false), ⟨1, fun k hk => ?_⟩, ?_, by simp⟩
      · show spec_FullShares.f k a b c x = _
        obtain ⟨k, rfl⟩ : ∃ m, k = m + 1 := ⟨k - 1, by omega⟩
        unfold spec_FullShares.f; rw [e0, Option.bind_some, if_pos rfl, spec_l1In_eq, Option.bind_some, decide_eq_false hx]; simp [spec_FullShares.j0]
      · unfold impl_FullShares.f; rw [e1, Option.bind_some, if_pos rfl, impl_within_eq, Option.bind_some, decide_eq_false hx]; rfl
theorem FnExactFullShares : FnExactFullSharesPure := by
  intro a b c x _ _ _ _
  obtain ⟨v, ⟨K1, h1⟩, h2, hv⟩ := both a b c x
  simp only at h1
  have n2 : ¬ (1 + (v.1.length : Int) < 0) := by omega
  have hv2 : v.1.length ≤ 1048576 := by omega
  refine ⟨K1 + v.1.length + 10, ?_⟩
  unfold laws_FnExactFullShares.f
  simp (disch := omega) only [Option.bind_some, ↓reduceIte, bne_self_eq_false, Bool.false_eq_true, h1, h2, n2, toTokenRing_eq, eqIntS_refl hv2, markIntS_eq, heldIntS_eq]
  rw [laws_FnExactFullShares.j0]
  simp (disch := omega) only [Option.bind_some, ↓reduceIte, bne_self_eq_false, Bool.false_eq_true, h1, h2, n2, toTokenRing_eq, eqIntS_refl hv2, markIntS_eq, heldIntS_eq]
  rw [laws_FnExactFullShares.j1]
  simp (disch := omega) only [Option.bind_some, ↓reduceIte, bne_self_eq_false, Bool.false_eq_true, h1, h2, n2, toTokenRing_eq, eqIntS_refl hv2, markIntS_eq, heldIntS_eq]

end Go.Proofs.Ytgminjippechkaa.Pure
