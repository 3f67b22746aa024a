/- FnExactFullCalls: the program's answer is the reference's, as plain functions over numbers and lists; no condition beyond the sizes that every value has. -/
import Derived.Test.YtgminjippechkaaPFnExactFullCallsx3
namespace Go.Proofs.Ytgminjippechkaa.Pure
open Go.RowKit Go.Proofs.Ytgminjippechkaa.PFnExactFullCalls Go.Proofs.YtgminjippechkaaW.PrintWords Go.Proofs.YtgminjippechkaaW.PrintLast Go.Proofs.YtgminjippechkaaW.PrintMore

/- It reaches: laws_toTokenRing.f, laws_eqCall.f, laws_eqCallS.f, laws_markCallS.f, spec_l1In.f, spec_tkGood.f, spec_FullCalls.f, impl_within.f, impl_isRingSize.f, impl_IsTokenRing.f, impl_FullCalls.f, laws_heldCallS.f, laws_FnExactFullCalls.f -/
def FnExactFullCallsPure : Prop := ∀ (a0_0 : Int) (a0_1 : Int) (a0_2 : Int) (a1 : Int), (Lit.int .i64 a0_0).wf = true → (Lit.int .i64 a0_1).wf = true → (Lit.int .i64 a0_2).wf = true → (Lit.int .i64 a1).wf = true → ∃ k, laws_FnExactFullCalls.f k a0_0 a0_1 a0_2 a1 = some true
set_option linter.unusedSimpArgs false
set_option linter.unusedVariables false
theorem spec_l1In_eq (a b c : Int) : spec_l1In.f a b c = some (decide (b ≤ a ∧ a ≤ c)) := by
  unfold spec_l1In.f
  by_cases h : b ≤ a <;> simp [h]

theorem impl_within_eq (a b c : Int) : impl_within.f a b c = some (decide (b ≤ a ∧ a ≤ c)) := by
  unfold impl_within.f
  by_cases h : b ≤ a <;> simp [h]


theorem toTokenRing_eq (a b c : Int) : laws_toTokenRing.f a b c = some (a, b, c) := rfl
/-- What both call a token ring. -/
def ring3 (a b c : Int) : Prop := (2 ≤ a ∧ a ≤ 12) ∧ (1 ≤ b ∧ b ≤ 10) ∧ (1 ≤ c ∧ c ≤ 10)
instance (a b c : Int) : Decidable (ring3 a b c) := by unfold ring3; infer_instance
theorem spec_tkGood_eq (a b c : Int) : spec_tkGood.f a b c = some (decide (ring3 a b c)) := by
  unfold spec_tkGood.f ring3
  simp only [spec_l1In_eq, Option.bind_some]
  by_cases h1 : 2 ≤ a ∧ a ≤ 12 <;> by_cases h2 : 1 ≤ b ∧ b ≤ 10 <;> simp [h1, h2]
theorem impl_IsTokenRing_eq (a b c : Int) : impl_IsTokenRing.f a b c = some (decide (ring3 a b c)) := by
  unfold impl_IsTokenRing.f impl_isRingSize.f ring3
  simp only [impl_within_eq, Option.bind_some]
  by_cases h1 : 2 ≤ a ∧ a ≤ 12 <;> by_cases h2 : 1 ≤ b ∧ b ≤ 10 <;> simp [h1, h2]

theorem wrap_id {x : Int} (h1 : -9223372036854775808 ≤ x) (h2 : x ≤ 9223372036854775807) : wrap64 x = x := by unfold wrap64; omega
theorem wrap_succ {i n : Nat} (h : i < n) (hn : n ≤ 4611686018427387904) : wrap64 ((i : Int) + 1) = ((i + 1 : Nat) : Int) := by rw [wrap_id] <;> omega
theorem rd_nat (l : List Int) {i : Nat} (h : i < l.length) : rd l (i : Int) = l[i] := by simp [rd, h]
theorem rd_mem (l : List Int) {i : Nat} (h : i < l.length) : rd l (i : Int) ∈ l := by rw [rd_nat l h]; exact List.getElem_mem h
/-- One round, and the end. -/
theorem ev_end {α : Type} {g : Nat → Option α} {r : α} (h : ∀ k, g (k + 1) = some r) : Ev g r := Ev.step h (Ev.now r)
theorem ev_of {α : Type} {g : Nat → Option α} {r : α} (h : ∀ k, g k = some r) : Ev g r := ⟨0, fun k _ => h k⟩
theorem ev_eq {α : Type} {g : Nat → Option α} {r r' : α} (h : Ev g r) (e : r = r') : Ev g r' := e ▸ h

theorem rdC_nat (l : List S58) {i : Nat} (h : i < l.length) : rd_T58 l (i : Int) = l[i] := by simp [rd_T58, h]

theorem eqCallS_loop (l : List S58) (hn : l.length ≤ 1048576) : ∀ (d i k : Nat), i + d = l.length → d < k → laws_eqCallS.l0 k l l (i : Int) = some true := by
  intro d
  induction d with
  | zero =>
    intro i k h hk
    obtain ⟨k, rfl⟩ : ∃ m, k = m + 1 := ⟨k - 1, by omega⟩
    simp only [laws_eqCallS.l0]
    rw [if_neg (by omega)]
  | succ d ih =>
    intro i k h hk
    obtain ⟨k, rfl⟩ : ∃ m, k = m + 1 := ⟨k - 1, by omega⟩
    simp only [laws_eqCallS.l0, laws_eqCall.f, if_true, Option.bind_some]
    rw [if_pos (by omega), if_pos (by omega), if_pos (by omega), wrap_succ (n := l.length) (by omega) (by omega)]
    exact ih (i + 1) k (by omega) (by omega)
theorem eqCallS_refl {k : Nat} {l : List S58} (hn : l.length ≤ 1048576) (hk : l.length < k) : laws_eqCallS.f k l l = some true := by
  unfold laws_eqCallS.f
  rw [if_pos rfl]
  exact eqCallS_loop l hn l.length 0 k (by omega) hk

/-- The numbers from m on, three a call. -/
def marksC (m : Int) (n : Nat) : List S58 := (List.range n).map fun (j : Nat) => ⟨m + 3 * (j : Int), m + 3 * (j : Int) + 1, m + 3 * (j : Int) + 2⟩
theorem marksC_length (m : Int) (n : Nat) : (marksC m n).length = n := by simp [marksC]
theorem marksC_succ (m : Int) (n : Nat) : marksC m (n + 1) = marksC m n ++ [⟨m + 3 * (n : Int), m + 3 * (n : Int) + 1, m + 3 * (n : Int) + 2⟩] := by simp [marksC, List.range_succ]
theorem markCallS_loop (l : List S58) (m : Int) (hm : 0 ≤ m) (hm2 : m ≤ 1099511627776) (hn : l.length ≤ 1048576) : ∀ (d i k : Nat), i + d = l.length → d < k →
    laws_markCallS.l0 k (marksC m i ++ l.drop i) (m + 3 * (i : Int)) (i : Int) = some (m + 3 * (l.length : Int), marksC m l.length) := by
  intro d
  induction d with
  | zero =>
    intro i k h hk
    obtain ⟨k, rfl⟩ : ∃ q, k = q + 1 := ⟨k - 1, by omega⟩
    obtain rfl : i = l.length := by omega
    simp only [laws_markCallS.l0]
    rw [if_neg (by simp [marksC_length])]
    simp
  | succ d ih =>
    intro i k h hk
    obtain ⟨k, rfl⟩ : ∃ q, k = q + 1 := ⟨k - 1, by omega⟩
    have hi : i < l.length := by omega
    have hL : (marksC m i ++ l.drop i).length = l.length := by simp [marksC_length]; omega
    have hset : ∀ x : S58, (marksC m i ++ l.drop i).set i x = marksC m i ++ x :: l.drop (i + 1) := by
      intro x
      rw [List.set_append_right _ _ (by simp [marksC_length]), marksC_length, Nat.sub_self, List.drop_eq_getElem_cons hi, List.set_cons_zero]
    have hset2 : ∀ x y : S58, (marksC m i ++ x :: l.drop (i + 1)).set i y = marksC m i ++ y :: l.drop (i + 1) := by
      intro x y
      rw [List.set_append_right _ _ (by simp [marksC_length]), marksC_length, Nat.sub_self, List.set_cons_zero]
    have hrd : ∀ x : S58, rd_T58 (marksC m i ++ x :: l.drop (i + 1)) (i : Int) = x := by
      intro x
      rw [rdC_nat _ (by simp [marksC_length])]
      simp [marksC_length]
    simp only [laws_markCallS.l0]
    rw [if_pos (by rw [hL]; omega), if_pos (by omega), Int.toNat_natCast, hset, Option.bind_some, hrd, hset2, Option.bind_some, hrd, hset2]
    rw [wrap_succ hi (by omega), wrap_id (x := m + 3 * (i : Int) + 1) (by omega) (by omega), wrap_id (x := m + 3 * (i : Int) + 1 + 1) (by omega) (by omega), wrap_id (x := m + 3 * (i : Int) + 1 + 1 + 1) (by omega) (by omega)]
    have := ih (i + 1) k (by omega) (by omega)
    rw [marksC_succ, List.append_assoc] at this
    rw [show m + 3 * (i : Int) + 1 + 1 + 1 = m + 3 * ((i + 1 : Nat) : Int) from by omega, show m + 3 * (i : Int) + 1 + 1 = m + 3 * (i : Int) + 2 from by omega]
    exact this
theorem markCallS_eq {k : Nat} {l : List S58} {m : Int} (hm : 0 ≤ m) (hm2 : m ≤ 1099511627776) (hn : l.length ≤ 1048576) (hk : l.length < k) : laws_markCallS.f k l m = some (m + 3 * (l.length : Int), marksC m l.length) := by
  unfold laws_markCallS.f
  have := markCallS_loop l m hm hm2 hn l.length 0 k (by omega) hk
  simpa [marksC] using this

theorem heldCallS_loop (n : Nat) (m : Int) (hm : 0 ≤ m) (hm2 : m ≤ 1099511627776) (hn : n ≤ 1048576) : ∀ (d i k : Nat), i + d = n → d < k → laws_heldCallS.l0 k (marksC m n) (m + 3 * (i : Int)) (i : Int) = some (m + 3 * (n : Int)) := by
  intro d
  induction d with
  | zero =>
    intro i k h hk
    obtain ⟨k, rfl⟩ : ∃ q, k = q + 1 := ⟨k - 1, by omega⟩
    obtain rfl : i = n := by omega
    simp only [laws_heldCallS.l0]
    rw [if_neg (by simp [marksC_length])]
  | succ d ih =>
    intro i k h hk
    obtain ⟨k, rfl⟩ : ∃ q, k = q + 1 := ⟨k - 1, by omega⟩
    have hi : i < n := by omega
    have e : rd_T58 (marksC m n) (i : Int) = ⟨m + 3 * (i : Int), m + 3 * (i : Int) + 1, m + 3 * (i : Int) + 2⟩ := by rw [rdC_nat _ (by simpa [marksC_length] using hi)]; simp [marksC]
    simp only [laws_heldCallS.l0, e]
    rw [if_pos (by simp [marksC_length]; omega), if_pos (by omega), if_true, wrap_id (x := m + 3 * (i : Int) + 1) (by omega) (by omega), if_pos rfl, wrap_id (x := m + 3 * (i : Int) + 1 + 1) (by omega) (by omega), if_pos (by omega), wrap_id (x := m + 3 * (i : Int) + 1 + 1 + 1) (by omega) (by omega), wrap_succ hi (by omega), show m + 3 * (i : Int) + 1 + 1 + 1 = m + 3 * ((i + 1 : Nat) : Int) from by omega]
    exact ih (i + 1) k (by omega) (by omega)
theorem heldCallS_eq {k n : Nat} {m : Int} (hm : 0 ≤ m) (hm2 : m ≤ 1099511627776) (hn : n ≤ 1048576) (hk : n < k) : laws_heldCallS.f k (marksC m n) m = some (m + 3 * (n : Int)) := by
  unfold laws_heldCallS.f
  simpa using heldCallS_loop n m hm hm2 hn n 0 k (by omega) hk

def itemC (s a : Int) : S58 := ⟨0, a, Int.tmod (wrap64 (a + 1)) s⟩
/-- The calls of d stations from a on, e of each. -/
def fullF (s : Int) (e : Nat) : Nat → Int → List S58
  | 0, _ => []
  | d + 1, a => List.replicate e (itemC s a) ++ fullF s e d (a + 1)
theorem fullF_len (s : Int) (e : Nat) : ∀ (d : Nat) (a : Int), (fullF s e d a).length = d * e
  | 0, _ => by simp [fullF]
  | d + 1, a => by rw [fullF, List.length_append, List.length_replicate, fullF_len s e d, Nat.succ_mul]; omega
theorem rep_snoc {α : Type} (out : List α) (x : α) (n : Nat) : out ++ List.replicate (n + 1) x = (out ++ [x]) ++ List.replicate n x := by rw [List.replicate_succ, List.append_assoc]; rfl
theorem spec_full_l1 (e s b c a : Int) (hs : 2 ≤ s ∧ s ≤ 12) (he : e ≤ 10) (ha : 0 ≤ a ∧ a < s) (v : List S58 × Bool) : ∀ (d : Nat) (j : Int) (out : List S58), 0 ≤ j → j + d = e → out.length + d ≤ 1000 →
    Ev (fun k => spec_FullCalls.l0 k e (out ++ List.replicate d (itemC s a)) (a + 1) s b c) v → Ev (fun k => spec_FullCalls.l1 k e out a j s b c) v := by
  intro d
  induction d with
  | zero =>
    intro j out h0 hj _ hv
    refine Ev.step (fun k => ?_) hv
    simp only [spec_FullCalls.l1]
    rw [if_neg (by omega), wrap_id (by omega) (by omega)]; simp
  | succ d ih =>
    intro j out h0 hj ho hv
    rw [rep_snoc] at hv
    refine Ev.step (fun k => ?_) (ih (j + 1) (out ++ [itemC s a]) (by omega) (by omega) (by simp; omega) hv)
    simp only [spec_FullCalls.l1]
    rw [if_pos (by omega), if_neg (by omega), if_pos (by omega), wrap_id (x := j + 1) (by omega) (by omega)]; rfl
theorem spec_full_l0 (e s b c : Int) (hs : 2 ≤ s ∧ s ≤ 12) (he : 0 ≤ e ∧ e ≤ 10) : ∀ (d : Nat) (a : Int) (out : List S58), 0 ≤ a → a + d = s → out.length + 10 * d ≤ 900 →
    Ev (fun k => spec_FullCalls.l0 k e out a s b c) (out ++ fullF s e.toNat d a, true) := by
  intro d
  induction d with
  | zero =>
    intro a out h0 ha _
    refine ev_end (fun k => ?_)
    simp only [spec_FullCalls.l0]
    rw [if_neg (by omega)]; simp [fullF]
  | succ d ih =>
    intro a out h0 ha ho
    have next := ih (a + 1) (out ++ List.replicate e.toNat (itemC s a)) (by omega) (by omega) (by simp; omega)
    rw [List.append_assoc] at next
    refine Ev.step (fun k => ?_) (spec_full_l1 e s b c a hs he.2 ⟨h0, by omega⟩ _ e.toNat 0 out (by omega) (by omega) (by omega) next)
    simp only [spec_FullCalls.l0]
    rw [if_pos (by omega)]
theorem impl_full_l1 (e s b c a : Int) (hs : 2 ≤ s ∧ s ≤ 12) (he : e ≤ 10) (ha : 0 ≤ a ∧ a < s) (v : List S58 × Bool) : ∀ (d : Nat) (j : Int) (out : List S58), 0 ≤ j → j + d = e → out.length + d ≤ 1000 →
    Ev (fun k => impl_FullCalls.l0 k e (out ++ List.replicate d (itemC s a)) s (a + 1) s b c) v → Ev (fun k => impl_FullCalls.l1 k e out a s a e j s b c) v := by
  intro d
  induction d with
  | zero =>
    intro j out h0 hj _ hv
    refine Ev.step (fun k => ?_) hv
    simp only [impl_FullCalls.l1]
    rw [if_neg (by omega), wrap_id (by omega) (by omega)]; simp
  | succ d ih =>
    intro j out h0 hj ho hv
    rw [rep_snoc] at hv
    refine Ev.step (fun k => ?_) (ih (j + 1) (out ++ [itemC s a]) (by omega) (by omega) (by simp; omega) hv)
    simp only [impl_FullCalls.l1]
    rw [if_pos (by omega), if_neg (by omega), if_pos (by omega), wrap_id (x := j + 1) (by omega) (by omega)]; rfl
theorem impl_full_l0 (e s b c : Int) (hs : 2 ≤ s ∧ s ≤ 12) (he : 0 ≤ e ∧ e ≤ 10) : ∀ (d : Nat) (a : Int) (out : List S58), 0 ≤ a → a + d = s → out.length + 10 * d ≤ 900 →
    Ev (fun k => impl_FullCalls.l0 k e out s a s b c) (out ++ fullF s e.toNat d a, true) := by
  intro d
  induction d with
  | zero =>
    intro a out h0 ha _
    refine ev_end (fun k => ?_)
    simp only [impl_FullCalls.l0]
    rw [if_neg (by omega)]; simp [fullF]
  | succ d ih =>
    intro a out h0 ha ho
    have next := ih (a + 1) (out ++ List.replicate e.toNat (itemC s a)) (by omega) (by omega) (by simp; omega)
    rw [List.append_assoc] at next
    refine Ev.step (fun k => ?_) (impl_full_l1 e s b c a hs he.2 ⟨h0, by omega⟩ _ e.toNat 0 out (by omega) (by omega) (by omega) next)
    simp only [impl_FullCalls.l0]
    rw [if_pos (by omega)]
theorem both (s b c e : Int) : ∃ v : List S58 × Bool, Ev (fun k => spec_FullCalls.f k s b c e) v ∧ Ev (fun k => impl_FullCalls.f k s b c e) v ∧ v.1.length ≤ 1000 := by
  by_cases hall : ring3 s b c ∧ (0 ≤ e ∧ e ≤ 10)
  · obtain ⟨hr, he⟩ := hall
    have hs := hr.1
    have hprod : 0 ≤ s * e ∧ s * e ≤ 120 := by
      constructor
      · exact Int.mul_nonneg (by omega) he.1
      · have h1 : s * e ≤ 12 * e := Int.mul_le_mul_of_nonneg_right (by omega) he.1
        omega
    have w1 : wrap64 (s * e) = s * e := wrap_id (by omega) (by omega)
    have w2 : wrap64 (e * s) = s * e := by rw [Int.mul_comm]; exact w1
    by_cases h20 : s * e > 20
    · refine ⟨([], false), ⟨1, fun k hk => ?_⟩, ⟨1, fun k hk => ?_⟩, by simp⟩
      · show spec_FullCalls.f k s b c e = _
        obtain ⟨k, rfl⟩ : ∃ q, k = q + 1 := ⟨k - 1, by omega⟩
        unfold spec_FullCalls.f
        rw [spec_tkGood_eq, decide_eq_true hr, Option.bind_some, if_pos rfl, spec_l1In_eq, decide_eq_true he, Option.bind_some, if_pos rfl, w1, decide_eq_true h20]
        simp only [spec_FullCalls.j0, if_true]
      · show impl_FullCalls.f k s b c e = _
        obtain ⟨k, rfl⟩ : ∃ q, k = q + 1 := ⟨k - 1, by omega⟩
        unfold impl_FullCalls.f
        rw [impl_IsTokenRing_eq, decide_eq_true hr, Option.bind_some, if_pos rfl, impl_within_eq, decide_eq_true he, Option.bind_some, if_pos rfl, w2, decide_eq_true h20]
        simp only [impl_FullCalls.j0, if_true]
    · obtain ⟨K1, h1⟩ := spec_full_l0 e s b c hs he s.toNat 0 [] (by omega) (by omega) (by simp; omega)
      obtain ⟨K2, h2⟩ := impl_full_l0 e s b c hs he s.toNat 0 [] (by omega) (by omega) (by simp; omega)
      simp only [List.nil_append] at h1 h2
      have hlen : (fullF s e.toNat s.toNat 0).length ≤ 1000 := by
        rw [fullF_len]
        have : s.toNat * e.toNat ≤ 12 * 10 := Nat.mul_le_mul (by omega) (by omega)
        omega
      refine ⟨(fullF s e.toNat s.toNat 0, true), ⟨K1 + 1, fun k hk => ?_⟩, ⟨K2 + 1, fun k hk => ?_⟩, hlen⟩
      · show spec_FullCalls.f k s b c e = _
        obtain ⟨k, rfl⟩ : ∃ q, k = q + 1 := ⟨k - 1, by omega⟩
        unfold spec_FullCalls.f
        rw [spec_tkGood_eq, decide_eq_true hr, Option.bind_some, if_pos rfl, spec_l1In_eq, decide_eq_true he, Option.bind_some, if_pos rfl, w1, decide_eq_false h20]
        simp only [spec_FullCalls.j0, if_neg (show ¬ (false = true) by decide)]
        exact h1 k (by omega)
      · show impl_FullCalls.f k s b c e = _
        obtain ⟨k, rfl⟩ : ∃ q, k = q + 1 := ⟨k - 1, by omega⟩
        unfold impl_FullCalls.f
        rw [impl_IsTokenRing_eq, decide_eq_true hr, Option.bind_some, if_pos rfl, impl_within_eq, decide_eq_true he, Option.bind_some, if_pos rfl, w2, decide_eq_false h20]
        simp only [impl_FullCalls.j0, if_neg (show ¬ (false = true) by decide)]
        exact h2 k (by omega)
  · refine ⟨([], false), ⟨1, fun k hk => ?_⟩, ⟨1, fun k hk => ?_⟩, by simp⟩
    · show spec_FullCalls.f k s b c e = _
      obtain ⟨k, rfl⟩ : ∃ q, k = q + 1 := ⟨k - 1, by omega⟩
      unfold spec_FullCalls.f
      rw [spec_tkGood_eq, Option.bind_some]
      by_cases hr : ring3 s b c
      · have he : ¬ (0 ≤ e ∧ e ≤ 10) := fun h => hall ⟨hr, h⟩
        rw [decide_eq_true hr, if_pos rfl, spec_l1In_eq, decide_eq_false he, Option.bind_some, if_neg (by simp)]
        simp only [spec_FullCalls.j0, if_true]
      · rw [decide_eq_false hr, if_neg (by simp)]
        simp only [spec_FullCalls.j0, if_true]
    · show impl_FullCalls.f k s b c e = _
      obtain ⟨k, rfl⟩ : ∃ q, k = q + 1 := ⟨k - 1, by omega⟩
      unfold impl_FullCalls.f
      rw [impl_IsTokenRing_eq, Option.bind_some]
      by_cases hr : ring3 s b c
      · have he : ¬ (0 ≤ e ∧ e ≤ 10) := fun h => hall ⟨hr, h⟩
        rw [decide_eq_true hr, if_pos rfl, impl_within_eq, decide_eq_false he, Option.bind_some, if_neg (by simp)]
        simp only [impl_FullCalls.j0, if_true]
      · rw [decide_eq_false hr, if_neg (by simp)]
        simp only [impl_FullCalls.j0, if_true]
theorem FnExactFullCalls : FnExactFullCallsPure := by
  intro s b c e _ _ _ _
  obtain ⟨v, ⟨K1, h1⟩, ⟨K2, h2⟩, hv⟩ := both s b c e
  have n2 : ¬ (1 + 3 * (v.1.length : Int) < 0) := by omega
  have hv2 : v.1.length ≤ 1048576 := by omega
  refine ⟨K1 + K2 + v.1.length + 10, ?_⟩
  unfold laws_FnExactFullCalls.f
  simp (disch := omega) only [Option.bind_some, ↓reduceIte, bne_self_eq_false, Bool.false_eq_true, h1, h2, n2, toTokenRing_eq, eqCallS_refl hv2, markCallS_eq, heldCallS_eq]
  rw [laws_FnExactFullCalls.j0]
  simp (disch := omega) only [Option.bind_some, ↓reduceIte, bne_self_eq_false, Bool.false_eq_true, h1, h2, n2, toTokenRing_eq, eqCallS_refl hv2, markCallS_eq, heldCallS_eq]
  rw [laws_FnExactFullCalls.j1]
  simp (disch := omega) only [Option.bind_some, ↓reduceIte, bne_self_eq_false, Bool.false_eq_true, h1, h2, n2, toTokenRing_eq, eqCallS_refl hv2, markCallS_eq, heldCallS_eq]

end Go.Proofs.Ytgminjippechkaa.Pure
