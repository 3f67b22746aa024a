/- FnExactVisitsOf: the program's answer is the reference's, as plain functions over numbers and lists; no condition beyond the sizes that every value has. -/
import Derived.Test.YtgminjippechkaaPFnExactVisitsOfx7
namespace Go.Proofs.Ytgminjippechkaa.Pure
open Go.RowKit Go.Proofs.Ytgminjippechkaa.PFnExactVisitsOf Go.Proofs.YtgminjippechkaaW.PrintWords Go.Proofs.YtgminjippechkaaW.PrintLast Go.Proofs.YtgminjippechkaaW.PrintMore

/- It reaches: laws_szCallS.f, laws_toCall.f, laws_toCallS.f, spec_l1Has.f, spec_tkSent.f, spec_l1In.f, spec_tkGood.f, spec_tkCalls.f, spec_VisitsOf.f, slices_Index_int_int.f, slices_Contains_int_int.f, bits_Mul32.f, bits_Mul64.f, bits_Mul.f, slices_Repeat_int_int.f, impl_starts.f, impl_within.f, impl_isRingSize.f, impl_IsTokenRing.f, impl_isTick.f, impl_allWithin.f, impl_areCalls.f, impl_isCalled.f, impl_VisitsOf.f, laws_eqIntS.f, laws_eqIntSS.f, laws_eqCall.f, laws_eqCallS.f, laws_markCallS.f, laws_markIntS.f, laws_markIntSS.f, laws_heldIntS.f, laws_heldIntSS.f, laws_toTokenRing.f, laws_FnExactVisitsOf.f -/
def FnExactVisitsOfPure : Prop := ∀ (a0_0 : Int) (a0_1 : Int) (a0_2 : Int) (l1 : List (S60)) (a2 : Int), (Lit.int .i64 a0_0).wf = true → (Lit.int .i64 a0_1).wf = true → (Lit.int .i64 a0_2).wf = true → l1.length ≤ maxLen → (∀ x ∈ l1, (Lit.int .i64 x.f0).wf = true ∧ (Lit.int .i64 x.f1).wf = true ∧ (Lit.int .i64 x.f2).wf = true) → (Lit.int .i64 a2).wf = true → ∃ k, laws_FnExactVisitsOf.f k a0_0 a0_1 a0_2 l1 a2 = some true
set_option linter.unusedSimpArgs false
set_option linter.unusedVariables false
theorem wrap_id {x : Int} (h1 : -9223372036854775808 ≤ x) (h2 : x ≤ 9223372036854775807) : wrap64 x = x := by unfold wrap64; omega
theorem wrap_succ {i n : Nat} (h : i < n) (hn : n ≤ 4611686018427387904) : wrap64 ((i : Int) + 1) = ((i + 1 : Nat) : Int) := by rw [wrap_id] <;> omega
theorem rd_nat (l : List Int) {i : Nat} (h : i < l.length) : rd l (i : Int) = l[i] := by simp [rd, h]
theorem rd_mem (l : List Int) {i : Nat} (h : i < l.length) : rd l (i : Int) ∈ l := by rw [rd_nat l h]; exact List.getElem_mem h
/-- One round, and the end. -/
theorem ev_end {α : Type} {g : Nat → Option α} {r : α} (h : ∀ k, g (k + 1) = some r) : Ev g r := Ev.step h (Ev.now r)
theorem ev_of {α : Type} {g : Nat → Option α} {r : α} (h : ∀ k, g k = some r) : Ev g r := ⟨0, fun k _ => h k⟩
theorem ev_eq {α : Type} {g : Nat → Option α} {r r' : α} (h : Ev g r) (e : r = r') : Ev g r' := e ▸ h

theorem rdC_nat (l : List S58) {i : Nat} (h : i < l.length) : rd_T58 l (i : Int) = l[i] := by simp [rd_T58, h]

theorem rdLC_nat (l : List S60) {i : Nat} (h : i < l.length) : rd_T60 l (i : Int) = l[i] := by simp [rd_T60, h]
def toC (x : S60) : S58 := ⟨x.f0, x.f1, x.f2⟩
theorem toCallS_loop (l : List S60) (hn : l.length ≤ 1048576) : ∀ (d i k : Nat), i + d = l.length → d < k → laws_toCallS.l0 k l ((l.take i).map toC ++ List.replicate d z58) (i : Int) = some (l.map toC) := by
  intro d
  induction d with
  | zero =>
    intro i k h hk
    obtain ⟨k, rfl⟩ : ∃ m, k = m + 1 := ⟨k - 1, by omega⟩
    simp only [laws_toCallS.l0]
    rw [if_neg (by omega)]
    simp [List.take_of_length_le (show l.length ≤ i by omega)]
  | succ d ih =>
    intro i k h hk
    obtain ⟨k, rfl⟩ : ∃ m, k = m + 1 := ⟨k - 1, by omega⟩
    have hi : i < l.length := by omega
    have e : ((l.take i).map toC ++ List.replicate (d + 1) z58).set i (⟨l[i].f0, l[i].f1, l[i].f2⟩ : S58) = (l.take (i + 1)).map toC ++ List.replicate d z58 := by
      rw [List.set_append_right _ _ (by simp; omega)]
      simp only [List.length_map, List.length_take, Nat.min_eq_left (Nat.le_of_lt hi), Nat.sub_self, List.replicate_succ, List.set_cons_zero]
      rw [List.take_succ_eq_append_getElem hi, List.map_append, List.append_assoc]; rfl
    simp only [laws_toCallS.l0, laws_toCall.f, Option.bind_some]
    rw [if_pos (by omega), if_pos (by omega), if_pos (by simp; omega), Int.toNat_natCast, rdLC_nat l hi, e, wrap_succ hi (by omega)]
    exact ih (i + 1) k (by omega) (by omega)
theorem toCallS_eq {k : Nat} {l : List S60} (hn : l.length ≤ 1048576) (hk : l.length < k) : laws_toCallS.f k l = some (l.map toC) := by
  unfold laws_toCallS.f
  rw [if_pos (by omega), if_pos (by omega), Int.toNat_natCast]
  have := toCallS_loop l hn l.length 0 k (by omega) hk
  simpa using this

theorem eqCallS_loop (l : List S58) (hn : l.length ≤ 1048576) : ∀ (d i k : Nat), i + d = l.length → d < k → laws_eqCallS.l0 k l l (i : Int) = some true := by
  intro d
  induction d with
  | zero =>
    intro i k h hk
    obtain ⟨k, rfl⟩ : ∃ m, k = m + 1 := ⟨k - 1, by omega⟩
    simp only [laws_eqCallS.l0]
    rw [if_neg (by omega)]
  | succ d ih =>
    intro i k h hk
    obtain ⟨k, rfl⟩ : ∃ m, k = m + 1 := ⟨k - 1, by omega⟩
    simp only [laws_eqCallS.l0, laws_eqCall.f, if_true, Option.bind_some]
    rw [if_pos (by omega), if_pos (by omega), if_pos (by omega), wrap_succ (n := l.length) (by omega) (by omega)]
    exact ih (i + 1) k (by omega) (by omega)
theorem eqCallS_refl {k : Nat} {l : List S58} (hn : l.length ≤ 1048576) (hk : l.length < k) : laws_eqCallS.f k l l = some true := by
  unfold laws_eqCallS.f
  rw [if_pos rfl]
  exact eqCallS_loop l hn l.length 0 k (by omega) hk

theorem szCallS_big {l : List S60} (hm : l.length ≤ 9223372036854775807) (h : ¬ l.length ≤ 1048576) : laws_szCallS.f l 1048576 = some (-1) := by
  unfold laws_szCallS.f
  rw [wrap_id (by omega) (by omega), if_pos (by omega)]
theorem szCallS_ok {l : List S60} (h : l.length ≤ 1048576) : laws_szCallS.f l 1048576 = some (1048576 - (l.length : Int)) := by
  unfold laws_szCallS.f
  rw [wrap_id (by omega) (by omega), if_neg (by omega)]

/-- Does each come no later than the next one? -/
def leC : List S58 → Bool
  | a :: b :: t => decide (a.f0 ≤ b.f0) && leC (b :: t)
  | _ => true
theorem leC_at (l : List S58) {i : Nat} (h0 : 0 < i) (h : i < l.length) : leC (l.drop (i - 1)) = (decide (l[i - 1].f0 ≤ l[i].f0) && leC (l.drop i)) := by
  rw [List.drop_eq_getElem_cons (show i - 1 < l.length by omega), show i - 1 + 1 = i from by omega, List.drop_eq_getElem_cons h, leC]
theorem leC_end (l : List S58) {i : Nat} (h : i = l.length) : leC (l.drop (i - 1)) = true := by
  rcases Nat.eq_zero_or_pos i with h0 | h0
  · rw [h0, List.drop_of_length_le (by omega)]; rfl
  · rw [List.drop_eq_getElem_cons (show i - 1 < l.length by omega), List.drop_of_length_le (by omega)]; rfl
theorem wrap_pred {i n : Nat} (h0 : 0 < i) (h : i < n) (hn : n ≤ 4611686018427387904) : wrap64 ((i : Int) - 1) = ((i - 1 : Nat) : Int) := by rw [wrap_id] <;> omega


theorem spec_l1In_eq (a b c : Int) : spec_l1In.f a b c = some (decide (b ≤ a ∧ a ≤ c)) := by
  unfold spec_l1In.f
  by_cases h : b ≤ a <;> simp [h]

theorem impl_within_eq (a b c : Int) : impl_within.f a b c = some (decide (b ≤ a ∧ a ≤ c)) := by
  unfold impl_within.f
  by_cases h : b ≤ a <;> simp [h]


theorem toTokenRing_eq (a b c : Int) : laws_toTokenRing.f a b c = some (a, b, c) := rfl
/-- What both call a token ring. -/
def ring3 (a b c : Int) : Prop := (2 ≤ a ∧ a ≤ 12) ∧ (1 ≤ b ∧ b ≤ 10) ∧ (1 ≤ c ∧ c ≤ 10)
instance (a b c : Int) : Decidable (ring3 a b c) := by unfold ring3; infer_instance
theorem spec_tkGood_eq (a b c : Int) : spec_tkGood.f a b c = some (decide (ring3 a b c)) := by
  unfold spec_tkGood.f ring3
  simp only [spec_l1In_eq, Option.bind_some]
  by_cases h1 : 2 ≤ a ∧ a ≤ 12 <;> by_cases h2 : 1 ≤ b ∧ b ≤ 10 <;> simp [h1, h2]
theorem impl_IsTokenRing_eq (a b c : Int) : impl_IsTokenRing.f a b c = some (decide (ring3 a b c)) := by
  unfold impl_IsTokenRing.f impl_isRingSize.f ring3
  simp only [impl_within_eq, Option.bind_some]
  by_cases h1 : 2 ≤ a ∧ a ≤ 12 <;> by_cases h2 : 1 ≤ b ∧ b ≤ 10 <;> simp [h1, h2]

def goodC (s : Int) (x : S58) : Bool := decide ((0 ≤ x.f0 ∧ x.f0 ≤ 1000) ∧ (0 ≤ x.f1 ∧ x.f1 ≤ s - 1) ∧ (0 ≤ x.f2 ∧ x.f2 ≤ s - 1))
/-- What both call calls. -/
def callsB (s : Int) (l : List S58) : Bool := decide (l.length ≤ 20) && (l.all (goodC s) && leC l)
theorem callsB_len {s : Int} {l : List S58} (h : callsB s l = true) : l.length ≤ 20 := by simp [callsB] at h; exact h.1
theorem callsB_mem {s : Int} {l : List S58} (h : callsB s l = true) : ∀ x ∈ l, (0 ≤ x.f0 ∧ x.f0 ≤ 1000) ∧ (0 ≤ x.f1 ∧ x.f1 ≤ s - 1) ∧ (0 ≤ x.f2 ∧ x.f2 ≤ s - 1) := by
  intro x hx
  simp [callsB] at h
  simpa [goodC] using h.2.1 x hx
theorem spec_tkCalls_loop (s b c : Int) (hs : 2 ≤ s ∧ s ≤ 12) (l : List S58) (hn : l.length ≤ 1048576) : ∀ (d i k : Nat), i + d = l.length → 2 * d < k →
    spec_tkCalls.l0 k l l (l.length : Int) (i : Int) s b c = some ((l.drop i).all (goodC s) && leC (l.drop (i - 1))) := by
  intro d
  induction d with
  | zero =>
    intro i k h hk
    obtain ⟨k, rfl⟩ : ∃ m, k = m + 1 := ⟨k - 1, by omega⟩
    simp only [spec_tkCalls.l0]
    rw [if_neg (by omega), List.drop_of_length_le (l := l) (i := i) (by omega), leC_end l (by omega)]; rfl
  | succ d ih =>
    intro i k h hk
    obtain ⟨k, rfl⟩ : ∃ m, k = m + 2 := ⟨k - 2, by omega⟩
    have hlt : i < l.length := by omega
    have nx := ih (i + 1) k (by omega) (by omega)
    rw [Nat.add_sub_cancel] at nx
    have e : (l.drop i).all (goodC s) = (goodC s l[i] && (l.drop (i + 1)).all (goodC s)) := by rw [List.drop_eq_getElem_cons hlt, List.all_cons]
    simp only [spec_tkCalls.l0, spec_l1In_eq, Option.bind_some]
    rw [if_pos (by omega), if_pos (by omega), if_pos (by omega), rdC_nat l hlt, e, wrap_id (x := s - 1) (by omega) (by omega)]
    by_cases c0 : 0 ≤ l[i].f0 ∧ l[i].f0 ≤ 1000
    · rw [if_pos (by simpa using c0)]
      by_cases c1 : 0 ≤ l[i].f1 ∧ l[i].f1 ≤ s - 1
      · rw [if_pos (by simpa using c1)]
        by_cases c2 : 0 ≤ l[i].f2 ∧ l[i].f2 ≤ s - 1
        · have g : goodC s l[i] = true := by simp only [goodC, c0, c1, c2, and_self, decide_true]
          rw [decide_eq_true c2, g]
          simp only [spec_tkCalls.j2, Bool.not_true, if_neg (show ¬ (false = true) by decide)]
          rw [wrap_succ hlt (by omega)]
          by_cases h0 : 0 < i
          · rw [if_pos (by omega), wrap_pred h0 hlt (by omega), if_pos (by omega), if_pos (by omega), rdC_nat l (show i - 1 < l.length by omega), leC_at l h0 hlt]
            by_cases cc : l[i - 1].f0 ≤ l[i].f0
            · rw [if_neg (by omega), nx]; simp [cc]
            · rw [if_pos (by omega)]; simp [cc]
          · obtain rfl : i = 0 := by omega
            rw [if_neg (by omega), nx, Bool.true_and]
        · have g : goodC s l[i] = false := by simp only [goodC, c2, and_false, decide_false]
          rw [decide_eq_false c2, g]; simp only [spec_tkCalls.j2, Bool.not_false, if_true, Bool.false_and]
      · have g : goodC s l[i] = false := by simp only [goodC, c1, and_false, false_and, decide_false]
        rw [if_neg (by simpa using c1), g]; simp only [spec_tkCalls.j2, if_true, Bool.false_and]
    · have g : goodC s l[i] = false := by simp only [goodC, c0, false_and, decide_false]
      rw [if_neg (by simpa using c0), g]; simp only [spec_tkCalls.j2, if_true, Bool.false_and]
theorem spec_tkCalls_eq {k : Nat} {s b c : Int} {l : List S58} (hr : ring3 s b c) (hn : l.length ≤ 1048576) (hk : 2 * l.length + 2 < k) : spec_tkCalls.f k s b c l = some (callsB s l) := by
  obtain ⟨k, rfl⟩ : ∃ m, k = m + 1 := ⟨k - 1, by omega⟩
  unfold spec_tkCalls.f callsB
  rw [spec_tkGood_eq, decide_eq_true hr, Option.bind_some, if_pos rfl]
  have := spec_tkCalls_loop s b c hr.1 l hn l.length 0 k (by omega) (by omega)
  rw [show ((0 : Nat) : Int) = 0 from rfl] at this
  by_cases h : l.length ≤ 20
  · rw [decide_eq_false (by omega)]
    simp only [spec_tkCalls.j0, if_neg (show ¬ (false = true) by decide)]
    rw [this]; simp [h]
  · rw [decide_eq_true (by omega)]
    simp only [spec_tkCalls.j0, if_true]
    simp [h]
theorem impl_areCalls_loop (s : Int) (hs : 2 ≤ s ∧ s ≤ 12) (l : List S58) (hn : l.length ≤ 1048576) : ∀ (d i k : Nat), i + d = l.length → d < k →
    impl_areCalls.l0 k s l l (l.length : Int) (i : Int) = some (((l.drop i).all (goodC s) && leC (l.drop (i - 1))) && decide ((l.length : Int) ≤ 20)) := by
  intro d
  induction d with
  | zero =>
    intro i k h hk
    obtain ⟨k, rfl⟩ : ∃ m, k = m + 1 := ⟨k - 1, by omega⟩
    simp only [impl_areCalls.l0]
    rw [if_neg (by omega), List.drop_of_length_le (l := l) (i := i) (by omega), leC_end l (by omega)]; rfl
  | succ d ih =>
    intro i k h hk
    obtain ⟨k, rfl⟩ : ∃ m, k = m + 1 := ⟨k - 1, by omega⟩
    have hlt : i < l.length := by omega
    have nx := ih (i + 1) k (by omega) (by omega)
    rw [Nat.add_sub_cancel] at nx
    have e : (l.drop i).all (goodC s) = (goodC s l[i] && (l.drop (i + 1)).all (goodC s)) := by rw [List.drop_eq_getElem_cons hlt, List.all_cons]
    simp only [impl_areCalls.l0, impl_isTick.f, impl_within_eq, impl_allWithin.f, Option.bind_some]
    rw [if_pos (by omega), if_pos (by omega), if_pos (by omega), rdC_nat l hlt, e, wrap_id (x := s - 1) (by omega) (by omega), wrap_succ hlt (by omega)]
    by_cases c0 : 0 ≤ l[i].f0 ∧ l[i].f0 ≤ 1000
    · rw [if_pos (by simpa using c0)]
      by_cases c12 : (0 ≤ l[i].f1 ∧ l[i].f1 ≤ s - 1) ∧ (0 ≤ l[i].f2 ∧ l[i].f2 ≤ s - 1)
      · have g : goodC s l[i] = true := by simp only [goodC, c0, c12, and_self, decide_true]
        rw [if_pos (by simp [c12]), g]
        by_cases h0 : 0 < i
        · rw [if_pos (by omega), wrap_pred h0 hlt (by omega), if_pos (by omega), if_pos (by omega), rdC_nat l (show i - 1 < l.length by omega), leC_at l h0 hlt]
          by_cases cc : l[i - 1].f0 ≤ l[i].f0
          · rw [if_neg (by omega), nx]; simp [cc]
          · rw [if_pos (by omega)]; simp [cc]
        · obtain rfl : i = 0 := by omega
          rw [if_neg (by omega), nx, Bool.true_and]
      · have g : goodC s l[i] = false := by simp only [goodC, c12, and_false, decide_false]
        rw [if_neg (by simp only [List.all_cons, List.all_nil, Bool.and_true, Bool.and_eq_true, decide_eq_true_eq]; exact c12), g]; rfl
    · have g : goodC s l[i] = false := by simp only [goodC, c0, false_and, decide_false]
      rw [if_neg (by simpa using c0), g]; rfl
theorem impl_areCalls_eq {k : Nat} {s : Int} {l : List S58} (hs : 2 ≤ s ∧ s ≤ 12) (hn : l.length ≤ 1048576) (hk : l.length < k) : impl_areCalls.f k s l = some (callsB s l) := by
  unfold impl_areCalls.f callsB
  have := impl_areCalls_loop s hs l hn l.length 0 k (by omega) hk
  rw [show ((0 : Nat) : Int) = 0 from rfl] at this
  rw [this]
  by_cases h : l.length ≤ 20
  · simp [h, show (l.length : Int) ≤ 20 by omega]
  · simp [h, show ¬ (l.length : Int) ≤ 20 by omega]

/-- Both come to the same. -/
def EvB {α : Type} (g1 g2 : Nat → Option α) : Prop := ∃ v, Ev g1 v ∧ Ev g2 v
theorem EvB.step {α : Type} {g1 g2 f1 f2 : Nat → Option α} (h1 : ∀ k, g1 (k + 1) = f1 k) (h2 : ∀ k, g2 (k + 1) = f2 k) (h : EvB f1 f2) : EvB g1 g2 := by
  obtain ⟨v, a, b⟩ := h
  exact ⟨v, Ev.step h1 a, Ev.step h2 b⟩
theorem EvB.ret {α : Type} {g1 g2 : Nat → Option α} {v : α} (h1 : ∀ k, g1 (k + 1) = some v) (h2 : ∀ k, g2 (k + 1) = some v) : EvB g1 g2 := ⟨v, ev_end h1, ev_end h2⟩

theorem fit_of_calls {s b c : Int} {l : List S58} (hr : ring3 s b c) (h : callsB s l = true) : tkFit s b c l = true := by
  unfold tkFit
  rw [Bool.and_eq_true, decide_eq_true_eq, List.all_eq_true]
  refine ⟨⟨hr.1, hr.2.1, hr.2.2, callsB_len h⟩, fun x hx => ?_⟩
  obtain ⟨h1, h2, _⟩ := callsB_mem h x hx
  exact decide_eq_true ⟨h1, by omega, by omega⟩
/-- What both call a ring with calls. -/
def tokB (s b c : Int) (l : List S58) : Bool := decide (ring3 s b c) && callsB s l
theorem tokB_out {s b c : Int} {l : List S58} (h : tokB s b c l = true) : ring3 s b c ∧ callsB s l = true := by
  unfold tokB at h; simpa using h
theorem spec_tkCalls_any {k : Nat} {s b c : Int} {l : List S58} (hn : l.length ≤ 1048576) (hk : 2 * l.length + 2 < k) : spec_tkCalls.f k s b c l = some (tokB s b c l) := by
  unfold tokB
  by_cases hr : ring3 s b c
  · rw [spec_tkCalls_eq hr hn hk, decide_eq_true hr]; rfl
  · obtain ⟨k, rfl⟩ : ∃ m, k = m + 1 := ⟨k - 1, by omega⟩
    unfold spec_tkCalls.f
    rw [spec_tkGood_eq, decide_eq_false hr, Option.bind_some, if_neg (by simp)]
    simp only [spec_tkCalls.j0, if_true]; rfl
theorem impl_isCalled_any {k : Nat} {s b c : Int} {l : List S58} (hn : l.length ≤ 1048576) (hk : l.length < k) : impl_isCalled.f k s b c l = some (tokB s b c l) := by
  unfold tokB impl_isCalled.f
  rw [impl_IsTokenRing_eq, Option.bind_some]
  by_cases hr : ring3 s b c
  · rw [decide_eq_true hr, if_pos rfl, impl_areCalls_eq hr.1 hn hk]; rfl
  · rw [decide_eq_false hr, if_neg (by simp)]; rfl
theorem tok_ok {s b c : Int} {l : List S58} (h : tokB s b c l = true) : (2 ≤ s ∧ s ≤ 12) ∧ (1 ≤ b ∧ b ≤ 10) ∧ (1 ≤ c ∧ c ≤ 10) ∧ tkOk s l := tkFit_out (fit_of_calls (tokB_out h).1 (tokB_out h).2)
theorem tok_len {s b c : Int} {l : List S58} (h : tokB s b c l = true) : l.length ≤ 20 := callsB_len (tokB_out h).2
theorem spec_sent_eq {s b c : Int} {l : List S58} (h : tokB s b c l = true) : spec_tkSent.f s b c l = some (tkAll s b c l) := by
  unfold spec_tkSent.f
  rw [if_pos (fit_of_calls (tokB_out h).1 (tokB_out h).2)]
theorem impl_sent_eq {s b c : Int} {l : List S58} (h : tokB s b c l = true) : impl_starts.f s b c l = some (tkAll s b c l) := by
  unfold impl_starts.f
  rw [if_pos (fit_of_calls (tokB_out h).1 (tokB_out h).2)]

/-- The numbers from m on, three a call. -/
def marksC (m : Int) (n : Nat) : List S58 := (List.range n).map fun (j : Nat) => ⟨m + 3 * (j : Int), m + 3 * (j : Int) + 1, m + 3 * (j : Int) + 2⟩
theorem marksC_length (m : Int) (n : Nat) : (marksC m n).length = n := by simp [marksC]
theorem marksC_succ (m : Int) (n : Nat) : marksC m (n + 1) = marksC m n ++ [⟨m + 3 * (n : Int), m + 3 * (n : Int) + 1, m + 3 * (n : Int) + 2⟩] := by simp [marksC, List.range_succ]
theorem markCallS_loop (l : List S58) (m : Int) (hm : 0 ≤ m) (hm2 : m ≤ 1099511627776) (hn : l.length ≤ 1048576) : ∀ (d i k : Nat), i + d = l.length → d < k →
    laws_markCallS.l0 k (marksC m i ++ l.drop i) (m + 3 * (i : Int)) (i : Int) = some (m + 3 * (l.length : Int), marksC m l.length) := by
  intro d
  induction d with
  | zero =>
    intro i k h hk
    obtain ⟨k, rfl⟩ : ∃ q, k = q + 1 := ⟨k - 1, by omega⟩
    obtain rfl : i = l.length := by omega
    simp only [laws_markCallS.l0]
    rw [if_neg (by simp [marksC_length])]
    simp
  | succ d ih =>
    intro i k h hk
    obtain ⟨k, rfl⟩ : ∃ q, k = q + 1 := ⟨k - 1, by omega⟩
    have hi : i < l.length := by omega
    have hL : (marksC m i ++ l.drop i).length = l.length := by simp [marksC_length]; omega
    have hset : ∀ x : S58, (marksC m i ++ l.drop i).set i x = marksC m i ++ x :: l.drop (i + 1) := by
      intro x
      rw [List.set_append_right _ _ (by simp [marksC_length]), marksC_length, Nat.sub_self, List.drop_eq_getElem_cons hi, List.set_cons_zero]
    have hset2 : ∀ x y : S58, (marksC m i ++ x :: l.drop (i + 1)).set i y = marksC m i ++ y :: l.drop (i + 1) := by
      intro x y
      rw [List.set_append_right _ _ (by simp [marksC_length]), marksC_length, Nat.sub_self, List.set_cons_zero]
    have hrd : ∀ x : S58, rd_T58 (marksC m i ++ x :: l.drop (i + 1)) (i : Int) = x := by
      intro x
      rw [rdC_nat _ (by simp [marksC_length])]
      simp [marksC_length]
    simp only [laws_markCallS.l0]
    rw [if_pos (by rw [hL]; omega), if_pos (by omega), Int.toNat_natCast, hset, Option.bind_some, hrd, hset2, Option.bind_some, hrd, hset2]
    rw [wrap_succ hi (by omega), wrap_id (x := m + 3 * (i : Int) + 1) (by omega) (by omega), wrap_id (x := m + 3 * (i : Int) + 1 + 1) (by omega) (by omega), wrap_id (x := m + 3 * (i : Int) + 1 + 1 + 1) (by omega) (by omega)]
    have := ih (i + 1) k (by omega) (by omega)
    rw [marksC_succ, List.append_assoc] at this
    rw [show m + 3 * (i : Int) + 1 + 1 + 1 = m + 3 * ((i + 1 : Nat) : Int) from by omega, show m + 3 * (i : Int) + 1 + 1 = m + 3 * (i : Int) + 2 from by omega]
    exact this
theorem markCallS_eq {k : Nat} {l : List S58} {m : Int} (hm : 0 ≤ m) (hm2 : m ≤ 1099511627776) (hn : l.length ≤ 1048576) (hk : l.length < k) : laws_markCallS.f k l m = some (m + 3 * (l.length : Int), marksC m l.length) := by
  unfold laws_markCallS.f
  have := markCallS_loop l m hm hm2 hn l.length 0 k (by omega) hk
  simpa [marksC] using this

theorem eqIntS_loop (l : List Int) (hn : l.length ≤ 1048576) : ∀ (d i k : Nat), i + d = l.length → d < k → laws_eqIntS.l0 k l l (i : Int) = some true := by
  intro d
  induction d with
  | zero =>
    intro i k h hk
    obtain ⟨k, rfl⟩ : ∃ m, k = m + 1 := ⟨k - 1, by omega⟩
    simp only [laws_eqIntS.l0]
    rw [if_neg (by omega)]
  | succ d ih =>
    intro i k h hk
    obtain ⟨k, rfl⟩ : ∃ m, k = m + 1 := ⟨k - 1, by omega⟩
    simp only [laws_eqIntS.l0]
    rw [if_pos (by omega), if_pos (by omega), if_pos (by omega), if_pos trivial, wrap_succ (n := l.length) (by omega) (by omega)]
    exact ih (i + 1) k (by omega) (by omega)
theorem eqIntS_refl {k : Nat} {l : List Int} (hn : l.length ≤ 1048576) (hk : l.length < k) : laws_eqIntS.f k l l = some true := by
  unfold laws_eqIntS.f
  rw [if_pos rfl]
  exact eqIntS_loop l hn l.length 0 k (by omega) hk

/-- n numbers from m on. -/
def marks (m : Int) (n : Nat) : List Int := (List.range n).map fun (j : Nat) => m + (j : Int)
theorem marks_length (m : Int) (n : Nat) : (marks m n).length = n := by simp [marks]
theorem marks_succ (m : Int) (n : Nat) : marks m (n + 1) = marks m n ++ [m + (n : Int)] := by simp [marks, List.range_succ]
theorem markIntS_loop (l : List Int) (m : Int) (hm : 0 ≤ m) (hm2 : m ≤ 1099511627776) (hn : l.length ≤ 1048576) : ∀ (d i k : Nat), i + d = l.length → d < k →
    laws_markIntS.l0 k (marks m i ++ l.drop i) (m + (i : Int)) (i : Int) = some (m + (l.length : Int), marks m l.length) := by
  intro d
  induction d with
  | zero =>
    intro i k h hk
    obtain ⟨k, rfl⟩ : ∃ m, k = m + 1 := ⟨k - 1, by omega⟩
    obtain rfl : i = l.length := by omega
    simp only [laws_markIntS.l0]
    rw [if_neg (by simp [marks_length])]
    simp
  | succ d ih =>
    intro i k h hk
    obtain ⟨k, rfl⟩ : ∃ m, k = m + 1 := ⟨k - 1, by omega⟩
    have hi : i < l.length := by omega
    have e : (marks m i ++ l.drop i).set i (m + (i : Int)) = marks m (i + 1) ++ l.drop (i + 1) := by
      rw [List.set_append_right _ _ (by simp [marks_length]), marks_length, Nat.sub_self, List.drop_eq_getElem_cons hi, List.set_cons_zero, marks_succ, List.append_assoc]; rfl
    simp only [laws_markIntS.l0]
    rw [if_pos (by simp [marks_length]; omega), if_pos (by omega), Int.toNat_natCast, e, wrap_succ hi (by omega), show wrap64 (m + (i : Int) + 1) = m + ((i + 1 : Nat) : Int) from by rw [wrap_id] <;> omega]
    exact ih (i + 1) k (by omega) (by omega)
theorem markIntS_eq {k : Nat} {l : List Int} {m : Int} (hm : 0 ≤ m) (hm2 : m ≤ 1099511627776) (hn : l.length ≤ 1048576) (hk : l.length < k) : laws_markIntS.f k l m = some (m + (l.length : Int), marks m l.length) := by
  unfold laws_markIntS.f
  have := markIntS_loop l m hm hm2 hn l.length 0 k (by omega) hk
  simpa [marks] using this
theorem heldIntS_loop (n : Nat) (m : Int) (hm : 0 ≤ m) (hm2 : m ≤ 1099511627776) (hn : n ≤ 1048576) : ∀ (d i k : Nat), i + d = n → d < k → laws_heldIntS.l0 k (marks m n) (m + (i : Int)) (i : Int) = some (m + (n : Int)) := by
  intro d
  induction d with
  | zero =>
    intro i k h hk
    obtain ⟨k, rfl⟩ : ∃ m, k = m + 1 := ⟨k - 1, by omega⟩
    obtain rfl : i = n := by omega
    simp only [laws_heldIntS.l0]
    rw [if_neg (by simp [marks_length])]
  | succ d ih =>
    intro i k h hk
    obtain ⟨k, rfl⟩ : ∃ m, k = m + 1 := ⟨k - 1, by omega⟩
    have hi : i < n := by omega
    have e : rd (marks m n) (i : Int) = m + (i : Int) := by rw [rd_nat _ (by simpa [marks_length] using hi)]; simp [marks]
    simp only [laws_heldIntS.l0]
    rw [if_pos (by simp [marks_length]; omega), if_pos (by omega), if_pos e, wrap_succ hi (by omega), show wrap64 (m + (i : Int) + 1) = m + ((i + 1 : Nat) : Int) from by rw [wrap_id] <;> omega]
    exact ih (i + 1) k (by omega) (by omega)
theorem heldIntS_eq {k n : Nat} {m : Int} (hm : 0 ≤ m) (hm2 : m ≤ 1099511627776) (hn : n ≤ 1048576) (hk : n < k) : laws_heldIntS.f k (marks m n) m = some (m + (n : Int)) := by
  unfold laws_heldIntS.f
  simpa using heldIntS_loop n m hm hm2 hn n 0 k (by omega) hk

theorem rdRow_at (l : List (List Int)) {i : Nat} (h : i < l.length) : rd_L5 l (i : Int) = l[i] := by simp [rd_L5, h]
theorem eqIntSS_loop (l : List (List Int)) (hn : l.length ≤ 4096) (hr : ∀ r ∈ l, r.length ≤ 4096) : ∀ (d i k : Nat), i + d = l.length → d + 4097 < k → laws_eqIntSS.l0 k l l (i : Int) = some true := by
  intro d
  induction d with
  | zero =>
    intro i k h hk
    obtain ⟨k, rfl⟩ : ∃ m, k = m + 1 := ⟨k - 1, by omega⟩
    simp only [laws_eqIntSS.l0]
    rw [if_neg (by omega)]
  | succ d ih =>
    intro i k h hk
    obtain ⟨k, rfl⟩ : ∃ m, k = m + 1 := ⟨k - 1, by omega⟩
    have hi : i < l.length := by omega
    have hb := hr l[i] (List.getElem_mem hi)
    simp only [laws_eqIntSS.l0]
    rw [if_pos (by omega), if_pos (by omega), if_pos (by omega), rdRow_at l hi, eqIntS_refl (by omega) (by omega), Option.bind_some, if_pos rfl, wrap_succ hi (by omega)]
    exact ih (i + 1) k (by omega) (by omega)
theorem eqIntSS_refl {k : Nat} {l : List (List Int)} (hn : l.length ≤ 4096) (hr : ∀ r ∈ l, r.length ≤ 4096) (hk : l.length + 4097 < k) : laws_eqIntSS.f k l l = some true := by
  unfold laws_eqIntSS.f
  rw [if_pos rfl]
  exact eqIntSS_loop l hn hr l.length 0 k (by omega) hk

theorem ss_sum (l : List (List Int)) (hr : ∀ r ∈ l, r.length ≤ 4096) : 0 ≤ laws_markIntSS.sum l ∧ laws_markIntSS.sum l ≤ 4096 * (l.length : Int) := by
  induction l with
  | nil => simp [laws_markIntSS.sum]
  | cons r l ih =>
    have := ih (fun x hx => hr x (by simp [hx]))
    have h0 := hr r (by simp)
    rw [laws_markIntSS.sum, List.length_cons]; omega
theorem heldIntSS_loop : ∀ (rest pre : List (List Int)) (m : Int) (k : Nat), (∀ r ∈ rest, r.length ≤ 4096) → 0 ≤ m → m + 4096 * (rest.length : Int) ≤ 1000000000 → pre.length + rest.length ≤ 4096 → rest.length + 4097 < k →
    laws_heldIntSS.l0 k (pre ++ laws_markIntSS.rows m rest) m (pre.length : Int) = some (m + laws_markIntSS.sum rest) := by
  intro rest
  induction rest with
  | nil =>
    intro pre m k _ _ _ _ hk
    obtain ⟨k, rfl⟩ : ∃ q, k = q + 1 := ⟨k - 1, by omega⟩
    simp only [laws_heldIntSS.l0]
    rw [if_neg (by simp [laws_markIntSS.rows]), laws_markIntSS.sum, Int.add_zero]
  | cons r rest ih =>
    intro pre m k hr h0 hm hn hk
    obtain ⟨k, rfl⟩ : ∃ q, k = q + 1 := ⟨k - 1, by omega⟩
    have hb := hr r (by simp)
    rw [List.length_cons] at hm hn hk
    have e : rd_L5 (pre ++ laws_markIntSS.marks m r.length :: laws_markIntSS.rows (m + (r.length : Int)) rest) (pre.length : Int) = marks m r.length := by
      simp [rd_L5]; rfl
    rw [laws_markIntSS.rows]
    simp only [laws_heldIntSS.l0]
    rw [if_pos (by simp only [List.length_append, List.length_cons]; omega), if_pos (by omega), e, heldIntS_eq h0 (by omega) (by omega) (by omega), Option.bind_some, if_neg (by omega), show wrap64 ((pre.length : Int) + 1) = ((pre.length + 1 : Nat) : Int) from by rw [wrap_id] <;> omega]
    have := ih (pre ++ [marks m r.length]) (m + (r.length : Int)) k (fun x hx => hr x (by simp [hx])) (by omega) (by omega) (by simp; omega) (by omega)
    rw [List.append_assoc, List.length_append] at this
    rw [laws_markIntSS.sum, ← Int.add_assoc]
    exact this
theorem heldIntSS_eq {k : Nat} {l : List (List Int)} (hn : l.length ≤ 4096) (hr : ∀ r ∈ l, r.length ≤ 4096) (hk : l.length + 4097 < k) : laws_heldIntSS.f k (laws_markIntSS.rows 1 l) 1 = some (1 + laws_markIntSS.sum l) := by
  unfold laws_heldIntSS.f
  exact heldIntSS_loop l [] 1 k hr (by omega) (by omega) (by simpa using hn) hk
theorem markIntSS_eq {l : List (List Int)} (hn : l.length ≤ 4096) (hr : ∀ r ∈ l, r.length ≤ 4096) : laws_markIntSS.f l 1 = some (1 + laws_markIntSS.sum l, laws_markIntSS.rows 1 l) := by
  unfold laws_markIntSS.f
  rw [if_pos ⟨hn, List.all_eq_true.2 (fun r h => by simpa using hr r h), by omega, by omega⟩]

theorem tkRows_rows (s b c : Int) (l : List S58) (v : Nat) : ∀ x ∈ tkRows s b c l v, x.length ≤ 4096 := by
  intro x hx
  simp only [tkRows, List.mem_map] at hx
  obtain ⟨p, _, rfl⟩ := hx
  simp
theorem both (s b c : Int) (l : List S58) (t : Int) (hn : l.length ≤ 1048576) : ∃ v : List (List Int) × Bool, Ev (fun k => spec_VisitsOf.f k s b c l t) v ∧ Ev (fun k => impl_VisitsOf.f k s b c l t) v ∧ v.1.length ≤ 100 ∧ ∀ x ∈ v.1, x.length ≤ 4096 := by
  refine ⟨if tokB s b c l = true then (if 0 ≤ t ∧ t ≤ 100 then (tkRows s b c l t.toNat, true) else ([], false)) else ([], false), ⟨2 * l.length + 3, fun k hk => ?_⟩, ⟨l.length + 1, fun k hk => ?_⟩, ?_⟩
  · show spec_VisitsOf.f k s b c l t = _
    unfold spec_VisitsOf.f
    rw [spec_tkCalls_any hn (by omega), Option.bind_some]
    cases h : tokB s b c l with
    | true =>
      rw [if_pos rfl, if_pos rfl]
      by_cases ht : 0 ≤ t ∧ t ≤ 100
      · rw [if_pos ht, if_pos ht, if_pos (fit_of_calls (tokB_out h).1 (tokB_out h).2)]
      · rw [if_neg ht, if_neg ht]
    | false => rw [if_neg (by simp), if_neg (by simp)]
  · show impl_VisitsOf.f k s b c l t = _
    unfold impl_VisitsOf.f
    rw [impl_isCalled_any hn (by omega), Option.bind_some]
    cases h : tokB s b c l with
    | true =>
      rw [if_pos rfl, if_pos rfl]
      by_cases ht : 0 ≤ t ∧ t ≤ 100
      · rw [if_pos ht, if_pos ht, if_pos (fit_of_calls (tokB_out h).1 (tokB_out h).2)]
      · rw [if_neg ht, if_neg ht]
    | false => rw [if_neg (by simp), if_neg (by simp)]
  · split
    · split
      · exact ⟨by rw [tkRows_len]; omega, tkRows_rows _ _ _ _ _⟩
      · exact ⟨by simp, by simp⟩
    · exact ⟨by simp, by simp⟩
theorem FnExactVisitsOf : FnExactVisitsOfPure := by
  intro s b c l t _ _ _ hm _ _
  unfold maxLen at hm
  by_cases hn : l.length ≤ 1048576
  · have n1 : ¬ (1048576 - (l.length : Int) < 0) := by omega
    have hn2 : (l.map toC).length ≤ 1048576 := by simpa using hn
    have hLL : (l.map toC).length = l.length := by simp
    obtain ⟨v, ⟨K1, h1⟩, ⟨K2, h2⟩, hv, hr⟩ := both s b c (l.map toC) t hn2
    simp only at h1 h2
    have hs := ss_sum v.1 hr
    refine ⟨K1 + K2 + l.length + v.1.length + 5000, ?_⟩
    unfold laws_FnExactVisitsOf.f
    rw [szCallS_ok hn, Option.bind_some, if_neg n1, toTokenRing_eq, Option.bind_some, toCallS_eq hn (by omega), Option.bind_some, h1 _ (by omega), Option.bind_some, h2 _ (by omega), Option.bind_some, eqIntSS_refl (by omega) hr (by omega), Option.bind_some, eqCallS_refl hn2 (by omega), Option.bind_some, markCallS_eq (by omega) (by omega) hn2 (by omega), Option.bind_some, markIntSS_eq (by omega) hr, Option.bind_some, heldIntSS_eq (by omega) hr (by omega), Option.bind_some]
    rw [if_pos ⟨rfl, rfl, rfl, by dsimp only; omega, by omega, rfl⟩]
  · exact ⟨0, by unfold laws_FnExactVisitsOf.f; rw [szCallS_big hm hn]; rfl⟩

end Go.Proofs.Ytgminjippechkaa.Pure
