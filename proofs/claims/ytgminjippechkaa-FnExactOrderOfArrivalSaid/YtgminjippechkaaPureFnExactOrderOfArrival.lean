/- FnExactOrderOfArrival: the program's answer is the reference's, as plain functions over numbers and lists; no condition beyond the sizes that every value has. -/
import Derived.Test.YtgminjippechkaaPFnExactOrderOfArrivalx8
namespace Go.Proofs.Ytgminjippechkaa.Pure
open Go.RowKit Go.Proofs.Ytgminjippechkaa.PFnExactOrderOfArrival Go.Proofs.YtgminjippechkaaW.PrintWords Go.Proofs.YtgminjippechkaaW.PrintLast Go.Proofs.YtgminjippechkaaW.PrintMore

/- It reaches: laws_szCallS.f, spec_l1In.f, spec_tkGood.f, spec_tkCalls.f, spec_l1Has.f, spec_tkSent.f, spec_l1Own.f, spec_OrderOfArrival.f, laws_toTokenRing.f, laws_toCall.f, laws_toCallS.f, impl_within.f, impl_isRingSize.f, impl_IsTokenRing.f, impl_isTick.f, impl_allWithin.f, impl_areCalls.f, impl_isCalled.f, slices_Index_int_int.f, slices_Contains_int_int.f, bits_Mul32.f, bits_Mul64.f, bits_Mul.f, slices_Repeat_int_int.f, impl_starts.f, impl_SentAt.f, impl_ordered.f, impl_OrderOfArrival.f, laws_eqIntS.f, laws_eqCall.f, laws_eqCallS.f, laws_markCallS.f, laws_markIntS.f, laws_heldIntS.f, laws_FnExactOrderOfArrival.f -/
def FnExactOrderOfArrivalPure : Prop := ∀ (a0_0 : Int) (a0_1 : Int) (a0_2 : Int) (l1 : List (S60)), (Lit.int .i64 a0_0).wf = true → (Lit.int .i64 a0_1).wf = true → (Lit.int .i64 a0_2).wf = true → l1.length ≤ maxLen → (∀ x ∈ l1, (Lit.int .i64 x.f0).wf = true ∧ (Lit.int .i64 x.f1).wf = true ∧ (Lit.int .i64 x.f2).wf = true) → ∃ k, laws_FnExactOrderOfArrival.f k a0_0 a0_1 a0_2 l1 = some true
set_option linter.unusedSimpArgs false
set_option linter.unusedVariables false
theorem wrap_id {x : Int} (h1 : -9223372036854775808 ≤ x) (h2 : x ≤ 9223372036854775807) : wrap64 x = x := by unfold wrap64; omega
theorem wrap_succ {i n : Nat} (h : i < n) (hn : n ≤ 4611686018427387904) : wrap64 ((i : Int) + 1) = ((i + 1 : Nat) : Int) := by rw [wrap_id] <;> omega
theorem rd_nat (l : List Int) {i : Nat} (h : i < l.length) : rd l (i : Int) = l[i] := by simp [rd, h]
theorem rd_mem (l : List Int) {i : Nat} (h : i < l.length) : rd l (i : Int) ∈ l := by rw [rd_nat l h]; exact List.getElem_mem h
/-- One round, and the end. -/
theorem ev_end {α : Type} {g : Nat → Option α} {r : α} (h : ∀ k, g (k + 1) = some r) : Ev g r := Ev.step h (Ev.now r)
theorem ev_of {α : Type} {g : Nat → Option α} {r : α} (h : ∀ k, g k = some r) : Ev g r := ⟨0, fun k _ => h k⟩
theorem ev_eq {α : Type} {g : Nat → Option α} {r r' : α} (h : Ev g r) (e : r = r') : Ev g r' := e ▸ h

theorem rdC_nat (l : List S58) {i : Nat} (h : i < l.length) : rd_T58 l (i : Int) = l[i] := by simp [rd_T58, h]

theorem rdLC_nat (l : List S60) {i : Nat} (h : i < l.length) : rd_T60 l (i : Int) = l[i] := by simp [rd_T60, h]
def toC (x : S60) : S58 := ⟨x.f0, x.f1, x.f2⟩
theorem toCallS_loop (l : List S60) (hn : l.length ≤ 1048576) : ∀ (d i k : Nat), i + d = l.length → d < k → laws_toCallS.l0 k l ((l.take i).map toC ++ List.replicate d z58) (i : Int) = some (l.map toC) := by
  intro d
  induction d with
  | zero =>
    intro i k h hk
    obtain ⟨k, rfl⟩ : ∃ m, k = m + 1 := ⟨k - 1, by omega⟩
    simp only [laws_toCallS.l0]
    rw [if_neg (by omega)]
    simp [List.take_of_length_le (show l.length ≤ i by omega)]
  | succ d ih =>
    intro i k h hk
    obtain ⟨k, rfl⟩ : ∃ m, k = m + 1 := ⟨k - 1, by omega⟩
    have hi : i < l.length := by omega
    have e : ((l.take i).map toC ++ List.replicate (d + 1) z58).set i (⟨l[i].f0, l[i].f1, l[i].f2⟩ : S58) = (l.take (i + 1)).map toC ++ List.replicate d z58 := by
      rw [List.set_append_right _ _ (by simp; omega)]
      simp only [List.length_map, List.length_take, Nat.min_eq_left (Nat.le_of_lt hi), Nat.sub_self, List.replicate_succ, List.set_cons_zero]
      rw [List.take_succ_eq_append_getElem hi, List.map_append, List.append_assoc]; rfl
    simp only [laws_toCallS.l0, laws_toCall.f, Option.bind_some]
    rw [if_pos (by omega), if_pos (by omega), if_pos (by simp; omega), Int.toNat_natCast, rdLC_nat l hi, e, wrap_succ hi (by omega)]
    exact ih (i + 1) k (by omega) (by omega)
theorem toCallS_eq {k : Nat} {l : List S60} (hn : l.length ≤ 1048576) (hk : l.length < k) : laws_toCallS.f k l = some (l.map toC) := by
  unfold laws_toCallS.f
  rw [if_pos (by omega), if_pos (by omega), Int.toNat_natCast]
  have := toCallS_loop l hn l.length 0 k (by omega) hk
  simpa using this

theorem eqCallS_loop (l : List S58) (hn : l.length ≤ 1048576) : ∀ (d i k : Nat), i + d = l.length → d < k → laws_eqCallS.l0 k l l (i : Int) = some true := by
  intro d
  induction d with
  | zero =>
    intro i k h hk
    obtain ⟨k, rfl⟩ : ∃ m, k = m + 1 := ⟨k - 1, by omega⟩
    simp only [laws_eqCallS.l0]
    rw [if_neg (by omega)]
  | succ d ih =>
    intro i k h hk
    obtain ⟨k, rfl⟩ : ∃ m, k = m + 1 := ⟨k - 1, by omega⟩
    simp only [laws_eqCallS.l0, laws_eqCall.f, if_true, Option.bind_some]
    rw [if_pos (by omega), if_pos (by omega), if_pos (by omega), wrap_succ (n := l.length) (by omega) (by omega)]
    exact ih (i + 1) k (by omega) (by omega)
theorem eqCallS_refl {k : Nat} {l : List S58} (hn : l.length ≤ 1048576) (hk : l.length < k) : laws_eqCallS.f k l l = some true := by
  unfold laws_eqCallS.f
  rw [if_pos rfl]
  exact eqCallS_loop l hn l.length 0 k (by omega) hk

theorem szCallS_big {l : List S60} (hm : l.length ≤ 9223372036854775807) (h : ¬ l.length ≤ 1048576) : laws_szCallS.f l 1048576 = some (-1) := by
  unfold laws_szCallS.f
  rw [wrap_id (by omega) (by omega), if_pos (by omega)]
theorem szCallS_ok {l : List S60} (h : l.length ≤ 1048576) : laws_szCallS.f l 1048576 = some (1048576 - (l.length : Int)) := by
  unfold laws_szCallS.f
  rw [wrap_id (by omega) (by omega), if_neg (by omega)]

/-- Does each come no later than the next one? -/
def leC : List S58 → Bool
  | a :: b :: t => decide (a.f0 ≤ b.f0) && leC (b :: t)
  | _ => true
theorem leC_at (l : List S58) {i : Nat} (h0 : 0 < i) (h : i < l.length) : leC (l.drop (i - 1)) = (decide (l[i - 1].f0 ≤ l[i].f0) && leC (l.drop i)) := by
  rw [List.drop_eq_getElem_cons (show i - 1 < l.length by omega), show i - 1 + 1 = i from by omega, List.drop_eq_getElem_cons h, leC]
theorem leC_end (l : List S58) {i : Nat} (h : i = l.length) : leC (l.drop (i - 1)) = true := by
  rcases Nat.eq_zero_or_pos i with h0 | h0
  · rw [h0, List.drop_of_length_le (by omega)]; rfl
  · rw [List.drop_eq_getElem_cons (show i - 1 < l.length by omega), List.drop_of_length_le (by omega)]; rfl
theorem wrap_pred {i n : Nat} (h0 : 0 < i) (h : i < n) (hn : n ≤ 4611686018427387904) : wrap64 ((i : Int) - 1) = ((i - 1 : Nat) : Int) := by rw [wrap_id] <;> omega


theorem spec_l1In_eq (a b c : Int) : spec_l1In.f a b c = some (decide (b ≤ a ∧ a ≤ c)) := by
  unfold spec_l1In.f
  by_cases h : b ≤ a <;> simp [h]

theorem impl_within_eq (a b c : Int) : impl_within.f a b c = some (decide (b ≤ a ∧ a ≤ c)) := by
  unfold impl_within.f
  by_cases h : b ≤ a <;> simp [h]


theorem toTokenRing_eq (a b c : Int) : laws_toTokenRing.f a b c = some (a, b, c) := rfl
/-- What both call a token ring. -/
def ring3 (a b c : Int) : Prop := (2 ≤ a ∧ a ≤ 12) ∧ (1 ≤ b ∧ b ≤ 10) ∧ (1 ≤ c ∧ c ≤ 10)
instance (a b c : Int) : Decidable (ring3 a b c) := by unfold ring3; infer_instance
theorem spec_tkGood_eq (a b c : Int) : spec_tkGood.f a b c = some (decide (ring3 a b c)) := by
  unfold spec_tkGood.f ring3
  simp only [spec_l1In_eq, Option.bind_some]
  by_cases h1 : 2 ≤ a ∧ a ≤ 12 <;> by_cases h2 : 1 ≤ b ∧ b ≤ 10 <;> simp [h1, h2]
theorem impl_IsTokenRing_eq (a b c : Int) : impl_IsTokenRing.f a b c = some (decide (ring3 a b c)) := by
  unfold impl_IsTokenRing.f impl_isRingSize.f ring3
  simp only [impl_within_eq, Option.bind_some]
  by_cases h1 : 2 ≤ a ∧ a ≤ 12 <;> by_cases h2 : 1 ≤ b ∧ b ≤ 10 <;> simp [h1, h2]

def goodC (s : Int) (x : S58) : Bool := decide ((0 ≤ x.f0 ∧ x.f0 ≤ 1000) ∧ (0 ≤ x.f1 ∧ x.f1 ≤ s - 1) ∧ (0 ≤ x.f2 ∧ x.f2 ≤ s - 1))
/-- What both call calls. -/
def callsB (s : Int) (l : List S58) : Bool := decide (l.length ≤ 20) && (l.all (goodC s) && leC l)
theorem callsB_len {s : Int} {l : List S58} (h : callsB s l = true) : l.length ≤ 20 := by simp [callsB] at h; exact h.1
theorem callsB_mem {s : Int} {l : List S58} (h : callsB s l = true) : ∀ x ∈ l, (0 ≤ x.f0 ∧ x.f0 ≤ 1000) ∧ (0 ≤ x.f1 ∧ x.f1 ≤ s - 1) ∧ (0 ≤ x.f2 ∧ x.f2 ≤ s - 1) := by
  intro x hx
  simp [callsB] at h
  simpa [goodC] using h.2.1 x hx
theorem spec_tkCalls_loop (s b c : Int) (hs : 2 ≤ s ∧ s ≤ 12) (l : List S58) (hn : l.length ≤ 1048576) : ∀ (d i k : Nat), i + d = l.length → 2 * d < k →
    spec_tkCalls.l0 k l l (l.length : Int) (i : Int) s b c = some ((l.drop i).all (goodC s) && leC (l.drop (i - 1))) := by
  intro d
  induction d with
  | zero =>
    intro i k h hk
    obtain ⟨k, rfl⟩ : ∃ m, k = m + 1 := ⟨k - 1, by omega⟩
    simp only [spec_tkCalls.l0]
    rw [if_neg (by omega), List.drop_of_length_le (l := l) (i := i) (by omega), leC_end l (by omega)]; rfl
  | succ d ih =>
    intro i k h hk
    obtain ⟨k, rfl⟩ : ∃ m, k = m + 2 := ⟨k - 2, by omega⟩
    have hlt : i < l.length := by omega
    have nx := ih (i + 1) k (by omega) (by omega)
    rw [Nat.add_sub_cancel] at nx
    have e : (l.drop i).all (goodC s) = (goodC s l[i] && (l.drop (i + 1)).all (goodC s)) := by rw [List.drop_eq_getElem_cons hlt, List.all_cons]
    simp only [spec_tkCalls.l0, spec_l1In_eq, Option.bind_some]
    rw [if_pos (by omega), if_pos (by omega), if_pos (by omega), rdC_nat l hlt, e, wrap_id (x := s - 1) (by omega) (by omega)]
    by_cases c0 : 0 ≤ l[i].f0 ∧ l[i].f0 ≤ 1000
    · rw [if_pos (by simpa using c0)]
      by_cases c1 : 0 ≤ l[i].f1 ∧ l[i].f1 ≤ s - 1
      · rw [if_pos (by simpa using c1)]
        by_cases c2 : 0 ≤ l[i].f2 ∧ l[i].f2 ≤ s - 1
        · have g : goodC s l[i] = true := by simp only [goodC, c0, c1, c2, and_self, decide_true]
          rw [decide_eq_true c2, g]
          simp only [spec_tkCalls.j2, Bool.not_true, if_neg (show ¬ (false = true) by decide)]
          rw [wrap_succ hlt (by omega)]
          by_cases h0 : 0 < i
          · rw [if_pos (by omega), wrap_pred h0 hlt (by omega), if_pos (by omega), if_pos (by omega), rdC_nat l (show i - 1 < l.length by omega), leC_at l h0 hlt]
            by_cases cc : l[i - 1].f0 ≤ l[i].f0
            · rw [if_neg (by omega), nx]; simp [cc]
            · rw [if_pos (by omega)]; simp [cc]
          · obtain rfl : i = 0 := by omega
            rw [if_neg (by omega), nx, Bool.true_and]
        · have g : goodC s l[i] = false := by simp only [goodC, c2, and_false, decide_false]
          rw [decide_eq_false c2, g]; simp only [spec_tkCalls.j2, Bool.not_false, if_true, Bool.false_and]
      · have g : goodC s l[i] = false := by simp only [goodC, c1, and_false, false_and, decide_false]
        rw [if_neg (by simpa using c1), g]; simp only [spec_tkCalls.j2, if_true, Bool.false_and]
    · have g : goodC s l[i] = false := by simp only [goodC, c0, false_and, decide_false]
      rw [if_neg (by simpa using c0), g]; simp only [spec_tkCalls.j2, if_true, Bool.false_and]
theorem spec_tkCalls_eq {k : Nat} {s b c : Int} {l : List S58} (hr : ring3 s b c) (hn : l.length ≤ 1048576) (hk : 2 * l.length + 2 < k) : spec_tkCalls.f k s b c l = some (callsB s l) := by
  obtain ⟨k, rfl⟩ : ∃ m, k = m + 1 := ⟨k - 1, by omega⟩
  unfold spec_tkCalls.f callsB
  rw [spec_tkGood_eq, decide_eq_true hr, Option.bind_some, if_pos rfl]
  have := spec_tkCalls_loop s b c hr.1 l hn l.length 0 k (by omega) (by omega)
  rw [show ((0 : Nat) : Int) = 0 from rfl] at this
  by_cases h : l.length ≤ 20
  · rw [decide_eq_false (by omega)]
    simp only [spec_tkCalls.j0, if_neg (show ¬ (false = true) by decide)]
    rw [this]; simp [h]
  · rw [decide_eq_true (by omega)]
    simp only [spec_tkCalls.j0, if_true]
    simp [h]
theorem impl_areCalls_loop (s : Int) (hs : 2 ≤ s ∧ s ≤ 12) (l : List S58) (hn : l.length ≤ 1048576) : ∀ (d i k : Nat), i + d = l.length → d < k →
    impl_areCalls.l0 k s l l (l.length : Int) (i : Int) = some (((l.drop i).all (goodC s) && leC (l.drop (i - 1))) && decide ((l.length : Int) ≤ 20)) := by
  intro d
  induction d with
  | zero =>
    intro i k h hk
    obtain ⟨k, rfl⟩ : ∃ m, k = m + 1 := ⟨k - 1, by omega⟩
    simp only [impl_areCalls.l0]
    rw [if_neg (by omega), List.drop_of_length_le (l := l) (i := i) (by omega), leC_end l (by omega)]; rfl
  | succ d ih =>
    intro i k h hk
    obtain ⟨k, rfl⟩ : ∃ m, k = m + 1 := ⟨k - 1, by omega⟩
    have hlt : i < l.length := by omega
    have nx := ih (i + 1) k (by omega) (by omega)
    rw [Nat.add_sub_cancel] at nx
    have e : (l.drop i).all (goodC s) = (goodC s l[i] && (l.drop (i + 1)).all (goodC s)) := by rw [List.drop_eq_getElem_cons hlt, List.all_cons]
    simp only [impl_areCalls.l0, impl_isTick.f, impl_within_eq, impl_allWithin.f, Option.bind_some]
    rw [if_pos (by omega), if_pos (by omega), if_pos (by omega), rdC_nat l hlt, e, wrap_id (x := s - 1) (by omega) (by omega), wrap_succ hlt (by omega)]
    by_cases c0 : 0 ≤ l[i].f0 ∧ l[i].f0 ≤ 1000
    · rw [if_pos (by simpa using c0)]
      by_cases c12 : (0 ≤ l[i].f1 ∧ l[i].f1 ≤ s - 1) ∧ (0 ≤ l[i].f2 ∧ l[i].f2 ≤ s - 1)
      · have g : goodC s l[i] = true := by simp only [goodC, c0, c12, and_self, decide_true]
        rw [if_pos (by simp [c12]), g]
        by_cases h0 : 0 < i
        · rw [if_pos (by omega), wrap_pred h0 hlt (by omega), if_pos (by omega), if_pos (by omega), rdC_nat l (show i - 1 < l.length by omega), leC_at l h0 hlt]
          by_cases cc : l[i - 1].f0 ≤ l[i].f0
          · rw [if_neg (by omega), nx]; simp [cc]
          · rw [if_pos (by omega)]; simp [cc]
        · obtain rfl : i = 0 := by omega
          rw [if_neg (by omega), nx, Bool.true_and]
      · have g : goodC s l[i] = false := by simp only [goodC, c12, and_false, decide_false]
        rw [if_neg (by simp only [List.all_cons, List.all_nil, Bool.and_true, Bool.and_eq_true, decide_eq_true_eq]; exact c12), g]; rfl
    · have g : goodC s l[i] = false := by simp only [goodC, c0, false_and, decide_false]
      rw [if_neg (by simpa using c0), g]; rfl
theorem impl_areCalls_eq {k : Nat} {s : Int} {l : List S58} (hs : 2 ≤ s ∧ s ≤ 12) (hn : l.length ≤ 1048576) (hk : l.length < k) : impl_areCalls.f k s l = some (callsB s l) := by
  unfold impl_areCalls.f callsB
  have := impl_areCalls_loop s hs l hn l.length 0 k (by omega) hk
  rw [show ((0 : Nat) : Int) = 0 from rfl] at this
  rw [this]
  by_cases h : l.length ≤ 20
  · simp [h, show (l.length : Int) ≤ 20 by omega]
  · simp [h, show ¬ (l.length : Int) ≤ 20 by omega]

/-- Both come to the same. -/
def EvB {α : Type} (g1 g2 : Nat → Option α) : Prop := ∃ v, Ev g1 v ∧ Ev g2 v
theorem EvB.step {α : Type} {g1 g2 f1 f2 : Nat → Option α} (h1 : ∀ k, g1 (k + 1) = f1 k) (h2 : ∀ k, g2 (k + 1) = f2 k) (h : EvB f1 f2) : EvB g1 g2 := by
  obtain ⟨v, a, b⟩ := h
  exact ⟨v, Ev.step h1 a, Ev.step h2 b⟩
theorem EvB.ret {α : Type} {g1 g2 : Nat → Option α} {v : α} (h1 : ∀ k, g1 (k + 1) = some v) (h2 : ∀ k, g2 (k + 1) = some v) : EvB g1 g2 := ⟨v, ev_end h1, ev_end h2⟩

theorem fit_of_calls {s b c : Int} {l : List S58} (hr : ring3 s b c) (h : callsB s l = true) : tkFit s b c l = true := by
  unfold tkFit
  rw [Bool.and_eq_true, decide_eq_true_eq, List.all_eq_true]
  refine ⟨⟨hr.1, hr.2.1, hr.2.2, callsB_len h⟩, fun x hx => ?_⟩
  obtain ⟨h1, h2, _⟩ := callsB_mem h x hx
  exact decide_eq_true ⟨h1, by omega, by omega⟩
/-- What both call a ring with calls. -/
def tokB (s b c : Int) (l : List S58) : Bool := decide (ring3 s b c) && callsB s l
theorem tokB_out {s b c : Int} {l : List S58} (h : tokB s b c l = true) : ring3 s b c ∧ callsB s l = true := by
  unfold tokB at h; simpa using h
theorem spec_tkCalls_any {k : Nat} {s b c : Int} {l : List S58} (hn : l.length ≤ 1048576) (hk : 2 * l.length + 2 < k) : spec_tkCalls.f k s b c l = some (tokB s b c l) := by
  unfold tokB
  by_cases hr : ring3 s b c
  · rw [spec_tkCalls_eq hr hn hk, decide_eq_true hr]; rfl
  · obtain ⟨k, rfl⟩ : ∃ m, k = m + 1 := ⟨k - 1, by omega⟩
    unfold spec_tkCalls.f
    rw [spec_tkGood_eq, decide_eq_false hr, Option.bind_some, if_neg (by simp)]
    simp only [spec_tkCalls.j0, if_true]; rfl
theorem impl_isCalled_any {k : Nat} {s b c : Int} {l : List S58} (hn : l.length ≤ 1048576) (hk : l.length < k) : impl_isCalled.f k s b c l = some (tokB s b c l) := by
  unfold tokB impl_isCalled.f
  rw [impl_IsTokenRing_eq, Option.bind_some]
  by_cases hr : ring3 s b c
  · rw [decide_eq_true hr, if_pos rfl, impl_areCalls_eq hr.1 hn hk]; rfl
  · rw [decide_eq_false hr, if_neg (by simp)]; rfl
theorem tok_ok {s b c : Int} {l : List S58} (h : tokB s b c l = true) : (2 ≤ s ∧ s ≤ 12) ∧ (1 ≤ b ∧ b ≤ 10) ∧ (1 ≤ c ∧ c ≤ 10) ∧ tkOk s l := tkFit_out (fit_of_calls (tokB_out h).1 (tokB_out h).2)
theorem tok_len {s b c : Int} {l : List S58} (h : tokB s b c l = true) : l.length ≤ 20 := callsB_len (tokB_out h).2
theorem spec_sent_eq {s b c : Int} {l : List S58} (h : tokB s b c l = true) : spec_tkSent.f s b c l = some (tkAll s b c l) := by
  unfold spec_tkSent.f
  rw [if_pos (fit_of_calls (tokB_out h).1 (tokB_out h).2)]
theorem impl_sent_eq {s b c : Int} {l : List S58} (h : tokB s b c l = true) : impl_starts.f s b c l = some (tkAll s b c l) := by
  unfold impl_starts.f
  rw [if_pos (fit_of_calls (tokB_out h).1 (tokB_out h).2)]

/-- When all frames begin, and whether that is told. -/
def sentV (s b c : Int) (l : List S58) : List Int × Bool := if tokB s b c l = true then (tkAll s b c l, true) else ([], false)
theorem impl_SentAt_eq {k : Nat} {s b c : Int} {l : List S58} (hn : l.length ≤ 1048576) (hk : l.length < k) : impl_SentAt.f k s b c l = some (sentV s b c l) := by
  unfold impl_SentAt.f sentV
  rw [impl_isCalled_any hn hk, Option.bind_some]
  cases h : tokB s b c l with
  | true => rw [if_pos rfl, if_pos rfl, impl_sent_eq h]; rfl
  | false => rw [if_neg (by simp), if_neg (by simp)]

/-- No two of the numbers that are not negative are the same. -/
def Diff (s : List Int) : Prop := ∀ a b : Nat, a ≠ b → a < s.length → b < s.length → rd s (a : Int) = rd s (b : Int) → rd s (a : Int) < 0
theorem pass_diff (hold st tick : Int) (cs : List S58) (s : List Int) (hh : 0 ≤ hold) (ht : 0 ≤ tick) (h1 : ∀ j : Nat, j < s.length → rd s (j : Int) < tick ∨ rd s (j : Int) < 0) (h2 : Diff s) : ∀ i, i ≤ s.length → (∀ j : Nat, j < s.length → rd (tkPass hold st tick cs s i).1 (j : Int) < tick + (tkPass hold st tick cs s i).2 ∨ rd (tkPass hold st tick cs s i).1 (j : Int) < 0) ∧ Diff (tkPass hold st tick cs s i).1
  | 0, _ => ⟨fun j hj => by have := h1 j hj; simp only [tkPass]; omega, h2⟩
  | i + 1, hi => by
    obtain ⟨ih1, ih2⟩ := pass_diff hold st tick cs s hh ht h1 h2 i (by omega)
    have hc := tkPass_cnt hold st tick cs s hh i
    have hl := tkPass_len hold st tick cs s i
    rw [tkPass]
    split
    · refine ⟨fun j hj => ?_, fun a b hab ha hb hr => ?_⟩
      · dsimp only
        rw [tk_rd_set _ _ _ _ (by omega)]
        split
        · omega
        · have := ih1 j hj; omega
      · dsimp only at ha hb hr ⊢
        rw [List.length_set, hl] at ha hb
        rw [tk_rd_set _ _ _ _ (by omega)] at hr ⊢
        rw [tk_rd_set _ _ _ _ (by omega)] at hr
        have ha2 := ih1 a ha
        have hb2 := ih1 b hb
        have hd := ih2 a b hab (by omega) (by omega)
        split at hr <;> split at hr <;> split <;> omega
    · exact ⟨ih1, ih2⟩
theorem vis_diff (n hold walk : Int) (cs : List S58) (h : 1 ≤ hold ∧ hold ≤ 10) (hw : 1 ≤ walk ∧ walk ≤ 10) : ∀ v : Nat, (∀ j : Nat, j < cs.length → rd (tkVis n hold walk cs v).2 (j : Int) < (tkVis n hold walk cs v).1 ∨ rd (tkVis n hold walk cs v).2 (j : Int) < 0) ∧ Diff (tkVis n hold walk cs v).2
  | 0 => by
    have e : ∀ j : Nat, j < cs.length → rd (List.replicate cs.length (-1)) (j : Int) = -1 := fun j hj => by simp [rd, hj]
    refine ⟨fun j hj => .inr ?_, fun a b _ ha _ _ => ?_⟩
    · show rd (List.replicate cs.length (-1)) (j : Int) < 0
      rw [e j hj]; omega
    · show rd (List.replicate cs.length (-1)) (a : Int) < 0
      rw [e a (by simpa [tkVis] using ha)]; omega
  | v + 1 => by
    obtain ⟨i1, i2⟩ := vis_diff n hold walk cs h hw v
    have hl := tkVis_len n hold walk cs v
    have ht := tkVis_le n hold walk cs h hw v
    obtain ⟨p1, p2⟩ := pass_diff hold ((v : Int) % n) (tkVis n hold walk cs v).1 cs (tkVis n hold walk cs v).2 (by omega) (by omega) (by rw [hl]; exact i1) i2 cs.length (by omega)
    rw [hl] at p1
    refine ⟨fun j hj => ?_, p2⟩
    have := p1 j hj
    simp only [tkVis]
    omega
theorem all_diff {s b c : Int} {l : List S58} (h : tokB s b c l = true) : ∀ i j : Nat, i ≠ j → i < (tkAll s b c l).length → j < (tkAll s b c l).length → rd (tkAll s b c l) (i : Int) ≠ rd (tkAll s b c l) (j : Int) := fun i j hij hi hj e => by
  obtain ⟨h1, h2, h3, h4⟩ := tok_ok h
  have hd := (vis_diff s b c l h2 h3 1300).2 i j hij hi hj e
  have hp := tkNeg_none _ (tkVis_done s b c l h1 h2 h3 h4 1300 (by omega)) i hi
  omega
/-- An index put ahead of the first whose number is not less. -/
def putL (T : List Int) (x : Int) : List Int → List Int
  | [] => [x]
  | y :: ys => if rd T y < rd T x then y :: putL T x ys else x :: y :: ys
/-- The first so many indices in order. -/
def ordS (T : List Int) : Nat → List Int
  | 0 => []
  | i + 1 => putL T (i : Int) (ordS T i)
theorem putL_len (T : List Int) (x : Int) : ∀ P, (putL T x P).length = P.length + 1
  | [] => rfl
  | y :: ys => by unfold putL; split <;> simp [putL_len]
theorem putL_mem (T : List Int) (x z : Int) : ∀ P, z ∈ putL T x P ↔ z = x ∨ z ∈ P
  | [] => by simp [putL]
  | y :: ys => by
    unfold putL
    split
    · simp only [List.mem_cons, putL_mem T x z ys]; constructor <;> rintro (h | h | h) <;> simp [h]
    · simp only [List.mem_cons]
theorem ordS_len (T : List Int) : ∀ i, (ordS T i).length = i
  | 0 => rfl
  | i + 1 => by rw [ordS, putL_len, ordS_len]
theorem ordS_mem (T : List Int) : ∀ i, ∀ z ∈ ordS T i, 0 ≤ z ∧ z < (i : Int)
  | 0 => by simp [ordS]
  | i + 1 => fun z hz => by
    rw [ordS, putL_mem] at hz
    rcases hz with rfl | hz
    · omega
    · have := ordS_mem T i z hz; omega
theorem putL_last (T : List Int) (x y : Int) (h : rd T x < rd T y) : ∀ P, putL T x (P ++ [y]) = putL T x P ++ [y]
  | [] => by simp only [List.nil_append, putL]; rw [if_neg (by omega)]; rfl
  | a :: P => by
    simp only [List.cons_append, putL]
    split
    · rw [putL_last T x y h P]; rfl
    · rfl
theorem putL_end (T : List Int) (x : Int) : ∀ P, (∀ y ∈ P, rd T y < rd T x) → putL T x P = P ++ [x]
  | [], _ => rfl
  | a :: P, h => by rw [putL, if_pos (h a (List.mem_cons_self ..)), putL_end T x P (fun y hy => h y (List.mem_cons_of_mem _ hy))]; rfl
/-- The numbers rise. -/
def Rise (T : List Int) (P : List Int) : Prop := P.Pairwise (fun a b => rd T a < rd T b)
theorem putL_rise (T : List Int) (x : Int) : ∀ P, Rise T P → (∀ y ∈ P, rd T y ≠ rd T x) → Rise T (putL T x P)
  | [], _, _ => by simp [putL, Rise]
  | a :: P, h, hd => by
    obtain ⟨h1, h2⟩ := List.pairwise_cons.1 h
    have ha := hd a (List.mem_cons_self ..)
    unfold putL
    split
    · rename_i c
      refine List.pairwise_cons.2 ⟨fun z hz => ?_, putL_rise T x P h2 (fun y hy => hd y (List.mem_cons_of_mem _ hy))⟩
      rcases (putL_mem T x z P).1 hz with rfl | hz
      · exact c
      · exact h1 z hz
    · rename_i c
      refine List.pairwise_cons.2 ⟨fun z hz => ?_, h⟩
      rcases List.mem_cons.1 hz with rfl | hz
      · omega
      · have := h1 z hz; omega
theorem rd_app_len (P : List Int) (x : Int) (R : List Int) : rd (P ++ x :: R) (P.length : Int) = x := by simp [rd]
theorem rd_app_mid (P : List Int) (y x : Int) (R : List Int) : rd (P ++ y :: x :: R) ((P.length + 1 : Nat) : Int) = x := by
  have h := rd_app_len (P ++ [y]) x R
  simpa using h
theorem set_mid (P : List Int) (y x u v : Int) (R : List Int) : ((P ++ y :: x :: R).set (P.length + 1) u).set P.length v = P ++ v :: u :: R := by
  induction P with
  | nil => rfl
  | cons a P ih => simp only [List.cons_append, List.length_cons, List.set_cons_succ, ih]
theorem ordIn_app (T : List Int) (x : Int) : ∀ (m : Nat) (P R : List Int), P.length = m → Rise T P → (∀ y ∈ P, rd T y ≠ rd T x) → ordIn T m (P ++ x :: R) = putL T x P ++ R
  | 0, P, R, hm, _, _ => by
    obtain rfl := List.eq_nil_of_length_eq_zero hm
    rfl
  | m + 1, P, R, hm, hs, hd => by
    obtain ⟨Q, y, rfl⟩ : ∃ Q y, P = Q ++ [y] := ⟨P.dropLast, P.getLast (by intro e; simp [e] at hm), (List.dropLast_concat_getLast _).symm⟩
    have hq : Q.length = m := by simpa using hm
    obtain ⟨s1, s2, s3⟩ := List.pairwise_append.1 hs
    have hy := hd y (by simp)
    rw [ordIn, List.append_assoc, List.singleton_append, ← hq, rd_app_mid, rd_app_len]
    by_cases c : rd T x < rd T y
    · rw [if_pos c, set_mid, hq, ordIn_app T x m Q (y :: R) hq s1 (fun z hz => hd z (by simp [hz])), putL_last T x y c]
      simp
    · rw [if_neg c, putL_end T x (Q ++ [y])]
      · simp
      · intro z hz
        rcases List.mem_append.1 hz with h | h
        · have := s3 z h y (by simp); omega
        · simp only [List.mem_singleton] at h; subst h; omega
theorem ordS_rise (T : List Int) (hT : ∀ i j : Nat, i ≠ j → i < T.length → j < T.length → rd T (i : Int) ≠ rd T (j : Int)) : ∀ i, i ≤ T.length → Rise T (ordS T i)
  | 0, _ => List.Pairwise.nil
  | i + 1, hi => by
    rw [ordS]
    refine putL_rise T _ _ (ordS_rise T hT i (by omega)) (fun y hy => ?_)
    obtain ⟨h1, h2⟩ := ordS_mem T i y hy
    obtain ⟨m, rfl⟩ : ∃ m : Nat, y = (m : Int) := ⟨y.toNat, by omega⟩
    exact hT m i (by omega) (by omega) (by omega)
theorem ordOut_app (T : List Int) (hT : ∀ i j : Nat, i ≠ j → i < T.length → j < T.length → rd T (i : Int) ≠ rd T (j : Int)) : ∀ (k i : Nat), i + k = T.length → ordOut T k i (ordS T i ++ (List.range' i k).map fun (j : Nat) => (j : Int)) = ordS T T.length
  | 0, i, h => by simp only [ordOut, List.range'_zero, List.map_nil, List.append_nil]; rw [← h]; rfl
  | k + 1, i, h => by
    have hr : ∀ y ∈ ordS T i, rd T y ≠ rd T (i : Int) := fun y hy => by
      obtain ⟨h1, h2⟩ := ordS_mem T i y hy
      obtain ⟨m, rfl⟩ : ∃ m : Nat, y = (m : Int) := ⟨y.toNat, by omega⟩
      exact hT m i (by omega) (by omega) (by omega)
    rw [ordOut, List.range'_succ, List.map_cons, ordIn_app T (i : Int) i (ordS T i) _ (ordS_len T i) (ordS_rise T hT i (by omega)) hr]
    exact ordOut_app T hT k (i + 1) (by omega)
theorem ordL_eq (T : List Int) (hT : ∀ i j : Nat, i ≠ j → i < T.length → j < T.length → rd T (i : Int) ≠ rd T (j : Int)) : ordL T = ordS T T.length := by
  unfold ordL
  rcases Nat.eq_zero_or_pos T.length with h | h
  · rw [h]; rfl
  · have := ordOut_app T hT (T.length - 1) 1 (by omega)
    rw [← this]
    congr 1
    obtain ⟨m, hm⟩ : ∃ m, T.length = m + 1 := ⟨T.length - 1, by omega⟩
    rw [hm, List.range_eq_range', List.range'_succ]
    simp [ordS, putL]

/-- The numbers from m on, three a call. -/
def marksC (m : Int) (n : Nat) : List S58 := (List.range n).map fun (j : Nat) => ⟨m + 3 * (j : Int), m + 3 * (j : Int) + 1, m + 3 * (j : Int) + 2⟩
theorem marksC_length (m : Int) (n : Nat) : (marksC m n).length = n := by simp [marksC]
theorem marksC_succ (m : Int) (n : Nat) : marksC m (n + 1) = marksC m n ++ [⟨m + 3 * (n : Int), m + 3 * (n : Int) + 1, m + 3 * (n : Int) + 2⟩] := by simp [marksC, List.range_succ]
theorem markCallS_loop (l : List S58) (m : Int) (hm : 0 ≤ m) (hm2 : m ≤ 1099511627776) (hn : l.length ≤ 1048576) : ∀ (d i k : Nat), i + d = l.length → d < k →
    laws_markCallS.l0 k (marksC m i ++ l.drop i) (m + 3 * (i : Int)) (i : Int) = some (m + 3 * (l.length : Int), marksC m l.length) := by
  intro d
  induction d with
  | zero =>
    intro i k h hk
    obtain ⟨k, rfl⟩ : ∃ q, k = q + 1 := ⟨k - 1, by omega⟩
    obtain rfl : i = l.length := by omega
    simp only [laws_markCallS.l0]
    rw [if_neg (by simp [marksC_length])]
    simp
  | succ d ih =>
    intro i k h hk
    obtain ⟨k, rfl⟩ : ∃ q, k = q + 1 := ⟨k - 1, by omega⟩
    have hi : i < l.length := by omega
    have hL : (marksC m i ++ l.drop i).length = l.length := by simp [marksC_length]; omega
    have hset : ∀ x : S58, (marksC m i ++ l.drop i).set i x = marksC m i ++ x :: l.drop (i + 1) := by
      intro x
      rw [List.set_append_right _ _ (by simp [marksC_length]), marksC_length, Nat.sub_self, List.drop_eq_getElem_cons hi, List.set_cons_zero]
    have hset2 : ∀ x y : S58, (marksC m i ++ x :: l.drop (i + 1)).set i y = marksC m i ++ y :: l.drop (i + 1) := by
      intro x y
      rw [List.set_append_right _ _ (by simp [marksC_length]), marksC_length, Nat.sub_self, List.set_cons_zero]
    have hrd : ∀ x : S58, rd_T58 (marksC m i ++ x :: l.drop (i + 1)) (i : Int) = x := by
      intro x
      rw [rdC_nat _ (by simp [marksC_length])]
      simp [marksC_length]
    simp only [laws_markCallS.l0]
    rw [if_pos (by rw [hL]; omega), if_pos (by omega), Int.toNat_natCast, hset, Option.bind_some, hrd, hset2, Option.bind_some, hrd, hset2]
    rw [wrap_succ hi (by omega), wrap_id (x := m + 3 * (i : Int) + 1) (by omega) (by omega), wrap_id (x := m + 3 * (i : Int) + 1 + 1) (by omega) (by omega), wrap_id (x := m + 3 * (i : Int) + 1 + 1 + 1) (by omega) (by omega)]
    have := ih (i + 1) k (by omega) (by omega)
    rw [marksC_succ, List.append_assoc] at this
    rw [show m + 3 * (i : Int) + 1 + 1 + 1 = m + 3 * ((i + 1 : Nat) : Int) from by omega, show m + 3 * (i : Int) + 1 + 1 = m + 3 * (i : Int) + 2 from by omega]
    exact this
theorem markCallS_eq {k : Nat} {l : List S58} {m : Int} (hm : 0 ≤ m) (hm2 : m ≤ 1099511627776) (hn : l.length ≤ 1048576) (hk : l.length < k) : laws_markCallS.f k l m = some (m + 3 * (l.length : Int), marksC m l.length) := by
  unfold laws_markCallS.f
  have := markCallS_loop l m hm hm2 hn l.length 0 k (by omega) hk
  simpa [marksC] using this

theorem eqIntS_loop (l : List Int) (hn : l.length ≤ 1048576) : ∀ (d i k : Nat), i + d = l.length → d < k → laws_eqIntS.l0 k l l (i : Int) = some true := by
  intro d
  induction d with
  | zero =>
    intro i k h hk
    obtain ⟨k, rfl⟩ : ∃ m, k = m + 1 := ⟨k - 1, by omega⟩
    simp only [laws_eqIntS.l0]
    rw [if_neg (by omega)]
  | succ d ih =>
    intro i k h hk
    obtain ⟨k, rfl⟩ : ∃ m, k = m + 1 := ⟨k - 1, by omega⟩
    simp only [laws_eqIntS.l0]
    rw [if_pos (by omega), if_pos (by omega), if_pos (by omega), if_pos trivial, wrap_succ (n := l.length) (by omega) (by omega)]
    exact ih (i + 1) k (by omega) (by omega)
theorem eqIntS_refl {k : Nat} {l : List Int} (hn : l.length ≤ 1048576) (hk : l.length < k) : laws_eqIntS.f k l l = some true := by
  unfold laws_eqIntS.f
  rw [if_pos rfl]
  exact eqIntS_loop l hn l.length 0 k (by omega) hk

/-- n numbers from m on. -/
def marks (m : Int) (n : Nat) : List Int := (List.range n).map fun (j : Nat) => m + (j : Int)
theorem marks_length (m : Int) (n : Nat) : (marks m n).length = n := by simp [marks]
theorem marks_succ (m : Int) (n : Nat) : marks m (n + 1) = marks m n ++ [m + (n : Int)] := by simp [marks, List.range_succ]
theorem markIntS_loop (l : List Int) (m : Int) (hm : 0 ≤ m) (hm2 : m ≤ 1099511627776) (hn : l.length ≤ 1048576) : ∀ (d i k : Nat), i + d = l.length → d < k →
    laws_markIntS.l0 k (marks m i ++ l.drop i) (m + (i : Int)) (i : Int) = some (m + (l.length : Int), marks m l.length) := by
  intro d
  induction d with
  | zero =>
    intro i k h hk
    obtain ⟨k, rfl⟩ : ∃ m, k = m + 1 := ⟨k - 1, by omega⟩
    obtain rfl : i = l.length := by omega
    simp only [laws_markIntS.l0]
    rw [if_neg (by simp [marks_length])]
    simp
  | succ d ih =>
    intro i k h hk
    obtain ⟨k, rfl⟩ : ∃ m, k = m + 1 := ⟨k - 1, by omega⟩
    have hi : i < l.length := by omega
    have e : (marks m i ++ l.drop i).set i (m + (i : Int)) = marks m (i + 1) ++ l.drop (i + 1) := by
      rw [List.set_append_right _ _ (by simp [marks_length]), marks_length, Nat.sub_self, List.drop_eq_getElem_cons hi, List.set_cons_zero, marks_succ, List.append_assoc]; rfl
    simp only [laws_markIntS.l0]
    rw [if_pos (by simp [marks_length]; omega), if_pos (by omega), Int.toNat_natCast, e, wrap_succ hi (by omega), show wrap64 (m + (i : Int) + 1) = m + ((i + 1 : Nat) : Int) from by rw [wrap_id] <;> omega]
    exact ih (i + 1) k (by omega) (by omega)
theorem markIntS_eq {k : Nat} {l : List Int} {m : Int} (hm : 0 ≤ m) (hm2 : m ≤ 1099511627776) (hn : l.length ≤ 1048576) (hk : l.length < k) : laws_markIntS.f k l m = some (m + (l.length : Int), marks m l.length) := by
  unfold laws_markIntS.f
  have := markIntS_loop l m hm hm2 hn l.length 0 k (by omega) hk
  simpa [marks] using this
theorem heldIntS_loop (n : Nat) (m : Int) (hm : 0 ≤ m) (hm2 : m ≤ 1099511627776) (hn : n ≤ 1048576) : ∀ (d i k : Nat), i + d = n → d < k → laws_heldIntS.l0 k (marks m n) (m + (i : Int)) (i : Int) = some (m + (n : Int)) := by
  intro d
  induction d with
  | zero =>
    intro i k h hk
    obtain ⟨k, rfl⟩ : ∃ m, k = m + 1 := ⟨k - 1, by omega⟩
    obtain rfl : i = n := by omega
    simp only [laws_heldIntS.l0]
    rw [if_neg (by simp [marks_length])]
  | succ d ih =>
    intro i k h hk
    obtain ⟨k, rfl⟩ : ∃ m, k = m + 1 := ⟨k - 1, by omega⟩
    have hi : i < n := by omega
    have e : rd (marks m n) (i : Int) = m + (i : Int) := by rw [rd_nat _ (by simpa [marks_length] using hi)]; simp [marks]
    simp only [laws_heldIntS.l0]
    rw [if_pos (by simp [marks_length]; omega), if_pos (by omega), if_pos e, wrap_succ hi (by omega), show wrap64 (m + (i : Int) + 1) = m + ((i + 1 : Nat) : Int) from by rw [wrap_id] <;> omega]
    exact ih (i + 1) k (by omega) (by omega)
theorem heldIntS_eq {k n : Nat} {m : Int} (hm : 0 ≤ m) (hm2 : m ≤ 1099511627776) (hn : n ≤ 1048576) (hk : n < k) : laws_heldIntS.f k (marks m n) m = some (m + (n : Int)) := by
  unfold laws_heldIntS.f
  simpa using heldIntS_loop n m hm hm2 hn n 0 k (by omega) hk

theorem l1Own_eq (l : List Int) (h : l.length ≤ 1048576) : spec_l1Own.f l = some l := by
  unfold spec_l1Own.f
  rw [Option.bind_some, if_pos (by simp; omega)]; rfl
theorem spec_put (T : List Int) (hT : T.length ≤ 20) (i : Nat) (hi : i < T.length) (v : List Int × Bool) (out : List Int) (ho : out.length = i) (hm : ∀ z ∈ out, 0 ≤ z ∧ z < (i : Int)) (h : Ev (fun k => spec_OrderOfArrival.l0 k T (putL T (i : Int) out) (T.length : Int) ((i + 1 : Nat) : Int)) v) :
    ∀ (Q P : List Int), P ++ Q = out → putL T (i : Int) out = P ++ putL T (i : Int) Q → Ev (fun k => spec_OrderOfArrival.l1 k T out (i : Int) (P.length : Int) (T.length : Int) (i : Int)) v
  | [], P, hp, he => by
    have hpl : P.length = i := by rw [← ho, ← hp]; simp
    refine Ev.step (fun k => ?_) h
    simp only [spec_OrderOfArrival.l1]
    rw [if_neg (by omega), if_pos (by omega), if_pos (by omega), Int.toNat_natCast, l1Own_eq _ (by rw [List.length_take]; omega), Option.bind_some, if_pos (by rw [List.length_take]; omega), Option.bind_some, Option.bind_some, if_pos (by simp only [List.length_append, List.length_take, List.length_drop, List.length_singleton]; omega), wrap_succ hi (by omega), he, ← hp]
    simp [putL]
  | y :: Q, P, hp, he => by
    have hl : P.length < out.length := by rw [← hp]; simp
    have hy := hm y (by rw [← hp]; simp)
    have hr : rd out (P.length : Int) = y := by rw [← hp]; exact rd_app_len P y Q
    by_cases c : rd T y < rd T (i : Int)
    · have ih := spec_put T hT i hi v out ho hm h Q (P ++ [y]) (by rw [← hp]; simp) (by rw [he, putL, if_pos c]; simp)
      refine Ev.step (fun k => ?_) ih
      simp only [spec_OrderOfArrival.l1]
      rw [hr, if_pos (by omega), if_pos (by omega), if_pos (by omega), if_pos (by omega), if_pos (by omega), if_pos (by omega), if_pos c, wrap_succ hl (by omega)]
      simp
    · refine Ev.step (fun k => ?_) h
      simp only [spec_OrderOfArrival.l1]
      rw [hr, if_pos (by omega), if_pos (by omega), if_pos (by omega), if_pos (by omega), if_pos (by omega), if_pos (by omega), if_neg c, if_pos (by omega), Int.toNat_natCast, l1Own_eq _ (by rw [List.length_take]; omega), Option.bind_some, if_pos (by rw [List.length_take]; omega), Option.bind_some, Option.bind_some, if_pos (by simp only [List.length_append, List.length_take, List.length_drop, List.length_singleton]; omega), wrap_succ hi (by omega), he, ← hp]
      simp [putL, c]
theorem spec_ord (T : List Int) (hT : T.length ≤ 20) : ∀ d i : Nat, i + d = T.length → Ev (fun k => spec_OrderOfArrival.l0 k T (ordS T i) (T.length : Int) (i : Int)) (ordS T T.length, true)
  | 0, i, h => by
    refine ev_end (fun k => ?_)
    simp only [spec_OrderOfArrival.l0]
    rw [if_neg (by omega), show i = T.length by omega]
  | d + 1, i, h => by
    have ih := spec_ord T hT d (i + 1) (by omega)
    have hp := spec_put T hT i (by omega) _ (ordS T i) (ordS_len T i) (ordS_mem T i) (by rw [ordS] at ih; exact ih) (ordS T i) [] (by simp) (by simp)
    refine Ev.step (fun k => ?_) hp
    simp only [spec_OrderOfArrival.l0]
    rw [if_pos (by omega)]; rfl
theorem both (s b c : Int) (l : List S58) (hn : l.length ≤ 1048576) : ∃ v : List Int × Bool, Ev (fun k => spec_OrderOfArrival.f k s b c l) v ∧ Ev (fun k => impl_OrderOfArrival.f k s b c l) v ∧ v.1.length ≤ 20 := by
  cases h : tokB s b c l with
  | true =>
    have hT : (tkAll s b c l).length ≤ 20 := by rw [tkAll_len]; exact tok_len h
    obtain ⟨K, hK⟩ := spec_ord (tkAll s b c l) hT (tkAll s b c l).length 0 (by omega)
    simp only at hK
    refine ⟨(ordS (tkAll s b c l) (tkAll s b c l).length, true), ⟨K + 2 * l.length + 3, fun k hk => ?_⟩, ⟨l.length + 1, fun k hk => ?_⟩, by rw [ordS_len]; exact hT⟩
    · show spec_OrderOfArrival.f k s b c l = _
      unfold spec_OrderOfArrival.f
      rw [spec_tkCalls_any hn (by omega), h, Option.bind_some, if_pos rfl, spec_sent_eq h, Option.bind_some]
      exact hK k (by omega)
    · show impl_OrderOfArrival.f k s b c l = _
      unfold impl_OrderOfArrival.f
      rw [impl_SentAt_eq hn (by omega), Option.bind_some]
      unfold sentV
      rw [if_pos h, if_pos rfl]
      unfold impl_ordered.f
      rw [if_pos hT, Option.bind_some, ordL_eq _ (all_diff h)]
  | false =>
    refine ⟨([], false), ⟨2 * l.length + 3, fun k hk => ?_⟩, ⟨l.length + 1, fun k hk => ?_⟩, by simp⟩
    · show spec_OrderOfArrival.f k s b c l = _
      unfold spec_OrderOfArrival.f
      rw [spec_tkCalls_any hn (by omega), h, Option.bind_some, if_neg (by simp)]
    · show impl_OrderOfArrival.f k s b c l = _
      unfold impl_OrderOfArrival.f
      rw [impl_SentAt_eq hn (by omega), Option.bind_some]
      unfold sentV
      rw [h, if_neg (by simp)]
theorem FnExactOrderOfArrival : FnExactOrderOfArrivalPure := by
  intro s b c l _ _ _ hm _
  unfold maxLen at hm
  by_cases hn : l.length ≤ 1048576
  · have n1 : ¬ (1048576 - (l.length : Int) < 0) := by omega
    have hn2 : (l.map toC).length ≤ 1048576 := by simpa using hn
    have hl : (l.map toC).length = l.length := by simp
    obtain ⟨v, ⟨K1, h1⟩, ⟨K2, h2⟩, hv⟩ := both s b c (l.map toC) hn2
    have n2 : ¬ (1 + (v.1.length : Int) < 0) := by omega
    have hv2 : v.1.length ≤ 1048576 := by omega
    refine ⟨K1 + K2 + l.length + v.1.length + 10, ?_⟩
    generalize hL : l.map toC = L at *
    have n3 : ¬ (1 + 3 * (L.length : Int) < 0) := by omega
    unfold laws_FnExactOrderOfArrival.f
    simp (disch := omega) only [Option.bind_some, ↓reduceIte, bne_self_eq_false, Bool.false_eq_true, h1, h2, szCallS_ok hn, n1, n2, n3, toTokenRing_eq, toCallS_eq hn, hL, eqCallS_refl hn2, markCallS_eq, eqIntS_refl hv2, markIntS_eq, heldIntS_eq]
    rw [laws_FnExactOrderOfArrival.j0]
    simp (disch := omega) only [Option.bind_some, ↓reduceIte, bne_self_eq_false, Bool.false_eq_true, h1, h2, szCallS_ok hn, n1, n2, n3, toTokenRing_eq, toCallS_eq hn, hL, eqCallS_refl hn2, markCallS_eq, eqIntS_refl hv2, markIntS_eq, heldIntS_eq]
    rw [laws_FnExactOrderOfArrival.j1]
    simp (disch := omega) only [Option.bind_some, ↓reduceIte, bne_self_eq_false, Bool.false_eq_true, h1, h2, szCallS_ok hn, n1, n2, n3, toTokenRing_eq, toCallS_eq hn, hL, eqCallS_refl hn2, markCallS_eq, eqIntS_refl hv2, markIntS_eq, heldIntS_eq]
    rw [laws_FnExactOrderOfArrival.j2]
    simp (disch := omega) only [Option.bind_some, ↓reduceIte, bne_self_eq_false, Bool.false_eq_true, h1, h2, szCallS_ok hn, n1, n2, n3, toTokenRing_eq, toCallS_eq hn, hL, eqCallS_refl hn2, markCallS_eq, eqIntS_refl hv2, markIntS_eq, heldIntS_eq]
  · exact ⟨0, by unfold laws_FnExactOrderOfArrival.f; rw [szCallS_big hm hn]; rfl⟩

end Go.Proofs.Ytgminjippechkaa.Pure
