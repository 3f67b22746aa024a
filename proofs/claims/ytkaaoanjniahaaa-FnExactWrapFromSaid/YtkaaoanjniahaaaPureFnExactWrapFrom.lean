/- FnExactWrapFrom: the program's answer is the reference's, as plain functions over numbers and lists; no condition beyond the sizes that every value has. -/
import Derived.Test.YtkaaoanjniahaaaPFnExactWrapFromx6
namespace Go.Proofs.Ytkaaoanjniahaaa.Pure
open Go.RowKit Go.Proofs.Ytkaaoanjniahaaa.PFnExactWrapFrom Go.Proofs.YtkaaoanjniahaaaW.PrintWords Go.Proofs.YtkaaoanjniahaaaW.PrintLast Go.Proofs.YtkaaoanjniahaaaW.PrintMore

/- It reaches: laws_szIntS.f, laws_szRing.f, laws_toIntS.f, laws_toRing.f, laws_eqIntS.f, laws_eqRing.f, laws_markIntS.f, laws_markRing.f, laws_heldIntS.f, spec_l1In.f, spec_l1Rising.f, spec_riGood.f, spec_riHas.f, spec_l1Has.f, spec_riNext.f, spec_riBefore.f, spec_riTurn.f, spec_WrapFrom.f, impl_within.f, impl_isRingSize.f, impl_allWithin.f, impl_areRising.f, impl_IsRing.f, impl_Ring_has.f, impl_Ring_next.f, slices_Index_int_int.f, slices_Contains_int_int.f, impl_Ring_isBroken.f, impl_Ring_before.f, impl_Ring_turn.f, impl_WrapFrom.f, laws_FnExactWrapFrom.f -/
def FnExactWrapFromPure : Prop := ∀ (a0_0 : Int) (l0_1 : List Int) (a1 : Int), (Lit.int .i64 a0_0).wf = true → l0_1.length ≤ maxLen → (∀ x ∈ l0_1, (Lit.int .i64 x).wf = true) → (Lit.int .i64 a1).wf = true → ∃ k, laws_FnExactWrapFrom.f k a0_0 l0_1 a1 = some true
set_option linter.unusedSimpArgs false
set_option linter.unusedVariables false
theorem wrap_id {x : Int} (h1 : -9223372036854775808 ≤ x) (h2 : x ≤ 9223372036854775807) : wrap64 x = x := by unfold wrap64; omega
theorem wrap_succ {i n : Nat} (h : i < n) (hn : n ≤ 4611686018427387904) : wrap64 ((i : Int) + 1) = ((i + 1 : Nat) : Int) := by rw [wrap_id] <;> omega
theorem rd_nat (l : List Int) {i : Nat} (h : i < l.length) : rd l (i : Int) = l[i] := by simp [rd, h]
theorem rd_mem (l : List Int) {i : Nat} (h : i < l.length) : rd l (i : Int) ∈ l := by rw [rd_nat l h]; exact List.getElem_mem h
/-- One round, and the end. -/
theorem ev_end {α : Type} {g : Nat → Option α} {r : α} (h : ∀ k, g (k + 1) = some r) : Ev g r := Ev.step h (Ev.now r)
theorem ev_of {α : Type} {g : Nat → Option α} {r : α} (h : ∀ k, g k = some r) : Ev g r := ⟨0, fun k _ => h k⟩
theorem ev_eq {α : Type} {g : Nat → Option α} {r r' : α} (h : Ev g r) (e : r = r') : Ev g r' := e ▸ h

theorem eqIntS_loop (l : List Int) (hn : l.length ≤ 1048576) : ∀ (d i k : Nat), i + d = l.length → d < k → laws_eqIntS.l0 k l l (i : Int) = some true := by
  intro d
  induction d with
  | zero =>
    intro i k h hk
    obtain ⟨k, rfl⟩ : ∃ m, k = m + 1 := ⟨k - 1, by omega⟩
    simp only [laws_eqIntS.l0]
    rw [if_neg (by omega)]
  | succ d ih =>
    intro i k h hk
    obtain ⟨k, rfl⟩ : ∃ m, k = m + 1 := ⟨k - 1, by omega⟩
    simp only [laws_eqIntS.l0]
    rw [if_pos (by omega), if_pos (by omega), if_pos (by omega), if_pos trivial, wrap_succ (n := l.length) (by omega) (by omega)]
    exact ih (i + 1) k (by omega) (by omega)
theorem eqIntS_refl {k : Nat} {l : List Int} (hn : l.length ≤ 1048576) (hk : l.length < k) : laws_eqIntS.f k l l = some true := by
  unfold laws_eqIntS.f
  rw [if_pos rfl]
  exact eqIntS_loop l hn l.length 0 k (by omega) hk

/-- n numbers from m on. -/
def marks (m : Int) (n : Nat) : List Int := (List.range n).map fun (j : Nat) => m + (j : Int)
theorem marks_length (m : Int) (n : Nat) : (marks m n).length = n := by simp [marks]
theorem marks_succ (m : Int) (n : Nat) : marks m (n + 1) = marks m n ++ [m + (n : Int)] := by simp [marks, List.range_succ]
theorem markIntS_loop (l : List Int) (m : Int) (hm : 0 ≤ m) (hm2 : m ≤ 1099511627776) (hn : l.length ≤ 1048576) : ∀ (d i k : Nat), i + d = l.length → d < k →
    laws_markIntS.l0 k (marks m i ++ l.drop i) (m + (i : Int)) (i : Int) = some (m + (l.length : Int), marks m l.length) := by
  intro d
  induction d with
  | zero =>
    intro i k h hk
    obtain ⟨k, rfl⟩ : ∃ m, k = m + 1 := ⟨k - 1, by omega⟩
    obtain rfl : i = l.length := by omega
    simp only [laws_markIntS.l0]
    rw [if_neg (by simp [marks_length])]
    simp
  | succ d ih =>
    intro i k h hk
    obtain ⟨k, rfl⟩ : ∃ m, k = m + 1 := ⟨k - 1, by omega⟩
    have hi : i < l.length := by omega
    have e : (marks m i ++ l.drop i).set i (m + (i : Int)) = marks m (i + 1) ++ l.drop (i + 1) := by
      rw [List.set_append_right _ _ (by simp [marks_length]), marks_length, Nat.sub_self, List.drop_eq_getElem_cons hi, List.set_cons_zero, marks_succ, List.append_assoc]; rfl
    simp only [laws_markIntS.l0]
    rw [if_pos (by simp [marks_length]; omega), if_pos (by omega), Int.toNat_natCast, e, wrap_succ hi (by omega), show wrap64 (m + (i : Int) + 1) = m + ((i + 1 : Nat) : Int) from by rw [wrap_id] <;> omega]
    exact ih (i + 1) k (by omega) (by omega)
theorem markIntS_eq {k : Nat} {l : List Int} {m : Int} (hm : 0 ≤ m) (hm2 : m ≤ 1099511627776) (hn : l.length ≤ 1048576) (hk : l.length < k) : laws_markIntS.f k l m = some (m + (l.length : Int), marks m l.length) := by
  unfold laws_markIntS.f
  have := markIntS_loop l m hm hm2 hn l.length 0 k (by omega) hk
  simpa [marks] using this
theorem heldIntS_loop (n : Nat) (m : Int) (hm : 0 ≤ m) (hm2 : m ≤ 1099511627776) (hn : n ≤ 1048576) : ∀ (d i k : Nat), i + d = n → d < k → laws_heldIntS.l0 k (marks m n) (m + (i : Int)) (i : Int) = some (m + (n : Int)) := by
  intro d
  induction d with
  | zero =>
    intro i k h hk
    obtain ⟨k, rfl⟩ : ∃ m, k = m + 1 := ⟨k - 1, by omega⟩
    obtain rfl : i = n := by omega
    simp only [laws_heldIntS.l0]
    rw [if_neg (by simp [marks_length])]
  | succ d ih =>
    intro i k h hk
    obtain ⟨k, rfl⟩ : ∃ m, k = m + 1 := ⟨k - 1, by omega⟩
    have hi : i < n := by omega
    have e : rd (marks m n) (i : Int) = m + (i : Int) := by rw [rd_nat _ (by simpa [marks_length] using hi)]; simp [marks]
    simp only [laws_heldIntS.l0]
    rw [if_pos (by simp [marks_length]; omega), if_pos (by omega), if_pos e, wrap_succ hi (by omega), show wrap64 (m + (i : Int) + 1) = m + ((i + 1 : Nat) : Int) from by rw [wrap_id] <;> omega]
    exact ih (i + 1) k (by omega) (by omega)
theorem heldIntS_eq {k n : Nat} {m : Int} (hm : 0 ≤ m) (hm2 : m ≤ 1099511627776) (hn : n ≤ 1048576) (hk : n < k) : laws_heldIntS.f k (marks m n) m = some (m + (n : Int)) := by
  unfold laws_heldIntS.f
  simpa using heldIntS_loop n m hm hm2 hn n 0 k (by omega) hk

theorem markRing_eq {k : Nat} {s : Int} {l : List Int} {m : Int} (hm : 0 ≤ m) (hm2 : m ≤ 1099511627776) (hn : l.length ≤ 1048576) (hk : l.length < k) : laws_markRing.f k s l m = some (m + (l.length : Int), marks m l.length) := by
  unfold laws_markRing.f; rw [markIntS_eq hm hm2 hn hk]; rfl

/-- Is each number less than the next one? -/
def adjB : List Int → Bool
  | a :: b :: t => decide (a < b) && adjB (b :: t)
  | _ => true
def inB (lo hi x : Int) : Bool := decide (lo ≤ x ∧ x ≤ hi)
def risingB (l : List Int) (lo hi : Int) : Bool := l.all (inB lo hi) && adjB l
theorem adjB_at (l : List Int) {i : Nat} (h0 : 0 < i) (h : i < l.length) : adjB (l.drop (i - 1)) = (decide (l[i - 1] < l[i]) && adjB (l.drop i)) := by
  rw [List.drop_eq_getElem_cons (show i - 1 < l.length by omega), show i - 1 + 1 = i from by omega, List.drop_eq_getElem_cons h, adjB]
theorem wrap_pred {i n : Nat} (h0 : 0 < i) (h : i < n) (hn : n ≤ 4611686018427387904) : wrap64 ((i : Int) - 1) = ((i - 1 : Nat) : Int) := by rw [wrap_id] <;> omega

theorem spec_l1In_eq (a b c : Int) : spec_l1In.f a b c = some (decide (b ≤ a ∧ a ≤ c)) := by
  unfold spec_l1In.f
  by_cases h : b ≤ a <;> simp [h]

theorem spec_l1Rising_loop (lo hi : Int) (l : List Int) (hn : l.length ≤ 1048576) : ∀ (d i k : Nat), i + d = l.length → d < k →
    spec_l1Rising.l0 k l lo hi l (l.length : Int) (i : Int) = some ((l.drop i).all (inB lo hi) && adjB (l.drop (i - 1))) := by
  intro d
  induction d with
  | zero =>
    intro i k h hk
    obtain ⟨k, rfl⟩ : ∃ m, k = m + 1 := ⟨k - 1, by omega⟩
    simp only [spec_l1Rising.l0]
    rw [if_neg (by omega), List.drop_of_length_le (l := l) (i := i) (by omega)]
    have : adjB (l.drop (i - 1)) = true := by
      rcases Nat.eq_zero_or_pos i with h0 | h0
      · rw [h0, List.drop_of_length_le (by omega)]; rfl
      · rw [List.drop_eq_getElem_cons (show i - 1 < l.length by omega), List.drop_of_length_le (by omega)]; rfl
    simp [this]
  | succ d ih =>
    intro i k h hk
    obtain ⟨k, rfl⟩ : ∃ m, k = m + 1 := ⟨k - 1, by omega⟩
    have hlt : i < l.length := by omega
    have nx := ih (i + 1) k (by omega) (by omega)
    rw [Nat.add_sub_cancel] at nx
    have e : (l.drop i).all (inB lo hi) = (inB lo hi l[i] && (l.drop (i + 1)).all (inB lo hi)) := by rw [List.drop_eq_getElem_cons hlt, List.all_cons]
    simp only [spec_l1Rising.l0, spec_l1In_eq, Option.bind_some]
    rw [if_pos (by omega), if_pos (by omega), if_pos (by omega), rd_nat l hlt, wrap_succ hlt (by omega), e]
    by_cases c : lo ≤ l[i] ∧ l[i] ≤ hi
    · rw [if_pos (by simpa using c)]
      by_cases h0 : 0 < i
      · rw [if_pos (by omega), wrap_pred h0 hlt (by omega), if_pos (by omega), if_pos (by omega), rd_nat l (show i - 1 < l.length by omega), adjB_at l h0 hlt]
        by_cases c2 : l[i - 1] < l[i]
        · rw [if_neg (by omega), nx]; simp [inB, c, c2]
        · rw [if_pos (by omega)]; simp [c2]
      · obtain rfl : i = 0 := by omega
        rw [if_neg (by omega), nx]; simp [inB, c]
    · rw [if_neg (by simpa using c)]; simp only [inB, decide_eq_false c, Bool.false_and]
theorem spec_l1Rising_eq {k : Nat} {l : List Int} {lo hi : Int} (hn : l.length ≤ 1048576) (hk : l.length < k) : spec_l1Rising.f k l lo hi = some (risingB l lo hi) := by
  unfold spec_l1Rising.f
  simpa [risingB] using spec_l1Rising_loop lo hi l hn l.length 0 k (by omega) hk

theorem impl_areRising_loop (lo hi : Int) (l : List Int) (hn : l.length ≤ 1048576) : ∀ (d i k : Nat), i + d = l.length → d < k →
    impl_areRising.l0 k l lo hi l (l.length : Int) (i : Int) = some (adjB (l.drop (i - 1)) && l.all (inB lo hi)) := by
  intro d
  induction d with
  | zero =>
    intro i k h hk
    obtain ⟨k, rfl⟩ : ∃ m, k = m + 1 := ⟨k - 1, by omega⟩
    simp only [impl_areRising.l0]
    rw [if_neg (by omega)]
    have : adjB (l.drop (i - 1)) = true := by
      rcases Nat.eq_zero_or_pos i with h0 | h0
      · rw [h0, List.drop_of_length_le (by omega)]; rfl
      · rw [List.drop_eq_getElem_cons (show i - 1 < l.length by omega), List.drop_of_length_le (by omega)]; rfl
    rw [this, Bool.true_and]; rfl
  | succ d ih =>
    intro i k h hk
    obtain ⟨k, rfl⟩ : ∃ m, k = m + 1 := ⟨k - 1, by omega⟩
    have hlt : i < l.length := by omega
    have nx := ih (i + 1) k (by omega) (by omega)
    rw [Nat.add_sub_cancel] at nx
    simp only [impl_areRising.l0]
    rw [if_pos (by omega), if_pos (by omega), if_pos (by omega), rd_nat l hlt, wrap_succ hlt (by omega)]
    by_cases h0 : 0 < i
    · rw [if_pos (by omega), wrap_pred h0 hlt (by omega), if_pos (by omega), if_pos (by omega), rd_nat l (show i - 1 < l.length by omega), adjB_at l h0 hlt]
      by_cases c2 : l[i - 1] < l[i]
      · rw [if_neg (by omega), nx]; simp [c2]
      · rw [if_pos (by omega)]; simp [c2]
    · obtain rfl : i = 0 := by omega
      rw [if_neg (by omega), nx]
theorem impl_areRising_eq {k : Nat} {l : List Int} {lo hi : Int} (hn : l.length ≤ 1048576) (hk : l.length < k) : impl_areRising.f k l lo hi = some (risingB l lo hi) := by
  unfold impl_areRising.f
  have := impl_areRising_loop lo hi l hn l.length 0 k (by omega) hk
  rw [show ((0 : Nat) : Int) = 0 from rfl] at this
  simp [this, risingB, Bool.and_comm]

theorem impl_within_eq (a b c : Int) : impl_within.f a b c = some (decide (b ≤ a ∧ a ≤ c)) := by
  unfold impl_within.f
  by_cases h : b ≤ a <;> simp [h]

theorem toIntS_loop (l : List Int) (hn : l.length ≤ 1048576) : ∀ (d i k : Nat), i + d = l.length → d < k → laws_toIntS.l0 k l (l.take i ++ List.replicate d 0) (i : Int) = some l := by
  intro d
  induction d with
  | zero =>
    intro i k h hk
    obtain ⟨k, rfl⟩ : ∃ m, k = m + 1 := ⟨k - 1, by omega⟩
    simp only [laws_toIntS.l0]
    rw [if_neg (by omega)]
    simp [List.take_of_length_le (show l.length ≤ i by omega)]
  | succ d ih =>
    intro i k h hk
    obtain ⟨k, rfl⟩ : ∃ m, k = m + 1 := ⟨k - 1, by omega⟩
    have hi : i < l.length := by omega
    have e : (l.take i ++ List.replicate (d + 1) 0).set i (rd l (i : Int)) = l.take (i + 1) ++ List.replicate d 0 := by
      rw [rd_nat l hi, List.set_append_right _ _ (by simp; omega)]
      simp only [List.length_take, Nat.min_eq_left (Nat.le_of_lt hi), Nat.sub_self, List.replicate_succ, List.set_cons_zero]
      rw [List.take_succ_eq_append_getElem hi, List.append_assoc]; rfl
    simp only [laws_toIntS.l0]
    rw [if_pos (by omega), if_pos (by omega), if_pos (by simp; omega), Int.toNat_natCast, e, wrap_succ hi (by omega)]
    exact ih (i + 1) k (by omega) (by omega)
theorem toIntS_eq {k : Nat} {l : List Int} (hn : l.length ≤ 1048576) (hk : l.length < k) : laws_toIntS.f k l = some l := by
  unfold laws_toIntS.f
  rw [if_pos (by omega), if_pos (by omega), Int.toNat_natCast]
  have := toIntS_loop l hn l.length 0 k (by omega) hk
  simpa using this

theorem eqRing_refl {k : Nat} {s : Int} {l : List Int} (hn : l.length ≤ 1048576) (hk : l.length < k) : laws_eqRing.f k s l s l = some true := by
  unfold laws_eqRing.f
  rw [if_pos rfl, eqIntS_refl hn hk]
  rfl

/-- What both call a ring. -/
def ringB (s : Int) (l : List Int) : Bool := decide (2 ≤ s ∧ s ≤ 12) && risingB l 0 (s - 1)
theorem ringB_size {s : Int} {l : List Int} (h : ringB s l = true) : 2 ≤ s ∧ s ≤ 12 := by simp [ringB] at h; exact h.1
theorem spec_riGood_eq {k : Nat} {s : Int} {l : List Int} (hn : l.length ≤ 1048576) (hk : l.length < k) : spec_riGood.f k s l = some (ringB s l) := by
  unfold spec_riGood.f ringB
  simp only [spec_l1In_eq, Option.bind_some]
  by_cases h : 2 ≤ s ∧ s ≤ 12
  · rw [if_pos (by simpa using h), wrap_id (by omega) (by omega), spec_l1Rising_eq hn hk]; simp [h]
  · rw [if_neg (by simpa using h)]; simp [h]
theorem impl_IsRing_eq {k : Nat} {s : Int} {l : List Int} (hn : l.length ≤ 1048576) (hk : l.length < k) : impl_IsRing.f k s l = some (ringB s l) := by
  unfold impl_IsRing.f impl_isRingSize.f ringB
  simp only [impl_within_eq, Option.bind_some]
  by_cases h : 2 ≤ s ∧ s ≤ 12
  · rw [if_pos (by simpa using h), wrap_id (by omega) (by omega), impl_areRising_eq hn hk]; simp [h]
  · rw [if_neg (by simpa using h)]; simp [h]
theorem szRing_big {s : Int} {l : List Int} (hm : l.length ≤ 9223372036854775807) (h : ¬ l.length ≤ 1048576) : laws_szRing.f s l 1048576 = some (-1) := by
  unfold laws_szRing.f laws_szIntS.f
  rw [wrap_id (by omega) (by omega), if_pos (by omega)]; rfl
theorem szRing_ok {s : Int} {l : List Int} (h : l.length ≤ 1048576) : laws_szRing.f s l 1048576 = some (1048576 - (l.length : Int)) := by
  unfold laws_szRing.f laws_szIntS.f
  rw [wrap_id (by omega) (by omega), if_neg (by omega), Option.bind_some, if_neg (by omega)]
theorem toRing_eq {k : Nat} {s : Int} {l : List Int} (hn : l.length ≤ 1048576) (hk : l.length < k) : laws_toRing.f k s l = some (s, l) := by
  unfold laws_toRing.f
  rw [toIntS_eq hn hk]; rfl

theorem spec_riHas_eq {k : Nat} {s x : Int} {l : List Int} (hn : l.length ≤ 1048576) (hk : l.length < k) : spec_riHas.f k s l x = some (ringB s l && decide (0 ≤ x ∧ x ≤ s - 1)) := by
  unfold spec_riHas.f
  rw [spec_riGood_eq hn hk, Option.bind_some]
  cases h : ringB s l with
  | false => rfl
  | true =>
    have := ringB_size h
    rw [if_pos rfl, wrap_id (by omega) (by omega), spec_l1In_eq]; rfl
theorem impl_has1_eq {k : Nat} {s x : Int} {l : List Int} (hn : l.length ≤ 1048576) (hk : l.length < k) : impl_Ring_has.f k s l [x] = some (ringB s l && decide (0 ≤ x ∧ x ≤ s - 1)) := by
  unfold impl_Ring_has.f impl_allWithin.f
  rw [impl_IsRing_eq hn hk, Option.bind_some]
  cases h : ringB s l with
  | false => rfl
  | true =>
    have := ringB_size h
    rw [if_pos rfl, wrap_id (by omega) (by omega)]; simp
theorem impl_has2_eq {k : Nat} {s x y : Int} {l : List Int} (hn : l.length ≤ 1048576) (hk : l.length < k) : impl_Ring_has.f k s l [x, y] = some (ringB s l && (decide (0 ≤ x ∧ x ≤ s - 1) && decide (0 ≤ y ∧ y ≤ s - 1))) := by
  unfold impl_Ring_has.f impl_allWithin.f
  rw [impl_IsRing_eq hn hk, Option.bind_some]
  cases h : ringB s l with
  | false => rfl
  | true =>
    have := ringB_size h
    rw [if_pos rfl, wrap_id (by omega) (by omega)]; simp

/-- The next station. -/
def nxt (s a : Int) : Int := if a + 1 = s then 0 else a + 1
theorem nxt_tmod {s a : Int} (h0 : 0 ≤ a) (h1 : a < s) (hs : s ≤ 12) : Int.tmod (wrap64 (a + 1)) s = nxt s a := by
  rw [wrap_id (by omega) (by omega), Int.tmod_eq_emod_of_nonneg (by omega)]
  unfold nxt
  by_cases c : a + 1 = s
  · rw [if_pos c, c, Int.emod_self]
  · rw [if_neg c, Int.emod_eq_of_lt (by omega) (by omega)]
theorem nxt_range {s a : Int} (h0 : 0 ≤ a) (h1 : a < s) : 0 ≤ nxt s a ∧ nxt s a < s := by unfold nxt; split <;> omega
theorem spec_riNext_eq {s a : Int} (l : List Int) (h0 : 0 ≤ a) (h1 : a < s) (hs : s ≤ 12) : spec_riNext.f s l a = some (nxt s a) := by
  unfold spec_riNext.f
  rw [if_neg (by omega), nxt_tmod h0 h1 hs]

theorem spec_l1Has_loop (x : Int) (l : List Int) (hn : l.length ≤ 1048576) : ∀ (d i k : Nat), i + d = l.length → d < k → spec_l1Has.l0 k x l (l.length : Int) (i : Int) = some (decide (x ∈ l.drop i)) := by
  intro d
  induction d with
  | zero =>
    intro i k h hk
    obtain ⟨k, rfl⟩ : ∃ m, k = m + 1 := ⟨k - 1, by omega⟩
    simp only [spec_l1Has.l0]
    rw [if_neg (by omega), List.drop_of_length_le (by omega)]; simp
  | succ d ih =>
    intro i k h hk
    obtain ⟨k, rfl⟩ : ∃ m, k = m + 1 := ⟨k - 1, by omega⟩
    have hi : i < l.length := by omega
    have e : (x ∈ l.drop i) = (x = l[i] ∨ x ∈ l.drop (i + 1)) := by rw [List.drop_eq_getElem_cons hi, List.mem_cons]
    simp only [spec_l1Has.l0, e]
    rw [if_pos (by omega), if_pos (by omega), if_pos (by omega), rd_nat l hi, wrap_succ hi (by omega), ih (i + 1) k (by omega) (by omega)]
    by_cases c : l[i] = x
    · rw [if_pos c, decide_eq_true (.inl c.symm)]
    · rw [if_neg c]; exact congrArg some (decide_eq_decide.mpr ⟨.inr, fun h => h.resolve_left (fun h => c h.symm)⟩)
theorem spec_l1Has_eq {k : Nat} {x : Int} {l : List Int} (hn : l.length ≤ 1048576) (hk : l.length < k) : spec_l1Has.f k l x = some (decide (x ∈ l)) := by
  unfold spec_l1Has.f
  simpa using spec_l1Has_loop x l hn l.length 0 k (by omega) hk

theorem slicesIndex_loop (x : Int) (l : List Int) (hn : l.length ≤ 1048576) : ∀ (d i k : Nat), i + d = l.length → d < k → ∃ r, slices_Index_int_int.l0 k l x (l.length : Int) (i : Int) = some r ∧ decide (r ≥ 0) = decide (x ∈ l.drop i) := by
  intro d
  induction d with
  | zero =>
    intro i k h hk
    obtain ⟨k, rfl⟩ : ∃ m, k = m + 1 := ⟨k - 1, by omega⟩
    simp only [slices_Index_int_int.l0]
    rw [if_neg (by omega), List.drop_of_length_le (by omega)]
    exact ⟨-1, rfl, by simp⟩
  | succ d ih =>
    intro i k h hk
    obtain ⟨k, rfl⟩ : ∃ m, k = m + 1 := ⟨k - 1, by omega⟩
    have hi : i < l.length := by omega
    have e : (x ∈ l.drop i) = (x = l[i] ∨ x ∈ l.drop (i + 1)) := by rw [List.drop_eq_getElem_cons hi, List.mem_cons]
    simp only [slices_Index_int_int.l0, e]
    rw [if_pos (by omega), if_pos (by omega), if_pos (by omega), rd_nat l hi, wrap_succ hi (by omega)]
    by_cases c : x = l[i]
    · rw [if_pos c]; exact ⟨i, rfl, by rw [decide_eq_true (show (i : Int) ≥ 0 by omega), decide_eq_true (show x = l[i] ∨ x ∈ l.drop (i + 1) from Or.inl c)]⟩
    · rw [if_neg c]
      obtain ⟨r, h1, h2⟩ := ih (i + 1) k (by omega) (by omega)
      exact ⟨r, h1, h2.trans (decide_eq_decide.mpr ⟨.inr, fun h => h.resolve_left c⟩)⟩
theorem slicesContains_eq {k : Nat} {x : Int} {l : List Int} (hn : l.length ≤ 1048576) (hk : l.length < k) : slices_Contains_int_int.f k l x = some (decide (x ∈ l)) := by
  unfold slices_Contains_int_int.f slices_Index_int_int.f
  obtain ⟨r, h1, h2⟩ := slicesIndex_loop x l hn l.length 0 k (by omega) hk
  rw [show ((0 : Nat) : Int) = 0 from rfl] at h1
  rw [h1, Option.bind_some, h2, List.drop_zero]
theorem impl_isBroken_eq {k : Nat} {s x : Int} {l : List Int} (hn : l.length ≤ 1048576) (hk : l.length < k) : impl_Ring_isBroken.f k s l x = some (decide (x ∈ l)) := by
  unfold impl_Ring_isBroken.f
  rw [slicesContains_eq hn hk]; rfl

theorem impl_next_eq {s a : Int} (l : List Int) (h0 : 0 ≤ a) (h1 : a < s) (hs : s ≤ 12) : impl_Ring_next.f s l a = some (nxt s a) := by
  unfold impl_Ring_next.f
  rw [if_neg (by omega), nxt_tmod h0 h1 hs]

/-- The station before. -/
def bef (s a : Int) : Int := if a = 0 then s - 1 else a - 1
theorem bef_tmod {s a : Int} (h0 : 0 ≤ a) (h1 : a < s) (hs : s ≤ 12) : Int.tmod (wrap64 (wrap64 (a + s) - 1)) s = bef s a := by
  rw [wrap_id (x := a + s) (by omega) (by omega), wrap_id (x := a + s - 1) (by omega) (by omega), Int.tmod_eq_emod_of_nonneg (by omega)]
  unfold bef
  by_cases c : a = 0
  · subst c
    rw [if_pos rfl, Int.emod_eq_of_lt (by omega) (by omega)]; omega
  · rw [if_neg c, show a + s - 1 = a - 1 + s by omega, Int.add_emod_right, Int.emod_eq_of_lt (by omega) (by omega)]
theorem bef_range {s a : Int} (h0 : 0 ≤ a) (h1 : a < s) : 0 ≤ bef s a ∧ bef s a < s := by unfold bef; split <;> omega
theorem spec_riBefore_eq {s a : Int} (l : List Int) (h0 : 0 ≤ a) (h1 : a < s) (hs : s ≤ 12) : spec_riBefore.f s l a = some (bef s a) := by
  unfold spec_riBefore.f
  rw [if_neg (by omega), bef_tmod h0 h1 hs]

/-- Among m + 1 numbers below m two are the same. -/
theorem pigeon : ∀ (m : Nat) (f : Nat → Nat), (∀ i, i ≤ m → f i < m) → ∃ i j, i < j ∧ j ≤ m ∧ f i = f j
  | 0, f, h => by have := h 0 (Nat.le_refl _); omega
  | m + 1, f, h => by
    by_cases c : ∃ i, i ≤ m ∧ f i = f (m + 1)
    · obtain ⟨i, h1, h2⟩ := c
      exact ⟨i, m + 1, by omega, by omega, h2⟩
    · have hne : ∀ i, i ≤ m → f i ≠ f (m + 1) := fun i hi e => c ⟨i, hi, e⟩
      obtain ⟨i, j, h1, h2, h3⟩ := pigeon m (fun i => if f i = m then f (m + 1) else f i) (fun i hi => by
        have h1 := h i (by omega)
        have h2 := h (m + 1) (by omega)
        have h3 := hne i hi
        show (if f i = m then f (m + 1) else f i) < m
        split <;> omega)
      refine ⟨i, j, h1, by omega, ?_⟩
      have hi := hne i (by omega)
      have hj := hne j h2
      have h4 : (if f i = m then f (m + 1) else f i) = (if f j = m then f (m + 1) else f j) := h3
      split at h4 <;> split at h4 <;> omega

theorem impl_before_eq {s a : Int} (l : List Int) (h0 : 0 ≤ a) (h1 : a < s) (hs : s ≤ 12) : impl_Ring_before.f s l a = some (bef s a) := by
  unfold impl_Ring_before.f
  rw [if_neg (by omega), bef_tmod h0 h1 hs]
def turnB (s : Int) (l : List Int) (a : Int) (w : Bool) : Bool := if w then !decide (a ∈ l) else decide (bef s a ∈ l)
theorem spec_riTurn_eq {k : Nat} {s a : Int} {l : List Int} {w : Bool} (hn : l.length ≤ 1048576) (hk : l.length < k) (h0 : 0 ≤ a) (h1 : a < s) (hs : s ≤ 12) : spec_riTurn.f k s l a w = some (turnB s l a w) := by
  unfold spec_riTurn.f turnB
  cases w with
  | true => rw [if_pos rfl, spec_l1Has_eq hn hk, Option.bind_some]; simp
  | false => rw [if_neg (by simp), spec_riBefore_eq l h0 h1 hs, Option.bind_some, spec_l1Has_eq hn hk, Option.bind_some]; simp
theorem impl_turn_eq {k : Nat} {s a : Int} {l : List Int} {w : Bool} (hn : l.length ≤ 1048576) (hk : l.length < k) (h0 : 0 ≤ a) (h1 : a < s) (hs : s ≤ 12) (hv : ¬ (a ∈ l ∧ bef s a ∈ l)) : impl_Ring_turn.f k s l a w = some (turnB s l a w, true) := by
  obtain ⟨k, rfl⟩ : ∃ m, k = m + 1 := ⟨k - 1, by omega⟩
  unfold impl_Ring_turn.f turnB
  rw [impl_isBroken_eq hn hk, Option.bind_some, impl_before_eq l h0 h1 hs, Option.bind_some, impl_isBroken_eq hn hk, Option.bind_some]
  simp only [impl_Ring_turn.j0]
  by_cases c1 : a ∈ l
  · have c2 : bef s a ∉ l := fun h => hv ⟨c1, h⟩
    cases w <;> simp [c1, c2]
  · by_cases c2 : bef s a ∈ l <;> cases w <;> simp [c1, c2]
theorem impl_turn_alone {k : Nat} {s a : Int} {l : List Int} {w : Bool} (hn : l.length ≤ 1048576) (hk : l.length < k) (h0 : 0 ≤ a) (h1 : a < s) (hs : s ≤ 12) (c1 : a ∈ l) (c2 : bef s a ∈ l) : impl_Ring_turn.f k s l a w = some (false, false) := by
  obtain ⟨k, rfl⟩ : ∃ m, k = m + 1 := ⟨k - 1, by omega⟩
  unfold impl_Ring_turn.f
  rw [impl_isBroken_eq hn hk, Option.bind_some, impl_before_eq l h0 h1 hs, Option.bind_some, impl_isBroken_eq hn hk, Option.bind_some]
  simp [impl_Ring_turn.j0, c1, c2]
/-- Where one is next, and in which direction one goes on. -/
def goA (s a : Int) (w : Bool) : Int := if w then nxt s a else bef s a
def stepW (s : Int) (l : List Int) (x : Int × Bool) : Int × Bool := (goA s x.1 x.2, turnB s l (goA s x.1 x.2) x.2)
/-- On the ring, the link ahead whole. -/
def okW (s : Int) (l : List Int) (x : Int × Bool) : Prop := (0 ≤ x.1 ∧ x.1 < s) ∧ (if x.2 then x.1 ∉ l else bef s x.1 ∉ l)
theorem bef_nxt {s a : Int} (h0 : 0 ≤ a) (h1 : a < s) : bef s (nxt s a) = a := by unfold bef nxt; split <;> split <;> omega
theorem nxt_bef {s a : Int} (h0 : 0 ≤ a) (h1 : a < s) : nxt s (bef s a) = a := by unfold bef nxt; split <;> split <;> omega
theorem goA_range {s a : Int} {w : Bool} (h0 : 0 ≤ a) (h1 : a < s) : 0 ≤ goA s a w ∧ goA s a w < s := by
  unfold goA; cases w
  · exact bef_range h0 h1
  · exact nxt_range h0 h1
theorem go_link {s : Int} {l : List Int} {a : Int} {w : Bool} (h : okW s l (a, w)) : ¬ (goA s a w ∈ l ∧ bef s (goA s a w) ∈ l) := by
  obtain ⟨⟨h0, h1⟩, h2⟩ := h
  cases w with
  | true =>
    simp only [if_true] at h2
    rintro ⟨_, h4⟩
    simp only [goA, if_true, bef_nxt h0 h1] at h4
    exact h2 h4
  | false =>
    simp only [Bool.false_eq_true, if_false] at h2
    rintro ⟨h3, _⟩
    simp only [goA, Bool.false_eq_true, if_false] at h3
    exact h2 h3
theorem stepW_ok {s : Int} {l : List Int} {x : Int × Bool} (h : okW s l x) : okW s l (stepW s l x) := by
  obtain ⟨a, w⟩ := x
  have hl := go_link h
  obtain ⟨⟨h0, h1⟩, h2⟩ := h
  refine ⟨goA_range h0 h1, ?_⟩
  simp only [stepW]
  cases w with
  | true =>
    simp only [turnB, if_true]
    by_cases c : goA s a true ∈ l
    · rw [if_neg (by simp [c])]; exact fun h => hl ⟨c, h⟩
    · rw [if_pos (by simp [c])]; exact c
  | false =>
    simp only [turnB, Bool.false_eq_true, if_false]
    by_cases c : bef s (goA s a false) ∈ l
    · rw [if_pos (by simp [c])]; exact fun h => hl ⟨h, c⟩
    · rw [if_neg (by simp [c])]; exact c
theorem stepW_inj {s : Int} {l : List Int} {x y : Int × Bool} (hx : okW s l x) (hy : okW s l y) (e : stepW s l x = stepW s l y) : x = y := by
  obtain ⟨a, w⟩ := x
  obtain ⟨b, v⟩ := y
  obtain ⟨⟨h0, h1⟩, h2⟩ := hx
  obtain ⟨⟨k0, k1⟩, k2⟩ := hy
  simp only [stepW, Prod.mk.injEq] at e
  obtain ⟨e1, e2⟩ := e
  simp only at h0 h1 h2 k0 k1 k2
  have same : ∀ u : Bool, goA s a u = goA s b u → a = b := by
    intro u h
    cases u with
    | true =>
      simp only [goA, if_true] at h
      have := congrArg (bef s) h
      rwa [bef_nxt h0 h1, bef_nxt k0 k1] at this
    | false =>
      simp only [goA, Bool.false_eq_true, if_false] at h
      have := congrArg (nxt s) h
      rwa [nxt_bef h0 h1, nxt_bef k0 k1] at this
  cases w with
  | true =>
    cases v with
    | true => rw [same true e1]
    | false =>
      exfalso
      simp only [if_true] at h2
      simp only [Bool.false_eq_true, if_false] at k2
      have m1 : bef s (goA s a true) = a := by simp only [goA, if_true]; exact bef_nxt h0 h1
      have m2 : goA s b false = bef s b := by simp [goA]
      rw [← e1] at e2
      simp only [turnB, if_true, Bool.false_eq_true, if_false, m1] at e2
      have n1 : goA s a true ∉ l := by rw [e1, m2]; exact k2
      simp [h2, n1] at e2
  | false =>
    cases v with
    | false => rw [same false e1]
    | true =>
      exfalso
      simp only [if_true] at k2
      simp only [Bool.false_eq_true, if_false] at h2
      have m1 : bef s (goA s b true) = b := by simp only [goA, if_true]; exact bef_nxt k0 k1
      have m2 : goA s a false = bef s a := by simp [goA]
      rw [e1] at e2
      simp only [turnB, if_true, Bool.false_eq_true, if_false, m1] at e2
      have n1 : goA s b true ∉ l := by rw [← e1, m2]; exact h2
      simp [k2, n1] at e2
def iterW (s : Int) (l : List Int) : Nat → Int × Bool → Int × Bool
  | 0, x => x
  | n + 1, x => iterW s l n (stepW s l x)
theorem iterW_succ (s : Int) (l : List Int) : ∀ (n : Nat) (x : Int × Bool), iterW s l (n + 1) x = stepW s l (iterW s l n x)
  | 0, _ => rfl
  | n + 1, x => by rw [iterW, iterW_succ s l n, iterW]
theorem iterW_ok {s : Int} {l : List Int} : ∀ (n : Nat) {x : Int × Bool}, okW s l x → okW s l (iterW s l n x)
  | 0, _, h => h
  | n + 1, _, h => iterW_ok n (stepW_ok h)
theorem iterW_back {s : Int} {l : List Int} {x : Int × Bool} (h : okW s l x) (d : Nat) : ∀ i : Nat, iterW s l i x = iterW s l (i + d) x → iterW s l d x = x
  | 0, e => by rw [Nat.zero_add] at e; exact e.symm
  | i + 1, e => by
    rw [show i + 1 + d = i + d + 1 by omega, iterW_succ, iterW_succ] at e
    exact iterW_back h d i (stepW_inj (iterW_ok i h) (iterW_ok (i + d) h) e)
def codeW (x : Int × Bool) : Nat := 2 * x.1.toNat + (if x.2 then 1 else 0)
theorem codeW_inj {s : Int} {l : List Int} {x y : Int × Bool} (hx : okW s l x) (hy : okW s l y) (e : codeW x = codeW y) : x = y := by
  obtain ⟨a, w⟩ := x
  obtain ⟨b, v⟩ := y
  have h1 := hx.1
  have h2 := hy.1
  simp only [codeW] at e h1 h2
  cases w <;> cases v <;> simp at e ⊢ <;> omega
theorem iterW_returns {s : Int} {l : List Int} {x : Int × Bool} (h : okW s l x) : ∃ n, 1 ≤ n ∧ n ≤ 2 * s.toNat ∧ iterW s l n x = x := by
  obtain ⟨i, j, h1, h2, h3⟩ := pigeon (2 * s.toNat) (fun i => codeW (iterW s l i x)) (fun i _ => by
    have := (iterW_ok (l := l) i h).1
    show codeW _ < _
    unfold codeW
    split <;> omega)
  have e := codeW_inj (iterW_ok i h) (iterW_ok j h) h3
  refine ⟨j - i, by omega, by omega, iterW_back h (j - i) i ?_⟩
  rw [show i + (j - i) = j by omega]; exact e
def walkW (s : Int) (l : List Int) (st : Int × Bool) : Nat → Int × Bool → List Int → List Int
  | 0, _, acc => acc
  | m + 1, x, acc => if stepW s l x = st then acc else walkW s l st m (stepW s l x) (acc ++ [(stepW s l x).1])
theorem walkW_len (s : Int) (l : List Int) (st : Int × Bool) : ∀ (m : Nat) (x : Int × Bool) (acc : List Int), (walkW s l st m x acc).length ≤ acc.length + m
  | 0, _, acc => Nat.le_refl _
  | m + 1, x, acc => by
    unfold walkW
    split
    · omega
    · have := walkW_len s l st m (stepW s l x) (acc ++ [(stepW s l x).1])
      simp only [List.length_append, List.length_singleton] at this; omega
theorem spec_wrap_l0 (s : Int) (l : List Int) (hn : l.length ≤ 1048576) (hs : 2 ≤ s ∧ s ≤ 12) (st : Int × Bool) : ∀ (m : Nat) (t : Int) (x : Int × Bool) (acc : List Int) (k : Nat), 0 ≤ t → t + (m : Int) = 2 * s + 1 → 0 ≤ x.1 → x.1 < s → (acc.length : Int) ≤ t + 1 → l.length + m + 1 < k →
    spec_WrapFrom.l0 k st.1 acc st.2 x.1 x.2 t s l = some (walkW s l st m x acc, true) := by
  intro m
  induction m with
  | zero =>
    intro t x acc k ht h _ _ _ hk
    obtain ⟨k, rfl⟩ : ∃ m, k = m + 1 := ⟨k - 1, by omega⟩
    simp only [spec_WrapFrom.l0]
    rw [wrap_id (x := 2 * s) (by omega) (by omega), if_neg (by omega)]; rfl
  | succ m ih =>
    intro t x acc k ht h h0 h1 ha hk
    obtain ⟨k, rfl⟩ : ∃ m, k = m + 1 := ⟨k - 1, by omega⟩
    obtain ⟨a, w⟩ := x
    obtain ⟨s1, s2⟩ := st
    simp only at h0 h1
    have hg := goA_range (w := w) h0 h1
    have nx := ih (t + 1) (stepW s l (a, w)) (acc ++ [(stepW s l (a, w)).1]) k (by omega) (by omega) hg.1 hg.2 (by simp; omega) (by omega)
    simp only [stepW] at nx
    simp only [spec_WrapFrom.l0, walkW, stepW]
    rw [wrap_id (x := 2 * s) (by omega) (by omega), if_pos (by omega), wrap_id (x := t + 1) (by omega) (by omega)]
    have main : ∀ b : Int, b = goA s a w → ((spec_riTurn.f k s l b w).bind fun t150 => (if b = s1 then (if (t150 == s2) = true then (some (acc, true)) else (if acc.length < 17592186044416 then (spec_WrapFrom.l0 k s1 (acc ++ [b]) s2 b t150 (t + 1) s l) else (none))) else (if acc.length < 17592186044416 then (spec_WrapFrom.l0 k s1 (acc ++ [b]) s2 b t150 (t + 1) s l) else (none)))) = some (if (goA s a w, turnB s l (goA s a w) w) = (s1, s2) then acc else walkW s l (s1, s2) m (goA s a w, turnB s l (goA s a w) w) (acc ++ [goA s a w]), true) := by
      intro b hb
      subst hb
      rw [spec_riTurn_eq hn (by omega) hg.1 hg.2 hs.2, Option.bind_some]
      have hac : acc.length < 17592186044416 := by omega
      simp only [if_pos hac]
      by_cases c1 : goA s a w = s1
      · rw [if_pos c1]
        by_cases c2 : turnB s l (goA s a w) w = s2
        · rw [if_pos (by simp [c2]), if_pos (by rw [c1] at c2 ⊢; rw [c2])]
        · rw [if_neg (by simpa using c2), nx, if_neg (fun e => c2 (congrArg Prod.snd e))]
      · rw [if_neg c1, nx, if_neg (fun e => c1 (congrArg Prod.fst e))]
    cases w with
    | true => rw [if_pos rfl, spec_riNext_eq l h0 h1 hs.2, Option.bind_some]; exact main _ (by simp [goA])
    | false => rw [if_neg (by simp), spec_riBefore_eq l h0 h1 hs.2, Option.bind_some]; exact main _ (by simp [goA])
theorem impl_wrap_l0 (s : Int) (l : List Int) (hn : l.length ≤ 1048576) (hs : 2 ≤ s ∧ s ≤ 12) (st : Int × Bool) : ∀ (m : Nat) (x : Int × Bool) (acc : List Int) (k : Nat), okW s l x → (∃ n, 1 ≤ n ∧ n ≤ m ∧ iterW s l n x = st) → acc.length + m ≤ 1048576 → l.length + m + 1 < k →
    impl_WrapFrom.l0 k st.1 acc st.2 x.1 x.2 s l = some (walkW s l st m x acc, true) := by
  intro m
  induction m with
  | zero => rintro x acc k _ ⟨n, h1, h2, _⟩; omega
  | succ m ih =>
    rintro x acc k hx ⟨n, hn1, hn2, hn3⟩ ha hk
    obtain ⟨k, rfl⟩ : ∃ m, k = m + 1 := ⟨k - 1, by omega⟩
    have hy := stepW_ok hx
    obtain ⟨a, w⟩ := x
    obtain ⟨s1, s2⟩ := st
    have hl := go_link hx
    have h0 := hx.1.1
    have h1 := hx.1.2
    simp only at h0 h1
    have hg := goA_range (w := w) h0 h1
    have nx : ¬ (goA s a w, turnB s l (goA s a w) w) = (s1, s2) → impl_WrapFrom.l0 k s1 (acc ++ [goA s a w]) s2 (goA s a w) (turnB s l (goA s a w) w) s l = some (walkW s l (s1, s2) m (goA s a w, turnB s l (goA s a w) w) (acc ++ [goA s a w]), true) := by
      intro hne
      obtain ⟨n, rfl⟩ : ∃ q, n = q + 1 := ⟨n - 1, by omega⟩
      rw [iterW] at hn3
      have hn0 : n ≠ 0 := by rintro rfl; exact hne hn3
      exact ih (stepW s l (a, w)) (acc ++ [goA s a w]) k hy ⟨n, by omega, by omega, hn3⟩ (by simp; omega) (by omega)
    simp only [impl_WrapFrom.l0, walkW, stepW]
    have main : ∀ b : Int, b = goA s a w → ((impl_Ring_turn.f k s l b w).bind fun bt => (if b = s1 then (if (bt.1 == s2) = true then (some (acc, true)) else (if acc.length < 17592186044416 then (impl_WrapFrom.l0 k s1 (acc ++ [b]) s2 b bt.1 s l) else (none))) else (if acc.length < 17592186044416 then (impl_WrapFrom.l0 k s1 (acc ++ [b]) s2 b bt.1 s l) else (none)))) = some (if (goA s a w, turnB s l (goA s a w) w) = (s1, s2) then acc else walkW s l (s1, s2) m (goA s a w, turnB s l (goA s a w) w) (acc ++ [goA s a w]), true) := by
      intro b hb
      subst hb
      rw [impl_turn_eq hn (by omega) hg.1 hg.2 hs.2 hl, Option.bind_some]
      have hac : acc.length < 17592186044416 := by omega
      simp only [if_pos hac]
      by_cases c1 : goA s a w = s1
      · rw [if_pos c1]
        by_cases c2 : turnB s l (goA s a w) w = s2
        · rw [if_pos (by simp [c2]), if_pos (by rw [c1] at c2 ⊢; rw [c2])]
        · have hne : ¬ (goA s a w, turnB s l (goA s a w) w) = (s1, s2) := fun e => c2 (congrArg Prod.snd e)
          rw [if_neg (by simpa using c2), nx hne, if_neg hne]
      · have hne : ¬ (goA s a w, turnB s l (goA s a w) w) = (s1, s2) := fun e => c1 (congrArg Prod.fst e)
        rw [if_neg c1, nx hne, if_neg hne]
    cases w with
    | true => rw [if_pos rfl, impl_next_eq l h0 h1 hs.2, Option.bind_some]; exact main _ (by simp [goA])
    | false => rw [if_neg (by simp), impl_before_eq l h0 h1 hs.2, Option.bind_some]; exact main _ (by simp [goA])
theorem both (s x : Int) (l : List Int) (hn : l.length ≤ 1048576) : ∃ v : List Int × Bool, Ev (fun k => spec_WrapFrom.f k s l x) v ∧ Ev (fun k => impl_WrapFrom.f k s l x) v ∧ v.1.length ≤ 1048576 := by
  cases hb : (ringB s l && decide (0 ≤ x ∧ x ≤ s - 1)) with
  | false =>
    refine ⟨([], false), ⟨l.length + 1, fun k hk => ?_⟩, ⟨l.length + 1, fun k hk => ?_⟩, by simp⟩
    · show spec_WrapFrom.f k s l x = _
      unfold spec_WrapFrom.f; rw [spec_riHas_eq (k := k) hn (by omega), hb]; rfl
    · show impl_WrapFrom.f k s l x = _
      unfold impl_WrapFrom.f; rw [impl_has1_eq (k := k) hn (by omega), hb]; rfl
  | true =>
    obtain ⟨hr, hx⟩ : ringB s l = true ∧ (0 ≤ x ∧ x ≤ s - 1) := by simpa using hb
    have hs := ringB_size hr
    by_cases alone : x ∈ l ∧ bef s x ∈ l
    · refine ⟨([x], true), ⟨l.length + 2, fun k hk => ?_⟩, ⟨l.length + 2, fun k hk => ?_⟩, by simp⟩
      · show spec_WrapFrom.f k s l x = _
        obtain ⟨k, rfl⟩ : ∃ m, k = m + 1 := ⟨k - 1, by omega⟩
        unfold spec_WrapFrom.f
        rw [spec_riHas_eq (k := k + 1) hn (by omega), hb, Option.bind_some, if_pos rfl, Option.bind_some, spec_l1Has_eq hn (by omega), Option.bind_some, decide_eq_true alone.1, if_pos rfl, spec_riBefore_eq l hx.1 (by omega) hs.2, Option.bind_some, spec_l1Has_eq hn (by omega), Option.bind_some, decide_eq_true alone.2]
        simp only [spec_WrapFrom.j0, if_true]
      · show impl_WrapFrom.f k s l x = _
        unfold impl_WrapFrom.f
        rw [impl_has1_eq (k := k) hn (by omega), hb, Option.bind_some, if_pos rfl, Option.bind_some, impl_turn_alone hn (by omega) hx.1 (by omega) hs.2 alone.1 alone.2]; rfl
    · have hok : okW s l (x, turnB s l x true) := by
        refine ⟨⟨hx.1, by show x < s; omega⟩, ?_⟩
        by_cases c : x ∈ l
        · rw [if_neg (by simp [turnB, c])]; exact fun h => alone ⟨c, h⟩
        · rw [if_pos (by simp [turnB, c])]; exact c
      obtain ⟨n, h1, h2, h3⟩ := iterW_returns hok
      have hlen := walkW_len s l (x, turnB s l x true) (2 * s.toNat + 1) (x, turnB s l x true) [x]
      refine ⟨(walkW s l (x, turnB s l x true) (2 * s.toNat + 1) (x, turnB s l x true) [x], true), ⟨l.length + 2 * s.toNat + 10, fun k hk => ?_⟩, ⟨l.length + 2 * s.toNat + 10, fun k hk => ?_⟩, by simp only [List.length_singleton] at hlen; show (walkW _ _ _ _ _ _).length ≤ _; omega⟩
      · show spec_WrapFrom.f k s l x = _
        obtain ⟨k, rfl⟩ : ∃ m, k = m + 1 := ⟨k - 1, by omega⟩
        unfold spec_WrapFrom.f
        rw [spec_riHas_eq (k := k + 1) hn (by omega), hb, Option.bind_some, if_pos rfl, Option.bind_some, spec_l1Has_eq hn (by omega), Option.bind_some]
        have fin : spec_WrapFrom.j0 (k + 1) x [x] false s l = some (walkW s l (x, turnB s l x true) (2 * s.toNat + 1) (x, turnB s l x true) [x], true) := by
          simp only [spec_WrapFrom.j0]
          rw [if_neg (by simp), spec_riTurn_eq hn (by omega) hx.1 (by omega) hs.2, Option.bind_some]
          exact spec_wrap_l0 s l hn hs (x, turnB s l x true) (2 * s.toNat + 1) 0 (x, turnB s l x true) [x] k (by omega) (by omega) hx.1 (by show x < s; omega) (by simp) (by omega)
        by_cases c : x ∈ l
        · rw [decide_eq_true c, if_pos rfl, spec_riBefore_eq l hx.1 (by omega) hs.2, Option.bind_some, spec_l1Has_eq hn (by omega), Option.bind_some, decide_eq_false (fun h => alone ⟨c, h⟩), fin]
        · rw [decide_eq_false c, if_neg (by simp), fin]
      · show impl_WrapFrom.f k s l x = _
        unfold impl_WrapFrom.f
        rw [impl_has1_eq (k := k) hn (by omega), hb, Option.bind_some, if_pos rfl, Option.bind_some, impl_turn_eq hn (by omega) hx.1 (by omega) hs.2 alone, Option.bind_some, if_pos rfl]
        exact impl_wrap_l0 s l hn hs (x, turnB s l x true) (2 * s.toNat + 1) (x, turnB s l x true) [x] k hok ⟨n, h1, by omega, h3⟩ (by simp; omega) (by omega)
theorem FnExactWrapFrom : FnExactWrapFromPure := by
  intro s l x _ hm _ _
  unfold maxLen at hm
  by_cases hn : l.length ≤ 1048576
  · have n1 : ¬ (1048576 - (l.length : Int) < 0) := by omega
    obtain ⟨v, ⟨K1, h1⟩, ⟨K2, h2⟩, hv⟩ := both s x l hn
    obtain ⟨vl, ok⟩ := v
    simp only at h1 h2 hv
    have n2 : ¬ (1 + (vl.length : Int) < 0) := by omega
    have n3 : ¬ (1 + (l.length : Int) < 0) := by omega
    have hv2 : vl.length ≤ 1048576 := by omega
    refine ⟨K1 + K2 + l.length + vl.length + 10, ?_⟩
    unfold laws_FnExactWrapFrom.f
    simp (disch := omega) only [Option.bind_some, ↓reduceIte, bne_self_eq_false, Bool.false_eq_true, h1, h2, szRing_ok hn, n1, n2, n3, toRing_eq hn, eqRing_refl hn, eqIntS_refl hv2, markRing_eq, markIntS_eq, heldIntS_eq]
    rw [laws_FnExactWrapFrom.j0]
    simp (disch := omega) only [Option.bind_some, ↓reduceIte, bne_self_eq_false, Bool.false_eq_true, h1, h2, szRing_ok hn, n1, n2, n3, toRing_eq hn, eqRing_refl hn, eqIntS_refl hv2, markRing_eq, markIntS_eq, heldIntS_eq]
    rw [laws_FnExactWrapFrom.j1]
    simp (disch := omega) only [Option.bind_some, ↓reduceIte, bne_self_eq_false, Bool.false_eq_true, h1, h2, szRing_ok hn, n1, n2, n3, toRing_eq hn, eqRing_refl hn, eqIntS_refl hv2, markRing_eq, markIntS_eq, heldIntS_eq]
    rw [laws_FnExactWrapFrom.j2]
    simp (disch := omega) only [Option.bind_some, ↓reduceIte, bne_self_eq_false, Bool.false_eq_true, h1, h2, szRing_ok hn, n1, n2, n3, toRing_eq hn, eqRing_refl hn, eqIntS_refl hv2, markRing_eq, markIntS_eq, heldIntS_eq]
  · exact ⟨0, by unfold laws_FnExactWrapFrom.f; rw [szRing_big hm hn]; rfl⟩

end Go.Proofs.Ytkaaoanjniahaaa.Pure
