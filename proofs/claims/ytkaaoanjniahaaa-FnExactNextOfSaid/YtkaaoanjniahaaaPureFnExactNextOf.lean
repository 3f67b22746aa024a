/- FnExactNextOf: the program's answer is the reference's, as plain functions over numbers and lists; no condition beyond the sizes that every value has. -/
import Derived.Test.YtkaaoanjniahaaaPFnExactNextOfx3
namespace Go.Proofs.Ytkaaoanjniahaaa.Pure
open Go.RowKit Go.Proofs.Ytkaaoanjniahaaa.PFnExactNextOf Go.Proofs.YtkaaoanjniahaaaW.PrintWords Go.Proofs.YtkaaoanjniahaaaW.PrintLast Go.Proofs.YtkaaoanjniahaaaW.PrintMore

/- It reaches: laws_szIntS.f, laws_szRing.f, laws_toIntS.f, laws_toRing.f, laws_eqIntS.f, laws_eqRing.f, spec_l1In.f, spec_l1Rising.f, spec_riGood.f, spec_riHas.f, spec_l1Has.f, spec_riNext.f, spec_NextOf.f, impl_within.f, impl_isRingSize.f, impl_allWithin.f, impl_areRising.f, impl_IsRing.f, impl_Ring_has.f, slices_Index_int_int.f, slices_Contains_int_int.f, impl_Ring_isBroken.f, impl_Ring_next.f, impl_NextOf.f, laws_FnExactNextOf.f -/
def FnExactNextOfPure : Prop := ∀ (a0_0 : Int) (l0_1 : List Int) (a1 : Int), (Lit.int .i64 a0_0).wf = true → l0_1.length ≤ maxLen → (∀ x ∈ l0_1, (Lit.int .i64 x).wf = true) → (Lit.int .i64 a1).wf = true → ∃ k, laws_FnExactNextOf.f k a0_0 l0_1 a1 = some true
set_option linter.unusedSimpArgs false
set_option linter.unusedVariables false
theorem wrap_id {x : Int} (h1 : -9223372036854775808 ≤ x) (h2 : x ≤ 9223372036854775807) : wrap64 x = x := by unfold wrap64; omega
theorem wrap_succ {i n : Nat} (h : i < n) (hn : n ≤ 4611686018427387904) : wrap64 ((i : Int) + 1) = ((i + 1 : Nat) : Int) := by rw [wrap_id] <;> omega
theorem rd_nat (l : List Int) {i : Nat} (h : i < l.length) : rd l (i : Int) = l[i] := by simp [rd, h]
theorem rd_mem (l : List Int) {i : Nat} (h : i < l.length) : rd l (i : Int) ∈ l := by rw [rd_nat l h]; exact List.getElem_mem h
/-- One round, and the end. -/
theorem ev_end {α : Type} {g : Nat → Option α} {r : α} (h : ∀ k, g (k + 1) = some r) : Ev g r := Ev.step h (Ev.now r)
theorem ev_of {α : Type} {g : Nat → Option α} {r : α} (h : ∀ k, g k = some r) : Ev g r := ⟨0, fun k _ => h k⟩
theorem ev_eq {α : Type} {g : Nat → Option α} {r r' : α} (h : Ev g r) (e : r = r') : Ev g r' := e ▸ h

/-- Is each number less than the next one? -/
def adjB : List Int → Bool
  | a :: b :: t => decide (a < b) && adjB (b :: t)
  | _ => true
def inB (lo hi x : Int) : Bool := decide (lo ≤ x ∧ x ≤ hi)
def risingB (l : List Int) (lo hi : Int) : Bool := l.all (inB lo hi) && adjB l
theorem adjB_at (l : List Int) {i : Nat} (h0 : 0 < i) (h : i < l.length) : adjB (l.drop (i - 1)) = (decide (l[i - 1] < l[i]) && adjB (l.drop i)) := by
  rw [List.drop_eq_getElem_cons (show i - 1 < l.length by omega), show i - 1 + 1 = i from by omega, List.drop_eq_getElem_cons h, adjB]
theorem wrap_pred {i n : Nat} (h0 : 0 < i) (h : i < n) (hn : n ≤ 4611686018427387904) : wrap64 ((i : Int) - 1) = ((i - 1 : Nat) : Int) := by rw [wrap_id] <;> omega

theorem spec_l1In_eq (a b c : Int) : spec_l1In.f a b c = some (decide (b ≤ a ∧ a ≤ c)) := by
  unfold spec_l1In.f
  by_cases h : b ≤ a <;> simp [h]

theorem spec_l1Rising_loop (lo hi : Int) (l : List Int) (hn : l.length ≤ 1048576) : ∀ (d i k : Nat), i + d = l.length → d < k →
    spec_l1Rising.l0 k l lo hi l (l.length : Int) (i : Int) = some ((l.drop i).all (inB lo hi) && adjB (l.drop (i - 1))) := by
  intro d
  induction d with
  | zero =>
    intro i k h hk
    obtain ⟨k, rfl⟩ : ∃ m, k = m + 1 := ⟨k - 1, by omega⟩
    simp only [spec_l1Rising.l0]
    rw [if_neg (by omega), List.drop_of_length_le (l := l) (i := i) (by omega)]
    have : adjB (l.drop (i - 1)) = true := by
      rcases Nat.eq_zero_or_pos i with h0 | h0
      · rw [h0, List.drop_of_length_le (by omega)]; rfl
      · rw [List.drop_eq_getElem_cons (show i - 1 < l.length by omega), List.drop_of_length_le (by omega)]; rfl
    simp [this]
  | succ d ih =>
    intro i k h hk
    obtain ⟨k, rfl⟩ : ∃ m, k = m + 1 := ⟨k - 1, by omega⟩
    have hlt : i < l.length := by omega
    have nx := ih (i + 1) k (by omega) (by omega)
    rw [Nat.add_sub_cancel] at nx
    have e : (l.drop i).all (inB lo hi) = (inB lo hi l[i] && (l.drop (i + 1)).all (inB lo hi)) := by rw [List.drop_eq_getElem_cons hlt, List.all_cons]
    simp only [spec_l1Rising.l0, spec_l1In_eq, Option.bind_some]
    rw [if_pos (by omega), if_pos (by omega), if_pos (by omega), rd_nat l hlt, wrap_succ hlt (by omega), e]
    by_cases c : lo ≤ l[i] ∧ l[i] ≤ hi
    · rw [if_pos (by simpa using c)]
      by_cases h0 : 0 < i
      · rw [if_pos (by omega), wrap_pred h0 hlt (by omega), if_pos (by omega), if_pos (by omega), rd_nat l (show i - 1 < l.length by omega), adjB_at l h0 hlt]
        by_cases c2 : l[i - 1] < l[i]
        · rw [if_neg (by omega), nx]; simp [inB, c, c2]
        · rw [if_pos (by omega)]; simp [c2]
      · obtain rfl : i = 0 := by omega
        rw [if_neg (by omega), nx]; simp [inB, c]
    · rw [if_neg (by simpa using c)]; simp only [inB, decide_eq_false c, Bool.false_and]
theorem spec_l1Rising_eq {k : Nat} {l : List Int} {lo hi : Int} (hn : l.length ≤ 1048576) (hk : l.length < k) : spec_l1Rising.f k l lo hi = some (risingB l lo hi) := by
  unfold spec_l1Rising.f
  simpa [risingB] using spec_l1Rising_loop lo hi l hn l.length 0 k (by omega) hk

theorem impl_areRising_loop (lo hi : Int) (l : List Int) (hn : l.length ≤ 1048576) : ∀ (d i k : Nat), i + d = l.length → d < k →
    impl_areRising.l0 k l lo hi l (l.length : Int) (i : Int) = some (adjB (l.drop (i - 1)) && l.all (inB lo hi)) := by
  intro d
  induction d with
  | zero =>
    intro i k h hk
    obtain ⟨k, rfl⟩ : ∃ m, k = m + 1 := ⟨k - 1, by omega⟩
    simp only [impl_areRising.l0]
    rw [if_neg (by omega)]
    have : adjB (l.drop (i - 1)) = true := by
      rcases Nat.eq_zero_or_pos i with h0 | h0
      · rw [h0, List.drop_of_length_le (by omega)]; rfl
      · rw [List.drop_eq_getElem_cons (show i - 1 < l.length by omega), List.drop_of_length_le (by omega)]; rfl
    rw [this, Bool.true_and]; rfl
  | succ d ih =>
    intro i k h hk
    obtain ⟨k, rfl⟩ : ∃ m, k = m + 1 := ⟨k - 1, by omega⟩
    have hlt : i < l.length := by omega
    have nx := ih (i + 1) k (by omega) (by omega)
    rw [Nat.add_sub_cancel] at nx
    simp only [impl_areRising.l0]
    rw [if_pos (by omega), if_pos (by omega), if_pos (by omega), rd_nat l hlt, wrap_succ hlt (by omega)]
    by_cases h0 : 0 < i
    · rw [if_pos (by omega), wrap_pred h0 hlt (by omega), if_pos (by omega), if_pos (by omega), rd_nat l (show i - 1 < l.length by omega), adjB_at l h0 hlt]
      by_cases c2 : l[i - 1] < l[i]
      · rw [if_neg (by omega), nx]; simp [c2]
      · rw [if_pos (by omega)]; simp [c2]
    · obtain rfl : i = 0 := by omega
      rw [if_neg (by omega), nx]
theorem impl_areRising_eq {k : Nat} {l : List Int} {lo hi : Int} (hn : l.length ≤ 1048576) (hk : l.length < k) : impl_areRising.f k l lo hi = some (risingB l lo hi) := by
  unfold impl_areRising.f
  have := impl_areRising_loop lo hi l hn l.length 0 k (by omega) hk
  rw [show ((0 : Nat) : Int) = 0 from rfl] at this
  simp [this, risingB, Bool.and_comm]

theorem impl_within_eq (a b c : Int) : impl_within.f a b c = some (decide (b ≤ a ∧ a ≤ c)) := by
  unfold impl_within.f
  by_cases h : b ≤ a <;> simp [h]

theorem toIntS_loop (l : List Int) (hn : l.length ≤ 1048576) : ∀ (d i k : Nat), i + d = l.length → d < k → laws_toIntS.l0 k l (l.take i ++ List.replicate d 0) (i : Int) = some l := by
  intro d
  induction d with
  | zero =>
    intro i k h hk
    obtain ⟨k, rfl⟩ : ∃ m, k = m + 1 := ⟨k - 1, by omega⟩
    simp only [laws_toIntS.l0]
    rw [if_neg (by omega)]
    simp [List.take_of_length_le (show l.length ≤ i by omega)]
  | succ d ih =>
    intro i k h hk
    obtain ⟨k, rfl⟩ : ∃ m, k = m + 1 := ⟨k - 1, by omega⟩
    have hi : i < l.length := by omega
    have e : (l.take i ++ List.replicate (d + 1) 0).set i (rd l (i : Int)) = l.take (i + 1) ++ List.replicate d 0 := by
      rw [rd_nat l hi, List.set_append_right _ _ (by simp; omega)]
      simp only [List.length_take, Nat.min_eq_left (Nat.le_of_lt hi), Nat.sub_self, List.replicate_succ, List.set_cons_zero]
      rw [List.take_succ_eq_append_getElem hi, List.append_assoc]; rfl
    simp only [laws_toIntS.l0]
    rw [if_pos (by omega), if_pos (by omega), if_pos (by simp; omega), Int.toNat_natCast, e, wrap_succ hi (by omega)]
    exact ih (i + 1) k (by omega) (by omega)
theorem toIntS_eq {k : Nat} {l : List Int} (hn : l.length ≤ 1048576) (hk : l.length < k) : laws_toIntS.f k l = some l := by
  unfold laws_toIntS.f
  rw [if_pos (by omega), if_pos (by omega), Int.toNat_natCast]
  have := toIntS_loop l hn l.length 0 k (by omega) hk
  simpa using this

theorem eqIntS_loop (l : List Int) (hn : l.length ≤ 1048576) : ∀ (d i k : Nat), i + d = l.length → d < k → laws_eqIntS.l0 k l l (i : Int) = some true := by
  intro d
  induction d with
  | zero =>
    intro i k h hk
    obtain ⟨k, rfl⟩ : ∃ m, k = m + 1 := ⟨k - 1, by omega⟩
    simp only [laws_eqIntS.l0]
    rw [if_neg (by omega)]
  | succ d ih =>
    intro i k h hk
    obtain ⟨k, rfl⟩ : ∃ m, k = m + 1 := ⟨k - 1, by omega⟩
    simp only [laws_eqIntS.l0]
    rw [if_pos (by omega), if_pos (by omega), if_pos (by omega), if_pos trivial, wrap_succ (n := l.length) (by omega) (by omega)]
    exact ih (i + 1) k (by omega) (by omega)
theorem eqIntS_refl {k : Nat} {l : List Int} (hn : l.length ≤ 1048576) (hk : l.length < k) : laws_eqIntS.f k l l = some true := by
  unfold laws_eqIntS.f
  rw [if_pos rfl]
  exact eqIntS_loop l hn l.length 0 k (by omega) hk

theorem eqRing_refl {k : Nat} {s : Int} {l : List Int} (hn : l.length ≤ 1048576) (hk : l.length < k) : laws_eqRing.f k s l s l = some true := by
  unfold laws_eqRing.f
  rw [if_pos rfl, eqIntS_refl hn hk]
  rfl

/-- What both call a ring. -/
def ringB (s : Int) (l : List Int) : Bool := decide (2 ≤ s ∧ s ≤ 12) && risingB l 0 (s - 1)
theorem ringB_size {s : Int} {l : List Int} (h : ringB s l = true) : 2 ≤ s ∧ s ≤ 12 := by simp [ringB] at h; exact h.1
theorem spec_riGood_eq {k : Nat} {s : Int} {l : List Int} (hn : l.length ≤ 1048576) (hk : l.length < k) : spec_riGood.f k s l = some (ringB s l) := by
  unfold spec_riGood.f ringB
  simp only [spec_l1In_eq, Option.bind_some]
  by_cases h : 2 ≤ s ∧ s ≤ 12
  · rw [if_pos (by simpa using h), wrap_id (by omega) (by omega), spec_l1Rising_eq hn hk]; simp [h]
  · rw [if_neg (by simpa using h)]; simp [h]
theorem impl_IsRing_eq {k : Nat} {s : Int} {l : List Int} (hn : l.length ≤ 1048576) (hk : l.length < k) : impl_IsRing.f k s l = some (ringB s l) := by
  unfold impl_IsRing.f impl_isRingSize.f ringB
  simp only [impl_within_eq, Option.bind_some]
  by_cases h : 2 ≤ s ∧ s ≤ 12
  · rw [if_pos (by simpa using h), wrap_id (by omega) (by omega), impl_areRising_eq hn hk]; simp [h]
  · rw [if_neg (by simpa using h)]; simp [h]
theorem szRing_big {s : Int} {l : List Int} (hm : l.length ≤ 9223372036854775807) (h : ¬ l.length ≤ 1048576) : laws_szRing.f s l 1048576 = some (-1) := by
  unfold laws_szRing.f laws_szIntS.f
  rw [wrap_id (by omega) (by omega), if_pos (by omega)]; rfl
theorem szRing_ok {s : Int} {l : List Int} (h : l.length ≤ 1048576) : laws_szRing.f s l 1048576 = some (1048576 - (l.length : Int)) := by
  unfold laws_szRing.f laws_szIntS.f
  rw [wrap_id (by omega) (by omega), if_neg (by omega), Option.bind_some, if_neg (by omega)]
theorem toRing_eq {k : Nat} {s : Int} {l : List Int} (hn : l.length ≤ 1048576) (hk : l.length < k) : laws_toRing.f k s l = some (s, l) := by
  unfold laws_toRing.f
  rw [toIntS_eq hn hk]; rfl

theorem spec_l1Has_loop (x : Int) (l : List Int) (hn : l.length ≤ 1048576) : ∀ (d i k : Nat), i + d = l.length → d < k → spec_l1Has.l0 k x l (l.length : Int) (i : Int) = some (decide (x ∈ l.drop i)) := by
  intro d
  induction d with
  | zero =>
    intro i k h hk
    obtain ⟨k, rfl⟩ : ∃ m, k = m + 1 := ⟨k - 1, by omega⟩
    simp only [spec_l1Has.l0]
    rw [if_neg (by omega), List.drop_of_length_le (by omega)]; simp
  | succ d ih =>
    intro i k h hk
    obtain ⟨k, rfl⟩ : ∃ m, k = m + 1 := ⟨k - 1, by omega⟩
    have hi : i < l.length := by omega
    have e : (x ∈ l.drop i) = (x = l[i] ∨ x ∈ l.drop (i + 1)) := by rw [List.drop_eq_getElem_cons hi, List.mem_cons]
    simp only [spec_l1Has.l0, e]
    rw [if_pos (by omega), if_pos (by omega), if_pos (by omega), rd_nat l hi, wrap_succ hi (by omega), ih (i + 1) k (by omega) (by omega)]
    by_cases c : l[i] = x
    · rw [if_pos c, decide_eq_true (.inl c.symm)]
    · rw [if_neg c]; exact congrArg some (decide_eq_decide.mpr ⟨.inr, fun h => h.resolve_left (fun h => c h.symm)⟩)
theorem spec_l1Has_eq {k : Nat} {x : Int} {l : List Int} (hn : l.length ≤ 1048576) (hk : l.length < k) : spec_l1Has.f k l x = some (decide (x ∈ l)) := by
  unfold spec_l1Has.f
  simpa using spec_l1Has_loop x l hn l.length 0 k (by omega) hk

theorem slicesIndex_loop (x : Int) (l : List Int) (hn : l.length ≤ 1048576) : ∀ (d i k : Nat), i + d = l.length → d < k → ∃ r, slices_Index_int_int.l0 k l x (l.length : Int) (i : Int) = some r ∧ decide (r ≥ 0) = decide (x ∈ l.drop i) := by
  intro d
  induction d with
  | zero =>
    intro i k h hk
    obtain ⟨k, rfl⟩ : ∃ m, k = m + 1 := ⟨k - 1, by omega⟩
    simp only [slices_Index_int_int.l0]
    rw [if_neg (by omega), List.drop_of_length_le (by omega)]
    exact ⟨-1, rfl, by simp⟩
  | succ d ih =>
    intro i k h hk
    obtain ⟨k, rfl⟩ : ∃ m, k = m + 1 := ⟨k - 1, by omega⟩
    have hi : i < l.length := by omega
    have e : (x ∈ l.drop i) = (x = l[i] ∨ x ∈ l.drop (i + 1)) := by rw [List.drop_eq_getElem_cons hi, List.mem_cons]
    simp only [slices_Index_int_int.l0, e]
    rw [if_pos (by omega), if_pos (by omega), if_pos (by omega), rd_nat l hi, wrap_succ hi (by omega)]
    by_cases c : x = l[i]
    · rw [if_pos c]; exact ⟨i, rfl, by rw [decide_eq_true (show (i : Int) ≥ 0 by omega), decide_eq_true (show x = l[i] ∨ x ∈ l.drop (i + 1) from Or.inl c)]⟩
    · rw [if_neg c]
      obtain ⟨r, h1, h2⟩ := ih (i + 1) k (by omega) (by omega)
      exact ⟨r, h1, h2.trans (decide_eq_decide.mpr ⟨.inr, fun h => h.resolve_left c⟩)⟩
theorem slicesContains_eq {k : Nat} {x : Int} {l : List Int} (hn : l.length ≤ 1048576) (hk : l.length < k) : slices_Contains_int_int.f k l x = some (decide (x ∈ l)) := by
  unfold slices_Contains_int_int.f slices_Index_int_int.f
  obtain ⟨r, h1, h2⟩ := slicesIndex_loop x l hn l.length 0 k (by omega) hk
  rw [show ((0 : Nat) : Int) = 0 from rfl] at h1
  rw [h1, Option.bind_some, h2, List.drop_zero]
theorem impl_isBroken_eq {k : Nat} {s x : Int} {l : List Int} (hn : l.length ≤ 1048576) (hk : l.length < k) : impl_Ring_isBroken.f k s l x = some (decide (x ∈ l)) := by
  unfold impl_Ring_isBroken.f
  rw [slicesContains_eq hn hk]; rfl

/-- The next station. -/
def nxt (s a : Int) : Int := if a + 1 = s then 0 else a + 1
theorem nxt_tmod {s a : Int} (h0 : 0 ≤ a) (h1 : a < s) (hs : s ≤ 12) : Int.tmod (wrap64 (a + 1)) s = nxt s a := by
  rw [wrap_id (by omega) (by omega), Int.tmod_eq_emod_of_nonneg (by omega)]
  unfold nxt
  by_cases c : a + 1 = s
  · rw [if_pos c, c, Int.emod_self]
  · rw [if_neg c, Int.emod_eq_of_lt (by omega) (by omega)]
theorem nxt_range {s a : Int} (h0 : 0 ≤ a) (h1 : a < s) : 0 ≤ nxt s a ∧ nxt s a < s := by unfold nxt; split <;> omega
theorem spec_riNext_eq {s a : Int} (l : List Int) (h0 : 0 ≤ a) (h1 : a < s) (hs : s ≤ 12) : spec_riNext.f s l a = some (nxt s a) := by
  unfold spec_riNext.f
  rw [if_neg (by omega), nxt_tmod h0 h1 hs]
theorem impl_next_eq {s a : Int} (l : List Int) (h0 : 0 ≤ a) (h1 : a < s) (hs : s ≤ 12) : impl_Ring_next.f s l a = some (nxt s a) := by
  unfold impl_Ring_next.f
  rw [if_neg (by omega), nxt_tmod h0 h1 hs]

theorem spec_riHas_eq {k : Nat} {s x : Int} {l : List Int} (hn : l.length ≤ 1048576) (hk : l.length < k) : spec_riHas.f k s l x = some (ringB s l && decide (0 ≤ x ∧ x ≤ s - 1)) := by
  unfold spec_riHas.f
  rw [spec_riGood_eq hn hk, Option.bind_some]
  cases h : ringB s l with
  | false => rfl
  | true =>
    have := ringB_size h
    rw [if_pos rfl, wrap_id (by omega) (by omega), spec_l1In_eq]; rfl
theorem impl_has1_eq {k : Nat} {s x : Int} {l : List Int} (hn : l.length ≤ 1048576) (hk : l.length < k) : impl_Ring_has.f k s l [x] = some (ringB s l && decide (0 ≤ x ∧ x ≤ s - 1)) := by
  unfold impl_Ring_has.f impl_allWithin.f
  rw [impl_IsRing_eq hn hk, Option.bind_some]
  cases h : ringB s l with
  | false => rfl
  | true =>
    have := ringB_size h
    rw [if_pos rfl, wrap_id (by omega) (by omega)]; simp
theorem impl_has2_eq {k : Nat} {s x y : Int} {l : List Int} (hn : l.length ≤ 1048576) (hk : l.length < k) : impl_Ring_has.f k s l [x, y] = some (ringB s l && (decide (0 ≤ x ∧ x ≤ s - 1) && decide (0 ≤ y ∧ y ≤ s - 1))) := by
  unfold impl_Ring_has.f impl_allWithin.f
  rw [impl_IsRing_eq hn hk, Option.bind_some]
  cases h : ringB s l with
  | false => rfl
  | true =>
    have := ringB_size h
    rw [if_pos rfl, wrap_id (by omega) (by omega)]; simp

theorem both (s x : Int) (l : List Int) (hn : l.length ≤ 1048576) : ∃ v, Ev (fun k => spec_NextOf.f k s l x) v ∧ Ev (fun k => impl_NextOf.f k s l x) v := by
  cases hb : (ringB s l && decide (0 ≤ x ∧ x ≤ s - 1)) with
  | false =>
    refine ⟨(0, false), ⟨l.length + 1, fun k hk => ?_⟩, ⟨l.length + 1, fun k hk => ?_⟩⟩
    · show spec_NextOf.f k s l x = _
      unfold spec_NextOf.f; rw [spec_riHas_eq (k := k) hn (by omega), hb]; rfl
    · show impl_NextOf.f k s l x = _
      unfold impl_NextOf.f; rw [impl_has1_eq (k := k) hn (by omega), hb]; rfl
  | true =>
    obtain ⟨hr, hx⟩ : ringB s l = true ∧ (0 ≤ x ∧ x ≤ s - 1) := by simpa using hb
    have hs := ringB_size hr
    by_cases hm : x ∈ l
    · refine ⟨(0, false), ⟨l.length + 1, fun k hk => ?_⟩, ⟨l.length + 1, fun k hk => ?_⟩⟩
      · show spec_NextOf.f k s l x = _
        unfold spec_NextOf.f; rw [spec_riHas_eq (k := k) hn (by omega), hb, Option.bind_some, if_pos rfl, spec_l1Has_eq (k := k) hn (by omega), decide_eq_true hm]; rfl
      · show impl_NextOf.f k s l x = _
        unfold impl_NextOf.f; rw [impl_has1_eq (k := k) hn (by omega), hb, Option.bind_some, if_pos rfl, impl_isBroken_eq (k := k) hn (by omega), decide_eq_true hm]; rfl
    · refine ⟨(nxt s x, true), ⟨l.length + 1, fun k hk => ?_⟩, ⟨l.length + 1, fun k hk => ?_⟩⟩
      · show spec_NextOf.f k s l x = _
        unfold spec_NextOf.f; rw [spec_riHas_eq (k := k) hn (by omega), hb, Option.bind_some, if_pos rfl, spec_l1Has_eq (k := k) hn (by omega), decide_eq_false hm, spec_riNext_eq l hx.1 (by omega) hs.2]; rfl
      · show impl_NextOf.f k s l x = _
        unfold impl_NextOf.f; rw [impl_has1_eq (k := k) hn (by omega), hb, Option.bind_some, if_pos rfl, impl_isBroken_eq (k := k) hn (by omega), decide_eq_false hm, impl_next_eq l hx.1 (by omega) hs.2]; rfl
theorem FnExactNextOf : FnExactNextOfPure := by
  intro s l x _ hm _ _
  unfold maxLen at hm
  by_cases hn : l.length ≤ 1048576
  · have n1 : ¬ (1048576 - (l.length : Int) < 0) := by omega
    obtain ⟨v, ⟨K1, h1⟩, ⟨K2, h2⟩⟩ := both s x l hn
    refine ⟨K1 + K2 + l.length + 10, ?_⟩
    unfold laws_FnExactNextOf.f
    simp (disch := omega) only [Option.bind_some, ↓reduceIte, bne_self_eq_false, Bool.false_eq_true, h1, h2, szRing_ok hn, n1, toRing_eq hn, eqRing_refl hn]
    rw [laws_FnExactNextOf.j0]
    simp (disch := omega) only [Option.bind_some, ↓reduceIte, bne_self_eq_false, Bool.false_eq_true, h1, h2, szRing_ok hn, n1, toRing_eq hn, eqRing_refl hn]
  · exact ⟨0, by unfold laws_FnExactNextOf.f; rw [szRing_big hm hn]; rfl⟩

end Go.Proofs.Ytkaaoanjniahaaa.Pure
