/- FnExactWidestOf: the program's answer is the reference's, as plain functions over numbers and lists; no condition beyond the sizes that every value has. -/
import Derived.Test.YtkaaoanjniahaaaPFnExactWidestOfx4
namespace Go.Proofs.Ytkaaoanjniahaaa.Pure
open Go.RowKit Go.Proofs.Ytkaaoanjniahaaa.PFnExactWidestOf Go.Proofs.YtkaaoanjniahaaaW.PrintWords Go.Proofs.YtkaaoanjniahaaaW.PrintLast Go.Proofs.YtkaaoanjniahaaaW.PrintMore

/- It reaches: laws_szIntS.f, laws_szRing.f, laws_toIntS.f, laws_toRing.f, laws_eqIntS.f, laws_eqRing.f, spec_l1In.f, spec_l1Rising.f, spec_riGood.f, spec_l1Most.f, spec_l1Has.f, spec_riNext.f, spec_riWay.f, spec_riDouble.f, spec_WidestOf.f, impl_within.f, impl_isRingSize.f, impl_allWithin.f, impl_areRising.f, impl_IsRing.f, impl_Ring_canAllTalk.f, slices_Index_int_int.f, slices_Contains_int_int.f, impl_Ring_isBroken.f, impl_Ring_next.f, impl_Ring_way.f, impl_Ring_doubleHops.f, impl_WidestOf.f, laws_FnExactWidestOf.f -/
def FnExactWidestOfPure : Prop := ∀ (a0_0 : Int) (l0_1 : List Int), (Lit.int .i64 a0_0).wf = true → l0_1.length ≤ maxLen → (∀ x ∈ l0_1, (Lit.int .i64 x).wf = true) → ∃ k, laws_FnExactWidestOf.f k a0_0 l0_1 = some true
set_option linter.unusedSimpArgs false
set_option linter.unusedVariables false
theorem wrap_id {x : Int} (h1 : -9223372036854775808 ≤ x) (h2 : x ≤ 9223372036854775807) : wrap64 x = x := by unfold wrap64; omega
theorem wrap_succ {i n : Nat} (h : i < n) (hn : n ≤ 4611686018427387904) : wrap64 ((i : Int) + 1) = ((i + 1 : Nat) : Int) := by rw [wrap_id] <;> omega
theorem rd_nat (l : List Int) {i : Nat} (h : i < l.length) : rd l (i : Int) = l[i] := by simp [rd, h]
theorem rd_mem (l : List Int) {i : Nat} (h : i < l.length) : rd l (i : Int) ∈ l := by rw [rd_nat l h]; exact List.getElem_mem h
/-- One round, and the end. -/
theorem ev_end {α : Type} {g : Nat → Option α} {r : α} (h : ∀ k, g (k + 1) = some r) : Ev g r := Ev.step h (Ev.now r)
theorem ev_of {α : Type} {g : Nat → Option α} {r : α} (h : ∀ k, g k = some r) : Ev g r := ⟨0, fun k _ => h k⟩
theorem ev_eq {α : Type} {g : Nat → Option α} {r r' : α} (h : Ev g r) (e : r = r') : Ev g r' := e ▸ h

/-- Is each number less than the next one? -/
def adjB : List Int → Bool
  | a :: b :: t => decide (a < b) && adjB (b :: t)
  | _ => true
def inB (lo hi x : Int) : Bool := decide (lo ≤ x ∧ x ≤ hi)
def risingB (l : List Int) (lo hi : Int) : Bool := l.all (inB lo hi) && adjB l
theorem adjB_at (l : List Int) {i : Nat} (h0 : 0 < i) (h : i < l.length) : adjB (l.drop (i - 1)) = (decide (l[i - 1] < l[i]) && adjB (l.drop i)) := by
  rw [List.drop_eq_getElem_cons (show i - 1 < l.length by omega), show i - 1 + 1 = i from by omega, List.drop_eq_getElem_cons h, adjB]
theorem wrap_pred {i n : Nat} (h0 : 0 < i) (h : i < n) (hn : n ≤ 4611686018427387904) : wrap64 ((i : Int) - 1) = ((i - 1 : Nat) : Int) := by rw [wrap_id] <;> omega

theorem spec_l1In_eq (a b c : Int) : spec_l1In.f a b c = some (decide (b ≤ a ∧ a ≤ c)) := by
  unfold spec_l1In.f
  by_cases h : b ≤ a <;> simp [h]

theorem spec_l1Rising_loop (lo hi : Int) (l : List Int) (hn : l.length ≤ 1048576) : ∀ (d i k : Nat), i + d = l.length → d < k →
    spec_l1Rising.l0 k l lo hi l (l.length : Int) (i : Int) = some ((l.drop i).all (inB lo hi) && adjB (l.drop (i - 1))) := by
  intro d
  induction d with
  | zero =>
    intro i k h hk
    obtain ⟨k, rfl⟩ : ∃ m, k = m + 1 := ⟨k - 1, by omega⟩
    simp only [spec_l1Rising.l0]
    rw [if_neg (by omega), List.drop_of_length_le (l := l) (i := i) (by omega)]
    have : adjB (l.drop (i - 1)) = true := by
      rcases Nat.eq_zero_or_pos i with h0 | h0
      · rw [h0, List.drop_of_length_le (by omega)]; rfl
      · rw [List.drop_eq_getElem_cons (show i - 1 < l.length by omega), List.drop_of_length_le (by omega)]; rfl
    simp [this]
  | succ d ih =>
    intro i k h hk
    obtain ⟨k, rfl⟩ : ∃ m, k = m + 1 := ⟨k - 1, by omega⟩
    have hlt : i < l.length := by omega
    have nx := ih (i + 1) k (by omega) (by omega)
    rw [Nat.add_sub_cancel] at nx
    have e : (l.drop i).all (inB lo hi) = (inB lo hi l[i] && (l.drop (i + 1)).all (inB lo hi)) := by rw [List.drop_eq_getElem_cons hlt, List.all_cons]
    simp only [spec_l1Rising.l0, spec_l1In_eq, Option.bind_some]
    rw [if_pos (by omega), if_pos (by omega), if_pos (by omega), rd_nat l hlt, wrap_succ hlt (by omega), e]
    by_cases c : lo ≤ l[i] ∧ l[i] ≤ hi
    · rw [if_pos (by simpa using c)]
      by_cases h0 : 0 < i
      · rw [if_pos (by omega), wrap_pred h0 hlt (by omega), if_pos (by omega), if_pos (by omega), rd_nat l (show i - 1 < l.length by omega), adjB_at l h0 hlt]
        by_cases c2 : l[i - 1] < l[i]
        · rw [if_neg (by omega), nx]; simp [inB, c, c2]
        · rw [if_pos (by omega)]; simp [c2]
      · obtain rfl : i = 0 := by omega
        rw [if_neg (by omega), nx]; simp [inB, c]
    · rw [if_neg (by simpa using c)]; simp only [inB, decide_eq_false c, Bool.false_and]
theorem spec_l1Rising_eq {k : Nat} {l : List Int} {lo hi : Int} (hn : l.length ≤ 1048576) (hk : l.length < k) : spec_l1Rising.f k l lo hi = some (risingB l lo hi) := by
  unfold spec_l1Rising.f
  simpa [risingB] using spec_l1Rising_loop lo hi l hn l.length 0 k (by omega) hk

theorem impl_areRising_loop (lo hi : Int) (l : List Int) (hn : l.length ≤ 1048576) : ∀ (d i k : Nat), i + d = l.length → d < k →
    impl_areRising.l0 k l lo hi l (l.length : Int) (i : Int) = some (adjB (l.drop (i - 1)) && l.all (inB lo hi)) := by
  intro d
  induction d with
  | zero =>
    intro i k h hk
    obtain ⟨k, rfl⟩ : ∃ m, k = m + 1 := ⟨k - 1, by omega⟩
    simp only [impl_areRising.l0]
    rw [if_neg (by omega)]
    have : adjB (l.drop (i - 1)) = true := by
      rcases Nat.eq_zero_or_pos i with h0 | h0
      · rw [h0, List.drop_of_length_le (by omega)]; rfl
      · rw [List.drop_eq_getElem_cons (show i - 1 < l.length by omega), List.drop_of_length_le (by omega)]; rfl
    rw [this, Bool.true_and]; rfl
  | succ d ih =>
    intro i k h hk
    obtain ⟨k, rfl⟩ : ∃ m, k = m + 1 := ⟨k - 1, by omega⟩
    have hlt : i < l.length := by omega
    have nx := ih (i + 1) k (by omega) (by omega)
    rw [Nat.add_sub_cancel] at nx
    simp only [impl_areRising.l0]
    rw [if_pos (by omega), if_pos (by omega), if_pos (by omega), rd_nat l hlt, wrap_succ hlt (by omega)]
    by_cases h0 : 0 < i
    · rw [if_pos (by omega), wrap_pred h0 hlt (by omega), if_pos (by omega), if_pos (by omega), rd_nat l (show i - 1 < l.length by omega), adjB_at l h0 hlt]
      by_cases c2 : l[i - 1] < l[i]
      · rw [if_neg (by omega), nx]; simp [c2]
      · rw [if_pos (by omega)]; simp [c2]
    · obtain rfl : i = 0 := by omega
      rw [if_neg (by omega), nx]
theorem impl_areRising_eq {k : Nat} {l : List Int} {lo hi : Int} (hn : l.length ≤ 1048576) (hk : l.length < k) : impl_areRising.f k l lo hi = some (risingB l lo hi) := by
  unfold impl_areRising.f
  have := impl_areRising_loop lo hi l hn l.length 0 k (by omega) hk
  rw [show ((0 : Nat) : Int) = 0 from rfl] at this
  simp [this, risingB, Bool.and_comm]

theorem impl_within_eq (a b c : Int) : impl_within.f a b c = some (decide (b ≤ a ∧ a ≤ c)) := by
  unfold impl_within.f
  by_cases h : b ≤ a <;> simp [h]

theorem toIntS_loop (l : List Int) (hn : l.length ≤ 1048576) : ∀ (d i k : Nat), i + d = l.length → d < k → laws_toIntS.l0 k l (l.take i ++ List.replicate d 0) (i : Int) = some l := by
  intro d
  induction d with
  | zero =>
    intro i k h hk
    obtain ⟨k, rfl⟩ : ∃ m, k = m + 1 := ⟨k - 1, by omega⟩
    simp only [laws_toIntS.l0]
    rw [if_neg (by omega)]
    simp [List.take_of_length_le (show l.length ≤ i by omega)]
  | succ d ih =>
    intro i k h hk
    obtain ⟨k, rfl⟩ : ∃ m, k = m + 1 := ⟨k - 1, by omega⟩
    have hi : i < l.length := by omega
    have e : (l.take i ++ List.replicate (d + 1) 0).set i (rd l (i : Int)) = l.take (i + 1) ++ List.replicate d 0 := by
      rw [rd_nat l hi, List.set_append_right _ _ (by simp; omega)]
      simp only [List.length_take, Nat.min_eq_left (Nat.le_of_lt hi), Nat.sub_self, List.replicate_succ, List.set_cons_zero]
      rw [List.take_succ_eq_append_getElem hi, List.append_assoc]; rfl
    simp only [laws_toIntS.l0]
    rw [if_pos (by omega), if_pos (by omega), if_pos (by simp; omega), Int.toNat_natCast, e, wrap_succ hi (by omega)]
    exact ih (i + 1) k (by omega) (by omega)
theorem toIntS_eq {k : Nat} {l : List Int} (hn : l.length ≤ 1048576) (hk : l.length < k) : laws_toIntS.f k l = some l := by
  unfold laws_toIntS.f
  rw [if_pos (by omega), if_pos (by omega), Int.toNat_natCast]
  have := toIntS_loop l hn l.length 0 k (by omega) hk
  simpa using this

theorem eqIntS_loop (l : List Int) (hn : l.length ≤ 1048576) : ∀ (d i k : Nat), i + d = l.length → d < k → laws_eqIntS.l0 k l l (i : Int) = some true := by
  intro d
  induction d with
  | zero =>
    intro i k h hk
    obtain ⟨k, rfl⟩ : ∃ m, k = m + 1 := ⟨k - 1, by omega⟩
    simp only [laws_eqIntS.l0]
    rw [if_neg (by omega)]
  | succ d ih =>
    intro i k h hk
    obtain ⟨k, rfl⟩ : ∃ m, k = m + 1 := ⟨k - 1, by omega⟩
    simp only [laws_eqIntS.l0]
    rw [if_pos (by omega), if_pos (by omega), if_pos (by omega), if_pos trivial, wrap_succ (n := l.length) (by omega) (by omega)]
    exact ih (i + 1) k (by omega) (by omega)
theorem eqIntS_refl {k : Nat} {l : List Int} (hn : l.length ≤ 1048576) (hk : l.length < k) : laws_eqIntS.f k l l = some true := by
  unfold laws_eqIntS.f
  rw [if_pos rfl]
  exact eqIntS_loop l hn l.length 0 k (by omega) hk

theorem eqRing_refl {k : Nat} {s : Int} {l : List Int} (hn : l.length ≤ 1048576) (hk : l.length < k) : laws_eqRing.f k s l s l = some true := by
  unfold laws_eqRing.f
  rw [if_pos rfl, eqIntS_refl hn hk]
  rfl

/-- What both call a ring. -/
def ringB (s : Int) (l : List Int) : Bool := decide (2 ≤ s ∧ s ≤ 12) && risingB l 0 (s - 1)
theorem ringB_size {s : Int} {l : List Int} (h : ringB s l = true) : 2 ≤ s ∧ s ≤ 12 := by simp [ringB] at h; exact h.1
theorem spec_riGood_eq {k : Nat} {s : Int} {l : List Int} (hn : l.length ≤ 1048576) (hk : l.length < k) : spec_riGood.f k s l = some (ringB s l) := by
  unfold spec_riGood.f ringB
  simp only [spec_l1In_eq, Option.bind_some]
  by_cases h : 2 ≤ s ∧ s ≤ 12
  · rw [if_pos (by simpa using h), wrap_id (by omega) (by omega), spec_l1Rising_eq hn hk]; simp [h]
  · rw [if_neg (by simpa using h)]; simp [h]
theorem impl_IsRing_eq {k : Nat} {s : Int} {l : List Int} (hn : l.length ≤ 1048576) (hk : l.length < k) : impl_IsRing.f k s l = some (ringB s l) := by
  unfold impl_IsRing.f impl_isRingSize.f ringB
  simp only [impl_within_eq, Option.bind_some]
  by_cases h : 2 ≤ s ∧ s ≤ 12
  · rw [if_pos (by simpa using h), wrap_id (by omega) (by omega), impl_areRising_eq hn hk]; simp [h]
  · rw [if_neg (by simpa using h)]; simp [h]
theorem szRing_big {s : Int} {l : List Int} (hm : l.length ≤ 9223372036854775807) (h : ¬ l.length ≤ 1048576) : laws_szRing.f s l 1048576 = some (-1) := by
  unfold laws_szRing.f laws_szIntS.f
  rw [wrap_id (by omega) (by omega), if_pos (by omega)]; rfl
theorem szRing_ok {s : Int} {l : List Int} (h : l.length ≤ 1048576) : laws_szRing.f s l 1048576 = some (1048576 - (l.length : Int)) := by
  unfold laws_szRing.f laws_szIntS.f
  rw [wrap_id (by omega) (by omega), if_neg (by omega), Option.bind_some, if_neg (by omega)]
theorem toRing_eq {k : Nat} {s : Int} {l : List Int} (hn : l.length ≤ 1048576) (hk : l.length < k) : laws_toRing.f k s l = some (s, l) := by
  unfold laws_toRing.f
  rw [toIntS_eq hn hk]; rfl

theorem spec_l1Has_loop (x : Int) (l : List Int) (hn : l.length ≤ 1048576) : ∀ (d i k : Nat), i + d = l.length → d < k → spec_l1Has.l0 k x l (l.length : Int) (i : Int) = some (decide (x ∈ l.drop i)) := by
  intro d
  induction d with
  | zero =>
    intro i k h hk
    obtain ⟨k, rfl⟩ : ∃ m, k = m + 1 := ⟨k - 1, by omega⟩
    simp only [spec_l1Has.l0]
    rw [if_neg (by omega), List.drop_of_length_le (by omega)]; simp
  | succ d ih =>
    intro i k h hk
    obtain ⟨k, rfl⟩ : ∃ m, k = m + 1 := ⟨k - 1, by omega⟩
    have hi : i < l.length := by omega
    have e : (x ∈ l.drop i) = (x = l[i] ∨ x ∈ l.drop (i + 1)) := by rw [List.drop_eq_getElem_cons hi, List.mem_cons]
    simp only [spec_l1Has.l0, e]
    rw [if_pos (by omega), if_pos (by omega), if_pos (by omega), rd_nat l hi, wrap_succ hi (by omega), ih (i + 1) k (by omega) (by omega)]
    by_cases c : l[i] = x
    · rw [if_pos c, decide_eq_true (.inl c.symm)]
    · rw [if_neg c]; exact congrArg some (decide_eq_decide.mpr ⟨.inr, fun h => h.resolve_left (fun h => c h.symm)⟩)
theorem spec_l1Has_eq {k : Nat} {x : Int} {l : List Int} (hn : l.length ≤ 1048576) (hk : l.length < k) : spec_l1Has.f k l x = some (decide (x ∈ l)) := by
  unfold spec_l1Has.f
  simpa using spec_l1Has_loop x l hn l.length 0 k (by omega) hk

theorem slicesIndex_loop (x : Int) (l : List Int) (hn : l.length ≤ 1048576) : ∀ (d i k : Nat), i + d = l.length → d < k → ∃ r, slices_Index_int_int.l0 k l x (l.length : Int) (i : Int) = some r ∧ decide (r ≥ 0) = decide (x ∈ l.drop i) := by
  intro d
  induction d with
  | zero =>
    intro i k h hk
    obtain ⟨k, rfl⟩ : ∃ m, k = m + 1 := ⟨k - 1, by omega⟩
    simp only [slices_Index_int_int.l0]
    rw [if_neg (by omega), List.drop_of_length_le (by omega)]
    exact ⟨-1, rfl, by simp⟩
  | succ d ih =>
    intro i k h hk
    obtain ⟨k, rfl⟩ : ∃ m, k = m + 1 := ⟨k - 1, by omega⟩
    have hi : i < l.length := by omega
    have e : (x ∈ l.drop i) = (x = l[i] ∨ x ∈ l.drop (i + 1)) := by rw [List.drop_eq_getElem_cons hi, List.mem_cons]
    simp only [slices_Index_int_int.l0, e]
    rw [if_pos (by omega), if_pos (by omega), if_pos (by omega), rd_nat l hi, wrap_succ hi (by omega)]
    by_cases c : x = l[i]
    · rw [if_pos c]; exact ⟨i, rfl, by rw [decide_eq_true (show (i : Int) ≥ 0 by omega), decide_eq_true (show x = l[i] ∨ x ∈ l.drop (i + 1) from Or.inl c)]⟩
    · rw [if_neg c]
      obtain ⟨r, h1, h2⟩ := ih (i + 1) k (by omega) (by omega)
      exact ⟨r, h1, h2.trans (decide_eq_decide.mpr ⟨.inr, fun h => h.resolve_left c⟩)⟩
theorem slicesContains_eq {k : Nat} {x : Int} {l : List Int} (hn : l.length ≤ 1048576) (hk : l.length < k) : slices_Contains_int_int.f k l x = some (decide (x ∈ l)) := by
  unfold slices_Contains_int_int.f slices_Index_int_int.f
  obtain ⟨r, h1, h2⟩ := slicesIndex_loop x l hn l.length 0 k (by omega) hk
  rw [show ((0 : Nat) : Int) = 0 from rfl] at h1
  rw [h1, Option.bind_some, h2, List.drop_zero]
theorem impl_isBroken_eq {k : Nat} {s x : Int} {l : List Int} (hn : l.length ≤ 1048576) (hk : l.length < k) : impl_Ring_isBroken.f k s l x = some (decide (x ∈ l)) := by
  unfold impl_Ring_isBroken.f
  rw [slicesContains_eq hn hk]; rfl

/-- The next station. -/
def nxt (s a : Int) : Int := if a + 1 = s then 0 else a + 1
theorem nxt_tmod {s a : Int} (h0 : 0 ≤ a) (h1 : a < s) (hs : s ≤ 12) : Int.tmod (wrap64 (a + 1)) s = nxt s a := by
  rw [wrap_id (by omega) (by omega), Int.tmod_eq_emod_of_nonneg (by omega)]
  unfold nxt
  by_cases c : a + 1 = s
  · rw [if_pos c, c, Int.emod_self]
  · rw [if_neg c, Int.emod_eq_of_lt (by omega) (by omega)]
theorem nxt_range {s a : Int} (h0 : 0 ≤ a) (h1 : a < s) : 0 ≤ nxt s a ∧ nxt s a < s := by unfold nxt; split <;> omega
theorem spec_riNext_eq {s a : Int} (l : List Int) (h0 : 0 ≤ a) (h1 : a < s) (hs : s ≤ 12) : spec_riNext.f s l a = some (nxt s a) := by
  unfold spec_riNext.f
  rw [if_neg (by omega), nxt_tmod h0 h1 hs]
theorem impl_next_eq {s a : Int} (l : List Int) (h0 : 0 ≤ a) (h1 : a < s) (hs : s ≤ 12) : impl_Ring_next.f s l a = some (nxt s a) := by
  unfold impl_Ring_next.f
  rw [if_neg (by omega), nxt_tmod h0 h1 hs]

/-- The way on from a, d links long, if none of them is broken. -/
def wayF (s : Int) (l : List Int) : Nat → Int → List Int → List Int × Bool
  | 0, _, out => (out, true)
  | d + 1, a, out => if a ∈ l then ([], false) else wayF s l d (nxt s a) (out ++ [nxt s a])
/-- How far b is ahead of a. -/
def dist (s a b : Int) : Nat := if a ≤ b then (b - a).toNat else (b + s - a).toNat
def wayV (s : Int) (l : List Int) (a b : Int) : List Int × Bool := wayF s l (dist s a b) a [a]
theorem dist_zero {s a b : Int} (ha : 0 ≤ a ∧ a < s) (hb : 0 ≤ b ∧ b < s) (h : dist s a b = 0) : a = b := by unfold dist at h; split at h <;> omega
theorem dist_ne {s a b : Int} {d : Nat} (h : dist s a b = d + 1) : a ≠ b := by
  intro e; subst e; unfold dist at h; rw [if_pos (by omega)] at h; omega
theorem dist_nxt {s a b : Int} {d : Nat} (ha : 0 ≤ a ∧ a < s) (hb : 0 ≤ b ∧ b < s) (h : dist s a b = d + 1) : dist s (nxt s a) b = d := by
  unfold dist nxt at *
  split at h <;> split <;> split <;> omega
theorem dist_le {s a b : Int} (ha : 0 ≤ a ∧ a < s) (hb : 0 ≤ b ∧ b < s) (hs : s ≤ 12) : dist s a b ≤ 12 := by unfold dist; split <;> omega
theorem spec_riWay_l0 (s b : Int) (l : List Int) (hn : l.length ≤ 1048576) (hb : 0 ≤ b ∧ b < s) (hs : s ≤ 12) : ∀ (d : Nat) (a : Int) (out : List Int), 0 ≤ a ∧ a < s → dist s a b = d → out.length + d ≤ 1048576 →
    Ev (fun k => spec_riWay.l0 k a b out s l) (wayF s l d a out) := by
  intro d
  induction d with
  | zero =>
    intro a out ha hd _
    refine ev_end (fun k => ?_)
    simp only [spec_riWay.l0]
    rw [if_pos (dist_zero ha hb hd)]; rfl
  | succ d ih =>
    intro a out ha hd ho
    rw [wayF]
    by_cases hm : a ∈ l
    · rw [if_pos hm]
      refine ⟨l.length + 2, fun k hk => ?_⟩
      obtain ⟨k, rfl⟩ : ∃ m, k = m + 1 := ⟨k - 1, by omega⟩
      simp only [spec_riWay.l0]
      rw [if_neg (dist_ne hd), spec_l1Has_eq (k := k) hn (by omega), decide_eq_true hm]; rfl
    · rw [if_neg hm]
      obtain ⟨K, hK⟩ := ih (nxt s a) (out ++ [nxt s a]) (nxt_range ha.1 ha.2) (dist_nxt ha hb hd) (by simp; omega)
      refine ⟨K + l.length + 2, fun k hk => ?_⟩
      obtain ⟨k, rfl⟩ : ∃ m, k = m + 1 := ⟨k - 1, by omega⟩
      simp only [spec_riWay.l0]
      rw [if_neg (dist_ne hd), spec_l1Has_eq (k := k) hn (by omega), decide_eq_false hm, Option.bind_some, if_neg (by simp), spec_riNext_eq l ha.1 ha.2 hs, Option.bind_some, if_pos (by omega)]
      exact hK k (by omega)
theorem impl_way_l0 (s b : Int) (l : List Int) (hn : l.length ≤ 1048576) (hb : 0 ≤ b ∧ b < s) (hs : s ≤ 12) : ∀ (d : Nat) (a : Int) (out : List Int), 0 ≤ a ∧ a < s → dist s a b = d → out.length + d ≤ 1048576 →
    Ev (fun k => impl_Ring_way.l0 k a b out s l) (wayF s l d a out) := by
  intro d
  induction d with
  | zero =>
    intro a out ha hd _
    refine ev_end (fun k => ?_)
    simp only [impl_Ring_way.l0]
    rw [if_pos (dist_zero ha hb hd)]; rfl
  | succ d ih =>
    intro a out ha hd ho
    rw [wayF]
    by_cases hm : a ∈ l
    · rw [if_pos hm]
      refine ⟨l.length + 2, fun k hk => ?_⟩
      obtain ⟨k, rfl⟩ : ∃ m, k = m + 1 := ⟨k - 1, by omega⟩
      simp only [impl_Ring_way.l0]
      rw [if_neg (dist_ne hd), impl_isBroken_eq (k := k) hn (by omega), decide_eq_true hm]; rfl
    · rw [if_neg hm]
      obtain ⟨K, hK⟩ := ih (nxt s a) (out ++ [nxt s a]) (nxt_range ha.1 ha.2) (dist_nxt ha hb hd) (by simp; omega)
      refine ⟨K + l.length + 2, fun k hk => ?_⟩
      obtain ⟨k, rfl⟩ : ∃ m, k = m + 1 := ⟨k - 1, by omega⟩
      simp only [impl_Ring_way.l0]
      rw [if_neg (dist_ne hd), impl_isBroken_eq (k := k) hn (by omega), decide_eq_false hm, Option.bind_some, if_neg (by simp), impl_next_eq l ha.1 ha.2 hs, Option.bind_some, if_pos (by omega)]
      exact hK k (by omega)
theorem spec_riWay_ev {s a b : Int} {l : List Int} (hn : l.length ≤ 1048576) (ha : 0 ≤ a ∧ a < s) (hb : 0 ≤ b ∧ b < s) (hs : s ≤ 12) : Ev (fun k => spec_riWay.f k s l a b) (wayV s l a b) := by
  unfold spec_riWay.f
  exact spec_riWay_l0 s b l hn hb hs _ a [a] ha rfl (by have := dist_le ha hb hs; simp; omega)
theorem impl_way_ev {s a b : Int} {l : List Int} (hn : l.length ≤ 1048576) (ha : 0 ≤ a ∧ a < s) (hb : 0 ≤ b ∧ b < s) (hs : s ≤ 12) : Ev (fun k => impl_Ring_way.f k s l a b) (wayV s l a b) := by
  unfold impl_Ring_way.f
  exact impl_way_l0 s b l hn hb hs _ a [a] ha rfl (by have := dist_le ha hb hs; simp; omega)
theorem wayF_len (s : Int) (l : List Int) : ∀ (d : Nat) (a : Int) (out : List Int), (wayF s l d a out).2 = true → (wayF s l d a out).1.length = out.length + d
  | 0, _, out, _ => by simp [wayF]
  | d + 1, a, out, h => by
    rw [wayF] at h ⊢
    by_cases hm : a ∈ l
    · rw [if_pos hm] at h; cases h
    · rw [if_neg hm] at h ⊢
      rw [wayF_len s l d _ _ h]; simp; omega
theorem wayF_no (s : Int) (l : List Int) : ∀ (d : Nat) (a : Int) (out : List Int), (wayF s l d a out).2 = false → (wayF s l d a out).1 = []
  | 0, _, out, h => by simp [wayF] at h
  | d + 1, a, out, h => by
    rw [wayF] at h ⊢
    by_cases hm : a ∈ l
    · rw [if_pos hm]
    · rw [if_neg hm] at h ⊢
      exact wayF_no s l d _ _ h
theorem wayV_len {s a b : Int} {l : List Int} (h : (wayV s l a b).2 = true) : (wayV s l a b).1.length = dist s a b + 1 := by
  have := wayF_len s l (dist s a b) a [a] h
  simpa [wayV, Nat.add_comm] using this
theorem wayV_le {s a b : Int} {l : List Int} (ha : 0 ≤ a ∧ a < s) (hb : 0 ≤ b ∧ b < s) (hs : s ≤ 12) : (wayV s l a b).1.length ≤ 13 := by
  have := dist_le ha hb hs
  cases h : (wayV s l a b).2 with
  | true => rw [wayV_len h]; omega
  | false => rw [show (wayV s l a b).1 = [] from wayF_no s l _ a [a] h]; simp

/-- The least number of links either way; less than 0 if there is no way. -/
def dblV (s : Int) (l : List Int) (a b : Int) : Int :=
  if (wayV s l a b).2 = true then (if (wayV s l b a).2 = true then (if dist s b a < dist s a b then (dist s b a : Int) else (dist s a b : Int)) else (dist s a b : Int)) else (if (wayV s l b a).2 = true then (dist s b a : Int) else -1)
theorem dblV_ge (s : Int) (l : List Int) (a b : Int) : -1 ≤ dblV s l a b := by unfold dblV; split <;> split <;> (try split) <;> omega
theorem dblV_le {s a b : Int} (l : List Int) (ha : 0 ≤ a ∧ a < s) (hb : 0 ≤ b ∧ b < s) (hs : s ≤ 12) : dblV s l a b ≤ 12 := by
  have h1 := dist_le ha hb hs
  have h2 := dist_le hb ha hs
  unfold dblV; split <;> split <;> (try split) <;> omega
theorem spec_riDouble_ev {s a b : Int} {l : List Int} (hn : l.length ≤ 1048576) (ha : 0 ≤ a ∧ a < s) (hb : 0 ≤ b ∧ b < s) (hs : s ≤ 12) : Ev (fun k => spec_riDouble.f k s l a b) (dblV s l a b) := by
  have d1 := dist_le ha hb hs
  have d2 := dist_le hb ha hs
  obtain ⟨K1, h1⟩ := spec_riWay_ev hn ha hb hs
  obtain ⟨K2, h2⟩ := spec_riWay_ev hn hb ha hs
  simp only at h1 h2
  refine ⟨K1 + K2, fun k hk => ?_⟩
  show spec_riDouble.f k s l a b = _
  unfold spec_riDouble.f dblV
  rw [h1 k (by omega), Option.bind_some, h2 k (by omega)]
  cases o1 : (wayV s l a b).2 with
  | true =>
    have l1 := wayV_len o1
    have e1 : wrap64 (((wayV s l a b).1.length : Int) - 1) = (dist s a b : Int) := by rw [wrap_id (by omega) (by omega), l1]; omega
    cases o2 : (wayV s l b a).2 with
    | true =>
      have l2 := wayV_len o2
      have e2 : wrap64 (((wayV s l b a).1.length : Int) - 1) = (dist s b a : Int) := by rw [wrap_id (by omega) (by omega), l2]; omega
      rw [if_pos rfl, Option.bind_some, o2, if_pos rfl, e1, e2, if_neg (by omega), if_pos rfl, if_pos rfl]
      by_cases c : dist s b a < dist s a b
      · rw [if_pos (by omega), if_pos c]
      · rw [if_neg (by omega), if_neg c]
    | false =>
      rw [if_pos rfl, Option.bind_some, o2, if_neg (by simp), e1, if_pos rfl, if_neg (by simp)]
  | false =>
    cases o2 : (wayV s l b a).2 with
    | true =>
      have l2 := wayV_len o2
      have e2 : wrap64 (((wayV s l b a).1.length : Int) - 1) = (dist s b a : Int) := by rw [wrap_id (by omega) (by omega), l2]; omega
      rw [if_neg (by simp), Option.bind_some, o2, if_pos rfl, e2, if_neg (by simp), if_pos rfl]
    | false =>
      rw [if_neg (by simp), Option.bind_some, o2, if_neg (by simp), if_neg (by simp), if_neg (by simp)]
theorem impl_doubleHops_ev {s a b : Int} {l : List Int} (hn : l.length ≤ 1048576) (ha : 0 ≤ a ∧ a < s) (hb : 0 ≤ b ∧ b < s) (hs : s ≤ 12) : Ev (fun k => impl_Ring_doubleHops.f k s l a b) (if dblV s l a b < 0 then (0, false) else (dblV s l a b, true)) := by
  have d1 := dist_le ha hb hs
  have d2 := dist_le hb ha hs
  obtain ⟨K1, h1⟩ := impl_way_ev hn ha hb hs
  obtain ⟨K2, h2⟩ := impl_way_ev hn hb ha hs
  simp only at h1 h2
  refine ⟨K1 + K2 + 2, fun k hk => ?_⟩
  show impl_Ring_doubleHops.f k s l a b = _
  obtain ⟨k, rfl⟩ : ∃ m, k = m + 1 := ⟨k - 1, by omega⟩
  unfold impl_Ring_doubleHops.f dblV
  rw [h1 (k + 1) (by omega), Option.bind_some, h2 (k + 1) (by omega), Option.bind_some]
  cases o1 : (wayV s l a b).2 with
  | true =>
    have l1 := wayV_len o1
    have e1 : wrap64 (((wayV s l a b).1.length : Int) - 1) = (dist s a b : Int) := by rw [wrap_id (by omega) (by omega), l1]; omega
    cases o2 : (wayV s l b a).2 with
    | true =>
      have l2 := wayV_len o2
      rw [if_pos rfl]
      simp only [impl_Ring_doubleHops.j0, if_true]
      by_cases c : dist s b a < dist s a b
      · rw [if_pos c, if_neg (by omega)]
        have : wrap64 (mn ((wayV s l a b).1.length : Int) ((wayV s l b a).1.length : Int) - 1) = (dist s b a : Int) := by
          unfold mn; rw [if_pos (by omega), wrap_id (by omega) (by omega), l2]; omega
        rw [this]
      · rw [if_neg c, if_neg (by omega)]
        have : wrap64 (mn ((wayV s l a b).1.length : Int) ((wayV s l b a).1.length : Int) - 1) = (dist s a b : Int) := by
          unfold mn; rw [if_neg (by omega), wrap_id (by omega) (by omega), l1]; omega
        rw [this]
    | false =>
      rw [if_pos rfl]
      simp only [impl_Ring_doubleHops.j0, if_true, if_neg (show ¬ (false = true) by decide)]
      rw [e1, if_neg (by omega)]
  | false =>
    rw [if_neg (by simp)]
    cases o2 : (wayV s l b a).2 with
    | true =>
      have l2 := wayV_len o2
      have e2 : wrap64 (((wayV s l b a).1.length : Int) - 1) = (dist s b a : Int) := by rw [wrap_id (by omega) (by omega), l2]; omega
      simp only [impl_Ring_doubleHops.j0, if_true, if_neg (show ¬ (false = true) by decide)]
      rw [e2, if_neg (by omega)]
    | false =>
      simp only [impl_Ring_doubleHops.j0, if_neg (show ¬ (false = true) by decide)]; rfl

def mostV (m t : Int) : Int := if m < t then t else m
/-- The greatest number of links from a to the next d stations from b on. -/
def wid1 (s : Int) (l : List Int) (a : Int) : Nat → Int → Int → Int
  | 0, m, _ => m
  | d + 1, m, b => wid1 s l a d (mostV m (dblV s l a b)) (b + 1)
def wid0 (s : Int) (l : List Int) : Nat → Int → Int → Int
  | 0, m, _ => m
  | d + 1, m, a => wid0 s l d (wid1 s l a s.toNat m 0) (a + 1)
theorem mostV_range {m t : Int} (hm : 0 ≤ m ∧ m ≤ 12) (ht : t ≤ 12) : 0 ≤ mostV m t ∧ mostV m t ≤ 12 := by unfold mostV; split <;> omega
theorem wid1_range {s a : Int} (l : List Int) (hs : s ≤ 12) (ha : 0 ≤ a ∧ a < s) : ∀ (d : Nat) (m b : Int), 0 ≤ b → b + d ≤ s → 0 ≤ m ∧ m ≤ 12 → 0 ≤ wid1 s l a d m b ∧ wid1 s l a d m b ≤ 12
  | 0, m, _, _, _, h => h
  | d + 1, m, b, h0, hb, hm => wid1_range l hs ha d _ _ (by omega) (by omega) (mostV_range hm (dblV_le l ha ⟨h0, by omega⟩ hs))
theorem spec_wid_l1 (s a : Int) (l : List Int) (hn : l.length ≤ 1048576) (hs : s ≤ 12) (ha : 0 ≤ a ∧ a < s) (v : Int × Bool) : ∀ (d : Nat) (m b : Int), 0 ≤ b → b + d = s → 0 ≤ m ∧ m ≤ 12 →
    Ev (fun k => spec_WidestOf.l0 k (wid1 s l a d m b) (a + 1) s l) v → Ev (fun k => spec_WidestOf.l1 k m a b s l) v := by
  intro d
  induction d with
  | zero =>
    intro m b h0 hb hm hv
    refine Ev.step (fun k => ?_) hv
    simp only [spec_WidestOf.l1]
    rw [if_neg (by omega), wrap_id (by omega) (by omega)]; rfl
  | succ d ih =>
    intro m b h0 hb hm hv
    have hbs : 0 ≤ b ∧ b < s := ⟨h0, by omega⟩
    have hd := dblV_le l ha hbs hs
    obtain ⟨K1, h1⟩ := spec_riDouble_ev hn ha hbs hs
    obtain ⟨K2, h2⟩ := ih (mostV m (dblV s l a b)) (b + 1) (by omega) (by omega) (mostV_range hm hd) hv
    simp only at h1 h2
    refine ⟨K1 + K2 + 1, fun k hk => ?_⟩
    obtain ⟨k, rfl⟩ : ∃ q, k = q + 1 := ⟨k - 1, by omega⟩
    show spec_WidestOf.l1 (k + 1) m a b s l = _
    simp only [spec_WidestOf.l1]
    have e : spec_l1Most.f m (dblV s l a b) = some (mostV m (dblV s l a b)) := by
      unfold spec_l1Most.f mostV
      by_cases c : m < dblV s l a b
      · rw [if_neg (by omega), if_pos c]
      · by_cases c2 : m > dblV s l a b
        · rw [if_pos c2, if_neg c]
        · rw [if_neg c2, if_neg c]; congr 1; omega
    rw [if_pos (by omega), h1 k (by omega), Option.bind_some, e, Option.bind_some, wrap_id (by omega) (by omega)]
    exact h2 k (by omega)
theorem spec_wid_l0 (s : Int) (l : List Int) (hn : l.length ≤ 1048576) (hs : 2 ≤ s ∧ s ≤ 12) : ∀ (d : Nat) (m a : Int), 0 ≤ a → a + d = s → 0 ≤ m ∧ m ≤ 12 →
    Ev (fun k => spec_WidestOf.l0 k m a s l) (wid0 s l d m a, true) := by
  intro d
  induction d with
  | zero =>
    intro m a h0 ha hm
    refine ev_end (fun k => ?_)
    simp only [spec_WidestOf.l0]
    rw [if_neg (by omega)]; rfl
  | succ d ih =>
    intro m a h0 ha hm
    have hr := wid1_range l hs.2 (a := a) ⟨h0, by omega⟩ s.toNat m 0 (by omega) (by omega) hm
    refine Ev.step (fun k => ?_) (spec_wid_l1 s a l hn hs.2 ⟨h0, by omega⟩ _ s.toNat m 0 (by omega) (by omega) hm (ih (wid1 s l a s.toNat m 0) (a + 1) (by omega) (by omega) hr))
    simp only [spec_WidestOf.l0]
    rw [if_pos (by omega)]
theorem impl_wid_l1 (s a : Int) (l : List Int) (hn : l.length ≤ 1048576) (hs : s ≤ 12) (ha : 0 ≤ a ∧ a < s) (v : Int × Bool) : ∀ (d : Nat) (m b : Int), 0 ≤ b → b + d = s → 0 ≤ m ∧ m ≤ 12 →
    Ev (fun k => impl_WidestOf.l0 k (wid1 s l a d m b) s (a + 1) s l) v → Ev (fun k => impl_WidestOf.l1 k m a s a s b s l) v := by
  intro d
  induction d with
  | zero =>
    intro m b h0 hb hm hv
    refine Ev.step (fun k => ?_) hv
    simp only [impl_WidestOf.l1]
    rw [if_neg (by omega), wrap_id (by omega) (by omega)]; rfl
  | succ d ih =>
    intro m b h0 hb hm hv
    have hbs : 0 ≤ b ∧ b < s := ⟨h0, by omega⟩
    have hd := dblV_le l ha hbs hs
    have hg := dblV_ge s l a b
    obtain ⟨K1, h1⟩ := impl_doubleHops_ev hn ha hbs hs
    obtain ⟨K2, h2⟩ := ih (mostV m (dblV s l a b)) (b + 1) (by omega) (by omega) (mostV_range hm hd) hv
    simp only at h1 h2
    refine ⟨K1 + K2 + 1, fun k hk => ?_⟩
    obtain ⟨k, rfl⟩ : ∃ q, k = q + 1 := ⟨k - 1, by omega⟩
    show impl_WidestOf.l1 (k + 1) m a s a s b s l = _
    simp only [impl_WidestOf.l1]
    have e : mx m (if dblV s l a b < 0 then ((0, false) : Int × Bool) else (dblV s l a b, true)).1 = mostV m (dblV s l a b) := by
      unfold mx mostV
      by_cases c : dblV s l a b < 0
      · rw [if_pos c, if_neg (by omega), if_neg (by omega)]
      · rw [if_neg c]
    rw [if_pos (by omega), h1 k (by omega), Option.bind_some, e, wrap_id (by omega) (by omega)]
    exact h2 k (by omega)
theorem impl_wid_l0 (s : Int) (l : List Int) (hn : l.length ≤ 1048576) (hs : 2 ≤ s ∧ s ≤ 12) : ∀ (d : Nat) (m a : Int), 0 ≤ a → a + d = s → 0 ≤ m ∧ m ≤ 12 →
    Ev (fun k => impl_WidestOf.l0 k m s a s l) (wid0 s l d m a, true) := by
  intro d
  induction d with
  | zero =>
    intro m a h0 ha hm
    refine ev_end (fun k => ?_)
    simp only [impl_WidestOf.l0]
    rw [if_neg (by omega)]; rfl
  | succ d ih =>
    intro m a h0 ha hm
    have hr := wid1_range l hs.2 (a := a) ⟨h0, by omega⟩ s.toNat m 0 (by omega) (by omega) hm
    refine Ev.step (fun k => ?_) (impl_wid_l1 s a l hn hs.2 ⟨h0, by omega⟩ _ s.toNat m 0 (by omega) (by omega) hm (ih (wid1 s l a s.toNat m 0) (a + 1) (by omega) (by omega) hr))
    simp only [impl_WidestOf.l0]
    rw [if_pos (by omega)]
theorem both (s : Int) (l : List Int) (hn : l.length ≤ 1048576) : ∃ v, Ev (fun k => spec_WidestOf.f k s l) v ∧ Ev (fun k => impl_WidestOf.f k s l) v := by
  cases hr : ringB s l with
  | false =>
    refine ⟨(0, false), ⟨l.length + 2, fun k hk => ?_⟩, ⟨l.length + 2, fun k hk => ?_⟩⟩
    · show spec_WidestOf.f k s l = _
      obtain ⟨k, rfl⟩ : ∃ q, k = q + 1 := ⟨k - 1, by omega⟩
      unfold spec_WidestOf.f
      rw [spec_riGood_eq (k := k + 1) hn (by omega), hr, Option.bind_some, if_neg (by simp)]
      simp only [spec_WidestOf.j0, if_true]
    · show impl_WidestOf.f k s l = _
      obtain ⟨k, rfl⟩ : ∃ q, k = q + 1 := ⟨k - 1, by omega⟩
      unfold impl_WidestOf.f
      rw [impl_IsRing_eq (k := k + 1) hn (by omega), hr, Option.bind_some, if_neg (by simp)]
      simp only [impl_WidestOf.j0, if_true]
  | true =>
    have hs := ringB_size hr
    by_cases hl : l.length ≤ 1
    · obtain ⟨K1, h1⟩ := spec_wid_l0 s l hn hs s.toNat 0 0 (by omega) (by omega) (by omega)
      obtain ⟨K2, h2⟩ := impl_wid_l0 s l hn hs s.toNat 0 0 (by omega) (by omega) (by omega)
      simp only at h1 h2
      refine ⟨(wid0 s l s.toNat 0 0, true), ⟨K1 + l.length + 2, fun k hk => ?_⟩, ⟨K2 + l.length + 2, fun k hk => ?_⟩⟩
      · show spec_WidestOf.f k s l = _
        obtain ⟨k, rfl⟩ : ∃ q, k = q + 1 := ⟨k - 1, by omega⟩
        unfold spec_WidestOf.f
        rw [spec_riGood_eq (k := k + 1) hn (by omega), hr, Option.bind_some, if_pos rfl, decide_eq_false (by omega)]
        simp only [spec_WidestOf.j0, if_neg (show ¬ (false = true) by decide)]
        exact h1 k (by omega)
      · show impl_WidestOf.f k s l = _
        obtain ⟨k, rfl⟩ : ∃ q, k = q + 1 := ⟨k - 1, by omega⟩
        unfold impl_WidestOf.f impl_Ring_canAllTalk.f
        rw [impl_IsRing_eq (k := k + 1) hn (by omega), hr, Option.bind_some, if_pos rfl, decide_eq_true (by omega), Option.bind_some]
        simp only [impl_WidestOf.j0, Bool.not_true, if_neg (show ¬ (false = true) by decide)]
        exact h2 k (by omega)
    · refine ⟨(0, false), ⟨l.length + 2, fun k hk => ?_⟩, ⟨l.length + 2, fun k hk => ?_⟩⟩
      · show spec_WidestOf.f k s l = _
        obtain ⟨k, rfl⟩ : ∃ q, k = q + 1 := ⟨k - 1, by omega⟩
        unfold spec_WidestOf.f
        rw [spec_riGood_eq (k := k + 1) hn (by omega), hr, Option.bind_some, if_pos rfl, decide_eq_true (by omega)]
        simp only [spec_WidestOf.j0, if_true]
      · show impl_WidestOf.f k s l = _
        obtain ⟨k, rfl⟩ : ∃ q, k = q + 1 := ⟨k - 1, by omega⟩
        unfold impl_WidestOf.f impl_Ring_canAllTalk.f
        rw [impl_IsRing_eq (k := k + 1) hn (by omega), hr, Option.bind_some, if_pos rfl, decide_eq_false (by omega), Option.bind_some]
        simp only [impl_WidestOf.j0, Bool.not_false, if_true]
theorem FnExactWidestOf : FnExactWidestOfPure := by
  intro s l _ hm _
  unfold maxLen at hm
  by_cases hn : l.length ≤ 1048576
  · have n1 : ¬ (1048576 - (l.length : Int) < 0) := by omega
    obtain ⟨v, ⟨K1, h1⟩, ⟨K2, h2⟩⟩ := both s l hn
    refine ⟨K1 + K2 + l.length + 10, ?_⟩
    unfold laws_FnExactWidestOf.f
    simp (disch := omega) only [Option.bind_some, ↓reduceIte, bne_self_eq_false, Bool.false_eq_true, h1, h2, szRing_ok hn, n1, toRing_eq hn, eqRing_refl hn]
    rw [laws_FnExactWidestOf.j0]
    simp (disch := omega) only [Option.bind_some, ↓reduceIte, bne_self_eq_false, Bool.false_eq_true, h1, h2, szRing_ok hn, n1, toRing_eq hn, eqRing_refl hn]
  · exact ⟨0, by unfold laws_FnExactWidestOf.f; rw [szRing_big hm hn]; rfl⟩

end Go.Proofs.Ytkaaoanjniahaaa.Pure
