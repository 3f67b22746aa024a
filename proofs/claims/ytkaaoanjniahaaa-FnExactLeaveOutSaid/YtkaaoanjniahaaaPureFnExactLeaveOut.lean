/- FnExactLeaveOut: the program's answer is the reference's, as plain functions over numbers and lists; no condition beyond the sizes that every value has. -/
import Derived.Test.YtkaaoanjniahaaaPFnExactLeaveOutx5
namespace Go.Proofs.Ytkaaoanjniahaaa.Pure
open Go.RowKit Go.Proofs.Ytkaaoanjniahaaa.PFnExactLeaveOut Go.Proofs.YtkaaoanjniahaaaW.PrintWords Go.Proofs.YtkaaoanjniahaaaW.PrintLast Go.Proofs.YtkaaoanjniahaaaW.PrintMore

/- It reaches: laws_szIntS.f, laws_szRing.f, laws_toIntS.f, laws_toRing.f, laws_eqIntS.f, laws_eqRing.f, laws_markIntS.f, laws_markRing.f, laws_heldIntS.f, laws_heldRing.f, spec_l1In.f, spec_l1Rising.f, spec_riGood.f, spec_riHas.f, spec_l1Has.f, spec_l1Put.f, spec_riBefore.f, spec_LeaveOut.f, impl_ringOf.f, slices_Index_int_int.f, slices_Contains_int_int.f, impl_Ring_isBroken.f, impl_within.f, impl_isRingSize.f, impl_allWithin.f, impl_areRising.f, impl_IsRing.f, impl_Ring_has.f, impl_Ring_next.f, impl_LeaveOut.f, laws_FnExactLeaveOut.f -/
def FnExactLeaveOutPure : Prop := ∀ (a0_0 : Int) (l0_1 : List Int) (a1 : Int), (Lit.int .i64 a0_0).wf = true → l0_1.length ≤ maxLen → (∀ x ∈ l0_1, (Lit.int .i64 x).wf = true) → (Lit.int .i64 a1).wf = true → ∃ k, laws_FnExactLeaveOut.f k a0_0 l0_1 a1 = some true
set_option linter.unusedSimpArgs false
set_option linter.unusedVariables false
theorem wrap_id {x : Int} (h1 : -9223372036854775808 ≤ x) (h2 : x ≤ 9223372036854775807) : wrap64 x = x := by unfold wrap64; omega
theorem wrap_succ {i n : Nat} (h : i < n) (hn : n ≤ 4611686018427387904) : wrap64 ((i : Int) + 1) = ((i + 1 : Nat) : Int) := by rw [wrap_id] <;> omega
theorem rd_nat (l : List Int) {i : Nat} (h : i < l.length) : rd l (i : Int) = l[i] := by simp [rd, h]
theorem rd_mem (l : List Int) {i : Nat} (h : i < l.length) : rd l (i : Int) ∈ l := by rw [rd_nat l h]; exact List.getElem_mem h
/-- One round, and the end. -/
theorem ev_end {α : Type} {g : Nat → Option α} {r : α} (h : ∀ k, g (k + 1) = some r) : Ev g r := Ev.step h (Ev.now r)
theorem ev_of {α : Type} {g : Nat → Option α} {r : α} (h : ∀ k, g k = some r) : Ev g r := ⟨0, fun k _ => h k⟩
theorem ev_eq {α : Type} {g : Nat → Option α} {r r' : α} (h : Ev g r) (e : r = r') : Ev g r' := e ▸ h

/-- Is each number less than the next one? -/
def adjB : List Int → Bool
  | a :: b :: t => decide (a < b) && adjB (b :: t)
  | _ => true
def inB (lo hi x : Int) : Bool := decide (lo ≤ x ∧ x ≤ hi)
def risingB (l : List Int) (lo hi : Int) : Bool := l.all (inB lo hi) && adjB l
theorem adjB_at (l : List Int) {i : Nat} (h0 : 0 < i) (h : i < l.length) : adjB (l.drop (i - 1)) = (decide (l[i - 1] < l[i]) && adjB (l.drop i)) := by
  rw [List.drop_eq_getElem_cons (show i - 1 < l.length by omega), show i - 1 + 1 = i from by omega, List.drop_eq_getElem_cons h, adjB]
theorem wrap_pred {i n : Nat} (h0 : 0 < i) (h : i < n) (hn : n ≤ 4611686018427387904) : wrap64 ((i : Int) - 1) = ((i - 1 : Nat) : Int) := by rw [wrap_id] <;> omega

theorem spec_l1In_eq (a b c : Int) : spec_l1In.f a b c = some (decide (b ≤ a ∧ a ≤ c)) := by
  unfold spec_l1In.f
  by_cases h : b ≤ a <;> simp [h]

theorem spec_l1Rising_loop (lo hi : Int) (l : List Int) (hn : l.length ≤ 1048576) : ∀ (d i k : Nat), i + d = l.length → d < k →
    spec_l1Rising.l0 k l lo hi l (l.length : Int) (i : Int) = some ((l.drop i).all (inB lo hi) && adjB (l.drop (i - 1))) := by
  intro d
  induction d with
  | zero =>
    intro i k h hk
    obtain ⟨k, rfl⟩ : ∃ m, k = m + 1 := ⟨k - 1, by omega⟩
    simp only [spec_l1Rising.l0]
    rw [if_neg (by omega), List.drop_of_length_le (l := l) (i := i) (by omega)]
    have : adjB (l.drop (i - 1)) = true := by
      rcases Nat.eq_zero_or_pos i with h0 | h0
      · rw [h0, List.drop_of_length_le (by omega)]; rfl
      · rw [List.drop_eq_getElem_cons (show i - 1 < l.length by omega), List.drop_of_length_le (by omega)]; rfl
    simp [this]
  | succ d ih =>
    intro i k h hk
    obtain ⟨k, rfl⟩ : ∃ m, k = m + 1 := ⟨k - 1, by omega⟩
    have hlt : i < l.length := by omega
    have nx := ih (i + 1) k (by omega) (by omega)
    rw [Nat.add_sub_cancel] at nx
    have e : (l.drop i).all (inB lo hi) = (inB lo hi l[i] && (l.drop (i + 1)).all (inB lo hi)) := by rw [List.drop_eq_getElem_cons hlt, List.all_cons]
    simp only [spec_l1Rising.l0, spec_l1In_eq, Option.bind_some]
    rw [if_pos (by omega), if_pos (by omega), if_pos (by omega), rd_nat l hlt, wrap_succ hlt (by omega), e]
    by_cases c : lo ≤ l[i] ∧ l[i] ≤ hi
    · rw [if_pos (by simpa using c)]
      by_cases h0 : 0 < i
      · rw [if_pos (by omega), wrap_pred h0 hlt (by omega), if_pos (by omega), if_pos (by omega), rd_nat l (show i - 1 < l.length by omega), adjB_at l h0 hlt]
        by_cases c2 : l[i - 1] < l[i]
        · rw [if_neg (by omega), nx]; simp [inB, c, c2]
        · rw [if_pos (by omega)]; simp [c2]
      · obtain rfl : i = 0 := by omega
        rw [if_neg (by omega), nx]; simp [inB, c]
    · rw [if_neg (by simpa using c)]; simp only [inB, decide_eq_false c, Bool.false_and]
theorem spec_l1Rising_eq {k : Nat} {l : List Int} {lo hi : Int} (hn : l.length ≤ 1048576) (hk : l.length < k) : spec_l1Rising.f k l lo hi = some (risingB l lo hi) := by
  unfold spec_l1Rising.f
  simpa [risingB] using spec_l1Rising_loop lo hi l hn l.length 0 k (by omega) hk

theorem impl_areRising_loop (lo hi : Int) (l : List Int) (hn : l.length ≤ 1048576) : ∀ (d i k : Nat), i + d = l.length → d < k →
    impl_areRising.l0 k l lo hi l (l.length : Int) (i : Int) = some (adjB (l.drop (i - 1)) && l.all (inB lo hi)) := by
  intro d
  induction d with
  | zero =>
    intro i k h hk
    obtain ⟨k, rfl⟩ : ∃ m, k = m + 1 := ⟨k - 1, by omega⟩
    simp only [impl_areRising.l0]
    rw [if_neg (by omega)]
    have : adjB (l.drop (i - 1)) = true := by
      rcases Nat.eq_zero_or_pos i with h0 | h0
      · rw [h0, List.drop_of_length_le (by omega)]; rfl
      · rw [List.drop_eq_getElem_cons (show i - 1 < l.length by omega), List.drop_of_length_le (by omega)]; rfl
    rw [this, Bool.true_and]; rfl
  | succ d ih =>
    intro i k h hk
    obtain ⟨k, rfl⟩ : ∃ m, k = m + 1 := ⟨k - 1, by omega⟩
    have hlt : i < l.length := by omega
    have nx := ih (i + 1) k (by omega) (by omega)
    rw [Nat.add_sub_cancel] at nx
    simp only [impl_areRising.l0]
    rw [if_pos (by omega), if_pos (by omega), if_pos (by omega), rd_nat l hlt, wrap_succ hlt (by omega)]
    by_cases h0 : 0 < i
    · rw [if_pos (by omega), wrap_pred h0 hlt (by omega), if_pos (by omega), if_pos (by omega), rd_nat l (show i - 1 < l.length by omega), adjB_at l h0 hlt]
      by_cases c2 : l[i - 1] < l[i]
      · rw [if_neg (by omega), nx]; simp [c2]
      · rw [if_pos (by omega)]; simp [c2]
    · obtain rfl : i = 0 := by omega
      rw [if_neg (by omega), nx]
theorem impl_areRising_eq {k : Nat} {l : List Int} {lo hi : Int} (hn : l.length ≤ 1048576) (hk : l.length < k) : impl_areRising.f k l lo hi = some (risingB l lo hi) := by
  unfold impl_areRising.f
  have := impl_areRising_loop lo hi l hn l.length 0 k (by omega) hk
  rw [show ((0 : Nat) : Int) = 0 from rfl] at this
  simp [this, risingB, Bool.and_comm]

theorem impl_within_eq (a b c : Int) : impl_within.f a b c = some (decide (b ≤ a ∧ a ≤ c)) := by
  unfold impl_within.f
  by_cases h : b ≤ a <;> simp [h]

theorem toIntS_loop (l : List Int) (hn : l.length ≤ 1048576) : ∀ (d i k : Nat), i + d = l.length → d < k → laws_toIntS.l0 k l (l.take i ++ List.replicate d 0) (i : Int) = some l := by
  intro d
  induction d with
  | zero =>
    intro i k h hk
    obtain ⟨k, rfl⟩ : ∃ m, k = m + 1 := ⟨k - 1, by omega⟩
    simp only [laws_toIntS.l0]
    rw [if_neg (by omega)]
    simp [List.take_of_length_le (show l.length ≤ i by omega)]
  | succ d ih =>
    intro i k h hk
    obtain ⟨k, rfl⟩ : ∃ m, k = m + 1 := ⟨k - 1, by omega⟩
    have hi : i < l.length := by omega
    have e : (l.take i ++ List.replicate (d + 1) 0).set i (rd l (i : Int)) = l.take (i + 1) ++ List.replicate d 0 := by
      rw [rd_nat l hi, List.set_append_right _ _ (by simp; omega)]
      simp only [List.length_take, Nat.min_eq_left (Nat.le_of_lt hi), Nat.sub_self, List.replicate_succ, List.set_cons_zero]
      rw [List.take_succ_eq_append_getElem hi, List.append_assoc]; rfl
    simp only [laws_toIntS.l0]
    rw [if_pos (by omega), if_pos (by omega), if_pos (by simp; omega), Int.toNat_natCast, e, wrap_succ hi (by omega)]
    exact ih (i + 1) k (by omega) (by omega)
theorem toIntS_eq {k : Nat} {l : List Int} (hn : l.length ≤ 1048576) (hk : l.length < k) : laws_toIntS.f k l = some l := by
  unfold laws_toIntS.f
  rw [if_pos (by omega), if_pos (by omega), Int.toNat_natCast]
  have := toIntS_loop l hn l.length 0 k (by omega) hk
  simpa using this

theorem eqIntS_loop (l : List Int) (hn : l.length ≤ 1048576) : ∀ (d i k : Nat), i + d = l.length → d < k → laws_eqIntS.l0 k l l (i : Int) = some true := by
  intro d
  induction d with
  | zero =>
    intro i k h hk
    obtain ⟨k, rfl⟩ : ∃ m, k = m + 1 := ⟨k - 1, by omega⟩
    simp only [laws_eqIntS.l0]
    rw [if_neg (by omega)]
  | succ d ih =>
    intro i k h hk
    obtain ⟨k, rfl⟩ : ∃ m, k = m + 1 := ⟨k - 1, by omega⟩
    simp only [laws_eqIntS.l0]
    rw [if_pos (by omega), if_pos (by omega), if_pos (by omega), if_pos trivial, wrap_succ (n := l.length) (by omega) (by omega)]
    exact ih (i + 1) k (by omega) (by omega)
theorem eqIntS_refl {k : Nat} {l : List Int} (hn : l.length ≤ 1048576) (hk : l.length < k) : laws_eqIntS.f k l l = some true := by
  unfold laws_eqIntS.f
  rw [if_pos rfl]
  exact eqIntS_loop l hn l.length 0 k (by omega) hk

theorem eqRing_refl {k : Nat} {s : Int} {l : List Int} (hn : l.length ≤ 1048576) (hk : l.length < k) : laws_eqRing.f k s l s l = some true := by
  unfold laws_eqRing.f
  rw [if_pos rfl, eqIntS_refl hn hk]
  rfl

/-- What both call a ring. -/
def ringB (s : Int) (l : List Int) : Bool := decide (2 ≤ s ∧ s ≤ 12) && risingB l 0 (s - 1)
theorem ringB_size {s : Int} {l : List Int} (h : ringB s l = true) : 2 ≤ s ∧ s ≤ 12 := by simp [ringB] at h; exact h.1
theorem spec_riGood_eq {k : Nat} {s : Int} {l : List Int} (hn : l.length ≤ 1048576) (hk : l.length < k) : spec_riGood.f k s l = some (ringB s l) := by
  unfold spec_riGood.f ringB
  simp only [spec_l1In_eq, Option.bind_some]
  by_cases h : 2 ≤ s ∧ s ≤ 12
  · rw [if_pos (by simpa using h), wrap_id (by omega) (by omega), spec_l1Rising_eq hn hk]; simp [h]
  · rw [if_neg (by simpa using h)]; simp [h]
theorem impl_IsRing_eq {k : Nat} {s : Int} {l : List Int} (hn : l.length ≤ 1048576) (hk : l.length < k) : impl_IsRing.f k s l = some (ringB s l) := by
  unfold impl_IsRing.f impl_isRingSize.f ringB
  simp only [impl_within_eq, Option.bind_some]
  by_cases h : 2 ≤ s ∧ s ≤ 12
  · rw [if_pos (by simpa using h), wrap_id (by omega) (by omega), impl_areRising_eq hn hk]; simp [h]
  · rw [if_neg (by simpa using h)]; simp [h]
theorem szRing_big {s : Int} {l : List Int} (hm : l.length ≤ 9223372036854775807) (h : ¬ l.length ≤ 1048576) : laws_szRing.f s l 1048576 = some (-1) := by
  unfold laws_szRing.f laws_szIntS.f
  rw [wrap_id (by omega) (by omega), if_pos (by omega)]; rfl
theorem szRing_ok {s : Int} {l : List Int} (h : l.length ≤ 1048576) : laws_szRing.f s l 1048576 = some (1048576 - (l.length : Int)) := by
  unfold laws_szRing.f laws_szIntS.f
  rw [wrap_id (by omega) (by omega), if_neg (by omega), Option.bind_some, if_neg (by omega)]
theorem toRing_eq {k : Nat} {s : Int} {l : List Int} (hn : l.length ≤ 1048576) (hk : l.length < k) : laws_toRing.f k s l = some (s, l) := by
  unfold laws_toRing.f
  rw [toIntS_eq hn hk]; rfl

/-- n numbers from m on. -/
def marks (m : Int) (n : Nat) : List Int := (List.range n).map fun (j : Nat) => m + (j : Int)
theorem marks_length (m : Int) (n : Nat) : (marks m n).length = n := by simp [marks]
theorem marks_succ (m : Int) (n : Nat) : marks m (n + 1) = marks m n ++ [m + (n : Int)] := by simp [marks, List.range_succ]
theorem markIntS_loop (l : List Int) (m : Int) (hm : 0 ≤ m) (hm2 : m ≤ 1099511627776) (hn : l.length ≤ 1048576) : ∀ (d i k : Nat), i + d = l.length → d < k →
    laws_markIntS.l0 k (marks m i ++ l.drop i) (m + (i : Int)) (i : Int) = some (m + (l.length : Int), marks m l.length) := by
  intro d
  induction d with
  | zero =>
    intro i k h hk
    obtain ⟨k, rfl⟩ : ∃ m, k = m + 1 := ⟨k - 1, by omega⟩
    obtain rfl : i = l.length := by omega
    simp only [laws_markIntS.l0]
    rw [if_neg (by simp [marks_length])]
    simp
  | succ d ih =>
    intro i k h hk
    obtain ⟨k, rfl⟩ : ∃ m, k = m + 1 := ⟨k - 1, by omega⟩
    have hi : i < l.length := by omega
    have e : (marks m i ++ l.drop i).set i (m + (i : Int)) = marks m (i + 1) ++ l.drop (i + 1) := by
      rw [List.set_append_right _ _ (by simp [marks_length]), marks_length, Nat.sub_self, List.drop_eq_getElem_cons hi, List.set_cons_zero, marks_succ, List.append_assoc]; rfl
    simp only [laws_markIntS.l0]
    rw [if_pos (by simp [marks_length]; omega), if_pos (by omega), Int.toNat_natCast, e, wrap_succ hi (by omega), show wrap64 (m + (i : Int) + 1) = m + ((i + 1 : Nat) : Int) from by rw [wrap_id] <;> omega]
    exact ih (i + 1) k (by omega) (by omega)
theorem markIntS_eq {k : Nat} {l : List Int} {m : Int} (hm : 0 ≤ m) (hm2 : m ≤ 1099511627776) (hn : l.length ≤ 1048576) (hk : l.length < k) : laws_markIntS.f k l m = some (m + (l.length : Int), marks m l.length) := by
  unfold laws_markIntS.f
  have := markIntS_loop l m hm hm2 hn l.length 0 k (by omega) hk
  simpa [marks] using this
theorem heldIntS_loop (n : Nat) (m : Int) (hm : 0 ≤ m) (hm2 : m ≤ 1099511627776) (hn : n ≤ 1048576) : ∀ (d i k : Nat), i + d = n → d < k → laws_heldIntS.l0 k (marks m n) (m + (i : Int)) (i : Int) = some (m + (n : Int)) := by
  intro d
  induction d with
  | zero =>
    intro i k h hk
    obtain ⟨k, rfl⟩ : ∃ m, k = m + 1 := ⟨k - 1, by omega⟩
    obtain rfl : i = n := by omega
    simp only [laws_heldIntS.l0]
    rw [if_neg (by simp [marks_length])]
  | succ d ih =>
    intro i k h hk
    obtain ⟨k, rfl⟩ : ∃ m, k = m + 1 := ⟨k - 1, by omega⟩
    have hi : i < n := by omega
    have e : rd (marks m n) (i : Int) = m + (i : Int) := by rw [rd_nat _ (by simpa [marks_length] using hi)]; simp [marks]
    simp only [laws_heldIntS.l0]
    rw [if_pos (by simp [marks_length]; omega), if_pos (by omega), if_pos e, wrap_succ hi (by omega), show wrap64 (m + (i : Int) + 1) = m + ((i + 1 : Nat) : Int) from by rw [wrap_id] <;> omega]
    exact ih (i + 1) k (by omega) (by omega)
theorem heldIntS_eq {k n : Nat} {m : Int} (hm : 0 ≤ m) (hm2 : m ≤ 1099511627776) (hn : n ≤ 1048576) (hk : n < k) : laws_heldIntS.f k (marks m n) m = some (m + (n : Int)) := by
  unfold laws_heldIntS.f
  simpa using heldIntS_loop n m hm hm2 hn n 0 k (by omega) hk

theorem markRing_eq {k : Nat} {s : Int} {l : List Int} {m : Int} (hm : 0 ≤ m) (hm2 : m ≤ 1099511627776) (hn : l.length ≤ 1048576) (hk : l.length < k) : laws_markRing.f k s l m = some (m + (l.length : Int), marks m l.length) := by
  unfold laws_markRing.f; rw [markIntS_eq hm hm2 hn hk]; rfl

theorem heldRing_eq {k n : Nat} {s m : Int} (hm : 0 ≤ m) (hm2 : m ≤ 1099511627776) (hn : n ≤ 1048576) (hk : n < k) : laws_heldRing.f k s (marks m n) m = some (m + (n : Int)) := by
  unfold laws_heldRing.f; rw [heldIntS_eq hm hm2 hn hk, Option.bind_some, if_neg (by omega)]

theorem adjB_rising : ∀ {l : List Int}, adjB l = true → l.Pairwise (· < ·)
  | [], _ => List.Pairwise.nil
  | [a], _ => by simp
  | a :: b :: t, h => by
    rw [adjB, Bool.and_eq_true, decide_eq_true_eq] at h
    have ih := adjB_rising h.2
    refine List.pairwise_cons.2 ⟨fun y hy => ?_, ih⟩
    rcases List.mem_cons.1 hy with rfl | hy
    · exact h.1
    · have := (List.pairwise_cons.1 ih).1 y hy; omega
theorem ringB_rising {s : Int} {l : List Int} (h : ringB s l = true) : l.Pairwise (· < ·) := by
  simp only [ringB, risingB, Bool.and_eq_true] at h
  exact adjB_rising h.2.2
theorem ringB_mem {s : Int} {l : List Int} (h : ringB s l = true) : ∀ x ∈ l, 0 ≤ x ∧ x < s := by
  intro x hx
  simp only [ringB, risingB, Bool.and_eq_true, List.all_eq_true, inB, decide_eq_true_eq] at h
  have := h.2.1 x hx; omega
/-- Rising lists with the same numbers are the same. -/
theorem rising_ext : ∀ {l m : List Int}, l.Pairwise (· < ·) → m.Pairwise (· < ·) → (∀ y, y ∈ l ↔ y ∈ m) → l = m
  | [], [], _, _, _ => rfl
  | [], b :: t, _, _, h => by have := (h b).2 (by simp); simp at this
  | a :: s, [], _, _, h => by have := (h a).1 (by simp); simp at this
  | a :: s, b :: t, hl, hm, h => by
    obtain ⟨h1, h2⟩ := List.pairwise_cons.1 hl
    obtain ⟨h3, h4⟩ := List.pairwise_cons.1 hm
    have e : a = b := by
      rcases List.mem_cons.1 ((h a).1 (by simp)) with e | e
      · exact e
      · rcases List.mem_cons.1 ((h b).2 (by simp)) with e' | e'
        · exact e'.symm
        · have := h1 b e'; have := h3 a e; omega
    subst e
    rw [rising_ext h2 h4 (fun y => ⟨fun hy => ?_, fun hy => ?_⟩)]
    · rcases List.mem_cons.1 ((h y).1 (by simp [hy])) with e | e
      · have := h1 y hy; omega
      · exact e
    · rcases List.mem_cons.1 ((h y).2 (by simp [hy])) with e | e
      · have := h3 y hy; omega
      · exact e
theorem list_rising (p : Int → Bool) (k : Nat) : (impl_ringOf.list p k).Pairwise (· < ·) := by
  unfold impl_ringOf.list
  refine List.Pairwise.filter _ (List.Pairwise.map _ (fun a b h => ?_) List.pairwise_lt_range)
  exact Int.ofNat_lt.2 h
theorem list_mem (p : Int → Bool) (k : Nat) (y : Int) : y ∈ impl_ringOf.list p k ↔ (0 ≤ y ∧ y < (k : Int)) ∧ p y = true := by
  unfold impl_ringOf.list
  rw [List.mem_filter, List.mem_map]
  refine and_congr_left fun _ => ⟨?_, fun h => ⟨y.toNat, List.mem_range.2 (by omega), by simp; omega⟩⟩
  rintro ⟨a, ha, rfl⟩
  have := List.mem_range.1 ha
  constructor
  · exact Int.natCast_nonneg a
  · exact Int.ofNat_lt.2 this
/-- A rising list of numbers below n is what a test of its numbers picks. -/
theorem list_of {l : List Int} {p : Int → Bool} {n : Int} (hl : l.Pairwise (· < ·)) (h : ∀ y, y ∈ l ↔ (0 ≤ y ∧ y < n) ∧ p y = true) : impl_ringOf.list p n.toNat = l :=
  rising_ext (list_rising p n.toNat) hl fun y => by
    rw [list_mem, h y]
    refine and_congr_left fun _ => ?_
    omega

theorem spec_riHas_eq {k : Nat} {s x : Int} {l : List Int} (hn : l.length ≤ 1048576) (hk : l.length < k) : spec_riHas.f k s l x = some (ringB s l && decide (0 ≤ x ∧ x ≤ s - 1)) := by
  unfold spec_riHas.f
  rw [spec_riGood_eq hn hk, Option.bind_some]
  cases h : ringB s l with
  | false => rfl
  | true =>
    have := ringB_size h
    rw [if_pos rfl, wrap_id (by omega) (by omega), spec_l1In_eq]; rfl
theorem impl_has1_eq {k : Nat} {s x : Int} {l : List Int} (hn : l.length ≤ 1048576) (hk : l.length < k) : impl_Ring_has.f k s l [x] = some (ringB s l && decide (0 ≤ x ∧ x ≤ s - 1)) := by
  unfold impl_Ring_has.f impl_allWithin.f
  rw [impl_IsRing_eq hn hk, Option.bind_some]
  cases h : ringB s l with
  | false => rfl
  | true =>
    have := ringB_size h
    rw [if_pos rfl, wrap_id (by omega) (by omega)]; simp
theorem impl_has2_eq {k : Nat} {s x y : Int} {l : List Int} (hn : l.length ≤ 1048576) (hk : l.length < k) : impl_Ring_has.f k s l [x, y] = some (ringB s l && (decide (0 ≤ x ∧ x ≤ s - 1) && decide (0 ≤ y ∧ y ≤ s - 1))) := by
  unfold impl_Ring_has.f impl_allWithin.f
  rw [impl_IsRing_eq hn hk, Option.bind_some]
  cases h : ringB s l with
  | false => rfl
  | true =>
    have := ringB_size h
    rw [if_pos rfl, wrap_id (by omega) (by omega)]; simp

theorem spec_l1Has_loop (x : Int) (l : List Int) (hn : l.length ≤ 1048576) : ∀ (d i k : Nat), i + d = l.length → d < k → spec_l1Has.l0 k x l (l.length : Int) (i : Int) = some (decide (x ∈ l.drop i)) := by
  intro d
  induction d with
  | zero =>
    intro i k h hk
    obtain ⟨k, rfl⟩ : ∃ m, k = m + 1 := ⟨k - 1, by omega⟩
    simp only [spec_l1Has.l0]
    rw [if_neg (by omega), List.drop_of_length_le (by omega)]; simp
  | succ d ih =>
    intro i k h hk
    obtain ⟨k, rfl⟩ : ∃ m, k = m + 1 := ⟨k - 1, by omega⟩
    have hi : i < l.length := by omega
    have e : (x ∈ l.drop i) = (x = l[i] ∨ x ∈ l.drop (i + 1)) := by rw [List.drop_eq_getElem_cons hi, List.mem_cons]
    simp only [spec_l1Has.l0, e]
    rw [if_pos (by omega), if_pos (by omega), if_pos (by omega), rd_nat l hi, wrap_succ hi (by omega), ih (i + 1) k (by omega) (by omega)]
    by_cases c : l[i] = x
    · rw [if_pos c, decide_eq_true (.inl c.symm)]
    · rw [if_neg c]; exact congrArg some (decide_eq_decide.mpr ⟨.inr, fun h => h.resolve_left (fun h => c h.symm)⟩)
theorem spec_l1Has_eq {k : Nat} {x : Int} {l : List Int} (hn : l.length ≤ 1048576) (hk : l.length < k) : spec_l1Has.f k l x = some (decide (x ∈ l)) := by
  unfold spec_l1Has.f
  simpa using spec_l1Has_loop x l hn l.length 0 k (by omega) hk

/-- A number put into a rising list. -/
def insL (x : Int) : List Int → List Int
  | [] => [x]
  | a :: t => if a < x then a :: insL x t else if a = x then a :: t else x :: a :: t
theorem insL_mem (x y : Int) : ∀ l : List Int, y ∈ insL x l ↔ y = x ∨ y ∈ l
  | [] => by simp [insL]
  | a :: t => by
    have ih := insL_mem x y t
    unfold insL
    split
    · simp only [List.mem_cons, ih]; constructor
      · rintro (h | h | h)
        · exact .inr (.inl h)
        · exact .inl h
        · exact .inr (.inr h)
      · rintro (h | h | h)
        · exact .inr (.inl h)
        · exact .inl h
        · exact .inr (.inr h)
    · split
      · rename_i h1 h2
        simp only [List.mem_cons]; constructor
        · exact .inr
        · rintro (h | h)
          · exact .inl (h.trans h2.symm)
          · exact h
      · simp only [List.mem_cons]
theorem insL_rising (x : Int) : ∀ {l : List Int}, l.Pairwise (· < ·) → (insL x l).Pairwise (· < ·)
  | [], _ => by simp [insL]
  | a :: t, h => by
    obtain ⟨h1, h2⟩ := List.pairwise_cons.1 h
    unfold insL
    split
    · rename_i c
      refine List.pairwise_cons.2 ⟨fun y hy => ?_, insL_rising x h2⟩
      rcases (insL_mem x y t).1 hy with rfl | hy
      · exact c
      · exact h1 y hy
    · split
      · exact h
      · rename_i c1 c2
        refine List.pairwise_cons.2 ⟨fun y hy => ?_, h⟩
        rcases List.mem_cons.1 hy with rfl | hy
        · omega
        · have := h1 y hy; omega
theorem insL_len (x : Int) : ∀ l : List Int, (insL x l).length ≤ l.length + 1
  | [] => by simp [insL]
  | a :: t => by
    have := insL_len x t
    unfold insL
    split
    · simp; omega
    · split <;> simp
theorem spec_l1Put_l0 (x : Int) (l : List Int) (hn : l.length ≤ 1048576) : ∀ (d i k : Nat), i + d = l.length → d < k → spec_l1Put.l0 k l x (i : Int) = some (l.take i ++ insL x (l.drop i)) := by
  intro d
  induction d with
  | zero =>
    intro i k h hk
    obtain ⟨k, rfl⟩ : ∃ m, k = m + 1 := ⟨k - 1, by omega⟩
    simp only [spec_l1Put.l0]
    rw [if_neg (by omega), Option.bind_some, if_pos (by omega), if_pos (by omega), Option.bind_some, if_pos (by simp; omega), Option.bind_some, if_pos (by simp; omega), Option.bind_some, Option.bind_some, if_pos (by simp; omega)]
    simp only [Int.toNat_natCast, List.nil_append, List.append_assoc]
    rw [List.drop_of_length_le (by omega)]; rfl
  | succ d ih =>
    intro i k h hk
    obtain ⟨k, rfl⟩ : ∃ m, k = m + 1 := ⟨k - 1, by omega⟩
    have hi : i < l.length := by omega
    simp only [spec_l1Put.l0]
    rw [if_pos (by omega), if_pos (by omega), rd_nat l hi, wrap_succ hi (by omega), List.drop_eq_getElem_cons hi, insL]
    by_cases c1 : l[i] < x
    · rw [if_pos c1, if_pos c1, ih (i + 1) k (by omega) (by omega), List.take_succ_eq_append_getElem hi, List.append_assoc]; rfl
    · rw [if_neg c1, if_neg c1]
      by_cases c2 : l[i] = x
      · rw [if_pos c2, if_pos c2, ← List.drop_eq_getElem_cons hi, List.take_append_drop]
      · rw [if_neg c2, if_neg c2, Option.bind_some, if_pos (by omega), Option.bind_some, if_pos (by simp; omega), Option.bind_some, if_pos (by simp; omega), Option.bind_some, Option.bind_some, if_pos (by simp; omega)]
        simp only [Int.toNat_natCast, List.nil_append, List.append_assoc]
        rw [List.drop_eq_getElem_cons hi]; rfl
theorem spec_l1Put_eq {k : Nat} {x : Int} {l : List Int} (hn : l.length ≤ 1048576) (hk : l.length < k) : spec_l1Put.f k l x = some (insL x l) := by
  unfold spec_l1Put.f
  simpa using spec_l1Put_l0 x l hn l.length 0 k (by omega) hk

/-- The station before. -/
def bef (s a : Int) : Int := if a = 0 then s - 1 else a - 1
theorem bef_tmod {s a : Int} (h0 : 0 ≤ a) (h1 : a < s) (hs : s ≤ 12) : Int.tmod (wrap64 (wrap64 (a + s) - 1)) s = bef s a := by
  rw [wrap_id (x := a + s) (by omega) (by omega), wrap_id (x := a + s - 1) (by omega) (by omega), Int.tmod_eq_emod_of_nonneg (by omega)]
  unfold bef
  by_cases c : a = 0
  · subst c
    rw [if_pos rfl, Int.emod_eq_of_lt (by omega) (by omega)]; omega
  · rw [if_neg c, show a + s - 1 = a - 1 + s by omega, Int.add_emod_right, Int.emod_eq_of_lt (by omega) (by omega)]
theorem bef_range {s a : Int} (h0 : 0 ≤ a) (h1 : a < s) : 0 ≤ bef s a ∧ bef s a < s := by unfold bef; split <;> omega
theorem spec_riBefore_eq {s a : Int} (l : List Int) (h0 : 0 ≤ a) (h1 : a < s) (hs : s ≤ 12) : spec_riBefore.f s l a = some (bef s a) := by
  unfold spec_riBefore.f
  rw [if_neg (by omega), bef_tmod h0 h1 hs]

def keepB (x b : Int) (br : Bool) (l : List Int) (k : Int) : Bool := decide (k ≠ x) && (if k = b then br else decide (k ∈ l))
def shift (x k : Int) : Int := if k > x then k - 1 else k
def leaveL (x b : Int) (br : Bool) (l : List Int) : Nat → Int → List Int → List Int
  | 0, _, acc => acc
  | d + 1, k, acc => leaveL x b br l d (k + 1) (if keepB x b br l k then insL (shift x k) acc else acc)
theorem leaveL_rising (x b : Int) (br : Bool) (l : List Int) : ∀ (d : Nat) (k : Int) (acc : List Int), acc.Pairwise (· < ·) → (leaveL x b br l d k acc).Pairwise (· < ·)
  | 0, _, _, h => h
  | d + 1, k, acc, h => leaveL_rising x b br l d (k + 1) _ (by split; exact insL_rising _ h; exact h)
theorem leaveL_mem (x b : Int) (br : Bool) (l : List Int) (y : Int) : ∀ (d : Nat) (k : Int) (acc : List Int), y ∈ leaveL x b br l d k acc ↔ y ∈ acc ∨ ∃ j, (k ≤ j ∧ j < k + (d : Int)) ∧ keepB x b br l j = true ∧ y = shift x j
  | 0, k, acc => by
    rw [leaveL]
    exact ⟨.inl, fun h => h.resolve_right (by rintro ⟨j, h1, _⟩; omega)⟩
  | d + 1, k, acc => by
    rw [leaveL, leaveL_mem x b br l y d (k + 1)]
    constructor
    · rintro (h | ⟨j, h1, h2⟩)
      · by_cases c : keepB x b br l k = true
        · rw [if_pos c] at h
          rcases (insL_mem _ _ _).1 h with e | h
          · exact .inr ⟨k, by omega, c, e⟩
          · exact .inl h
        · rw [if_neg c] at h; exact .inl h
      · exact .inr ⟨j, by omega, h2⟩
    · rintro (h | ⟨j, h1, h2, h3⟩)
      · refine .inl ?_
        split
        · exact (insL_mem _ _ _).2 (.inr h)
        · exact h
      · by_cases c : j = k
        · subst c
          refine .inl ?_
          rw [if_pos h2, insL_mem]; exact .inl h3
        · exact .inr ⟨j, by omega, h2, h3⟩
theorem spec_leave_l0 (x b s : Int) (br : Bool) (l : List Int) (hn : l.length ≤ 1048576) (hs : 3 ≤ s ∧ s ≤ 12) (hx : 0 ≤ x ∧ x < s) : ∀ (d : Nat) (j : Int) (k : Nat) (acc : List Int), 0 ≤ j → j + (d : Int) = s → l.length + 2 * d + 20 < k → (acc.length : Int) ≤ j →
    spec_LeaveOut.l0 k x b br j s l (s - 1) acc = some (s - 1, leaveL x b br l d j acc, true) := by
  intro d
  induction d with
  | zero =>
    intro j k acc hj h hk _
    obtain ⟨k, rfl⟩ : ∃ m, k = m + 1 := ⟨k - 1, by omega⟩
    simp only [spec_LeaveOut.l0]
    rw [if_neg (by omega)]; rfl
  | succ d ih =>
    intro j k acc hj h hk ha
    obtain ⟨k, rfl⟩ : ∃ m, k = m + 2 := ⟨k - 2, by omega⟩
    have w1 : wrap64 (j + 1) = j + 1 := wrap_id (by omega) (by omega)
    have skip : spec_LeaveOut.j3 (k + 1) x b br j true s l (s - 1) acc = some (s - 1, leaveL x b br l d (j + 1) acc, true) := by
      simp only [spec_LeaveOut.j3, if_true]
      rw [w1, ih (j + 1) k acc (by omega) (by omega) (by omega) (by omega)]
    have put : spec_LeaveOut.j3 (k + 1) x b br j false s l (s - 1) acc = some (s - 1, leaveL x b br l d (j + 1) (insL (shift x j) acc), true) := by
      simp only [spec_LeaveOut.j3]
      rw [if_neg (by simp), w1]
      unfold shift
      by_cases c : j > x
      · rw [if_pos c, if_pos c, wrap_id (x := j - 1) (by omega) (by omega), spec_l1Put_eq (by omega) (by omega), Option.bind_some]
        exact ih (j + 1) k _ (by omega) (by omega) (by omega) (by have := insL_len (j - 1) acc; omega)
      · rw [if_neg c, if_neg c, spec_l1Put_eq (by omega) (by omega), Option.bind_some]
        exact ih (j + 1) k _ (by omega) (by omega) (by omega) (by have := insL_len j acc; omega)
    simp only [spec_LeaveOut.l0]
    rw [if_pos (by omega), leaveL]
    by_cases c1 : j = x
    · rw [if_pos c1, skip, if_neg (by simp [keepB, c1])]
    · rw [if_neg c1]
      by_cases c2 : j = b
      · rw [if_pos c2]
        cases br with
        | true => rw [if_pos rfl, put, if_pos (by simp [keepB, c1, c2]; omega)]
        | false => rw [if_neg (by simp), skip, if_neg (by simp [keepB, c2])]
      · rw [if_neg c2, spec_l1Has_eq hn (by omega), Option.bind_some]
        by_cases c3 : j ∈ l
        · rw [decide_eq_true c3, Bool.not_true, put, if_pos (by simp [keepB, c1, c2, c3])]
        · rw [decide_eq_false c3, Bool.not_false, skip, if_neg (by simp [keepB, c2, c3])]
theorem leave_list (x s : Int) (l : List Int) (hs : 3 ≤ s ∧ s ≤ 12) (hx : 0 ≤ x ∧ x < s) :
    impl_ringOf.list (fun i => (decide ((if x ≤ i then i + 1 else i) ∈ l) || (decide (((if x ≤ i then i + 1 else i) + 1) % s = x) && decide (x ∈ l)))) (s - 1).toNat = leaveL x (bef s x) (decide (x ∈ l) || decide (bef s x ∈ l)) l s.toNat 0 [] := by
  have hm : ∀ k, 0 ≤ k → k < s → ((k + 1) % s = x ↔ k = bef s x) := by
    intro k h0 h1
    unfold bef
    by_cases c : k + 1 = s
    · rw [c, Int.emod_self]; split <;> omega
    · rw [Int.emod_eq_of_lt (by omega) (by omega)]; split <;> omega
  refine list_of (leaveL_rising _ _ _ l _ _ [] List.Pairwise.nil) fun y => ?_
  rw [leaveL_mem]
  constructor
  · rintro (h | ⟨j, h1, h2, rfl⟩)
    · simp at h
    · simp only [keepB, Bool.and_eq_true, decide_eq_true_eq] at h2
      obtain ⟨h2, h3⟩ := h2
      have e : (if x ≤ shift x j then shift x j + 1 else shift x j) = j := by unfold shift; split <;> split <;> omega
      refine ⟨by unfold shift; split <;> omega, ?_⟩
      simp only [e]
      have hb := hm j (by omega) (by omega)
      by_cases c : j = bef s x
      · rw [if_pos c] at h3
        rw [decide_eq_true (hb.2 c), Bool.true_and, Bool.or_comm]; rw [← c] at h3; exact h3
      · rw [if_neg c] at h3; rw [h3, Bool.true_or]
  · rintro ⟨h, hp⟩
    refine .inr ⟨if x ≤ y then y + 1 else y, by split <;> omega, ?_, by unfold shift; split <;> split <;> omega⟩
    have hj0 : 0 ≤ (if x ≤ y then y + 1 else y) ∧ (if x ≤ y then y + 1 else y) < s ∧ (if x ≤ y then y + 1 else y) ≠ x := by split <;> omega
    generalize (if x ≤ y then y + 1 else y) = j at hp hj0
    have hb := hm j hj0.1 hj0.2.1
    simp only [keepB, Bool.and_eq_true, decide_eq_true_eq]
    refine ⟨hj0.2.2, ?_⟩
    by_cases c : j = bef s x
    · rw [if_pos c, ← c, Bool.or_comm]
      rw [decide_eq_true (hb.2 c), Bool.true_and] at hp; exact hp
    · rw [if_neg c]
      rw [decide_eq_false (fun e => c (hb.1 e)), Bool.false_and, Bool.or_false] at hp; exact hp
theorem both (s x : Int) (l : List Int) (hn : l.length ≤ 1048576) : ∃ v : Int × List Int × Bool, Ev (fun k => spec_LeaveOut.f k s l x) v ∧ Ev (fun k => impl_LeaveOut.f k s l x) v ∧ v.2.1.length ≤ 1048576 := by
  cases hb : (ringB s l && decide (0 ≤ x ∧ x ≤ s - 1)) with
  | false =>
    refine ⟨(0, [], false), ⟨l.length + 2, fun k hk => ?_⟩, ⟨l.length + 1, fun k hk => ?_⟩, by simp⟩
    · show spec_LeaveOut.f k s l x = _
      obtain ⟨k, rfl⟩ : ∃ m, k = m + 1 := ⟨k - 1, by omega⟩
      unfold spec_LeaveOut.f; rw [spec_riHas_eq (k := k + 1) hn (by omega), hb, Option.bind_some, if_neg (by simp)]; simp only [spec_LeaveOut.j0, if_true]
    · show impl_LeaveOut.f k s l x = _
      unfold impl_LeaveOut.f; rw [impl_has1_eq (k := k) hn (by omega), hb]; rfl
  | true =>
    obtain ⟨hr, hx⟩ : ringB s l = true ∧ (0 ≤ x ∧ x ≤ s - 1) := by simpa using hb
    have hs := ringB_size hr
    by_cases h3 : s < 3
    · refine ⟨(0, [], false), ⟨l.length + 2, fun k hk => ?_⟩, ⟨l.length + 1, fun k hk => ?_⟩, by simp⟩
      · show spec_LeaveOut.f k s l x = _
        obtain ⟨k, rfl⟩ : ∃ m, k = m + 1 := ⟨k - 1, by omega⟩
        unfold spec_LeaveOut.f; rw [spec_riHas_eq (k := k + 1) hn (by omega), hb, Option.bind_some, if_pos rfl, decide_eq_true h3]; simp only [spec_LeaveOut.j0, if_true]
      · show impl_LeaveOut.f k s l x = _
        unfold impl_LeaveOut.f; rw [impl_has1_eq (k := k) hn (by omega), hb, Option.bind_some, if_neg (by simp [h3])]
    · have e := leave_list x s l ⟨by omega, hs.2⟩ ⟨hx.1, by omega⟩
      have hle := impl_ringOf.list_len (fun i => (decide ((if x ≤ i then i + 1 else i) ∈ l) || (decide (((if x ≤ i then i + 1 else i) + 1) % s = x) && decide (x ∈ l)))) (s - 1).toNat
      rw [e] at hle
      have hbr := bef_range (s := s) hx.1 (by omega)
      refine ⟨(s - 1, leaveL x (bef s x) (decide (x ∈ l) || decide (bef s x ∈ l)) l s.toNat 0 [], true), ⟨l.length + 2 * s.toNat + 30, fun k hk => ?_⟩, ⟨l.length + 1, fun k hk => ?_⟩, by show (leaveL _ _ _ _ _ _ _).length ≤ _; omega⟩
      · show spec_LeaveOut.f k s l x = _
        obtain ⟨k, rfl⟩ : ∃ m, k = m + 2 := ⟨k - 2, by omega⟩
        unfold spec_LeaveOut.f; rw [spec_riHas_eq (k := k + 2) hn (by omega), hb, Option.bind_some, if_pos rfl, decide_eq_false h3]
        simp only [spec_LeaveOut.j0]
        rw [if_neg (by simp), spec_riBefore_eq l hx.1 (by omega) hs.2, Option.bind_some, spec_l1Has_eq hn (by omega), Option.bind_some]
        have fin : ∀ br, spec_LeaveOut.j1 (k + 1) x (bef s x) br s l = some (s - 1, leaveL x (bef s x) br l s.toNat 0 [], true) := by
          intro br
          simp only [spec_LeaveOut.j1]
          rw [wrap_id (x := s - 1) (by omega) (by omega)]
          exact spec_leave_l0 x (bef s x) s br l hn ⟨by omega, hs.2⟩ ⟨hx.1, by omega⟩ s.toNat 0 k [] (by omega) (by omega) (by omega) (by simp)
        by_cases c : x ∈ l
        · rw [decide_eq_true c, if_pos rfl, fin]; rfl
        · rw [decide_eq_false c, if_neg (by simp), spec_l1Has_eq hn (by omega), Option.bind_some, fin]; rfl
      · show impl_LeaveOut.f k s l x = _
        unfold impl_LeaveOut.f; rw [impl_has1_eq (k := k) hn (by omega), hb, Option.bind_some, if_pos (by simp [h3]), if_pos ⟨hn, by omega, by omega, by omega, by omega⟩, e]
theorem FnExactLeaveOut : FnExactLeaveOutPure := by
  intro s l x _ hm _ _
  unfold maxLen at hm
  by_cases hn : l.length ≤ 1048576
  · have n1 : ¬ (1048576 - (l.length : Int) < 0) := by omega
    obtain ⟨v, ⟨K1, h1⟩, ⟨K2, h2⟩, hv⟩ := both s x l hn
    obtain ⟨vs, vl, ok⟩ := v
    simp only at h1 h2 hv
    have n2 : ¬ (1 + (vl.length : Int) < 0) := by omega
    have n3 : ¬ (1 + (l.length : Int) < 0) := by omega
    have hv2 : vl.length ≤ 1048576 := by omega
    refine ⟨K1 + K2 + l.length + vl.length + 10, ?_⟩
    unfold laws_FnExactLeaveOut.f
    simp (disch := omega) only [Option.bind_some, ↓reduceIte, bne_self_eq_false, Bool.false_eq_true, h1, h2, szRing_ok hn, n1, n2, n3, toRing_eq hn, eqRing_refl hn, eqRing_refl hv2, markRing_eq, heldRing_eq]
    rw [laws_FnExactLeaveOut.j0]
    simp (disch := omega) only [Option.bind_some, ↓reduceIte, bne_self_eq_false, Bool.false_eq_true, h1, h2, szRing_ok hn, n1, n2, n3, toRing_eq hn, eqRing_refl hn, eqRing_refl hv2, markRing_eq, heldRing_eq]
    rw [laws_FnExactLeaveOut.j1]
    simp (disch := omega) only [Option.bind_some, ↓reduceIte, bne_self_eq_false, Bool.false_eq_true, h1, h2, szRing_ok hn, n1, n2, n3, toRing_eq hn, eqRing_refl hn, eqRing_refl hv2, markRing_eq, heldRing_eq]
    rw [laws_FnExactLeaveOut.j2]
    simp (disch := omega) only [Option.bind_some, ↓reduceIte, bne_self_eq_false, Bool.false_eq_true, h1, h2, szRing_ok hn, n1, n2, n3, toRing_eq hn, eqRing_refl hn, eqRing_refl hv2, markRing_eq, heldRing_eq]
  · exact ⟨0, by unfold laws_FnExactLeaveOut.f; rw [szRing_big hm hn]; rfl⟩

end Go.Proofs.Ytkaaoanjniahaaa.Pure
