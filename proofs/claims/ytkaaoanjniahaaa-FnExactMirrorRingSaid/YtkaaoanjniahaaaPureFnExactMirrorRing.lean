/- FnExactMirrorRing: the program's answer is the reference's, as plain functions over numbers and lists; no condition beyond the sizes that every value has. -/
import Derived.Test.YtkaaoanjniahaaaPFnExactMirrorRingx4
namespace Go.Proofs.Ytkaaoanjniahaaa.Pure
open Go.RowKit Go.Proofs.Ytkaaoanjniahaaa.PFnExactMirrorRing Go.Proofs.YtkaaoanjniahaaaW.PrintWords Go.Proofs.YtkaaoanjniahaaaW.PrintLast Go.Proofs.YtkaaoanjniahaaaW.PrintMore

/- It reaches: laws_szIntS.f, laws_szRing.f, laws_toIntS.f, laws_toRing.f, laws_eqIntS.f, laws_eqRing.f, spec_l1In.f, spec_l1Rising.f, spec_riGood.f, spec_riNext.f, spec_l1Put.f, spec_MirrorRing.f, impl_ringOf.f, slices_Index_int_int.f, slices_Contains_int_int.f, impl_Ring_isBroken.f, impl_within.f, impl_isRingSize.f, impl_allWithin.f, impl_areRising.f, impl_IsRing.f, impl_MirrorRing.f, laws_markIntS.f, laws_markRing.f, laws_heldIntS.f, laws_heldRing.f, laws_FnExactMirrorRing.f -/
def FnExactMirrorRingPure : Prop := ∀ (a0_0 : Int) (l0_1 : List Int), (Lit.int .i64 a0_0).wf = true → l0_1.length ≤ maxLen → (∀ x ∈ l0_1, (Lit.int .i64 x).wf = true) → ∃ k, laws_FnExactMirrorRing.f k a0_0 l0_1 = some true
set_option linter.unusedSimpArgs false
set_option linter.unusedVariables false
theorem wrap_id {x : Int} (h1 : -9223372036854775808 ≤ x) (h2 : x ≤ 9223372036854775807) : wrap64 x = x := by unfold wrap64; omega
theorem wrap_succ {i n : Nat} (h : i < n) (hn : n ≤ 4611686018427387904) : wrap64 ((i : Int) + 1) = ((i + 1 : Nat) : Int) := by rw [wrap_id] <;> omega
theorem rd_nat (l : List Int) {i : Nat} (h : i < l.length) : rd l (i : Int) = l[i] := by simp [rd, h]
theorem rd_mem (l : List Int) {i : Nat} (h : i < l.length) : rd l (i : Int) ∈ l := by rw [rd_nat l h]; exact List.getElem_mem h
/-- One round, and the end. -/
theorem ev_end {α : Type} {g : Nat → Option α} {r : α} (h : ∀ k, g (k + 1) = some r) : Ev g r := Ev.step h (Ev.now r)
theorem ev_of {α : Type} {g : Nat → Option α} {r : α} (h : ∀ k, g k = some r) : Ev g r := ⟨0, fun k _ => h k⟩
theorem ev_eq {α : Type} {g : Nat → Option α} {r r' : α} (h : Ev g r) (e : r = r') : Ev g r' := e ▸ h

/-- Is each number less than the next one? -/
def adjB : List Int → Bool
  | a :: b :: t => decide (a < b) && adjB (b :: t)
  | _ => true
def inB (lo hi x : Int) : Bool := decide (lo ≤ x ∧ x ≤ hi)
def risingB (l : List Int) (lo hi : Int) : Bool := l.all (inB lo hi) && adjB l
theorem adjB_at (l : List Int) {i : Nat} (h0 : 0 < i) (h : i < l.length) : adjB (l.drop (i - 1)) = (decide (l[i - 1] < l[i]) && adjB (l.drop i)) := by
  rw [List.drop_eq_getElem_cons (show i - 1 < l.length by omega), show i - 1 + 1 = i from by omega, List.drop_eq_getElem_cons h, adjB]
theorem wrap_pred {i n : Nat} (h0 : 0 < i) (h : i < n) (hn : n ≤ 4611686018427387904) : wrap64 ((i : Int) - 1) = ((i - 1 : Nat) : Int) := by rw [wrap_id] <;> omega

theorem spec_l1In_eq (a b c : Int) : spec_l1In.f a b c = some (decide (b ≤ a ∧ a ≤ c)) := by
  unfold spec_l1In.f
  by_cases h : b ≤ a <;> simp [h]

theorem spec_l1Rising_loop (lo hi : Int) (l : List Int) (hn : l.length ≤ 1048576) : ∀ (d i k : Nat), i + d = l.length → d < k →
    spec_l1Rising.l0 k l lo hi l (l.length : Int) (i : Int) = some ((l.drop i).all (inB lo hi) && adjB (l.drop (i - 1))) := by
  intro d
  induction d with
  | zero =>
    intro i k h hk
    obtain ⟨k, rfl⟩ : ∃ m, k = m + 1 := ⟨k - 1, by omega⟩
    simp only [spec_l1Rising.l0]
    rw [if_neg (by omega), List.drop_of_length_le (l := l) (i := i) (by omega)]
    have : adjB (l.drop (i - 1)) = true := by
      rcases Nat.eq_zero_or_pos i with h0 | h0
      · rw [h0, List.drop_of_length_le (by omega)]; rfl
      · rw [List.drop_eq_getElem_cons (show i - 1 < l.length by omega), List.drop_of_length_le (by omega)]; rfl
    simp [this]
  | succ d ih =>
    intro i k h hk
    obtain ⟨k, rfl⟩ : ∃ m, k = m + 1 := ⟨k - 1, by omega⟩
    have hlt : i < l.length := by omega
    have nx := ih (i + 1) k (by omega) (by omega)
    rw [Nat.add_sub_cancel] at nx
    have e : (l.drop i).all (inB lo hi) = (inB lo hi l[i] && (l.drop (i + 1)).all (inB lo hi)) := by rw [List.drop_eq_getElem_cons hlt, List.all_cons]
    simp only [spec_l1Rising.l0, spec_l1In_eq, Option.bind_some]
    rw [if_pos (by omega), if_pos (by omega), if_pos (by omega), rd_nat l hlt, wrap_succ hlt (by omega), e]
    by_cases c : lo ≤ l[i] ∧ l[i] ≤ hi
    · rw [if_pos (by simpa using c)]
      by_cases h0 : 0 < i
      · rw [if_pos (by omega), wrap_pred h0 hlt (by omega), if_pos (by omega), if_pos (by omega), rd_nat l (show i - 1 < l.length by omega), adjB_at l h0 hlt]
        by_cases c2 : l[i - 1] < l[i]
        · rw [if_neg (by omega), nx]; simp [inB, c, c2]
        · rw [if_pos (by omega)]; simp [c2]
      · obtain rfl : i = 0 := by omega
        rw [if_neg (by omega), nx]; simp [inB, c]
    · rw [if_neg (by simpa using c)]; simp only [inB, decide_eq_false c, Bool.false_and]
theorem spec_l1Rising_eq {k : Nat} {l : List Int} {lo hi : Int} (hn : l.length ≤ 1048576) (hk : l.length < k) : spec_l1Rising.f k l lo hi = some (risingB l lo hi) := by
  unfold spec_l1Rising.f
  simpa [risingB] using spec_l1Rising_loop lo hi l hn l.length 0 k (by omega) hk

theorem impl_areRising_loop (lo hi : Int) (l : List Int) (hn : l.length ≤ 1048576) : ∀ (d i k : Nat), i + d = l.length → d < k →
    impl_areRising.l0 k l lo hi l (l.length : Int) (i : Int) = some (adjB (l.drop (i - 1)) && l.all (inB lo hi)) := by
  intro d
  induction d with
  | zero =>
    intro i k h hk
    obtain ⟨k, rfl⟩ : ∃ m, k = m + 1 := ⟨k - 1, by omega⟩
    simp only [impl_areRising.l0]
    rw [if_neg (by omega)]
    have : adjB (l.drop (i - 1)) = true := by
      rcases Nat.eq_zero_or_pos i with h0 | h0
      · rw [h0, List.drop_of_length_le (by omega)]; rfl
      · rw [List.drop_eq_getElem_cons (show i - 1 < l.length by omega), List.drop_of_length_le (by omega)]; rfl
    rw [this, Bool.true_and]; rfl
  | succ d ih =>
    intro i k h hk
    obtain ⟨k, rfl⟩ : ∃ m, k = m + 1 := ⟨k - 1, by omega⟩
    have hlt : i < l.length := by omega
    have nx := ih (i + 1) k (by omega) (by omega)
    rw [Nat.add_sub_cancel] at nx
    simp only [impl_areRising.l0]
    rw [if_pos (by omega), if_pos (by omega), if_pos (by omega), rd_nat l hlt, wrap_succ hlt (by omega)]
    by_cases h0 : 0 < i
    · rw [if_pos (by omega), wrap_pred h0 hlt (by omega), if_pos (by omega), if_pos (by omega), rd_nat l (show i - 1 < l.length by omega), adjB_at l h0 hlt]
      by_cases c2 : l[i - 1] < l[i]
      · rw [if_neg (by omega), nx]; simp [c2]
      · rw [if_pos (by omega)]; simp [c2]
    · obtain rfl : i = 0 := by omega
      rw [if_neg (by omega), nx]
theorem impl_areRising_eq {k : Nat} {l : List Int} {lo hi : Int} (hn : l.length ≤ 1048576) (hk : l.length < k) : impl_areRising.f k l lo hi = some (risingB l lo hi) := by
  unfold impl_areRising.f
  have := impl_areRising_loop lo hi l hn l.length 0 k (by omega) hk
  rw [show ((0 : Nat) : Int) = 0 from rfl] at this
  simp [this, risingB, Bool.and_comm]

theorem impl_within_eq (a b c : Int) : impl_within.f a b c = some (decide (b ≤ a ∧ a ≤ c)) := by
  unfold impl_within.f
  by_cases h : b ≤ a <;> simp [h]

theorem toIntS_loop (l : List Int) (hn : l.length ≤ 1048576) : ∀ (d i k : Nat), i + d = l.length → d < k → laws_toIntS.l0 k l (l.take i ++ List.replicate d 0) (i : Int) = some l := by
  intro d
  induction d with
  | zero =>
    intro i k h hk
    obtain ⟨k, rfl⟩ : ∃ m, k = m + 1 := ⟨k - 1, by omega⟩
    simp only [laws_toIntS.l0]
    rw [if_neg (by omega)]
    simp [List.take_of_length_le (show l.length ≤ i by omega)]
  | succ d ih =>
    intro i k h hk
    obtain ⟨k, rfl⟩ : ∃ m, k = m + 1 := ⟨k - 1, by omega⟩
    have hi : i < l.length := by omega
    have e : (l.take i ++ List.replicate (d + 1) 0).set i (rd l (i : Int)) = l.take (i + 1) ++ List.replicate d 0 := by
      rw [rd_nat l hi, List.set_append_right _ _ (by simp; omega)]
      simp only [List.length_take, Nat.min_eq_left (Nat.le_of_lt hi), Nat.sub_self, List.replicate_succ, List.set_cons_zero]
      rw [List.take_succ_eq_append_getElem hi, List.append_assoc]; rfl
    simp only [laws_toIntS.l0]
    rw [if_pos (by omega), if_pos (by omega), if_pos (by simp; omega), Int.toNat_natCast, e, wrap_succ hi (by omega)]
    exact ih (i + 1) k (by omega) (by omega)
theorem toIntS_eq {k : Nat} {l : List Int} (hn : l.length ≤ 1048576) (hk : l.length < k) : laws_toIntS.f k l = some l := by
  unfold laws_toIntS.f
  rw [if_pos (by omega), if_pos (by omega), Int.toNat_natCast]
  have := toIntS_loop l hn l.length 0 k (by omega) hk
  simpa using this

theorem eqIntS_loop (l : List Int) (hn : l.length ≤ 1048576) : ∀ (d i k : Nat), i + d = l.length → d < k → laws_eqIntS.l0 k l l (i : Int) = some true := by
  intro d
  induction d with
  | zero =>
    intro i k h hk
    obtain ⟨k, rfl⟩ : ∃ m, k = m + 1 := ⟨k - 1, by omega⟩
    simp only [laws_eqIntS.l0]
    rw [if_neg (by omega)]
  | succ d ih =>
    intro i k h hk
    obtain ⟨k, rfl⟩ : ∃ m, k = m + 1 := ⟨k - 1, by omega⟩
    simp only [laws_eqIntS.l0]
    rw [if_pos (by omega), if_pos (by omega), if_pos (by omega), if_pos trivial, wrap_succ (n := l.length) (by omega) (by omega)]
    exact ih (i + 1) k (by omega) (by omega)
theorem eqIntS_refl {k : Nat} {l : List Int} (hn : l.length ≤ 1048576) (hk : l.length < k) : laws_eqIntS.f k l l = some true := by
  unfold laws_eqIntS.f
  rw [if_pos rfl]
  exact eqIntS_loop l hn l.length 0 k (by omega) hk

theorem eqRing_refl {k : Nat} {s : Int} {l : List Int} (hn : l.length ≤ 1048576) (hk : l.length < k) : laws_eqRing.f k s l s l = some true := by
  unfold laws_eqRing.f
  rw [if_pos rfl, eqIntS_refl hn hk]
  rfl

/-- What both call a ring. -/
def ringB (s : Int) (l : List Int) : Bool := decide (2 ≤ s ∧ s ≤ 12) && risingB l 0 (s - 1)
theorem ringB_size {s : Int} {l : List Int} (h : ringB s l = true) : 2 ≤ s ∧ s ≤ 12 := by simp [ringB] at h; exact h.1
theorem spec_riGood_eq {k : Nat} {s : Int} {l : List Int} (hn : l.length ≤ 1048576) (hk : l.length < k) : spec_riGood.f k s l = some (ringB s l) := by
  unfold spec_riGood.f ringB
  simp only [spec_l1In_eq, Option.bind_some]
  by_cases h : 2 ≤ s ∧ s ≤ 12
  · rw [if_pos (by simpa using h), wrap_id (by omega) (by omega), spec_l1Rising_eq hn hk]; simp [h]
  · rw [if_neg (by simpa using h)]; simp [h]
theorem impl_IsRing_eq {k : Nat} {s : Int} {l : List Int} (hn : l.length ≤ 1048576) (hk : l.length < k) : impl_IsRing.f k s l = some (ringB s l) := by
  unfold impl_IsRing.f impl_isRingSize.f ringB
  simp only [impl_within_eq, Option.bind_some]
  by_cases h : 2 ≤ s ∧ s ≤ 12
  · rw [if_pos (by simpa using h), wrap_id (by omega) (by omega), impl_areRising_eq hn hk]; simp [h]
  · rw [if_neg (by simpa using h)]; simp [h]
theorem szRing_big {s : Int} {l : List Int} (hm : l.length ≤ 9223372036854775807) (h : ¬ l.length ≤ 1048576) : laws_szRing.f s l 1048576 = some (-1) := by
  unfold laws_szRing.f laws_szIntS.f
  rw [wrap_id (by omega) (by omega), if_pos (by omega)]; rfl
theorem szRing_ok {s : Int} {l : List Int} (h : l.length ≤ 1048576) : laws_szRing.f s l 1048576 = some (1048576 - (l.length : Int)) := by
  unfold laws_szRing.f laws_szIntS.f
  rw [wrap_id (by omega) (by omega), if_neg (by omega), Option.bind_some, if_neg (by omega)]
theorem toRing_eq {k : Nat} {s : Int} {l : List Int} (hn : l.length ≤ 1048576) (hk : l.length < k) : laws_toRing.f k s l = some (s, l) := by
  unfold laws_toRing.f
  rw [toIntS_eq hn hk]; rfl

/-- n numbers from m on. -/
def marks (m : Int) (n : Nat) : List Int := (List.range n).map fun (j : Nat) => m + (j : Int)
theorem marks_length (m : Int) (n : Nat) : (marks m n).length = n := by simp [marks]
theorem marks_succ (m : Int) (n : Nat) : marks m (n + 1) = marks m n ++ [m + (n : Int)] := by simp [marks, List.range_succ]
theorem markIntS_loop (l : List Int) (m : Int) (hm : 0 ≤ m) (hm2 : m ≤ 1099511627776) (hn : l.length ≤ 1048576) : ∀ (d i k : Nat), i + d = l.length → d < k →
    laws_markIntS.l0 k (marks m i ++ l.drop i) (m + (i : Int)) (i : Int) = some (m + (l.length : Int), marks m l.length) := by
  intro d
  induction d with
  | zero =>
    intro i k h hk
    obtain ⟨k, rfl⟩ : ∃ m, k = m + 1 := ⟨k - 1, by omega⟩
    obtain rfl : i = l.length := by omega
    simp only [laws_markIntS.l0]
    rw [if_neg (by simp [marks_length])]
    simp
  | succ d ih =>
    intro i k h hk
    obtain ⟨k, rfl⟩ : ∃ m, k = m + 1 := ⟨k - 1, by omega⟩
    have hi : i < l.length := by omega
    have e : (marks m i ++ l.drop i).set i (m + (i : Int)) = marks m (i + 1) ++ l.drop (i + 1) := by
      rw [List.set_append_right _ _ (by simp [marks_length]), marks_length, Nat.sub_self, List.drop_eq_getElem_cons hi, List.set_cons_zero, marks_succ, List.append_assoc]; rfl
    simp only [laws_markIntS.l0]
    rw [if_pos (by simp [marks_length]; omega), if_pos (by omega), Int.toNat_natCast, e, wrap_succ hi (by omega), show wrap64 (m + (i : Int) + 1) = m + ((i + 1 : Nat) : Int) from by rw [wrap_id] <;> omega]
    exact ih (i + 1) k (by omega) (by omega)
theorem markIntS_eq {k : Nat} {l : List Int} {m : Int} (hm : 0 ≤ m) (hm2 : m ≤ 1099511627776) (hn : l.length ≤ 1048576) (hk : l.length < k) : laws_markIntS.f k l m = some (m + (l.length : Int), marks m l.length) := by
  unfold laws_markIntS.f
  have := markIntS_loop l m hm hm2 hn l.length 0 k (by omega) hk
  simpa [marks] using this
theorem heldIntS_loop (n : Nat) (m : Int) (hm : 0 ≤ m) (hm2 : m ≤ 1099511627776) (hn : n ≤ 1048576) : ∀ (d i k : Nat), i + d = n → d < k → laws_heldIntS.l0 k (marks m n) (m + (i : Int)) (i : Int) = some (m + (n : Int)) := by
  intro d
  induction d with
  | zero =>
    intro i k h hk
    obtain ⟨k, rfl⟩ : ∃ m, k = m + 1 := ⟨k - 1, by omega⟩
    obtain rfl : i = n := by omega
    simp only [laws_heldIntS.l0]
    rw [if_neg (by simp [marks_length])]
  | succ d ih =>
    intro i k h hk
    obtain ⟨k, rfl⟩ : ∃ m, k = m + 1 := ⟨k - 1, by omega⟩
    have hi : i < n := by omega
    have e : rd (marks m n) (i : Int) = m + (i : Int) := by rw [rd_nat _ (by simpa [marks_length] using hi)]; simp [marks]
    simp only [laws_heldIntS.l0]
    rw [if_pos (by simp [marks_length]; omega), if_pos (by omega), if_pos e, wrap_succ hi (by omega), show wrap64 (m + (i : Int) + 1) = m + ((i + 1 : Nat) : Int) from by rw [wrap_id] <;> omega]
    exact ih (i + 1) k (by omega) (by omega)
theorem heldIntS_eq {k n : Nat} {m : Int} (hm : 0 ≤ m) (hm2 : m ≤ 1099511627776) (hn : n ≤ 1048576) (hk : n < k) : laws_heldIntS.f k (marks m n) m = some (m + (n : Int)) := by
  unfold laws_heldIntS.f
  simpa using heldIntS_loop n m hm hm2 hn n 0 k (by omega) hk

theorem markRing_eq {k : Nat} {s : Int} {l : List Int} {m : Int} (hm : 0 ≤ m) (hm2 : m ≤ 1099511627776) (hn : l.length ≤ 1048576) (hk : l.length < k) : laws_markRing.f k s l m = some (m + (l.length : Int), marks m l.length) := by
  unfold laws_markRing.f; rw [markIntS_eq hm hm2 hn hk]; rfl
theorem heldRing_eq {k n : Nat} {s m : Int} (hm : 0 ≤ m) (hm2 : m ≤ 1099511627776) (hn : n ≤ 1048576) (hk : n < k) : laws_heldRing.f k s (marks m n) m = some (m + (n : Int)) := by
  unfold laws_heldRing.f; rw [heldIntS_eq hm hm2 hn hk, Option.bind_some, if_neg (by omega)]

theorem adjB_rising : ∀ {l : List Int}, adjB l = true → l.Pairwise (· < ·)
  | [], _ => List.Pairwise.nil
  | [a], _ => by simp
  | a :: b :: t, h => by
    rw [adjB, Bool.and_eq_true, decide_eq_true_eq] at h
    have ih := adjB_rising h.2
    refine List.pairwise_cons.2 ⟨fun y hy => ?_, ih⟩
    rcases List.mem_cons.1 hy with rfl | hy
    · exact h.1
    · have := (List.pairwise_cons.1 ih).1 y hy; omega
theorem ringB_rising {s : Int} {l : List Int} (h : ringB s l = true) : l.Pairwise (· < ·) := by
  simp only [ringB, risingB, Bool.and_eq_true] at h
  exact adjB_rising h.2.2
theorem ringB_mem {s : Int} {l : List Int} (h : ringB s l = true) : ∀ x ∈ l, 0 ≤ x ∧ x < s := by
  intro x hx
  simp only [ringB, risingB, Bool.and_eq_true, List.all_eq_true, inB, decide_eq_true_eq] at h
  have := h.2.1 x hx; omega
/-- Rising lists with the same numbers are the same. -/
theorem rising_ext : ∀ {l m : List Int}, l.Pairwise (· < ·) → m.Pairwise (· < ·) → (∀ y, y ∈ l ↔ y ∈ m) → l = m
  | [], [], _, _, _ => rfl
  | [], b :: t, _, _, h => by have := (h b).2 (by simp); simp at this
  | a :: s, [], _, _, h => by have := (h a).1 (by simp); simp at this
  | a :: s, b :: t, hl, hm, h => by
    obtain ⟨h1, h2⟩ := List.pairwise_cons.1 hl
    obtain ⟨h3, h4⟩ := List.pairwise_cons.1 hm
    have e : a = b := by
      rcases List.mem_cons.1 ((h a).1 (by simp)) with e | e
      · exact e
      · rcases List.mem_cons.1 ((h b).2 (by simp)) with e' | e'
        · exact e'.symm
        · have := h1 b e'; have := h3 a e; omega
    subst e
    rw [rising_ext h2 h4 (fun y => ⟨fun hy => ?_, fun hy => ?_⟩)]
    · rcases List.mem_cons.1 ((h y).1 (by simp [hy])) with e | e
      · have := h1 y hy; omega
      · exact e
    · rcases List.mem_cons.1 ((h y).2 (by simp [hy])) with e | e
      · have := h3 y hy; omega
      · exact e
theorem list_rising (p : Int → Bool) (k : Nat) : (impl_ringOf.list p k).Pairwise (· < ·) := by
  unfold impl_ringOf.list
  refine List.Pairwise.filter _ (List.Pairwise.map _ (fun a b h => ?_) List.pairwise_lt_range)
  exact Int.ofNat_lt.2 h
theorem list_mem (p : Int → Bool) (k : Nat) (y : Int) : y ∈ impl_ringOf.list p k ↔ (0 ≤ y ∧ y < (k : Int)) ∧ p y = true := by
  unfold impl_ringOf.list
  rw [List.mem_filter, List.mem_map]
  refine and_congr_left fun _ => ⟨?_, fun h => ⟨y.toNat, List.mem_range.2 (by omega), by simp; omega⟩⟩
  rintro ⟨a, ha, rfl⟩
  have := List.mem_range.1 ha
  constructor
  · exact Int.natCast_nonneg a
  · exact Int.ofNat_lt.2 this
/-- A rising list of numbers below n is what a test of its numbers picks. -/
theorem list_of {l : List Int} {p : Int → Bool} {n : Int} (hl : l.Pairwise (· < ·)) (h : ∀ y, y ∈ l ↔ (0 ≤ y ∧ y < n) ∧ p y = true) : impl_ringOf.list p n.toNat = l :=
  rising_ext (list_rising p n.toNat) hl fun y => by
    rw [list_mem, h y]
    refine and_congr_left fun _ => ?_
    omega

/-- The next station. -/
def nxt (s a : Int) : Int := if a + 1 = s then 0 else a + 1
theorem nxt_tmod {s a : Int} (h0 : 0 ≤ a) (h1 : a < s) (hs : s ≤ 12) : Int.tmod (wrap64 (a + 1)) s = nxt s a := by
  rw [wrap_id (by omega) (by omega), Int.tmod_eq_emod_of_nonneg (by omega)]
  unfold nxt
  by_cases c : a + 1 = s
  · rw [if_pos c, c, Int.emod_self]
  · rw [if_neg c, Int.emod_eq_of_lt (by omega) (by omega)]
theorem nxt_range {s a : Int} (h0 : 0 ≤ a) (h1 : a < s) : 0 ≤ nxt s a ∧ nxt s a < s := by unfold nxt; split <;> omega
theorem spec_riNext_eq {s a : Int} (l : List Int) (h0 : 0 ≤ a) (h1 : a < s) (hs : s ≤ 12) : spec_riNext.f s l a = some (nxt s a) := by
  unfold spec_riNext.f
  rw [if_neg (by omega), nxt_tmod h0 h1 hs]

/-- A number put into a rising list. -/
def insL (x : Int) : List Int → List Int
  | [] => [x]
  | a :: t => if a < x then a :: insL x t else if a = x then a :: t else x :: a :: t
theorem insL_mem (x y : Int) : ∀ l : List Int, y ∈ insL x l ↔ y = x ∨ y ∈ l
  | [] => by simp [insL]
  | a :: t => by
    have ih := insL_mem x y t
    unfold insL
    split
    · simp only [List.mem_cons, ih]; constructor
      · rintro (h | h | h)
        · exact .inr (.inl h)
        · exact .inl h
        · exact .inr (.inr h)
      · rintro (h | h | h)
        · exact .inr (.inl h)
        · exact .inl h
        · exact .inr (.inr h)
    · split
      · rename_i h1 h2
        simp only [List.mem_cons]; constructor
        · exact .inr
        · rintro (h | h)
          · exact .inl (h.trans h2.symm)
          · exact h
      · simp only [List.mem_cons]
theorem insL_rising (x : Int) : ∀ {l : List Int}, l.Pairwise (· < ·) → (insL x l).Pairwise (· < ·)
  | [], _ => by simp [insL]
  | a :: t, h => by
    obtain ⟨h1, h2⟩ := List.pairwise_cons.1 h
    unfold insL
    split
    · rename_i c
      refine List.pairwise_cons.2 ⟨fun y hy => ?_, insL_rising x h2⟩
      rcases (insL_mem x y t).1 hy with rfl | hy
      · exact c
      · exact h1 y hy
    · split
      · exact h
      · rename_i c1 c2
        refine List.pairwise_cons.2 ⟨fun y hy => ?_, h⟩
        rcases List.mem_cons.1 hy with rfl | hy
        · omega
        · have := h1 y hy; omega
theorem insL_len (x : Int) : ∀ l : List Int, (insL x l).length ≤ l.length + 1
  | [] => by simp [insL]
  | a :: t => by
    have := insL_len x t
    unfold insL
    split
    · simp; omega
    · split <;> simp
theorem spec_l1Put_l0 (x : Int) (l : List Int) (hn : l.length ≤ 1048576) : ∀ (d i k : Nat), i + d = l.length → d < k → spec_l1Put.l0 k l x (i : Int) = some (l.take i ++ insL x (l.drop i)) := by
  intro d
  induction d with
  | zero =>
    intro i k h hk
    obtain ⟨k, rfl⟩ : ∃ m, k = m + 1 := ⟨k - 1, by omega⟩
    simp only [spec_l1Put.l0]
    rw [if_neg (by omega), Option.bind_some, if_pos (by omega), if_pos (by omega), Option.bind_some, if_pos (by simp; omega), Option.bind_some, if_pos (by simp; omega), Option.bind_some, Option.bind_some, if_pos (by simp; omega)]
    simp only [Int.toNat_natCast, List.nil_append, List.append_assoc]
    rw [List.drop_of_length_le (by omega)]; rfl
  | succ d ih =>
    intro i k h hk
    obtain ⟨k, rfl⟩ : ∃ m, k = m + 1 := ⟨k - 1, by omega⟩
    have hi : i < l.length := by omega
    simp only [spec_l1Put.l0]
    rw [if_pos (by omega), if_pos (by omega), rd_nat l hi, wrap_succ hi (by omega), List.drop_eq_getElem_cons hi, insL]
    by_cases c1 : l[i] < x
    · rw [if_pos c1, if_pos c1, ih (i + 1) k (by omega) (by omega), List.take_succ_eq_append_getElem hi, List.append_assoc]; rfl
    · rw [if_neg c1, if_neg c1]
      by_cases c2 : l[i] = x
      · rw [if_pos c2, if_pos c2, ← List.drop_eq_getElem_cons hi, List.take_append_drop]
      · rw [if_neg c2, if_neg c2, Option.bind_some, if_pos (by omega), Option.bind_some, if_pos (by simp; omega), Option.bind_some, if_pos (by simp; omega), Option.bind_some, Option.bind_some, if_pos (by simp; omega)]
        simp only [Int.toNat_natCast, List.nil_append, List.append_assoc]
        rw [List.drop_eq_getElem_cons hi]; rfl
theorem spec_l1Put_eq {k : Nat} {x : Int} {l : List Int} (hn : l.length ≤ 1048576) (hk : l.length < k) : spec_l1Put.f k l x = some (insL x l) := by
  unfold spec_l1Put.f
  simpa using spec_l1Put_l0 x l hn l.length 0 k (by omega) hk

def mirL (s : Int) (acc : List Int) : List Int → List Int
  | [] => acc
  | a :: t => mirL s (insL (s - 1 - nxt s a) acc) t
theorem mirL_len (s : Int) : ∀ (l acc : List Int), (mirL s acc l).length ≤ acc.length + l.length
  | [], acc => by simp [mirL]
  | a :: t, acc => by
    have h1 := mirL_len s t (insL (s - 1 - nxt s a) acc)
    have h2 := insL_len (s - 1 - nxt s a) acc
    rw [mirL, List.length_cons]; omega
theorem mirL_rising (s : Int) : ∀ (l acc : List Int), acc.Pairwise (· < ·) → (mirL s acc l).Pairwise (· < ·)
  | [], _, h => h
  | a :: t, acc, h => mirL_rising s t _ (insL_rising _ h)
theorem mirL_mem (s y : Int) : ∀ (l acc : List Int), y ∈ mirL s acc l ↔ y ∈ acc ∨ ∃ a ∈ l, y = s - 1 - nxt s a
  | [], acc => by simp [mirL]
  | a :: t, acc => by
    rw [mirL, mirL_mem s y t, insL_mem]
    constructor
    · rintro ((h | h) | ⟨b, hb, h⟩)
      · exact .inr ⟨a, by simp, h⟩
      · exact .inl h
      · exact .inr ⟨b, by simp [hb], h⟩
    · rintro (h | ⟨b, hb, h⟩)
      · exact .inl (.inr h)
      · rcases List.mem_cons.1 hb with rfl | hb
        · exact .inl (.inl h)
        · exact .inr ⟨b, hb, h⟩
theorem spec_mir_l0 (s : Int) (l : List Int) (hn : l.length ≤ 1048576) (hs : 2 ≤ s ∧ s ≤ 12) (hl : ∀ a ∈ l, 0 ≤ a ∧ a < s) : ∀ (d i k : Nat) (acc : List Int), i + d = l.length → l.length + d + 1 < k → acc.length ≤ i → spec_MirrorRing.l0 k l (l.length : Int) (i : Int) s l s acc = some (s, mirL s acc (l.drop i), true) := by
  intro d
  induction d with
  | zero =>
    intro i k acc h hk _
    obtain ⟨k, rfl⟩ : ∃ m, k = m + 1 := ⟨k - 1, by omega⟩
    simp only [spec_MirrorRing.l0]
    rw [if_neg (by omega), List.drop_of_length_le (by omega)]; rfl
  | succ d ih =>
    intro i k acc h hk ha
    obtain ⟨k, rfl⟩ : ∃ m, k = m + 1 := ⟨k - 1, by omega⟩
    have hi : i < l.length := by omega
    have hli := hl l[i] (List.getElem_mem hi)
    have hr := nxt_range hli.1 hli.2
    simp only [spec_MirrorRing.l0]
    rw [if_pos (by omega), if_pos (by omega), if_pos (by omega), rd_nat l hi, wrap_succ hi (by omega), spec_riNext_eq l hli.1 hli.2 hs.2, Option.bind_some, wrap_id (x := s - 1) (by omega) (by omega), wrap_id (x := s - 1 - nxt s l[i]) (by omega) (by omega), spec_l1Put_eq (by omega) (by omega), Option.bind_some,
      ih (i + 1) k _ (by omega) (by omega) (by have := insL_len (s - 1 - nxt s l[i]) acc; omega), List.drop_eq_getElem_cons hi, mirL]
theorem mod_once {a s : Int} (h0 : 0 ≤ a) (h1 : a < 2 * s) : a % s = if a < s then a else a - s := by
  split
  · exact Int.emod_eq_of_lt h0 (by omega)
  · have := Int.emod_eq_of_lt (a := a - s) (b := s) (by omega) (by omega)
    rwa [Int.sub_emod_right] at this
theorem both (s : Int) (l : List Int) (hn : l.length ≤ 1048576) : ∃ v : Int × List Int × Bool, Ev (fun k => spec_MirrorRing.f k s l) v ∧ Ev (fun k => impl_MirrorRing.f k s l) v ∧ v.2.1.length ≤ 1048576 := by
  cases hr : ringB s l with
  | false =>
    refine ⟨(0, [], false), ⟨l.length + 1, fun k hk => ?_⟩, ⟨l.length + 1, fun k hk => ?_⟩, by simp⟩
    · show spec_MirrorRing.f k s l = _
      unfold spec_MirrorRing.f; rw [spec_riGood_eq (k := k) hn (by omega), hr]; rfl
    · show impl_MirrorRing.f k s l = _
      unfold impl_MirrorRing.f; rw [impl_IsRing_eq (k := k) hn (by omega), hr]; rfl
  | true =>
    have hs := ringB_size hr
    have hl := ringB_mem hr
    have e : impl_ringOf.list (fun i => decide ((2 * s - 2 - i) % s ∈ l)) s.toNat = mirL s [] l := by
      refine list_of (mirL_rising s l [] List.Pairwise.nil) fun y => ?_
      rw [mirL_mem, decide_eq_true_eq]
      constructor
      · rintro (h | ⟨a, ha, rfl⟩)
        · simp at h
        · have h1 := hl a ha
          have h2 := nxt_range h1.1 h1.2
          have m2 := mod_once (a := 2 * s - 2 - (s - 1 - nxt s a)) (s := s) (by omega) (by omega)
          have m3 : (2 * s - 2 - (s - 1 - nxt s a)) % s = a := by rw [m2]; unfold nxt; split <;> split <;> omega
          exact ⟨by omega, by rw [m3]; exact ha⟩
      · rintro ⟨h, hm⟩
        refine .inr ⟨_, hm, ?_⟩
        have m1 := mod_once (a := 2 * s - 2 - y) (s := s) (by omega) (by omega)
        rw [m1]; unfold nxt; split <;> split <;> omega
    have hle := mirL_len s l []
    simp only [List.length_nil, Nat.zero_add] at hle
    refine ⟨(s, mirL s [] l, true), ⟨2 * l.length + 3, fun k hk => ?_⟩, ⟨l.length + 1, fun k hk => ?_⟩, Nat.le_trans hle hn⟩
    · show spec_MirrorRing.f k s l = _
      have h0 := spec_mir_l0 s l hn hs hl l.length 0 k [] (by omega) (by omega) (by simp)
      unfold spec_MirrorRing.f; rw [spec_riGood_eq (k := k) hn (by omega), hr, Option.bind_some, if_pos rfl]
      exact h0
    · show impl_MirrorRing.f k s l = _
      unfold impl_MirrorRing.f; rw [impl_IsRing_eq (k := k) hn (by omega), hr, Option.bind_some, if_pos rfl, if_pos ⟨hn, by omega, by omega⟩, e]
theorem FnExactMirrorRing : FnExactMirrorRingPure := by
  intro s l _ hm _
  unfold maxLen at hm
  by_cases hn : l.length ≤ 1048576
  · have n1 : ¬ (1048576 - (l.length : Int) < 0) := by omega
    obtain ⟨v, ⟨K1, h1⟩, ⟨K2, h2⟩, hv⟩ := both s l hn
    obtain ⟨vs, vl, ok⟩ := v
    simp only at h1 h2 hv
    have n2 : ¬ (1 + (vl.length : Int) < 0) := by omega
    have n3 : ¬ (1 + (l.length : Int) < 0) := by omega
    have hv2 : vl.length ≤ 1048576 := by omega
    refine ⟨K1 + K2 + l.length + vl.length + 10, ?_⟩
    unfold laws_FnExactMirrorRing.f
    simp (disch := omega) only [Option.bind_some, ↓reduceIte, bne_self_eq_false, Bool.false_eq_true, h1, h2, szRing_ok hn, n1, n2, n3, toRing_eq hn, eqRing_refl hn, eqRing_refl hv2, markRing_eq, heldRing_eq]
    rw [laws_FnExactMirrorRing.j0]
    simp (disch := omega) only [Option.bind_some, ↓reduceIte, bne_self_eq_false, Bool.false_eq_true, h1, h2, szRing_ok hn, n1, n2, n3, toRing_eq hn, eqRing_refl hn, eqRing_refl hv2, markRing_eq, heldRing_eq]
    rw [laws_FnExactMirrorRing.j1]
    simp (disch := omega) only [Option.bind_some, ↓reduceIte, bne_self_eq_false, Bool.false_eq_true, h1, h2, szRing_ok hn, n1, n2, n3, toRing_eq hn, eqRing_refl hn, eqRing_refl hv2, markRing_eq, heldRing_eq]
    rw [laws_FnExactMirrorRing.j2]
    simp (disch := omega) only [Option.bind_some, ↓reduceIte, bne_self_eq_false, Bool.false_eq_true, h1, h2, szRing_ok hn, n1, n2, n3, toRing_eq hn, eqRing_refl hn, eqRing_refl hv2, markRing_eq, heldRing_eq]
  · exact ⟨0, by unfold laws_FnExactMirrorRing.f; rw [szRing_big hm hn]; rfl⟩

end Go.Proofs.Ytkaaoanjniahaaa.Pure
