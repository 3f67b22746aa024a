/- FnExactPreemptEnds: the program's answer is the reference's, as plain functions over numbers and lists; no condition beyond the sizes that every value has. -/
import Derived.Test.YteakcmjkiamnmaaPFnExactPreemptEndsx6
namespace Go.Proofs.Yteakcmjkiamnmaa.Pure
open Go.RowKit Go.Proofs.Yteakcmjkiamnmaa.PFnExactPreemptEnds Go.Proofs.YteakcmjkiamnmaaW.PrintWords Go.Proofs.YteakcmjkiamnmaaW.PrintLast Go.Proofs.YteakcmjkiamnmaaW.PrintMore

/- It reaches: laws_szJobS.f, laws_toJob.f, laws_toJobS.f, laws_eqJob.f, laws_eqJobS.f, laws_eqIntS.f, spec_l1In.f, spec_prJobs.f, spec_PreemptEnds.f, impl_within.f, impl_isTick.f, impl_AreJobs.f, impl_PreemptEnds.f, laws_markJobS.f, laws_markIntS.f, laws_heldIntS.f, laws_FnExactPreemptEnds.f -/
def FnExactPreemptEndsPure : Prop := ∀ (l0 : List (S53)), l0.length ≤ maxLen → (∀ x ∈ l0, (Lit.int .i64 x.f0).wf = true ∧ (Lit.int .i64 x.f1).wf = true ∧ (Lit.int .i64 x.f2).wf = true) → ∃ k, laws_FnExactPreemptEnds.f k l0 = some true
set_option linter.unusedSimpArgs false
set_option linter.unusedVariables false
theorem wrap_id {x : Int} (h1 : -9223372036854775808 ≤ x) (h2 : x ≤ 9223372036854775807) : wrap64 x = x := by unfold wrap64; omega
theorem wrap_succ {i n : Nat} (h : i < n) (hn : n ≤ 4611686018427387904) : wrap64 ((i : Int) + 1) = ((i + 1 : Nat) : Int) := by rw [wrap_id] <;> omega
theorem rd_nat (l : List Int) {i : Nat} (h : i < l.length) : rd l (i : Int) = l[i] := by simp [rd, h]
theorem rd_mem (l : List Int) {i : Nat} (h : i < l.length) : rd l (i : Int) ∈ l := by rw [rd_nat l h]; exact List.getElem_mem h
/-- One round, and the end. -/
theorem ev_end {α : Type} {g : Nat → Option α} {r : α} (h : ∀ k, g (k + 1) = some r) : Ev g r := Ev.step h (Ev.now r)
theorem ev_of {α : Type} {g : Nat → Option α} {r : α} (h : ∀ k, g k = some r) : Ev g r := ⟨0, fun k _ => h k⟩
theorem ev_eq {α : Type} {g : Nat → Option α} {r r' : α} (h : Ev g r) (e : r = r') : Ev g r' := e ▸ h

theorem rdJ_nat (l : List S50) {i : Nat} (h : i < l.length) : rd_T50 l (i : Int) = l[i] := by simp [rd_T50, h]

theorem rdLJ_nat (l : List S53) {i : Nat} (h : i < l.length) : rd_T53 l (i : Int) = l[i] := by simp [rd_T53, h]
def toJ (x : S53) : S50 := ⟨x.f0, x.f1, x.f2⟩
theorem toJobS_loop (l : List S53) (hn : l.length ≤ 1048576) : ∀ (d i k : Nat), i + d = l.length → d < k → laws_toJobS.l0 k l ((l.take i).map toJ ++ List.replicate d z50) (i : Int) = some (l.map toJ) := by
  intro d
  induction d with
  | zero =>
    intro i k h hk
    obtain ⟨k, rfl⟩ : ∃ m, k = m + 1 := ⟨k - 1, by omega⟩
    simp only [laws_toJobS.l0]
    rw [if_neg (by omega)]
    simp [List.take_of_length_le (show l.length ≤ i by omega)]
  | succ d ih =>
    intro i k h hk
    obtain ⟨k, rfl⟩ : ∃ m, k = m + 1 := ⟨k - 1, by omega⟩
    have hi : i < l.length := by omega
    have e : ((l.take i).map toJ ++ List.replicate (d + 1) z50).set i (⟨l[i].f0, l[i].f1, l[i].f2⟩ : S50) = (l.take (i + 1)).map toJ ++ List.replicate d z50 := by
      rw [List.set_append_right _ _ (by simp; omega)]
      simp only [List.length_map, List.length_take, Nat.min_eq_left (Nat.le_of_lt hi), Nat.sub_self, List.replicate_succ, List.set_cons_zero]
      rw [List.take_succ_eq_append_getElem hi, List.map_append, List.append_assoc]; rfl
    simp only [laws_toJobS.l0, laws_toJob.f, Option.bind_some]
    rw [if_pos (by omega), if_pos (by omega), if_pos (by simp; omega), Int.toNat_natCast, rdLJ_nat l hi, e, wrap_succ hi (by omega)]
    exact ih (i + 1) k (by omega) (by omega)
theorem toJobS_eq {k : Nat} {l : List S53} (hn : l.length ≤ 1048576) (hk : l.length < k) : laws_toJobS.f k l = some (l.map toJ) := by
  unfold laws_toJobS.f
  rw [if_pos (by omega), if_pos (by omega), Int.toNat_natCast]
  have := toJobS_loop l hn l.length 0 k (by omega) hk
  simpa using this

theorem eqJobS_loop (l : List S50) (hn : l.length ≤ 1048576) : ∀ (d i k : Nat), i + d = l.length → d < k → laws_eqJobS.l0 k l l (i : Int) = some true := by
  intro d
  induction d with
  | zero =>
    intro i k h hk
    obtain ⟨k, rfl⟩ : ∃ m, k = m + 1 := ⟨k - 1, by omega⟩
    simp only [laws_eqJobS.l0]
    rw [if_neg (by omega)]
  | succ d ih =>
    intro i k h hk
    obtain ⟨k, rfl⟩ : ∃ m, k = m + 1 := ⟨k - 1, by omega⟩
    simp only [laws_eqJobS.l0, laws_eqJob.f, if_true, Option.bind_some]
    rw [if_pos (by omega), if_pos (by omega), if_pos (by omega), wrap_succ (n := l.length) (by omega) (by omega)]
    exact ih (i + 1) k (by omega) (by omega)
theorem eqJobS_refl {k : Nat} {l : List S50} (hn : l.length ≤ 1048576) (hk : l.length < k) : laws_eqJobS.f k l l = some true := by
  unfold laws_eqJobS.f
  rw [if_pos rfl]
  exact eqJobS_loop l hn l.length 0 k (by omega) hk

theorem szJobS_big {l : List S53} (hm : l.length ≤ 9223372036854775807) (h : ¬ l.length ≤ 1048576) : laws_szJobS.f l 1048576 = some (-1) := by
  unfold laws_szJobS.f
  rw [wrap_id (by omega) (by omega), if_pos (by omega)]
theorem szJobS_ok {l : List S53} (h : l.length ≤ 1048576) : laws_szJobS.f l 1048576 = some (1048576 - (l.length : Int)) := by
  unfold laws_szJobS.f
  rw [wrap_id (by omega) (by omega), if_neg (by omega)]

/-- Does each come no later than the next one? -/
def leJ : List S50 → Bool
  | a :: b :: t => decide (a.f0 ≤ b.f0) && leJ (b :: t)
  | _ => true
theorem leJ_at (l : List S50) {i : Nat} (h0 : 0 < i) (h : i < l.length) : leJ (l.drop (i - 1)) = (decide (l[i - 1].f0 ≤ l[i].f0) && leJ (l.drop i)) := by
  rw [List.drop_eq_getElem_cons (show i - 1 < l.length by omega), show i - 1 + 1 = i from by omega, List.drop_eq_getElem_cons h, leJ]
theorem leJ_end (l : List S50) {i : Nat} (h : i = l.length) : leJ (l.drop (i - 1)) = true := by
  rcases Nat.eq_zero_or_pos i with h0 | h0
  · rw [h0, List.drop_of_length_le (by omega)]; rfl
  · rw [List.drop_eq_getElem_cons (show i - 1 < l.length by omega), List.drop_of_length_le (by omega)]; rfl
theorem wrap_pred {i n : Nat} (h0 : 0 < i) (h : i < n) (hn : n ≤ 4611686018427387904) : wrap64 ((i : Int) - 1) = ((i - 1 : Nat) : Int) := by rw [wrap_id] <;> omega


theorem spec_l1In_eq (a b c : Int) : spec_l1In.f a b c = some (decide (b ≤ a ∧ a ≤ c)) := by
  unfold spec_l1In.f
  by_cases h : b ≤ a <;> simp [h]

theorem impl_within_eq (a b c : Int) : impl_within.f a b c = some (decide (b ≤ a ∧ a ≤ c)) := by
  unfold impl_within.f
  by_cases h : b ≤ a <;> simp [h]

def goodJ (x : S50) : Bool := decide ((0 ≤ x.f0 ∧ x.f0 ≤ 1000) ∧ (0 ≤ x.f1 ∧ x.f1 ≤ 7) ∧ (1 ≤ x.f2 ∧ x.f2 ≤ 20))
/-- What both call jobs. -/
def jobsB (l : List S50) : Bool := decide (l.length ≤ 20) && (l.all goodJ && leJ l)
theorem jobsB_len {l : List S50} (h : jobsB l = true) : l.length ≤ 20 := by simp [jobsB] at h; exact h.1
theorem jobsB_mem {l : List S50} (h : jobsB l = true) : ∀ x ∈ l, (0 ≤ x.f0 ∧ x.f0 ≤ 1000) ∧ (0 ≤ x.f1 ∧ x.f1 ≤ 7) ∧ (1 ≤ x.f2 ∧ x.f2 ≤ 20) := by
  intro x hx
  simp [jobsB] at h
  simpa [goodJ] using h.2.1 x hx
theorem spec_prJobs_loop (l : List S50) (hn : l.length ≤ 1048576) : ∀ (d i k : Nat), i + d = l.length → d < k →
    spec_prJobs.l0 k l l (l.length : Int) (i : Int) = some ((l.drop i).all goodJ && leJ (l.drop (i - 1))) := by
  intro d
  induction d with
  | zero =>
    intro i k h hk
    obtain ⟨k, rfl⟩ : ∃ m, k = m + 1 := ⟨k - 1, by omega⟩
    simp only [spec_prJobs.l0]
    rw [if_neg (by omega), List.drop_of_length_le (l := l) (i := i) (by omega), leJ_end l (by omega)]; rfl
  | succ d ih =>
    intro i k h hk
    obtain ⟨k, rfl⟩ : ∃ m, k = m + 1 := ⟨k - 1, by omega⟩
    have hlt : i < l.length := by omega
    have nx := ih (i + 1) k (by omega) (by omega)
    rw [Nat.add_sub_cancel] at nx
    have e : (l.drop i).all goodJ = (goodJ l[i] && (l.drop (i + 1)).all goodJ) := by rw [List.drop_eq_getElem_cons hlt, List.all_cons]
    simp only [spec_prJobs.l0, spec_l1In_eq, Option.bind_some]
    rw [if_pos (by omega), if_pos (by omega), if_pos (by omega), rdJ_nat l hlt, wrap_succ hlt (by omega), e]
    by_cases c0 : 0 ≤ l[i].f0 ∧ l[i].f0 ≤ 1000
    · rw [if_pos (by simpa using c0)]
      by_cases c1 : 0 ≤ l[i].f1 ∧ l[i].f1 ≤ 7
      · rw [if_pos (by simpa using c1)]
        by_cases c2 : 1 ≤ l[i].f2 ∧ l[i].f2 ≤ 20
        · have g : goodJ l[i] = true := by simp [goodJ, c0, c1, c2]
          rw [if_pos (by simpa using c2), g]
          by_cases h0 : 0 < i
          · rw [if_pos (by omega), wrap_pred h0 hlt (by omega), if_pos (by omega), if_pos (by omega), rdJ_nat l (show i - 1 < l.length by omega), leJ_at l h0 hlt]
            by_cases c : l[i - 1].f0 ≤ l[i].f0
            · rw [if_neg (by omega), nx]; simp [c]
            · rw [if_pos (by omega)]; simp [c]
          · obtain rfl : i = 0 := by omega
            rw [if_neg (by omega), nx, Bool.true_and]
        · have g : goodJ l[i] = false := by simp only [goodJ, c2, and_false, decide_false]
          rw [if_neg (by simpa using c2), g]; rfl
      · have g : goodJ l[i] = false := by simp only [goodJ, c1, and_false, false_and, decide_false]
        rw [if_neg (by simpa using c1), g]; rfl
    · have g : goodJ l[i] = false := by simp only [goodJ, c0, false_and, decide_false]
      rw [if_neg (by simpa using c0), g]; rfl
theorem spec_prJobs_eq {k : Nat} {l : List S50} (hn : l.length ≤ 1048576) (hk : l.length < k) : spec_prJobs.f k l = some (jobsB l) := by
  unfold spec_prJobs.f jobsB
  have := spec_prJobs_loop l hn l.length 0 k (by omega) hk
  rw [show ((0 : Nat) : Int) = 0 from rfl] at this
  by_cases h : l.length ≤ 20
  · rw [if_neg (by omega), this]; simp [h]
  · rw [if_pos (by omega)]; simp [h]
theorem impl_AreJobs_loop (l : List S50) (hn : l.length ≤ 1048576) : ∀ (d i k : Nat), i + d = l.length → d < k →
    impl_AreJobs.l0 k l l (l.length : Int) (i : Int) = some (((l.drop i).all goodJ && leJ (l.drop (i - 1))) && decide ((l.length : Int) ≤ 20)) := by
  intro d
  induction d with
  | zero =>
    intro i k h hk
    obtain ⟨k, rfl⟩ : ∃ m, k = m + 1 := ⟨k - 1, by omega⟩
    simp only [impl_AreJobs.l0]
    rw [if_neg (by omega), List.drop_of_length_le (l := l) (i := i) (by omega), leJ_end l (by omega)]; rfl
  | succ d ih =>
    intro i k h hk
    obtain ⟨k, rfl⟩ : ∃ m, k = m + 1 := ⟨k - 1, by omega⟩
    have hlt : i < l.length := by omega
    have nx := ih (i + 1) k (by omega) (by omega)
    rw [Nat.add_sub_cancel] at nx
    have e : (l.drop i).all goodJ = (goodJ l[i] && (l.drop (i + 1)).all goodJ) := by rw [List.drop_eq_getElem_cons hlt, List.all_cons]
    simp only [impl_AreJobs.l0, impl_isTick.f, impl_within_eq, Option.bind_some]
    rw [if_pos (by omega), if_pos (by omega), if_pos (by omega), rdJ_nat l hlt, wrap_succ hlt (by omega), e]
    by_cases c0 : 0 ≤ l[i].f0 ∧ l[i].f0 ≤ 1000
    · rw [if_pos (by simpa using c0)]
      by_cases c1 : 0 ≤ l[i].f1 ∧ l[i].f1 ≤ 7
      · rw [if_pos (by simpa using c1)]
        by_cases c2 : 1 ≤ l[i].f2 ∧ l[i].f2 ≤ 20
        · have g : goodJ l[i] = true := by simp [goodJ, c0, c1, c2]
          rw [if_pos (by simpa using c2), g]
          by_cases h0 : 0 < i
          · rw [if_pos (by omega), wrap_pred h0 hlt (by omega), if_pos (by omega), if_pos (by omega), rdJ_nat l (show i - 1 < l.length by omega), leJ_at l h0 hlt]
            by_cases c : l[i - 1].f0 ≤ l[i].f0
            · rw [if_neg (by omega), nx]; simp [c]
            · rw [if_pos (by omega)]; simp [c]
          · obtain rfl : i = 0 := by omega
            rw [if_neg (by omega), nx, Bool.true_and]
        · have g : goodJ l[i] = false := by simp only [goodJ, c2, and_false, decide_false]
          rw [if_neg (by simpa using c2), g]; rfl
      · have g : goodJ l[i] = false := by simp only [goodJ, c1, and_false, false_and, decide_false]
        rw [if_neg (by simpa using c1), g]; rfl
    · have g : goodJ l[i] = false := by simp only [goodJ, c0, false_and, decide_false]
      rw [if_neg (by simpa using c0), g]; rfl
theorem impl_AreJobs_eq {k : Nat} {l : List S50} (hn : l.length ≤ 1048576) (hk : l.length < k) : impl_AreJobs.f k l = some (jobsB l) := by
  unfold impl_AreJobs.f jobsB
  have := impl_AreJobs_loop l hn l.length 0 k (by omega) hk
  rw [show ((0 : Nat) : Int) = 0 from rfl] at this
  rw [this]
  by_cases h : l.length ≤ 20
  · simp [h, show (l.length : Int) ≤ 20 by omega]
  · simp [h, show ¬ (l.length : Int) ≤ 20 by omega]

/-- Both come to the same. -/
def EvB {α : Type} (g1 g2 : Nat → Option α) : Prop := ∃ v, Ev g1 v ∧ Ev g2 v
theorem EvB.step {α : Type} {g1 g2 f1 f2 : Nat → Option α} (h1 : ∀ k, g1 (k + 1) = f1 k) (h2 : ∀ k, g2 (k + 1) = f2 k) (h : EvB f1 f2) : EvB g1 g2 := by
  obtain ⟨v, a, b⟩ := h
  exact ⟨v, Ev.step h1 a, Ev.step h2 b⟩
theorem EvB.ret {α : Type} {g1 g2 : Nat → Option α} {v : α} (h1 : ∀ k, g1 (k + 1) = some v) (h2 : ∀ k, g2 (k + 1) = some v) : EvB g1 g2 := ⟨v, ev_end h1, ev_end h2⟩

/-- The numbers from m on, three a job. -/
def marksJ (m : Int) (n : Nat) : List S50 := (List.range n).map fun (j : Nat) => ⟨m + 3 * (j : Int), m + 3 * (j : Int) + 1, m + 3 * (j : Int) + 2⟩
theorem marksJ_length (m : Int) (n : Nat) : (marksJ m n).length = n := by simp [marksJ]
theorem marksJ_succ (m : Int) (n : Nat) : marksJ m (n + 1) = marksJ m n ++ [⟨m + 3 * (n : Int), m + 3 * (n : Int) + 1, m + 3 * (n : Int) + 2⟩] := by simp [marksJ, List.range_succ]
theorem markJobS_loop (l : List S50) (m : Int) (hm : 0 ≤ m) (hm2 : m ≤ 1099511627776) (hn : l.length ≤ 1048576) : ∀ (d i k : Nat), i + d = l.length → d < k →
    laws_markJobS.l0 k (marksJ m i ++ l.drop i) (m + 3 * (i : Int)) (i : Int) = some (m + 3 * (l.length : Int), marksJ m l.length) := by
  intro d
  induction d with
  | zero =>
    intro i k h hk
    obtain ⟨k, rfl⟩ : ∃ q, k = q + 1 := ⟨k - 1, by omega⟩
    obtain rfl : i = l.length := by omega
    simp only [laws_markJobS.l0]
    rw [if_neg (by simp [marksJ_length])]
    simp
  | succ d ih =>
    intro i k h hk
    obtain ⟨k, rfl⟩ : ∃ q, k = q + 1 := ⟨k - 1, by omega⟩
    have hi : i < l.length := by omega
    have hL : (marksJ m i ++ l.drop i).length = l.length := by simp [marksJ_length]; omega
    have hset : ∀ x : S50, (marksJ m i ++ l.drop i).set i x = marksJ m i ++ x :: l.drop (i + 1) := by
      intro x
      rw [List.set_append_right _ _ (by simp [marksJ_length]), marksJ_length, Nat.sub_self, List.drop_eq_getElem_cons hi, List.set_cons_zero]
    have hset2 : ∀ x y : S50, (marksJ m i ++ x :: l.drop (i + 1)).set i y = marksJ m i ++ y :: l.drop (i + 1) := by
      intro x y
      rw [List.set_append_right _ _ (by simp [marksJ_length]), marksJ_length, Nat.sub_self, List.set_cons_zero]
    have hrd : ∀ x : S50, rd_T50 (marksJ m i ++ x :: l.drop (i + 1)) (i : Int) = x := by
      intro x
      rw [rdJ_nat _ (by simp [marksJ_length])]
      simp [marksJ_length]
    simp only [laws_markJobS.l0]
    rw [if_pos (by rw [hL]; omega), if_pos (by omega), Int.toNat_natCast, hset, Option.bind_some, hrd, hset2, Option.bind_some, hrd, hset2]
    rw [wrap_succ hi (by omega), wrap_id (x := m + 3 * (i : Int) + 1) (by omega) (by omega), wrap_id (x := m + 3 * (i : Int) + 1 + 1) (by omega) (by omega), wrap_id (x := m + 3 * (i : Int) + 1 + 1 + 1) (by omega) (by omega)]
    have := ih (i + 1) k (by omega) (by omega)
    rw [marksJ_succ, List.append_assoc] at this
    rw [show m + 3 * (i : Int) + 1 + 1 + 1 = m + 3 * ((i + 1 : Nat) : Int) from by omega, show m + 3 * (i : Int) + 1 + 1 = m + 3 * (i : Int) + 2 from by omega]
    exact this
theorem markJobS_eq {k : Nat} {l : List S50} {m : Int} (hm : 0 ≤ m) (hm2 : m ≤ 1099511627776) (hn : l.length ≤ 1048576) (hk : l.length < k) : laws_markJobS.f k l m = some (m + 3 * (l.length : Int), marksJ m l.length) := by
  unfold laws_markJobS.f
  have := markJobS_loop l m hm hm2 hn l.length 0 k (by omega) hk
  simpa [marksJ] using this

theorem eqIntS_loop (l : List Int) (hn : l.length ≤ 1048576) : ∀ (d i k : Nat), i + d = l.length → d < k → laws_eqIntS.l0 k l l (i : Int) = some true := by
  intro d
  induction d with
  | zero =>
    intro i k h hk
    obtain ⟨k, rfl⟩ : ∃ m, k = m + 1 := ⟨k - 1, by omega⟩
    simp only [laws_eqIntS.l0]
    rw [if_neg (by omega)]
  | succ d ih =>
    intro i k h hk
    obtain ⟨k, rfl⟩ : ∃ m, k = m + 1 := ⟨k - 1, by omega⟩
    simp only [laws_eqIntS.l0]
    rw [if_pos (by omega), if_pos (by omega), if_pos (by omega), if_pos trivial, wrap_succ (n := l.length) (by omega) (by omega)]
    exact ih (i + 1) k (by omega) (by omega)
theorem eqIntS_refl {k : Nat} {l : List Int} (hn : l.length ≤ 1048576) (hk : l.length < k) : laws_eqIntS.f k l l = some true := by
  unfold laws_eqIntS.f
  rw [if_pos rfl]
  exact eqIntS_loop l hn l.length 0 k (by omega) hk

/-- n numbers from m on. -/
def marks (m : Int) (n : Nat) : List Int := (List.range n).map fun (j : Nat) => m + (j : Int)
theorem marks_length (m : Int) (n : Nat) : (marks m n).length = n := by simp [marks]
theorem marks_succ (m : Int) (n : Nat) : marks m (n + 1) = marks m n ++ [m + (n : Int)] := by simp [marks, List.range_succ]
theorem markIntS_loop (l : List Int) (m : Int) (hm : 0 ≤ m) (hm2 : m ≤ 1099511627776) (hn : l.length ≤ 1048576) : ∀ (d i k : Nat), i + d = l.length → d < k →
    laws_markIntS.l0 k (marks m i ++ l.drop i) (m + (i : Int)) (i : Int) = some (m + (l.length : Int), marks m l.length) := by
  intro d
  induction d with
  | zero =>
    intro i k h hk
    obtain ⟨k, rfl⟩ : ∃ m, k = m + 1 := ⟨k - 1, by omega⟩
    obtain rfl : i = l.length := by omega
    simp only [laws_markIntS.l0]
    rw [if_neg (by simp [marks_length])]
    simp
  | succ d ih =>
    intro i k h hk
    obtain ⟨k, rfl⟩ : ∃ m, k = m + 1 := ⟨k - 1, by omega⟩
    have hi : i < l.length := by omega
    have e : (marks m i ++ l.drop i).set i (m + (i : Int)) = marks m (i + 1) ++ l.drop (i + 1) := by
      rw [List.set_append_right _ _ (by simp [marks_length]), marks_length, Nat.sub_self, List.drop_eq_getElem_cons hi, List.set_cons_zero, marks_succ, List.append_assoc]; rfl
    simp only [laws_markIntS.l0]
    rw [if_pos (by simp [marks_length]; omega), if_pos (by omega), Int.toNat_natCast, e, wrap_succ hi (by omega), show wrap64 (m + (i : Int) + 1) = m + ((i + 1 : Nat) : Int) from by rw [wrap_id] <;> omega]
    exact ih (i + 1) k (by omega) (by omega)
theorem markIntS_eq {k : Nat} {l : List Int} {m : Int} (hm : 0 ≤ m) (hm2 : m ≤ 1099511627776) (hn : l.length ≤ 1048576) (hk : l.length < k) : laws_markIntS.f k l m = some (m + (l.length : Int), marks m l.length) := by
  unfold laws_markIntS.f
  have := markIntS_loop l m hm hm2 hn l.length 0 k (by omega) hk
  simpa [marks] using this
theorem heldIntS_loop (n : Nat) (m : Int) (hm : 0 ≤ m) (hm2 : m ≤ 1099511627776) (hn : n ≤ 1048576) : ∀ (d i k : Nat), i + d = n → d < k → laws_heldIntS.l0 k (marks m n) (m + (i : Int)) (i : Int) = some (m + (n : Int)) := by
  intro d
  induction d with
  | zero =>
    intro i k h hk
    obtain ⟨k, rfl⟩ : ∃ m, k = m + 1 := ⟨k - 1, by omega⟩
    obtain rfl : i = n := by omega
    simp only [laws_heldIntS.l0]
    rw [if_neg (by simp [marks_length])]
  | succ d ih =>
    intro i k h hk
    obtain ⟨k, rfl⟩ : ∃ m, k = m + 1 := ⟨k - 1, by omega⟩
    have hi : i < n := by omega
    have e : rd (marks m n) (i : Int) = m + (i : Int) := by rw [rd_nat _ (by simpa [marks_length] using hi)]; simp [marks]
    simp only [laws_heldIntS.l0]
    rw [if_pos (by simp [marks_length]; omega), if_pos (by omega), if_pos e, wrap_succ hi (by omega), show wrap64 (m + (i : Int) + 1) = m + ((i + 1 : Nat) : Int) from by rw [wrap_id] <;> omega]
    exact ih (i + 1) k (by omega) (by omega)
theorem heldIntS_eq {k n : Nat} {m : Int} (hm : 0 ≤ m) (hm2 : m ≤ 1099511627776) (hn : n ≤ 1048576) (hk : n < k) : laws_heldIntS.f k (marks m n) m = some (m + (n : Int)) := by
  unfold laws_heldIntS.f
  simpa using heldIntS_loop n m hm hm2 hn n 0 k (by omega) hk

def sumI : List Int → Int
  | [] => 0
  | x :: l => x + sumI l
def zeroN (s : List Int) : Nat := s.countP (fun x => decide (x = 0))
theorem rd_set (s : List Int) (i : Nat) (x : Int) (j : Nat) (hi : i < s.length) : rd (s.set i x) (j : Int) = if j = i then x else rd s (j : Int) := by
  simp only [rd, Int.toNat_natCast, List.getD_eq_getElem?_getD, List.getElem?_set]
  by_cases c : i = j
  · subst c; simp [hi]
  · rw [if_neg c, if_neg (fun h => c h.symm)]
theorem sumI_set : ∀ (s : List Int) (i : Nat) (x : Int), i < s.length → sumI (s.set i x) = sumI s - rd s (i : Int) + x
  | [], i, _, h => by simp at h
  | a :: s, 0, x, _ => by simp only [List.set_cons_zero, sumI, rd, Int.toNat_natCast, List.getD_cons_zero]; omega
  | a :: s, i + 1, x, h => by
    have := sumI_set s i x (by simpa using h)
    have e : rd (a :: s) ((i + 1 : Nat) : Int) = rd s (i : Int) := by simp [rd]
    rw [List.set_cons_succ, sumI, sumI, this, e]; omega
theorem zeroN_set : ∀ (s : List Int) (i : Nat) (x : Int), i < s.length → rd s (i : Int) ≠ 0 → zeroN (s.set i x) = zeroN s + (if x = 0 then 1 else 0)
  | [], i, _, h, _ => by simp at h
  | a :: s, 0, x, _, h0 => by
    simp only [rd, Int.toNat_natCast, List.getD_cons_zero] at h0
    simp only [zeroN, List.set_cons_zero, List.countP_cons]
    by_cases c : x = 0 <;> simp [c, h0]
  | a :: s, i + 1, x, h, h0 => by
    have := zeroN_set s i x (by simpa using h) (by simpa [rd] using h0)
    simp only [zeroN, List.set_cons_succ, List.countP_cons] at this ⊢
    omega
theorem zeroN_some (s : List Int) (h : zeroN s < s.length) : ∃ j, j < s.length ∧ rd s (j : Int) ≠ 0 := by
  induction s with
  | nil => simp at h
  | cons a s ih =>
    by_cases c : a = 0
    · obtain ⟨j, h1, h2⟩ := ih (by simp [zeroN, c] at h ⊢; omega)
      exact ⟨j + 1, by simpa using h1, by simpa [rd] using h2⟩
    · exact ⟨0, by simp, by simpa [rd] using c⟩
theorem sumI_nonneg : ∀ (s : List Int), (∀ j : Nat, j < s.length → 0 ≤ rd s (j : Int)) → 0 ≤ sumI s
  | [], _ => by simp [sumI]
  | a :: s, h => by
    have h0 := h 0 (by simp)
    simp only [rd, Int.toNat_natCast, List.getD_cons_zero] at h0
    have := sumI_nonneg s (fun j hj => by have := h (j + 1) (by simpa using hj); simpa [rd] using this)
    rw [sumI]; omega
/-- What holds at the head of each tick. -/
structure PInv (L : List S50) (left ends : List Int) (now done : Int) : Prop where
  len : left.length = L.length
  elen : ends.length = L.length
  num : done = (zeroN left : Int)
  val : ∀ j : Nat, j < left.length → 0 ≤ rd left (j : Int) ∧ rd left (j : Int) ≤ 20
  now0 : 0 ≤ now
  tot : now + sumI left ≤ 1500
  sum : sumI left ≤ 400
theorem outer (L : List S50) (hL : L.length ≤ 20) (hj : ∀ x ∈ L, (0 ≤ x.f0 ∧ x.f0 ≤ 1000) ∧ (0 ≤ x.f1 ∧ x.f1 ≤ 7) ∧ (1 ≤ x.f2 ∧ x.f2 ≤ 20)) : ∀ (M : Nat) (left ends : List Int) (now done : Int), PInv L left ends now done → (sumI left).toNat + (1001 - now).toNat < M →
    ∃ v : List Int × Bool, Ev (fun k => spec_PreemptEnds.l1 k L left ends now done) v ∧ Ev (fun k => impl_PreemptEnds.l1 k L ends left ((L.length : Int) - done) now) v ∧ v.1.length = L.length := by
  intro M
  induction M with
  | zero => intro _ _ _ _ _ h; omega
  | succ M ih =>
    intro left ends now done hI hM
    have hz : zeroN left ≤ left.length := List.countP_le_length
    have hnum := hI.num
    have hlen := hI.len
    have hs0 := sumI_nonneg left (fun j hj => (hI.val j hj).1)
    have htot := hI.tot
    have hnow := hI.now0
    by_cases hd : done < (L.length : Int)
    case neg =>
      refine ⟨(ends, true), ev_end (fun k => ?_), ev_end (fun k => ?_), hI.elen⟩
      · simp only [spec_PreemptEnds.l1]; rw [if_neg hd]
      · simp only [impl_PreemptEnds.l1]; rw [if_neg (by omega)]
    case pos =>
      have inner : ∀ (d i : Nat) (b : Int), i + d = L.length → ((b = -1 ∧ ∀ j : Nat, j < i → ¬ (rd left (j : Int) > 0 ∧ (rd_T50 L (j : Int)).f0 ≤ now)) ∨ ∃ bn : Nat, b = (bn : Int) ∧ bn < L.length ∧ rd left (bn : Int) > 0) →
          ∃ v : List Int × Bool, Ev (fun k => spec_PreemptEnds.l2 k L left ends now done b L (L.length : Int) (i : Int)) v ∧ Ev (fun k => impl_PreemptEnds.l2 k L ends left ((L.length : Int) - done) now b L (L.length : Int) (i : Int)) v ∧ v.1.length = L.length := by
        intro d
        induction d with
        | zero =>
          intro i b h hb
          obtain rfl : i = L.length := by omega
          rcases hb with ⟨rfl, hb⟩ | ⟨bn, rfl, hbn, hpos⟩
          · obtain ⟨j, h1, h2⟩ := zeroN_some left (by omega)
            have hv := hI.val j h1
            have hnj := hb j (by omega)
            have htick : (rd_T50 L (j : Int)).f0 ≤ 1000 := by
              rw [rdJ_nat L (by omega)]
              have := hj L[j] (List.getElem_mem (by omega)); omega
            have hlt : now < 1000 := by
              have : ¬ (rd_T50 L (j : Int)).f0 ≤ now := fun h => hnj ⟨by omega, h⟩
              omega
            obtain ⟨v, e1, e2, e3⟩ := ih left ends (now + 1) done ⟨hI.len, hI.elen, hI.num, hI.val, by omega, by have := hI.sum; omega, hI.sum⟩ (by omega)
            refine ⟨v, Ev.step (fun k => ?_) e1, Ev.step (fun k => ?_) e2, e3⟩
            · simp only [spec_PreemptEnds.l2]
              rw [if_neg (by omega), if_pos (by omega), wrap_id (x := now + 1) (by omega) (by omega)]
            · simp only [impl_PreemptEnds.l2]
              rw [if_neg (by omega), if_pos (by omega), wrap_id (x := now + 1) (by omega) (by omega)]
          · have hv := hI.val bn (by omega)
            have hw : wrap64 (rd left (bn : Int) - 1) = rd left (bn : Int) - 1 := wrap_id (by omega) (by omega)
            have hsum := sumI_set left bn (rd left (bn : Int) - 1) (by omega)
            have hzer := zeroN_set left bn (rd left (bn : Int) - 1) (by omega) (by omega)
            have hrd : rd (left.set bn (rd left (bn : Int) - 1)) (bn : Int) = rd left (bn : Int) - 1 := by rw [rd_set _ _ _ _ (by omega), if_pos rfl]
            have hval : ∀ j : Nat, j < (left.set bn (rd left (bn : Int) - 1)).length → 0 ≤ rd (left.set bn (rd left (bn : Int) - 1)) (j : Int) ∧ rd (left.set bn (rd left (bn : Int) - 1)) (j : Int) ≤ 20 := by
              intro j hj2
              rw [List.length_set] at hj2
              rw [rd_set _ _ _ _ (by omega)]
              split
              · omega
              · exact hI.val j hj2
            have hs1 := sumI_nonneg _ (fun j hj => (hval j hj).1)
            by_cases c : rd left (bn : Int) - 1 = 0
            · rw [if_pos c] at hzer
              obtain ⟨v, e1, e2, e3⟩ := ih (left.set bn (rd left (bn : Int) - 1)) (ends.set bn (now + 1)) (now + 1) (done + 1) ⟨by simp [hI.len], by simp [hI.elen], by omega, hval, by omega, by omega, by have := hI.sum; omega⟩ (by omega)
              refine ⟨v, Ev.step (fun k => ?_) e1, Ev.step (fun k => ?_) e2, e3⟩
              · simp only [spec_PreemptEnds.l2]
                rw [if_neg (by omega), if_neg (by omega), if_pos (by omega), if_pos (by omega), Int.toNat_natCast, hw, Option.bind_some, hrd, if_pos c, if_pos (by have := hI.elen; omega), wrap_id (x := now + 1) (by omega) (by omega), wrap_id (x := done + 1) (by omega) (by omega)]
              · simp only [impl_PreemptEnds.l2]
                rw [if_neg (by omega), if_neg (by omega), if_pos (by omega), if_pos (by omega), Int.toNat_natCast, hw, Option.bind_some, hrd, if_pos c, if_pos (by have := hI.elen; omega), wrap_id (x := now + 1) (by omega) (by omega), wrap_id (x := (L.length : Int) - done - 1) (by omega) (by omega), show (L.length : Int) - done - 1 = (L.length : Int) - (done + 1) by omega]
            · rw [if_neg c] at hzer
              obtain ⟨v, e1, e2, e3⟩ := ih (left.set bn (rd left (bn : Int) - 1)) ends (now + 1) done ⟨by simp [hI.len], hI.elen, by omega, hval, by omega, by omega, by have := hI.sum; omega⟩ (by omega)
              refine ⟨v, Ev.step (fun k => ?_) e1, Ev.step (fun k => ?_) e2, e3⟩
              · simp only [spec_PreemptEnds.l2]
                rw [if_neg (by omega), if_neg (by omega), if_pos (by omega), if_pos (by omega), Int.toNat_natCast, hw, Option.bind_some, hrd, if_neg c, wrap_id (x := now + 1) (by omega) (by omega)]
              · simp only [impl_PreemptEnds.l2]
                rw [if_neg (by omega), if_neg (by omega), if_pos (by omega), if_pos (by omega), Int.toNat_natCast, hw, Option.bind_some, hrd, if_neg c, wrap_id (x := now + 1) (by omega) (by omega)]
        | succ d ihd =>
          intro i b h hb
          have hi : i < L.length := by omega
          have stay : ¬ (rd left (i : Int) > 0 ∧ (rd_T50 L (i : Int)).f0 ≤ now) → ((b = -1 ∧ ∀ j : Nat, j < i + 1 → ¬ (rd left (j : Int) > 0 ∧ (rd_T50 L (j : Int)).f0 ≤ now)) ∨ ∃ bn : Nat, b = (bn : Int) ∧ bn < L.length ∧ rd left (bn : Int) > 0) := by
            intro hno
            rcases hb with ⟨h1, h2⟩ | h2
            · refine .inl ⟨h1, fun j hj3 => ?_⟩
              rcases Nat.lt_or_ge j i with c | c
              · exact h2 j c
              · obtain rfl : j = i := by omega
                exact hno
            · exact .inr h2
          by_cases c1 : rd left (i : Int) > 0
          · by_cases c2 : (rd_T50 L (i : Int)).f0 ≤ now
            · rcases hb with ⟨rfl, hb⟩ | ⟨bn, rfl, hbn, hpos⟩
              · obtain ⟨v, e1, e2, e3⟩ := ihd (i + 1) (i : Int) (by omega) (.inr ⟨i, rfl, hi, c1⟩)
                refine ⟨v, Ev.step (fun k => ?_) e1, Ev.step (fun k => ?_) e2, e3⟩
                · simp only [spec_PreemptEnds.l2]
                  rw [if_pos (by omega), if_pos (by omega), if_pos (by omega), if_pos (by omega), if_pos c1, if_pos c2, if_pos (by omega), wrap_succ hi (by omega)]
                · simp only [impl_PreemptEnds.l2]
                  rw [if_pos (by omega), if_pos (by omega), if_pos (by omega), if_pos (by omega), if_pos c1, if_pos c2, if_pos (by omega), wrap_succ hi (by omega)]
              · by_cases c3 : (rd_T50 L (i : Int)).f1 > (rd_T50 L (bn : Int)).f1
                · obtain ⟨v, e1, e2, e3⟩ := ihd (i + 1) (i : Int) (by omega) (.inr ⟨i, rfl, hi, c1⟩)
                  refine ⟨v, Ev.step (fun k => ?_) e1, Ev.step (fun k => ?_) e2, e3⟩
                  · simp only [spec_PreemptEnds.l2]
                    rw [if_pos (by omega), if_pos (by omega), if_pos (by omega), if_pos (by omega), if_pos c1, if_pos c2, if_neg (by omega), if_pos (by omega), if_pos (by omega), if_pos c3, wrap_succ hi (by omega)]
                  · simp only [impl_PreemptEnds.l2]
                    rw [if_pos (by omega), if_pos (by omega), if_pos (by omega), if_pos (by omega), if_pos c1, if_pos c2, if_neg (by omega), if_pos (by omega), if_pos (by omega), if_pos c3, wrap_succ hi (by omega)]
                · obtain ⟨v, e1, e2, e3⟩ := ihd (i + 1) (bn : Int) (by omega) (.inr ⟨bn, rfl, hbn, hpos⟩)
                  refine ⟨v, Ev.step (fun k => ?_) e1, Ev.step (fun k => ?_) e2, e3⟩
                  · simp only [spec_PreemptEnds.l2]
                    rw [if_pos (by omega), if_pos (by omega), if_pos (by omega), if_pos (by omega), if_pos c1, if_pos c2, if_neg (by omega), if_pos (by omega), if_pos (by omega), if_neg c3, wrap_succ hi (by omega)]
                  · simp only [impl_PreemptEnds.l2]
                    rw [if_pos (by omega), if_pos (by omega), if_pos (by omega), if_pos (by omega), if_pos c1, if_pos c2, if_neg (by omega), if_pos (by omega), if_pos (by omega), if_neg c3, wrap_succ hi (by omega)]
            · obtain ⟨v, e1, e2, e3⟩ := ihd (i + 1) b (by omega) (stay (fun h => c2 h.2))
              refine ⟨v, Ev.step (fun k => ?_) e1, Ev.step (fun k => ?_) e2, e3⟩
              · simp only [spec_PreemptEnds.l2]
                rw [if_pos (by omega), if_pos (by omega), if_pos (by omega), if_pos (by omega), if_pos c1, if_neg c2, wrap_succ hi (by omega)]
              · simp only [impl_PreemptEnds.l2]
                rw [if_pos (by omega), if_pos (by omega), if_pos (by omega), if_pos (by omega), if_pos c1, if_neg c2, wrap_succ hi (by omega)]
          · obtain ⟨v, e1, e2, e3⟩ := ihd (i + 1) b (by omega) (stay (fun h => c1 h.1))
            refine ⟨v, Ev.step (fun k => ?_) e1, Ev.step (fun k => ?_) e2, e3⟩
            · simp only [spec_PreemptEnds.l2]
              rw [if_pos (by omega), if_pos (by omega), if_pos (by omega), if_pos (by omega), if_neg c1, wrap_succ hi (by omega)]
            · simp only [impl_PreemptEnds.l2]
              rw [if_pos (by omega), if_pos (by omega), if_pos (by omega), if_pos (by omega), if_neg c1, wrap_succ hi (by omega)]
      obtain ⟨v, e1, e2, e3⟩ := inner L.length 0 (-1) (by omega) (.inl ⟨rfl, fun j hj => absurd hj (by omega)⟩)
      refine ⟨v, Ev.step (fun k => ?_) e1, Ev.step (fun k => ?_) e2, e3⟩
      · simp only [spec_PreemptEnds.l1]; rw [if_pos hd]; rfl
      · simp only [impl_PreemptEnds.l1]; rw [if_pos (by omega)]; rfl
def lensP (L : List S50) (i : Nat) : List Int := (L.take i).map fun x => x.f2
theorem lensP_len (L : List S50) {i : Nat} (h : i ≤ L.length) : (lensP L i).length = i := by simp [lensP, h]
theorem lensP_succ (L : List S50) {i : Nat} (h : i < L.length) : lensP L (i + 1) = lensP L i ++ [(rd_T50 L (i : Int)).f2] := by
  rw [rdJ_nat L h]; simp only [lensP]; rw [List.take_succ_eq_append_getElem h, List.map_append]; rfl
theorem spec_fill (L : List S50) (hL : L.length ≤ 20) (v : List Int × Bool) (hv : Ev (fun k => spec_PreemptEnds.l1 k L (lensP L L.length) (List.replicate L.length 0) 0 0) v) : ∀ (d i : Nat), i + d = L.length → Ev (fun k => spec_PreemptEnds.l0 k L (lensP L i) L (L.length : Int) (i : Int)) v := by
  intro d
  induction d with
  | zero =>
    intro i h
    obtain rfl : i = L.length := by omega
    refine Ev.step (fun k => ?_) hv
    simp only [spec_PreemptEnds.l0]
    rw [if_neg (by omega), if_pos (by omega), if_pos (by omega), Int.toNat_natCast]
  | succ d ih =>
    intro i h
    have hi : i < L.length := by omega
    refine Ev.step (fun k => ?_) (ih (i + 1) (by omega))
    simp only [spec_PreemptEnds.l0]
    rw [if_pos (by omega), if_pos (by omega), if_pos (by omega), if_pos (by rw [lensP_len L (by omega)]; omega), ← lensP_succ L hi, wrap_succ hi (by omega)]
theorem impl_fill (L : List S50) (hL : L.length ≤ 20) (e : List Int) (v : List Int × Bool) (hv : Ev (fun k => impl_PreemptEnds.l1 k L e (lensP L L.length) (L.length : Int) 0) v) : ∀ (d i : Nat), i + d = L.length → Ev (fun k => impl_PreemptEnds.l0 k L e (lensP L i) (i : Int) L (L.length : Int) (i : Int)) v := by
  intro d
  induction d with
  | zero =>
    intro i h
    obtain rfl : i = L.length := by omega
    refine Ev.step (fun k => ?_) hv
    simp only [impl_PreemptEnds.l0]
    rw [if_neg (by omega)]
  | succ d ih =>
    intro i h
    have hi : i < L.length := by omega
    refine Ev.step (fun k => ?_) (ih (i + 1) (by omega))
    simp only [impl_PreemptEnds.l0]
    rw [if_pos (by omega), if_pos (by omega), if_pos (by omega), if_pos (by rw [lensP_len L (by omega)]; omega), ← lensP_succ L hi, wrap_succ hi (by omega)]
theorem sumI_le : ∀ (s : List Int), (∀ x ∈ s, x ≤ 20) → sumI s ≤ 20 * (s.length : Int)
  | [], _ => by simp [sumI]
  | a :: s, h => by
    have := sumI_le s (fun x hx => h x (by simp [hx]))
    have h0 := h a (by simp)
    rw [sumI, List.length_cons]; omega
theorem both (L : List S50) (hn : L.length ≤ 1048576) : ∃ v : List Int × Bool, Ev (fun k => spec_PreemptEnds.f k L) v ∧ Ev (fun k => impl_PreemptEnds.f k L) v ∧ v.1.length ≤ 20 := by
  cases hb : jobsB L with
  | false =>
    refine ⟨([], false), ⟨L.length + 2, fun k hk => ?_⟩, ⟨L.length + 2, fun k hk => ?_⟩, by simp⟩
    · show spec_PreemptEnds.f k L = _
      unfold spec_PreemptEnds.f
      rw [spec_prJobs_eq hn (by omega), hb, Option.bind_some, if_neg (by simp)]
    · show impl_PreemptEnds.f k L = _
      unfold impl_PreemptEnds.f
      rw [impl_AreJobs_eq hn (by omega), hb, Option.bind_some, if_neg (by simp)]
  | true =>
    have hL := jobsB_len hb
    have hj := jobsB_mem hb
    have hmem : ∀ x ∈ lensP L L.length, 1 ≤ x ∧ x ≤ 20 := by
      intro x hx
      simp only [lensP, List.take_length, List.mem_map] at hx
      obtain ⟨y, hy, rfl⟩ := hx
      have := hj y hy; omega
    have hlen := lensP_len L (Nat.le_refl L.length)
    have hval : ∀ j : Nat, j < (lensP L L.length).length → 0 ≤ rd (lensP L L.length) (j : Int) ∧ rd (lensP L L.length) (j : Int) ≤ 20 := by
      intro j hj2
      have := hmem _ (rd_mem _ hj2); omega
    have hz : zeroN (lensP L L.length) = 0 := by
      unfold zeroN
      rw [List.countP_eq_zero]
      intro x hx
      have := hmem x hx
      simp; omega
    have hs := sumI_le (lensP L L.length) (fun x hx => (hmem x hx).2)
    obtain ⟨v, e1, e2, e3⟩ := outer L hL hj _ (lensP L L.length) (List.replicate L.length 0) 0 0 ⟨hlen, by simp, by rw [hz]; rfl, hval, by omega, by omega, by omega⟩ (Nat.lt_succ_self _)
    rw [Int.sub_zero] at e2
    obtain ⟨K1, h1⟩ := spec_fill L hL v e1 L.length 0 (by omega)
    obtain ⟨K2, h2⟩ := impl_fill L hL (List.replicate L.length 0) v e2 L.length 0 (by omega)
    simp only at h1 h2
    refine ⟨v, ⟨K1 + L.length + 2, fun k hk => ?_⟩, ⟨K2 + L.length + 2, fun k hk => ?_⟩, by omega⟩
    · show spec_PreemptEnds.f k L = _
      unfold spec_PreemptEnds.f
      rw [spec_prJobs_eq hn (by omega), hb, Option.bind_some, if_pos rfl]
      exact h1 k (by omega)
    · show impl_PreemptEnds.f k L = _
      unfold impl_PreemptEnds.f
      rw [impl_AreJobs_eq hn (by omega), hb, Option.bind_some, if_pos rfl, if_pos (by omega), if_pos (by omega), Int.toNat_natCast]
      exact h2 k (by omega)
theorem FnExactPreemptEnds : FnExactPreemptEndsPure := by
  intro L0 hm _
  unfold maxLen at hm
  by_cases hn : L0.length ≤ 1048576
  · have n1 : ¬ (1048576 - (L0.length : Int) < 0) := by omega
    have hn2 : (L0.map toJ).length ≤ 1048576 := by simpa using hn
    have hLL : (L0.map toJ).length = L0.length := by simp
    obtain ⟨v, ⟨K1, h1⟩, ⟨K2, h2⟩, hv⟩ := both (L0.map toJ) hn2
    have n2 : ¬ (1 + (v.1.length : Int) < 0) := by omega
    have hv2 : v.1.length ≤ 1048576 := by omega
    refine ⟨K1 + K2 + L0.length + v.1.length + 10, ?_⟩
    generalize hL : L0.map toJ = L at *
    have n3 : ¬ (1 + 3 * (L.length : Int) < 0) := by omega
    unfold laws_FnExactPreemptEnds.f
    simp (disch := omega) only [Option.bind_some, ↓reduceIte, bne_self_eq_false, Bool.false_eq_true, h1, h2, szJobS_ok hn, n1, n2, n3, toJobS_eq hn, hL, eqJobS_refl hn2, markJobS_eq, eqIntS_refl hv2, markIntS_eq, heldIntS_eq]
    rw [laws_FnExactPreemptEnds.j0]
    simp (disch := omega) only [Option.bind_some, ↓reduceIte, bne_self_eq_false, Bool.false_eq_true, h1, h2, szJobS_ok hn, n1, n2, n3, toJobS_eq hn, hL, eqJobS_refl hn2, markJobS_eq, eqIntS_refl hv2, markIntS_eq, heldIntS_eq]
    rw [laws_FnExactPreemptEnds.j1]
    simp (disch := omega) only [Option.bind_some, ↓reduceIte, bne_self_eq_false, Bool.false_eq_true, h1, h2, szJobS_ok hn, n1, n2, n3, toJobS_eq hn, hL, eqJobS_refl hn2, markJobS_eq, eqIntS_refl hv2, markIntS_eq, heldIntS_eq]
    rw [laws_FnExactPreemptEnds.j2]
    simp (disch := omega) only [Option.bind_some, ↓reduceIte, bne_self_eq_false, Bool.false_eq_true, h1, h2, szJobS_ok hn, n1, n2, n3, toJobS_eq hn, hL, eqJobS_refl hn2, markJobS_eq, eqIntS_refl hv2, markIntS_eq, heldIntS_eq]
  · exact ⟨0, by unfold laws_FnExactPreemptEnds.f; rw [szJobS_big hm hn]; rfl⟩

end Go.Proofs.Yteakcmjkiamnmaa.Pure
