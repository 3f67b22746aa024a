/- FnExactAreJobs: the program's answer is the reference's, as plain functions over numbers and lists; no condition beyond the sizes that every value has. -/
import Derived.Test.YtoponijkiadibaaPFnExactAreJobsx5
namespace Go.Proofs.Ytoponijkiadibaa.Pure
open Go.RowKit Go.Proofs.Ytoponijkiadibaa.PFnExactAreJobs Go.Proofs.YtoponijkiadibaaW.PrintWords Go.Proofs.YtoponijkiadibaaW.PrintLast

/- It reaches: laws_szJobS.f, spec_l1In.f, spec_prJobs.f, spec_AreJobs.f, laws_toJob.f, laws_toJobS.f, impl_within.f, impl_isTick.f, impl_AreJobs.f, laws_eqJob.f, laws_eqJobS.f, laws_FnExactAreJobs.f -/
def FnExactAreJobsPure : Prop := ∀ (l0 : List (S64)), l0.length ≤ maxLen → (∀ x ∈ l0, (Lit.int .i64 x.f0).wf = true ∧ (Lit.int .i64 x.f1).wf = true ∧ (Lit.int .i64 x.f2).wf = true) → ∃ k, laws_FnExactAreJobs.f k l0 = some true
set_option linter.unusedSimpArgs false
set_option linter.unusedVariables false
theorem wrap_id {x : Int} (h1 : -9223372036854775808 ≤ x) (h2 : x ≤ 9223372036854775807) : wrap64 x = x := by unfold wrap64; omega
theorem wrap_succ {i n : Nat} (h : i < n) (hn : n ≤ 4611686018427387904) : wrap64 ((i : Int) + 1) = ((i + 1 : Nat) : Int) := by rw [wrap_id] <;> omega
theorem rd_nat (l : List Int) {i : Nat} (h : i < l.length) : rd l (i : Int) = l[i] := by simp [rd, h]
theorem rd_mem (l : List Int) {i : Nat} (h : i < l.length) : rd l (i : Int) ∈ l := by rw [rd_nat l h]; exact List.getElem_mem h
/-- One round, and the end. -/
theorem ev_end {α : Type} {g : Nat → Option α} {r : α} (h : ∀ k, g (k + 1) = some r) : Ev g r := Ev.step h (Ev.now r)
theorem ev_of {α : Type} {g : Nat → Option α} {r : α} (h : ∀ k, g k = some r) : Ev g r := ⟨0, fun k _ => h k⟩
theorem ev_eq {α : Type} {g : Nat → Option α} {r r' : α} (h : Ev g r) (e : r = r') : Ev g r' := e ▸ h

theorem rdJ_nat (l : List S62) {i : Nat} (h : i < l.length) : rd_T62 l (i : Int) = l[i] := by simp [rd_T62, h]
theorem rdLJ_nat (l : List S64) {i : Nat} (h : i < l.length) : rd_T64 l (i : Int) = l[i] := by simp [rd_T64, h]
def toJ (x : S64) : S62 := ⟨x.f0, x.f1, x.f2⟩
theorem toJobS_loop (l : List S64) (hn : l.length ≤ 1048576) : ∀ (d i k : Nat), i + d = l.length → d < k → laws_toJobS.l0 k l ((l.take i).map toJ ++ List.replicate d z62) (i : Int) = some (l.map toJ) := by
  intro d
  induction d with
  | zero =>
    intro i k h hk
    obtain ⟨k, rfl⟩ : ∃ m, k = m + 1 := ⟨k - 1, by omega⟩
    simp only [laws_toJobS.l0]
    rw [if_neg (by omega)]
    simp [List.take_of_length_le (show l.length ≤ i by omega)]
  | succ d ih =>
    intro i k h hk
    obtain ⟨k, rfl⟩ : ∃ m, k = m + 1 := ⟨k - 1, by omega⟩
    have hi : i < l.length := by omega
    have e : ((l.take i).map toJ ++ List.replicate (d + 1) z62).set i (⟨l[i].f0, l[i].f1, l[i].f2⟩ : S62) = (l.take (i + 1)).map toJ ++ List.replicate d z62 := by
      rw [List.set_append_right _ _ (by simp; omega)]
      simp only [List.length_map, List.length_take, Nat.min_eq_left (Nat.le_of_lt hi), Nat.sub_self, List.replicate_succ, List.set_cons_zero]
      rw [List.take_succ_eq_append_getElem hi, List.map_append, List.append_assoc]; rfl
    simp only [laws_toJobS.l0, laws_toJob.f, Option.bind_some]
    rw [if_pos (by omega), if_pos (by omega), if_pos (by simp; omega), Int.toNat_natCast, rdLJ_nat l hi, e, wrap_succ hi (by omega)]
    exact ih (i + 1) k (by omega) (by omega)
theorem toJobS_eq {k : Nat} {l : List S64} (hn : l.length ≤ 1048576) (hk : l.length < k) : laws_toJobS.f k l = some (l.map toJ) := by
  unfold laws_toJobS.f
  rw [if_pos (by omega), if_pos (by omega), Int.toNat_natCast]
  have := toJobS_loop l hn l.length 0 k (by omega) hk
  simpa using this
theorem eqJobS_loop (l : List S62) (hn : l.length ≤ 1048576) : ∀ (d i k : Nat), i + d = l.length → d < k → laws_eqJobS.l0 k l l (i : Int) = some true := by
  intro d
  induction d with
  | zero =>
    intro i k h hk
    obtain ⟨k, rfl⟩ : ∃ m, k = m + 1 := ⟨k - 1, by omega⟩
    simp only [laws_eqJobS.l0]
    rw [if_neg (by omega)]
  | succ d ih =>
    intro i k h hk
    obtain ⟨k, rfl⟩ : ∃ m, k = m + 1 := ⟨k - 1, by omega⟩
    simp only [laws_eqJobS.l0, laws_eqJob.f, if_true, Option.bind_some]
    rw [if_pos (by omega), if_pos (by omega), if_pos (by omega), wrap_succ (n := l.length) (by omega) (by omega)]
    exact ih (i + 1) k (by omega) (by omega)
theorem eqJobS_refl {k : Nat} {l : List S62} (hn : l.length ≤ 1048576) (hk : l.length < k) : laws_eqJobS.f k l l = some true := by
  unfold laws_eqJobS.f
  rw [if_pos rfl]
  exact eqJobS_loop l hn l.length 0 k (by omega) hk
theorem szJobS_big {l : List S64} (hm : l.length ≤ 9223372036854775807) (h : ¬ l.length ≤ 1048576) : laws_szJobS.f l 1048576 = some (-1) := by
  unfold laws_szJobS.f
  rw [wrap_id (by omega) (by omega), if_pos (by omega)]
theorem szJobS_ok {l : List S64} (h : l.length ≤ 1048576) : laws_szJobS.f l 1048576 = some (1048576 - (l.length : Int)) := by
  unfold laws_szJobS.f
  rw [wrap_id (by omega) (by omega), if_neg (by omega)]
/-- Does each come no later than the next one? -/
def leJ : List S62 → Bool
  | a :: b :: t => decide (a.f0 ≤ b.f0) && leJ (b :: t)
  | _ => true
theorem leJ_at (l : List S62) {i : Nat} (h0 : 0 < i) (h : i < l.length) : leJ (l.drop (i - 1)) = (decide (l[i - 1].f0 ≤ l[i].f0) && leJ (l.drop i)) := by
  rw [List.drop_eq_getElem_cons (show i - 1 < l.length by omega), show i - 1 + 1 = i from by omega, List.drop_eq_getElem_cons h, leJ]
theorem leJ_end (l : List S62) {i : Nat} (h : i = l.length) : leJ (l.drop (i - 1)) = true := by
  rcases Nat.eq_zero_or_pos i with h0 | h0
  · rw [h0, List.drop_of_length_le (by omega)]; rfl
  · rw [List.drop_eq_getElem_cons (show i - 1 < l.length by omega), List.drop_of_length_le (by omega)]; rfl
theorem wrap_pred {i n : Nat} (h0 : 0 < i) (h : i < n) (hn : n ≤ 4611686018427387904) : wrap64 ((i : Int) - 1) = ((i - 1 : Nat) : Int) := by rw [wrap_id] <;> omega

theorem spec_l1In_eq (a b c : Int) : spec_l1In.f a b c = some (decide (b ≤ a ∧ a ≤ c)) := by
  unfold spec_l1In.f
  by_cases h : b ≤ a <;> simp [h]

theorem impl_within_eq (a b c : Int) : impl_within.f a b c = some (decide (b ≤ a ∧ a ≤ c)) := by
  unfold impl_within.f
  by_cases h : b ≤ a <;> simp [h]

def goodJ (x : S62) : Bool := decide ((0 ≤ x.f0 ∧ x.f0 ≤ 1000) ∧ (0 ≤ x.f1 ∧ x.f1 ≤ 7) ∧ (1 ≤ x.f2 ∧ x.f2 ≤ 20))
/-- What both call jobs. -/
def jobsB (l : List S62) : Bool := decide (l.length ≤ 20) && (l.all goodJ && leJ l)
theorem jobsB_len {l : List S62} (h : jobsB l = true) : l.length ≤ 20 := by simp [jobsB] at h; exact h.1
theorem jobsB_mem {l : List S62} (h : jobsB l = true) : ∀ x ∈ l, (0 ≤ x.f0 ∧ x.f0 ≤ 1000) ∧ (0 ≤ x.f1 ∧ x.f1 ≤ 7) ∧ (1 ≤ x.f2 ∧ x.f2 ≤ 20) := by
  intro x hx
  simp [jobsB] at h
  simpa [goodJ] using h.2.1 x hx
theorem spec_prJobs_loop (l : List S62) (hn : l.length ≤ 1048576) : ∀ (d i k : Nat), i + d = l.length → d < k →
    spec_prJobs.l0 k l l (l.length : Int) (i : Int) = some ((l.drop i).all goodJ && leJ (l.drop (i - 1))) := by
  intro d
  induction d with
  | zero =>
    intro i k h hk
    obtain ⟨k, rfl⟩ : ∃ m, k = m + 1 := ⟨k - 1, by omega⟩
    simp only [spec_prJobs.l0]
    rw [if_neg (by omega), List.drop_of_length_le (l := l) (i := i) (by omega), leJ_end l (by omega)]; rfl
  | succ d ih =>
    intro i k h hk
    obtain ⟨k, rfl⟩ : ∃ m, k = m + 1 := ⟨k - 1, by omega⟩
    have hlt : i < l.length := by omega
    have nx := ih (i + 1) k (by omega) (by omega)
    rw [Nat.add_sub_cancel] at nx
    have e : (l.drop i).all goodJ = (goodJ l[i] && (l.drop (i + 1)).all goodJ) := by rw [List.drop_eq_getElem_cons hlt, List.all_cons]
    simp only [spec_prJobs.l0, spec_l1In_eq, Option.bind_some]
    rw [if_pos (by omega), if_pos (by omega), if_pos (by omega), rdJ_nat l hlt, wrap_succ hlt (by omega), e]
    by_cases c0 : 0 ≤ l[i].f0 ∧ l[i].f0 ≤ 1000
    · rw [if_pos (by simpa using c0)]
      by_cases c1 : 0 ≤ l[i].f1 ∧ l[i].f1 ≤ 7
      · rw [if_pos (by simpa using c1)]
        by_cases c2 : 1 ≤ l[i].f2 ∧ l[i].f2 ≤ 20
        · have g : goodJ l[i] = true := by simp [goodJ, c0, c1, c2]
          rw [if_pos (by simpa using c2), g]
          by_cases h0 : 0 < i
          · rw [if_pos (by omega), wrap_pred h0 hlt (by omega), if_pos (by omega), if_pos (by omega), rdJ_nat l (show i - 1 < l.length by omega), leJ_at l h0 hlt]
            by_cases c : l[i - 1].f0 ≤ l[i].f0
            · rw [if_neg (by omega), nx]; simp [c]
            · rw [if_pos (by omega)]; simp [c]
          · obtain rfl : i = 0 := by omega
            rw [if_neg (by omega), nx, Bool.true_and]
        · have g : goodJ l[i] = false := by simp only [goodJ, c2, and_false, decide_false]
          rw [if_neg (by simpa using c2), g]; rfl
      · have g : goodJ l[i] = false := by simp only [goodJ, c1, and_false, false_and, decide_false]
        rw [if_neg (by simpa using c1), g]; rfl
    · have g : goodJ l[i] = false := by simp only [goodJ, c0, false_and, decide_false]
      rw [if_neg (by simpa using c0), g]; rfl
theorem spec_prJobs_eq {k : Nat} {l : List S62} (hn : l.length ≤ 1048576) (hk : l.length < k) : spec_prJobs.f k l = some (jobsB l) := by
  unfold spec_prJobs.f jobsB
  have := spec_prJobs_loop l hn l.length 0 k (by omega) hk
  rw [show ((0 : Nat) : Int) = 0 from rfl] at this
  by_cases h : l.length ≤ 20
  · rw [if_neg (by omega), this]; simp [h]
  · rw [if_pos (by omega)]; simp [h]
theorem impl_AreJobs_loop (l : List S62) (hn : l.length ≤ 1048576) : ∀ (d i k : Nat), i + d = l.length → d < k →
    impl_AreJobs.l0 k l l (l.length : Int) (i : Int) = some (((l.drop i).all goodJ && leJ (l.drop (i - 1))) && decide ((l.length : Int) ≤ 20)) := by
  intro d
  induction d with
  | zero =>
    intro i k h hk
    obtain ⟨k, rfl⟩ : ∃ m, k = m + 1 := ⟨k - 1, by omega⟩
    simp only [impl_AreJobs.l0]
    rw [if_neg (by omega), List.drop_of_length_le (l := l) (i := i) (by omega), leJ_end l (by omega)]; rfl
  | succ d ih =>
    intro i k h hk
    obtain ⟨k, rfl⟩ : ∃ m, k = m + 1 := ⟨k - 1, by omega⟩
    have hlt : i < l.length := by omega
    have nx := ih (i + 1) k (by omega) (by omega)
    rw [Nat.add_sub_cancel] at nx
    have e : (l.drop i).all goodJ = (goodJ l[i] && (l.drop (i + 1)).all goodJ) := by rw [List.drop_eq_getElem_cons hlt, List.all_cons]
    simp only [impl_AreJobs.l0, impl_isTick.f, impl_within_eq, Option.bind_some]
    rw [if_pos (by omega), if_pos (by omega), if_pos (by omega), rdJ_nat l hlt, wrap_succ hlt (by omega), e]
    by_cases c0 : 0 ≤ l[i].f0 ∧ l[i].f0 ≤ 1000
    · rw [if_pos (by simpa using c0)]
      by_cases c1 : 0 ≤ l[i].f1 ∧ l[i].f1 ≤ 7
      · rw [if_pos (by simpa using c1)]
        by_cases c2 : 1 ≤ l[i].f2 ∧ l[i].f2 ≤ 20
        · have g : goodJ l[i] = true := by simp [goodJ, c0, c1, c2]
          rw [if_pos (by simpa using c2), g]
          by_cases h0 : 0 < i
          · rw [if_pos (by omega), wrap_pred h0 hlt (by omega), if_pos (by omega), if_pos (by omega), rdJ_nat l (show i - 1 < l.length by omega), leJ_at l h0 hlt]
            by_cases c : l[i - 1].f0 ≤ l[i].f0
            · rw [if_neg (by omega), nx]; simp [c]
            · rw [if_pos (by omega)]; simp [c]
          · obtain rfl : i = 0 := by omega
            rw [if_neg (by omega), nx, Bool.true_and]
        · have g : goodJ l[i] = false := by simp only [goodJ, c2, and_false, decide_false]
          rw [if_neg (by simpa using c2), g]; rfl
      · have g : goodJ l[i] = false := by simp only [goodJ, c1, and_false, false_and, decide_false]
        rw [if_neg (by simpa using c1), g]; rfl
    · have g : goodJ l[i] = false := by simp only [goodJ, c0, false_and, decide_false]
      rw [if_neg (by simpa using c0), g]; rfl
theorem impl_AreJobs_eq {k : Nat} {l : List S62} (hn : l.length ≤ 1048576) (hk : l.length < k) : impl_AreJobs.f k l = some (jobsB l) := by
  unfold impl_AreJobs.f jobsB
  have := impl_AreJobs_loop l hn l.length 0 k (by omega) hk
  rw [show ((0 : Nat) : Int) = 0 from rfl] at this
  rw [this]
  by_cases h : l.length ≤ 20
  · simp [h, show (l.length : Int) ≤ 20 by omega]
  · simp [h, show ¬ (l.length : Int) ≤ 20 by omega]

theorem FnExactAreJobs : FnExactAreJobsPure := by
  intro l hm _
  unfold maxLen at hm
  by_cases hn : l.length ≤ 1048576
  · have n1 : ¬ (1048576 - (l.length : Int) < 0) := by omega
    have hn2 : (l.map toJ).length ≤ 1048576 := by simpa using hn
    have hl : (l.map toJ).length = l.length := by simp
    refine ⟨l.length + 10, ?_⟩
    generalize hL : l.map toJ = L at *
    simp (disch := omega) [laws_FnExactAreJobs.f, szJobS_ok hn, n1, toJobS_eq hn, hL, spec_AreJobs.f, spec_prJobs_eq hn2, impl_AreJobs_eq hn2, eqJobS_refl hn2]
  · exact ⟨0, by unfold laws_FnExactAreJobs.f; rw [szJobS_big hm hn]; rfl⟩

end Go.Proofs.Ytoponijkiadibaa.Pure
