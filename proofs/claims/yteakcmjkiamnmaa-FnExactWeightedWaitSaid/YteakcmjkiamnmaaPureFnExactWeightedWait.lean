/- FnExactWeightedWait: the program's answer is the reference's, as plain functions over numbers and lists; no condition beyond the sizes that every value has. -/
import Derived.Test.YteakcmjkiamnmaaPFnExactWeightedWaitx7
namespace Go.Proofs.Yteakcmjkiamnmaa.Pure
open Go.RowKit Go.Proofs.Yteakcmjkiamnmaa.PFnExactWeightedWait Go.Proofs.YteakcmjkiamnmaaW.PrintWords Go.Proofs.YteakcmjkiamnmaaW.PrintLast Go.Proofs.YteakcmjkiamnmaaW.PrintMore

/- It reaches: laws_szJobS.f, laws_toJob.f, laws_toJobS.f, laws_eqJob.f, laws_eqJobS.f, laws_toIntS.f, laws_eqIntS.f, spec_l1In.f, spec_prJobs.f, spec_l1All.f, spec_prGiven.f, spec_prSchedule.f, spec_WeightedWait.f, impl_within.f, impl_isTick.f, impl_AreJobs.f, impl_allWithin.f, impl_areStarts.f, impl_isSchedule.f, impl_WaitsOf.f, impl_WeightedWait.f, laws_FnExactWeightedWait.f -/
def FnExactWeightedWaitPure : Prop := ∀ (l0 : List (S53)) (l1 : List Int), l0.length ≤ maxLen → (∀ x ∈ l0, (Lit.int .i64 x.f0).wf = true ∧ (Lit.int .i64 x.f1).wf = true ∧ (Lit.int .i64 x.f2).wf = true) → l1.length ≤ maxLen → (∀ x ∈ l1, (Lit.int .i64 x).wf = true) → ∃ k, laws_FnExactWeightedWait.f k l0 l1 = some true
set_option linter.unusedSimpArgs false
set_option linter.unusedVariables false
theorem wrap_id {x : Int} (h1 : -9223372036854775808 ≤ x) (h2 : x ≤ 9223372036854775807) : wrap64 x = x := by unfold wrap64; omega
theorem wrap_succ {i n : Nat} (h : i < n) (hn : n ≤ 4611686018427387904) : wrap64 ((i : Int) + 1) = ((i + 1 : Nat) : Int) := by rw [wrap_id] <;> omega
theorem rd_nat (l : List Int) {i : Nat} (h : i < l.length) : rd l (i : Int) = l[i] := by simp [rd, h]
theorem rd_mem (l : List Int) {i : Nat} (h : i < l.length) : rd l (i : Int) ∈ l := by rw [rd_nat l h]; exact List.getElem_mem h
/-- One round, and the end. -/
theorem ev_end {α : Type} {g : Nat → Option α} {r : α} (h : ∀ k, g (k + 1) = some r) : Ev g r := Ev.step h (Ev.now r)
theorem ev_of {α : Type} {g : Nat → Option α} {r : α} (h : ∀ k, g k = some r) : Ev g r := ⟨0, fun k _ => h k⟩
theorem ev_eq {α : Type} {g : Nat → Option α} {r r' : α} (h : Ev g r) (e : r = r') : Ev g r' := e ▸ h

theorem rdJ_nat (l : List S50) {i : Nat} (h : i < l.length) : rd_T50 l (i : Int) = l[i] := by simp [rd_T50, h]

theorem rdLJ_nat (l : List S53) {i : Nat} (h : i < l.length) : rd_T53 l (i : Int) = l[i] := by simp [rd_T53, h]
def toJ (x : S53) : S50 := ⟨x.f0, x.f1, x.f2⟩
theorem toJobS_loop (l : List S53) (hn : l.length ≤ 1048576) : ∀ (d i k : Nat), i + d = l.length → d < k → laws_toJobS.l0 k l ((l.take i).map toJ ++ List.replicate d z50) (i : Int) = some (l.map toJ) := by
  intro d
  induction d with
  | zero =>
    intro i k h hk
    obtain ⟨k, rfl⟩ : ∃ m, k = m + 1 := ⟨k - 1, by omega⟩
    simp only [laws_toJobS.l0]
    rw [if_neg (by omega)]
    simp [List.take_of_length_le (show l.length ≤ i by omega)]
  | succ d ih =>
    intro i k h hk
    obtain ⟨k, rfl⟩ : ∃ m, k = m + 1 := ⟨k - 1, by omega⟩
    have hi : i < l.length := by omega
    have e : ((l.take i).map toJ ++ List.replicate (d + 1) z50).set i (⟨l[i].f0, l[i].f1, l[i].f2⟩ : S50) = (l.take (i + 1)).map toJ ++ List.replicate d z50 := by
      rw [List.set_append_right _ _ (by simp; omega)]
      simp only [List.length_map, List.length_take, Nat.min_eq_left (Nat.le_of_lt hi), Nat.sub_self, List.replicate_succ, List.set_cons_zero]
      rw [List.take_succ_eq_append_getElem hi, List.map_append, List.append_assoc]; rfl
    simp only [laws_toJobS.l0, laws_toJob.f, Option.bind_some]
    rw [if_pos (by omega), if_pos (by omega), if_pos (by simp; omega), Int.toNat_natCast, rdLJ_nat l hi, e, wrap_succ hi (by omega)]
    exact ih (i + 1) k (by omega) (by omega)
theorem toJobS_eq {k : Nat} {l : List S53} (hn : l.length ≤ 1048576) (hk : l.length < k) : laws_toJobS.f k l = some (l.map toJ) := by
  unfold laws_toJobS.f
  rw [if_pos (by omega), if_pos (by omega), Int.toNat_natCast]
  have := toJobS_loop l hn l.length 0 k (by omega) hk
  simpa using this

theorem eqJobS_loop (l : List S50) (hn : l.length ≤ 1048576) : ∀ (d i k : Nat), i + d = l.length → d < k → laws_eqJobS.l0 k l l (i : Int) = some true := by
  intro d
  induction d with
  | zero =>
    intro i k h hk
    obtain ⟨k, rfl⟩ : ∃ m, k = m + 1 := ⟨k - 1, by omega⟩
    simp only [laws_eqJobS.l0]
    rw [if_neg (by omega)]
  | succ d ih =>
    intro i k h hk
    obtain ⟨k, rfl⟩ : ∃ m, k = m + 1 := ⟨k - 1, by omega⟩
    simp only [laws_eqJobS.l0, laws_eqJob.f, if_true, Option.bind_some]
    rw [if_pos (by omega), if_pos (by omega), if_pos (by omega), wrap_succ (n := l.length) (by omega) (by omega)]
    exact ih (i + 1) k (by omega) (by omega)
theorem eqJobS_refl {k : Nat} {l : List S50} (hn : l.length ≤ 1048576) (hk : l.length < k) : laws_eqJobS.f k l l = some true := by
  unfold laws_eqJobS.f
  rw [if_pos rfl]
  exact eqJobS_loop l hn l.length 0 k (by omega) hk

theorem szJobS_big {l : List S53} (hm : l.length ≤ 9223372036854775807) (h : ¬ l.length ≤ 1048576) : laws_szJobS.f l 1048576 = some (-1) := by
  unfold laws_szJobS.f
  rw [wrap_id (by omega) (by omega), if_pos (by omega)]
theorem szJobS_ok {l : List S53} (h : l.length ≤ 1048576) : laws_szJobS.f l 1048576 = some (1048576 - (l.length : Int)) := by
  unfold laws_szJobS.f
  rw [wrap_id (by omega) (by omega), if_neg (by omega)]

/-- Does each come no later than the next one? -/
def leJ : List S50 → Bool
  | a :: b :: t => decide (a.f0 ≤ b.f0) && leJ (b :: t)
  | _ => true
theorem leJ_at (l : List S50) {i : Nat} (h0 : 0 < i) (h : i < l.length) : leJ (l.drop (i - 1)) = (decide (l[i - 1].f0 ≤ l[i].f0) && leJ (l.drop i)) := by
  rw [List.drop_eq_getElem_cons (show i - 1 < l.length by omega), show i - 1 + 1 = i from by omega, List.drop_eq_getElem_cons h, leJ]
theorem leJ_end (l : List S50) {i : Nat} (h : i = l.length) : leJ (l.drop (i - 1)) = true := by
  rcases Nat.eq_zero_or_pos i with h0 | h0
  · rw [h0, List.drop_of_length_le (by omega)]; rfl
  · rw [List.drop_eq_getElem_cons (show i - 1 < l.length by omega), List.drop_of_length_le (by omega)]; rfl
theorem wrap_pred {i n : Nat} (h0 : 0 < i) (h : i < n) (hn : n ≤ 4611686018427387904) : wrap64 ((i : Int) - 1) = ((i - 1 : Nat) : Int) := by rw [wrap_id] <;> omega


theorem spec_l1In_eq (a b c : Int) : spec_l1In.f a b c = some (decide (b ≤ a ∧ a ≤ c)) := by
  unfold spec_l1In.f
  by_cases h : b ≤ a <;> simp [h]

theorem impl_within_eq (a b c : Int) : impl_within.f a b c = some (decide (b ≤ a ∧ a ≤ c)) := by
  unfold impl_within.f
  by_cases h : b ≤ a <;> simp [h]

def goodJ (x : S50) : Bool := decide ((0 ≤ x.f0 ∧ x.f0 ≤ 1000) ∧ (0 ≤ x.f1 ∧ x.f1 ≤ 7) ∧ (1 ≤ x.f2 ∧ x.f2 ≤ 20))
/-- What both call jobs. -/
def jobsB (l : List S50) : Bool := decide (l.length ≤ 20) && (l.all goodJ && leJ l)
theorem jobsB_len {l : List S50} (h : jobsB l = true) : l.length ≤ 20 := by simp [jobsB] at h; exact h.1
theorem jobsB_mem {l : List S50} (h : jobsB l = true) : ∀ x ∈ l, (0 ≤ x.f0 ∧ x.f0 ≤ 1000) ∧ (0 ≤ x.f1 ∧ x.f1 ≤ 7) ∧ (1 ≤ x.f2 ∧ x.f2 ≤ 20) := by
  intro x hx
  simp [jobsB] at h
  simpa [goodJ] using h.2.1 x hx
theorem spec_prJobs_loop (l : List S50) (hn : l.length ≤ 1048576) : ∀ (d i k : Nat), i + d = l.length → d < k →
    spec_prJobs.l0 k l l (l.length : Int) (i : Int) = some ((l.drop i).all goodJ && leJ (l.drop (i - 1))) := by
  intro d
  induction d with
  | zero =>
    intro i k h hk
    obtain ⟨k, rfl⟩ : ∃ m, k = m + 1 := ⟨k - 1, by omega⟩
    simp only [spec_prJobs.l0]
    rw [if_neg (by omega), List.drop_of_length_le (l := l) (i := i) (by omega), leJ_end l (by omega)]; rfl
  | succ d ih =>
    intro i k h hk
    obtain ⟨k, rfl⟩ : ∃ m, k = m + 1 := ⟨k - 1, by omega⟩
    have hlt : i < l.length := by omega
    have nx := ih (i + 1) k (by omega) (by omega)
    rw [Nat.add_sub_cancel] at nx
    have e : (l.drop i).all goodJ = (goodJ l[i] && (l.drop (i + 1)).all goodJ) := by rw [List.drop_eq_getElem_cons hlt, List.all_cons]
    simp only [spec_prJobs.l0, spec_l1In_eq, Option.bind_some]
    rw [if_pos (by omega), if_pos (by omega), if_pos (by omega), rdJ_nat l hlt, wrap_succ hlt (by omega), e]
    by_cases c0 : 0 ≤ l[i].f0 ∧ l[i].f0 ≤ 1000
    · rw [if_pos (by simpa using c0)]
      by_cases c1 : 0 ≤ l[i].f1 ∧ l[i].f1 ≤ 7
      · rw [if_pos (by simpa using c1)]
        by_cases c2 : 1 ≤ l[i].f2 ∧ l[i].f2 ≤ 20
        · have g : goodJ l[i] = true := by simp [goodJ, c0, c1, c2]
          rw [if_pos (by simpa using c2), g]
          by_cases h0 : 0 < i
          · rw [if_pos (by omega), wrap_pred h0 hlt (by omega), if_pos (by omega), if_pos (by omega), rdJ_nat l (show i - 1 < l.length by omega), leJ_at l h0 hlt]
            by_cases c : l[i - 1].f0 ≤ l[i].f0
            · rw [if_neg (by omega), nx]; simp [c]
            · rw [if_pos (by omega)]; simp [c]
          · obtain rfl : i = 0 := by omega
            rw [if_neg (by omega), nx, Bool.true_and]
        · have g : goodJ l[i] = false := by simp only [goodJ, c2, and_false, decide_false]
          rw [if_neg (by simpa using c2), g]; rfl
      · have g : goodJ l[i] = false := by simp only [goodJ, c1, and_false, false_and, decide_false]
        rw [if_neg (by simpa using c1), g]; rfl
    · have g : goodJ l[i] = false := by simp only [goodJ, c0, false_and, decide_false]
      rw [if_neg (by simpa using c0), g]; rfl
theorem spec_prJobs_eq {k : Nat} {l : List S50} (hn : l.length ≤ 1048576) (hk : l.length < k) : spec_prJobs.f k l = some (jobsB l) := by
  unfold spec_prJobs.f jobsB
  have := spec_prJobs_loop l hn l.length 0 k (by omega) hk
  rw [show ((0 : Nat) : Int) = 0 from rfl] at this
  by_cases h : l.length ≤ 20
  · rw [if_neg (by omega), this]; simp [h]
  · rw [if_pos (by omega)]; simp [h]
theorem impl_AreJobs_loop (l : List S50) (hn : l.length ≤ 1048576) : ∀ (d i k : Nat), i + d = l.length → d < k →
    impl_AreJobs.l0 k l l (l.length : Int) (i : Int) = some (((l.drop i).all goodJ && leJ (l.drop (i - 1))) && decide ((l.length : Int) ≤ 20)) := by
  intro d
  induction d with
  | zero =>
    intro i k h hk
    obtain ⟨k, rfl⟩ : ∃ m, k = m + 1 := ⟨k - 1, by omega⟩
    simp only [impl_AreJobs.l0]
    rw [if_neg (by omega), List.drop_of_length_le (l := l) (i := i) (by omega), leJ_end l (by omega)]; rfl
  | succ d ih =>
    intro i k h hk
    obtain ⟨k, rfl⟩ : ∃ m, k = m + 1 := ⟨k - 1, by omega⟩
    have hlt : i < l.length := by omega
    have nx := ih (i + 1) k (by omega) (by omega)
    rw [Nat.add_sub_cancel] at nx
    have e : (l.drop i).all goodJ = (goodJ l[i] && (l.drop (i + 1)).all goodJ) := by rw [List.drop_eq_getElem_cons hlt, List.all_cons]
    simp only [impl_AreJobs.l0, impl_isTick.f, impl_within_eq, Option.bind_some]
    rw [if_pos (by omega), if_pos (by omega), if_pos (by omega), rdJ_nat l hlt, wrap_succ hlt (by omega), e]
    by_cases c0 : 0 ≤ l[i].f0 ∧ l[i].f0 ≤ 1000
    · rw [if_pos (by simpa using c0)]
      by_cases c1 : 0 ≤ l[i].f1 ∧ l[i].f1 ≤ 7
      · rw [if_pos (by simpa using c1)]
        by_cases c2 : 1 ≤ l[i].f2 ∧ l[i].f2 ≤ 20
        · have g : goodJ l[i] = true := by simp [goodJ, c0, c1, c2]
          rw [if_pos (by simpa using c2), g]
          by_cases h0 : 0 < i
          · rw [if_pos (by omega), wrap_pred h0 hlt (by omega), if_pos (by omega), if_pos (by omega), rdJ_nat l (show i - 1 < l.length by omega), leJ_at l h0 hlt]
            by_cases c : l[i - 1].f0 ≤ l[i].f0
            · rw [if_neg (by omega), nx]; simp [c]
            · rw [if_pos (by omega)]; simp [c]
          · obtain rfl : i = 0 := by omega
            rw [if_neg (by omega), nx, Bool.true_and]
        · have g : goodJ l[i] = false := by simp only [goodJ, c2, and_false, decide_false]
          rw [if_neg (by simpa using c2), g]; rfl
      · have g : goodJ l[i] = false := by simp only [goodJ, c1, and_false, false_and, decide_false]
        rw [if_neg (by simpa using c1), g]; rfl
    · have g : goodJ l[i] = false := by simp only [goodJ, c0, false_and, decide_false]
      rw [if_neg (by simpa using c0), g]; rfl
theorem impl_AreJobs_eq {k : Nat} {l : List S50} (hn : l.length ≤ 1048576) (hk : l.length < k) : impl_AreJobs.f k l = some (jobsB l) := by
  unfold impl_AreJobs.f jobsB
  have := impl_AreJobs_loop l hn l.length 0 k (by omega) hk
  rw [show ((0 : Nat) : Int) = 0 from rfl] at this
  rw [this]
  by_cases h : l.length ≤ 20
  · simp [h, show (l.length : Int) ≤ 20 by omega]
  · simp [h, show ¬ (l.length : Int) ≤ 20 by omega]

theorem l1All_loop (lo hi : Int) (l : List Int) (hn : l.length ≤ 1048576) : ∀ (d i k : Nat), i + d = l.length → d < k → spec_l1All.l0 k lo hi l (l.length : Int) (i : Int) = some ((l.drop i).all fun x => decide (lo ≤ x ∧ x ≤ hi)) := by
  intro d
  induction d with
  | zero =>
    intro i k h hk
    obtain ⟨k, rfl⟩ : ∃ m, k = m + 1 := ⟨k - 1, by omega⟩
    simp only [spec_l1All.l0]
    rw [if_neg (by omega), List.drop_of_length_le (by omega)]
    rfl
  | succ d ih =>
    intro i k h hk
    obtain ⟨k, rfl⟩ : ∃ m, k = m + 1 := ⟨k - 1, by omega⟩
    have hlt : i < l.length := by omega
    simp only [spec_l1All.l0, spec_l1In_eq, Option.bind_some]
    rw [if_pos (by omega), if_pos (by omega), if_pos (by omega), rd_nat l hlt, wrap_succ hlt (by omega), ih (i + 1) k (by omega) (by omega), List.drop_eq_getElem_cons hlt, List.all_cons]
    by_cases c : lo ≤ l[i] ∧ l[i] ≤ hi <;> simp [c]
theorem spec_l1All_eq {k : Nat} {l : List Int} {lo hi : Int} (hn : l.length ≤ 1048576) (hk : l.length < k) : spec_l1All.f k l lo hi = some (l.all fun x => decide (lo ≤ x ∧ x ≤ hi)) := by
  unfold spec_l1All.f
  simpa using l1All_loop lo hi l hn l.length 0 k (by omega) hk

/-- Both come to the same. -/
def EvB {α : Type} (g1 g2 : Nat → Option α) : Prop := ∃ v, Ev g1 v ∧ Ev g2 v
theorem EvB.step {α : Type} {g1 g2 f1 f2 : Nat → Option α} (h1 : ∀ k, g1 (k + 1) = f1 k) (h2 : ∀ k, g2 (k + 1) = f2 k) (h : EvB f1 f2) : EvB g1 g2 := by
  obtain ⟨v, a, b⟩ := h
  exact ⟨v, Ev.step h1 a, Ev.step h2 b⟩
theorem EvB.ret {α : Type} {g1 g2 : Nat → Option α} {v : α} (h1 : ∀ k, g1 (k + 1) = some v) (h2 : ∀ k, g2 (k + 1) = some v) : EvB g1 g2 := ⟨v, ev_end h1, ev_end h2⟩

def startsB (L : List S50) (l : List Int) : Bool := jobsB L && (decide (l.length = L.length) && l.all fun x => decide (0 ≤ x ∧ x ≤ 5000))
theorem startsB_len {L : List S50} {l : List Int} (h : startsB L l = true) : L.length ≤ 20 ∧ l.length = L.length := by
  simp only [startsB, Bool.and_eq_true, decide_eq_true_eq] at h
  exact ⟨jobsB_len h.1, h.2.1⟩
theorem startsB_mem {L : List S50} {l : List Int} (h : startsB L l = true) : ∀ x ∈ l, 0 ≤ x ∧ x ≤ 5000 := by
  simp only [startsB, Bool.and_eq_true, decide_eq_true_eq, List.all_eq_true] at h
  exact h.2.2
theorem startsB_jobs {L : List S50} {l : List Int} (h : startsB L l = true) : jobsB L = true := by
  simp only [startsB, Bool.and_eq_true] at h
  exact h.1
theorem spec_prGiven_eq {k : Nat} {L : List S50} {l : List Int} (hn : L.length ≤ 1048576) (hm : l.length ≤ 1048576) (hk : L.length + l.length < k) : spec_prGiven.f k L l = some (startsB L l) := by
  unfold spec_prGiven.f startsB
  rw [spec_prJobs_eq hn (by omega), Option.bind_some]
  cases h : jobsB L with
  | false => rfl
  | true =>
    rw [if_pos rfl, spec_l1All_eq hm (by omega)]
    by_cases hl : l.length = L.length
    · rw [if_pos (by omega)]; simp [hl]
    · rw [if_neg (by omega)]; simp [hl]
theorem impl_areStarts_eq {k : Nat} {L : List S50} {l : List Int} (hn : L.length ≤ 1048576) (hk : L.length < k) : impl_areStarts.f k L l = some (startsB L l) := by
  unfold impl_areStarts.f impl_allWithin.f startsB
  rw [impl_AreJobs_eq hn hk, Option.bind_some]
  cases h : jobsB L with
  | false => rfl
  | true =>
    rw [if_pos rfl]
    by_cases hl : l.length = L.length
    · rw [if_pos (by omega)]; simp [hl]
    · rw [if_neg (by omega)]; simp [hl]
theorem sched_l1 (L : List S50) (l : List Int) (hl : l.length = L.length) (hn : L.length ≤ 1048576) (i : Nat) (hi : i < L.length)
    (hv : EvB (fun k => spec_prSchedule.l0 k L l l (l.length : Int) ((i + 1 : Nat) : Int)) (fun k => impl_isSchedule.l0 k L l L (L.length : Int) ((i + 1 : Nat) : Int))) : ∀ (d j : Nat), j + d = i →
    EvB (fun k => spec_prSchedule.l1 k L l (i : Int) (rd l (i : Int)) l (l.length : Int) (i : Int) (l.take i) ((l.take i).length : Int) (j : Int))
      (fun k => impl_isSchedule.l1 k L l (i : Int) L (L.length : Int) (i : Int) (i : Int) (j : Int) (rd_T50 L (i : Int)).f0 (rd_T50 L (i : Int)).f1 (rd_T50 L (i : Int)).f2) := by
  have htl : (l.take i).length = i := by rw [List.length_take]; omega
  intro d
  induction d with
  | zero =>
    intro j h
    refine EvB.step (fun k => ?_) (fun k => ?_) hv
    · simp only [spec_prSchedule.l1]
      rw [if_neg (by omega), wrap_succ hi (by omega)]
    · simp only [impl_isSchedule.l1]
      rw [if_neg (by omega), wrap_succ hi (by omega)]
  | succ d ih =>
    intro j h
    have hj : j < i := by omega
    have nx := ih (j + 1) (by omega)
    have er : rd (l.take i) (j : Int) = rd l (j : Int) := by
      rw [rd_nat _ (by omega), rd_nat l (by omega), List.getElem_take]
    by_cases c1 : rd l (i : Int) < wrap64 (rd l (j : Int) + (rd_T50 L (j : Int)).f2)
    · by_cases c2 : rd l (j : Int) < wrap64 (rd l (i : Int) + (rd_T50 L (i : Int)).f2)
      · refine EvB.ret (v := false) (fun k => ?_) (fun k => ?_)
        · simp only [spec_prSchedule.l1]
          rw [if_pos (by omega), if_pos (by omega), if_pos (by omega), if_pos (by omega), er, if_pos c1, if_pos (by omega), if_pos (by omega), if_pos c2]
        · simp only [impl_isSchedule.l1]
          rw [if_pos (by omega), if_pos (by omega), if_pos (by omega), if_pos (by omega), if_pos (by omega), if_pos (by omega), if_pos c1, if_pos c2]
      · refine EvB.step (fun k => ?_) (fun k => ?_) nx
        · simp only [spec_prSchedule.l1]
          rw [if_pos (by omega), if_pos (by omega), if_pos (by omega), if_pos (by omega), er, if_pos c1, if_pos (by omega), if_pos (by omega), if_neg c2, wrap_succ hj (by omega)]
        · simp only [impl_isSchedule.l1]
          rw [if_pos (by omega), if_pos (by omega), if_pos (by omega), if_pos (by omega), if_pos (by omega), if_pos (by omega), if_pos c1, if_neg c2, wrap_succ hj (by omega)]
    · refine EvB.step (fun k => ?_) (fun k => ?_) nx
      · simp only [spec_prSchedule.l1]
        rw [if_pos (by omega), if_pos (by omega), if_pos (by omega), if_pos (by omega), er, if_neg c1, wrap_succ hj (by omega)]
      · simp only [impl_isSchedule.l1]
        rw [if_pos (by omega), if_pos (by omega), if_pos (by omega), if_pos (by omega), if_pos (by omega), if_pos (by omega), if_neg c1, wrap_succ hj (by omega)]
theorem sched_l0 (L : List S50) (l : List Int) (hl : l.length = L.length) (hn : L.length ≤ 1048576) : ∀ (d i : Nat), i + d = L.length →
    EvB (fun k => spec_prSchedule.l0 k L l l (l.length : Int) (i : Int)) (fun k => impl_isSchedule.l0 k L l L (L.length : Int) (i : Int)) := by
  intro d
  induction d with
  | zero =>
    intro i h
    refine EvB.ret (v := true) (fun k => ?_) (fun k => ?_)
    · simp only [spec_prSchedule.l0]; rw [if_neg (by omega)]
    · simp only [impl_isSchedule.l0]; rw [if_neg (by omega)]
  | succ d ih =>
    intro i h
    have hi : i < L.length := by omega
    by_cases c : rd l (i : Int) < (rd_T50 L (i : Int)).f0
    · refine EvB.ret (v := false) (fun k => ?_) (fun k => ?_)
      · simp only [spec_prSchedule.l0]; rw [if_pos (by omega), if_pos (by omega), if_pos (by omega), if_pos (by omega), if_pos c]
      · simp only [impl_isSchedule.l0]; rw [if_pos (by omega), if_pos (by omega), if_pos (by omega), if_pos (by omega), if_pos c]
    · refine EvB.step (fun k => ?_) (fun k => ?_) (sched_l1 L l hl hn i hi (ih (i + 1) (by omega)) i 0 (by omega))
      · simp only [spec_prSchedule.l0]; rw [if_pos (by omega), if_pos (by omega), if_pos (by omega), if_pos (by omega), if_neg c, if_pos (by omega), Int.toNat_natCast]; rfl
      · simp only [impl_isSchedule.l0]; rw [if_pos (by omega), if_pos (by omega), if_pos (by omega), if_pos (by omega), if_neg c]; rfl
theorem sched_both (L : List S50) (l : List Int) (hl : l.length = L.length) (hn : L.length ≤ 1048576) : EvB (fun k => spec_prSchedule.f k L l) (fun k => impl_isSchedule.f k L l) := by
  unfold spec_prSchedule.f impl_isSchedule.f
  exact sched_l0 L l hl hn L.length 0 (by omega)

theorem toIntS_loop (l : List Int) (hn : l.length ≤ 1048576) : ∀ (d i k : Nat), i + d = l.length → d < k → laws_toIntS.l0 k l (l.take i ++ List.replicate d 0) (i : Int) = some l := by
  intro d
  induction d with
  | zero =>
    intro i k h hk
    obtain ⟨k, rfl⟩ : ∃ m, k = m + 1 := ⟨k - 1, by omega⟩
    simp only [laws_toIntS.l0]
    rw [if_neg (by omega)]
    simp [List.take_of_length_le (show l.length ≤ i by omega)]
  | succ d ih =>
    intro i k h hk
    obtain ⟨k, rfl⟩ : ∃ m, k = m + 1 := ⟨k - 1, by omega⟩
    have hi : i < l.length := by omega
    have e : (l.take i ++ List.replicate (d + 1) 0).set i (rd l (i : Int)) = l.take (i + 1) ++ List.replicate d 0 := by
      rw [rd_nat l hi, List.set_append_right _ _ (by simp; omega)]
      simp only [List.length_take, Nat.min_eq_left (Nat.le_of_lt hi), Nat.sub_self, List.replicate_succ, List.set_cons_zero]
      rw [List.take_succ_eq_append_getElem hi, List.append_assoc]; rfl
    simp only [laws_toIntS.l0]
    rw [if_pos (by omega), if_pos (by omega), if_pos (by simp; omega), Int.toNat_natCast, e, wrap_succ hi (by omega)]
    exact ih (i + 1) k (by omega) (by omega)
theorem toIntS_eq {k : Nat} {l : List Int} (hn : l.length ≤ 1048576) (hk : l.length < k) : laws_toIntS.f k l = some l := by
  unfold laws_toIntS.f
  rw [if_pos (by omega), if_pos (by omega), Int.toNat_natCast]
  have := toIntS_loop l hn l.length 0 k (by omega) hk
  simpa using this

theorem eqIntS_loop (l : List Int) (hn : l.length ≤ 1048576) : ∀ (d i k : Nat), i + d = l.length → d < k → laws_eqIntS.l0 k l l (i : Int) = some true := by
  intro d
  induction d with
  | zero =>
    intro i k h hk
    obtain ⟨k, rfl⟩ : ∃ m, k = m + 1 := ⟨k - 1, by omega⟩
    simp only [laws_eqIntS.l0]
    rw [if_neg (by omega)]
  | succ d ih =>
    intro i k h hk
    obtain ⟨k, rfl⟩ : ∃ m, k = m + 1 := ⟨k - 1, by omega⟩
    simp only [laws_eqIntS.l0]
    rw [if_pos (by omega), if_pos (by omega), if_pos (by omega), if_pos trivial, wrap_succ (n := l.length) (by omega) (by omega)]
    exact ih (i + 1) k (by omega) (by omega)
theorem eqIntS_refl {k : Nat} {l : List Int} (hn : l.length ≤ 1048576) (hk : l.length < k) : laws_eqIntS.f k l l = some true := by
  unfold laws_eqIntS.f
  rw [if_pos rfl]
  exact eqIntS_loop l hn l.length 0 k (by omega) hk

def waitL (L : List S50) (l : List Int) : Nat → List Int := fun n => (List.range n).map fun (i : Nat) => wrap64 (rd l (i : Int) - (rd_T50 L (i : Int)).f0)
theorem waitL_len (L : List S50) (l : List Int) (n : Nat) : (waitL L l n).length = n := by simp [waitL]
theorem waitL_succ (L : List S50) (l : List Int) (n : Nat) : waitL L l (n + 1) = waitL L l n ++ [wrap64 (rd l (n : Int) - (rd_T50 L (n : Int)).f0)] := by simp [waitL, List.range_succ]
theorem waitL_at (L : List S50) (l : List Int) {i n : Nat} (h : i < n) : rd (waitL L l n) (i : Int) = wrap64 (rd l (i : Int) - (rd_T50 L (i : Int)).f0) := by
  rw [rd_nat _ (by rw [waitL_len]; exact h)]; simp [waitL]
theorem waits_l0 (L : List S50) (l : List Int) (hl : l.length = L.length) (hn : L.length ≤ 1048576) : ∀ (d i : Nat), i + d = L.length →
    Ev (fun k => impl_WaitsOf.l0 k l (waitL L l i) L (L.length : Int) (i : Int)) (waitL L l L.length, true) := by
  intro d
  induction d with
  | zero =>
    intro i h
    obtain rfl : i = L.length := by omega
    refine ev_end (fun k => ?_)
    simp only [impl_WaitsOf.l0]; rw [if_neg (by omega)]
  | succ d ih =>
    intro i h
    have hi : i < L.length := by omega
    refine Ev.step (fun k => ?_) (ih (i + 1) (by omega))
    simp only [impl_WaitsOf.l0]
    rw [if_pos (by omega), if_pos (by omega), if_pos (by omega), if_pos (by omega), if_pos (by rw [waitL_len]; omega), ← waitL_succ, wrap_succ hi (by omega)]
theorem sum_l0 (L : List S50) (l : List Int) (hl : l.length = L.length) (hn : L.length ≤ 1048576) : ∀ (d i : Nat) (c : Int), i + d = L.length →
    EvB (fun k => spec_WeightedWait.l0 k L c l (l.length : Int) (i : Int)) (fun k => impl_WeightedWait.l0 k L true c (waitL L l L.length) ((waitL L l L.length).length : Int) (i : Int)) := by
  intro d
  induction d with
  | zero =>
    intro i c h
    refine EvB.ret (v := (c, true)) (fun k => ?_) (fun k => ?_)
    · simp only [spec_WeightedWait.l0]; rw [if_neg (by omega)]
    · simp only [impl_WeightedWait.l0]; rw [if_neg (by rw [waitL_len]; omega)]
  | succ d ih =>
    intro i c h
    have hi : i < L.length := by omega
    refine EvB.step (fun k => ?_) (fun k => ?_) (ih (i + 1) (wrap64 (c + wrap64 (wrap64 (rd l (i : Int) - (rd_T50 L (i : Int)).f0) * (rd_T50 L (i : Int)).f2))) (by omega))
    · simp only [spec_WeightedWait.l0]
      rw [if_pos (by omega), if_pos (by omega), if_pos (by omega), if_pos (by omega), wrap_succ hi (by omega)]
    · simp only [impl_WeightedWait.l0]
      rw [if_pos (by rw [waitL_len]; omega), if_pos (by omega), if_pos (by rw [waitL_len]; omega), if_pos (by omega), waitL_at L l hi, wrap_succ hi (by omega)]
theorem both (L : List S50) (l : List Int) (hn : L.length ≤ 1048576) (hm : l.length ≤ 1048576) : ∃ v, Ev (fun k => spec_WeightedWait.f k L l) v ∧ Ev (fun k => impl_WeightedWait.f k L l) v := by
  have hno : ∀ k, impl_WeightedWait.l0 (k + 1) L false 0 ([] : List Int) ((([] : List Int).length : Nat) : Int) 0 = some (0, false) := by
    intro k; simp only [impl_WeightedWait.l0]; rw [if_neg (by simp)]
  cases hb : startsB L l with
  | false =>
    refine ⟨(0, false), ⟨L.length + l.length + 2, fun k hk => ?_⟩, ⟨L.length + 2, fun k hk => ?_⟩⟩
    · show spec_WeightedWait.f k L l = _
      obtain ⟨k, rfl⟩ : ∃ q, k = q + 1 := ⟨k - 1, by omega⟩
      unfold spec_WeightedWait.f; rw [spec_prGiven_eq (k := k + 1) hn hm (by omega), hb, Option.bind_some, if_neg (by simp)]
      simp only [spec_WeightedWait.j0, if_true]
    · show impl_WeightedWait.f k L l = _
      obtain ⟨k, rfl⟩ : ∃ q, k = q + 1 := ⟨k - 1, by omega⟩
      unfold impl_WeightedWait.f impl_WaitsOf.f; rw [impl_areStarts_eq (k := k + 1) hn (by omega), hb, Option.bind_some, if_neg (by simp)]
      simp only [impl_WaitsOf.j0, if_true, Option.bind_some]
      exact hno k
  | true =>
    have hl := (startsB_len hb).2
    obtain ⟨s, ⟨K1, h1⟩, ⟨K2, h2⟩⟩ := sched_both L l hl hn
    obtain ⟨K3, h3⟩ := waits_l0 L l hl hn L.length 0 (by omega)
    obtain ⟨v, ⟨K4, h4⟩, ⟨K5, h5⟩⟩ := sum_l0 L l hl hn L.length 0 0 (by omega)
    simp only at h1 h2 h3 h4 h5
    refine ⟨if s = true then v else (0, false), ⟨K1 + K4 + L.length + l.length + 2, fun k hk => ?_⟩, ⟨K2 + K3 + K5 + L.length + 2, fun k hk => ?_⟩⟩
    · show spec_WeightedWait.f k L l = _
      obtain ⟨k, rfl⟩ : ∃ q, k = q + 1 := ⟨k - 1, by omega⟩
      unfold spec_WeightedWait.f; rw [spec_prGiven_eq (k := k + 1) hn hm (by omega), hb, Option.bind_some, if_pos rfl, h1 (k + 1) (by omega), Option.bind_some]
      cases s with
      | true => simp only [spec_WeightedWait.j0, Bool.not_true, if_neg (show ¬ (false = true) by decide), if_true]; exact h4 k (by omega)
      | false => simp only [spec_WeightedWait.j0, Bool.not_false, if_true, if_neg (show ¬ (false = true) by decide)]
    · show impl_WeightedWait.f k L l = _
      obtain ⟨k, rfl⟩ : ∃ q, k = q + 1 := ⟨k - 1, by omega⟩
      unfold impl_WeightedWait.f impl_WaitsOf.f; rw [impl_areStarts_eq (k := k + 1) hn (by omega), hb, Option.bind_some, if_pos rfl, h2 (k + 1) (by omega), Option.bind_some]
      cases s with
      | true =>
        simp only [impl_WaitsOf.j0, Bool.not_true, if_neg (show ¬ (false = true) by decide), if_true]
        have e : impl_WaitsOf.l0 k l [] L (L.length : Int) 0 = some (waitL L l L.length, true) := h3 k (by omega)
        rw [e, Option.bind_some]
        exact h5 (k + 1) (by omega)
      | false =>
        simp only [impl_WaitsOf.j0, Bool.not_false, if_true, if_neg (show ¬ (false = true) by decide), Option.bind_some]
        exact hno k
theorem FnExactWeightedWait : FnExactWeightedWaitPure := by
  intro L0 l hm _ hm2 _
  unfold maxLen at hm hm2
  by_cases hl : (l.length : Int) > 1048576
  · exact ⟨0, by unfold laws_FnExactWeightedWait.f; rw [if_pos hl]⟩
  have hn3 : l.length ≤ 1048576 := by omega
  by_cases hn : L0.length ≤ 1048576
  · have n1 : ¬ (1048576 - (L0.length : Int) < 0) := by omega
    have hn2 : (L0.map toJ).length ≤ 1048576 := by simpa using hn
    obtain ⟨v, ⟨K1, h1⟩, ⟨K2, h2⟩⟩ := both (L0.map toJ) l hn2 hn3
    have hLL : (L0.map toJ).length = L0.length := by simp
    refine ⟨K1 + K2 + L0.length + l.length + 10, ?_⟩
    generalize hL : L0.map toJ = L at *
    unfold laws_FnExactWeightedWait.f
    simp (disch := omega) only [Option.bind_some, ↓reduceIte, bne_self_eq_false, Bool.false_eq_true, h1, h2, hl, szJobS_ok hn, n1, toJobS_eq hn, toIntS_eq hn3, eqIntS_refl hn3, hL, eqJobS_refl hn2]
    rw [laws_FnExactWeightedWait.j0]
    simp (disch := omega) only [Option.bind_some, ↓reduceIte, bne_self_eq_false, Bool.false_eq_true, h1, h2, hl, szJobS_ok hn, n1, toJobS_eq hn, toIntS_eq hn3, eqIntS_refl hn3, hL, eqJobS_refl hn2]
  · exact ⟨0, by unfold laws_FnExactWeightedWait.f; rw [if_neg hl, szJobS_big hm hn]; rfl⟩

end Go.Proofs.Yteakcmjkiamnmaa.Pure
