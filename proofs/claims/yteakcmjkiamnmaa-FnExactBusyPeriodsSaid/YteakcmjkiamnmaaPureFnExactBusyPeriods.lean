/- FnExactBusyPeriods: the program's answer is the reference's, as plain functions over numbers and lists; no condition beyond the sizes that every value has. -/
import Derived.Test.YteakcmjkiamnmaaPFnExactBusyPeriodsx8
namespace Go.Proofs.Yteakcmjkiamnmaa.Pure
open Go.RowKit Go.Proofs.Yteakcmjkiamnmaa.PFnExactBusyPeriods Go.Proofs.YteakcmjkiamnmaaW.PrintWords Go.Proofs.YteakcmjkiamnmaaW.PrintLast Go.Proofs.YteakcmjkiamnmaaW.PrintMore

/- It reaches: laws_szJobS.f, laws_toJob.f, laws_toJobS.f, spec_l1In.f, spec_prJobs.f, spec_BusyPeriods.f, impl_within.f, impl_isTick.f, impl_AreJobs.f, impl_periods.f, impl_BusyPeriods.f, laws_eqIntS.f, laws_eqIntSS.f, laws_eqJob.f, laws_eqJobS.f, laws_markJobS.f, laws_markIntS.f, laws_markIntSS.f, laws_heldIntS.f, laws_heldIntSS.f, laws_FnExactBusyPeriods.f -/
def FnExactBusyPeriodsPure : Prop := ∀ (l0 : List (S53)), l0.length ≤ maxLen → (∀ x ∈ l0, (Lit.int .i64 x.f0).wf = true ∧ (Lit.int .i64 x.f1).wf = true ∧ (Lit.int .i64 x.f2).wf = true) → ∃ k, laws_FnExactBusyPeriods.f k l0 = some true
set_option linter.unusedSimpArgs false
set_option linter.unusedVariables false
theorem wrap_id {x : Int} (h1 : -9223372036854775808 ≤ x) (h2 : x ≤ 9223372036854775807) : wrap64 x = x := by unfold wrap64; omega
theorem wrap_succ {i n : Nat} (h : i < n) (hn : n ≤ 4611686018427387904) : wrap64 ((i : Int) + 1) = ((i + 1 : Nat) : Int) := by rw [wrap_id] <;> omega
theorem rd_nat (l : List Int) {i : Nat} (h : i < l.length) : rd l (i : Int) = l[i] := by simp [rd, h]
theorem rd_mem (l : List Int) {i : Nat} (h : i < l.length) : rd l (i : Int) ∈ l := by rw [rd_nat l h]; exact List.getElem_mem h
/-- One round, and the end. -/
theorem ev_end {α : Type} {g : Nat → Option α} {r : α} (h : ∀ k, g (k + 1) = some r) : Ev g r := Ev.step h (Ev.now r)
theorem ev_of {α : Type} {g : Nat → Option α} {r : α} (h : ∀ k, g k = some r) : Ev g r := ⟨0, fun k _ => h k⟩
theorem ev_eq {α : Type} {g : Nat → Option α} {r r' : α} (h : Ev g r) (e : r = r') : Ev g r' := e ▸ h

theorem rdJ_nat (l : List S50) {i : Nat} (h : i < l.length) : rd_T50 l (i : Int) = l[i] := by simp [rd_T50, h]

theorem rdLJ_nat (l : List S53) {i : Nat} (h : i < l.length) : rd_T53 l (i : Int) = l[i] := by simp [rd_T53, h]
def toJ (x : S53) : S50 := ⟨x.f0, x.f1, x.f2⟩
theorem toJobS_loop (l : List S53) (hn : l.length ≤ 1048576) : ∀ (d i k : Nat), i + d = l.length → d < k → laws_toJobS.l0 k l ((l.take i).map toJ ++ List.replicate d z50) (i : Int) = some (l.map toJ) := by
  intro d
  induction d with
  | zero =>
    intro i k h hk
    obtain ⟨k, rfl⟩ : ∃ m, k = m + 1 := ⟨k - 1, by omega⟩
    simp only [laws_toJobS.l0]
    rw [if_neg (by omega)]
    simp [List.take_of_length_le (show l.length ≤ i by omega)]
  | succ d ih =>
    intro i k h hk
    obtain ⟨k, rfl⟩ : ∃ m, k = m + 1 := ⟨k - 1, by omega⟩
    have hi : i < l.length := by omega
    have e : ((l.take i).map toJ ++ List.replicate (d + 1) z50).set i (⟨l[i].f0, l[i].f1, l[i].f2⟩ : S50) = (l.take (i + 1)).map toJ ++ List.replicate d z50 := by
      rw [List.set_append_right _ _ (by simp; omega)]
      simp only [List.length_map, List.length_take, Nat.min_eq_left (Nat.le_of_lt hi), Nat.sub_self, List.replicate_succ, List.set_cons_zero]
      rw [List.take_succ_eq_append_getElem hi, List.map_append, List.append_assoc]; rfl
    simp only [laws_toJobS.l0, laws_toJob.f, Option.bind_some]
    rw [if_pos (by omega), if_pos (by omega), if_pos (by simp; omega), Int.toNat_natCast, rdLJ_nat l hi, e, wrap_succ hi (by omega)]
    exact ih (i + 1) k (by omega) (by omega)
theorem toJobS_eq {k : Nat} {l : List S53} (hn : l.length ≤ 1048576) (hk : l.length < k) : laws_toJobS.f k l = some (l.map toJ) := by
  unfold laws_toJobS.f
  rw [if_pos (by omega), if_pos (by omega), Int.toNat_natCast]
  have := toJobS_loop l hn l.length 0 k (by omega) hk
  simpa using this

theorem eqJobS_loop (l : List S50) (hn : l.length ≤ 1048576) : ∀ (d i k : Nat), i + d = l.length → d < k → laws_eqJobS.l0 k l l (i : Int) = some true := by
  intro d
  induction d with
  | zero =>
    intro i k h hk
    obtain ⟨k, rfl⟩ : ∃ m, k = m + 1 := ⟨k - 1, by omega⟩
    simp only [laws_eqJobS.l0]
    rw [if_neg (by omega)]
  | succ d ih =>
    intro i k h hk
    obtain ⟨k, rfl⟩ : ∃ m, k = m + 1 := ⟨k - 1, by omega⟩
    simp only [laws_eqJobS.l0, laws_eqJob.f, if_true, Option.bind_some]
    rw [if_pos (by omega), if_pos (by omega), if_pos (by omega), wrap_succ (n := l.length) (by omega) (by omega)]
    exact ih (i + 1) k (by omega) (by omega)
theorem eqJobS_refl {k : Nat} {l : List S50} (hn : l.length ≤ 1048576) (hk : l.length < k) : laws_eqJobS.f k l l = some true := by
  unfold laws_eqJobS.f
  rw [if_pos rfl]
  exact eqJobS_loop l hn l.length 0 k (by omega) hk

theorem szJobS_big {l : List S53} (hm : l.length ≤ 9223372036854775807) (h : ¬ l.length ≤ 1048576) : laws_szJobS.f l 1048576 = some (-1) := by
  unfold laws_szJobS.f
  rw [wrap_id (by omega) (by omega), if_pos (by omega)]
theorem szJobS_ok {l : List S53} (h : l.length ≤ 1048576) : laws_szJobS.f l 1048576 = some (1048576 - (l.length : Int)) := by
  unfold laws_szJobS.f
  rw [wrap_id (by omega) (by omega), if_neg (by omega)]

/-- Does each come no later than the next one? -/
def leJ : List S50 → Bool
  | a :: b :: t => decide (a.f0 ≤ b.f0) && leJ (b :: t)
  | _ => true
theorem leJ_at (l : List S50) {i : Nat} (h0 : 0 < i) (h : i < l.length) : leJ (l.drop (i - 1)) = (decide (l[i - 1].f0 ≤ l[i].f0) && leJ (l.drop i)) := by
  rw [List.drop_eq_getElem_cons (show i - 1 < l.length by omega), show i - 1 + 1 = i from by omega, List.drop_eq_getElem_cons h, leJ]
theorem leJ_end (l : List S50) {i : Nat} (h : i = l.length) : leJ (l.drop (i - 1)) = true := by
  rcases Nat.eq_zero_or_pos i with h0 | h0
  · rw [h0, List.drop_of_length_le (by omega)]; rfl
  · rw [List.drop_eq_getElem_cons (show i - 1 < l.length by omega), List.drop_of_length_le (by omega)]; rfl
theorem wrap_pred {i n : Nat} (h0 : 0 < i) (h : i < n) (hn : n ≤ 4611686018427387904) : wrap64 ((i : Int) - 1) = ((i - 1 : Nat) : Int) := by rw [wrap_id] <;> omega


theorem spec_l1In_eq (a b c : Int) : spec_l1In.f a b c = some (decide (b ≤ a ∧ a ≤ c)) := by
  unfold spec_l1In.f
  by_cases h : b ≤ a <;> simp [h]

theorem impl_within_eq (a b c : Int) : impl_within.f a b c = some (decide (b ≤ a ∧ a ≤ c)) := by
  unfold impl_within.f
  by_cases h : b ≤ a <;> simp [h]

def goodJ (x : S50) : Bool := decide ((0 ≤ x.f0 ∧ x.f0 ≤ 1000) ∧ (0 ≤ x.f1 ∧ x.f1 ≤ 7) ∧ (1 ≤ x.f2 ∧ x.f2 ≤ 20))
/-- What both call jobs. -/
def jobsB (l : List S50) : Bool := decide (l.length ≤ 20) && (l.all goodJ && leJ l)
theorem jobsB_len {l : List S50} (h : jobsB l = true) : l.length ≤ 20 := by simp [jobsB] at h; exact h.1
theorem jobsB_mem {l : List S50} (h : jobsB l = true) : ∀ x ∈ l, (0 ≤ x.f0 ∧ x.f0 ≤ 1000) ∧ (0 ≤ x.f1 ∧ x.f1 ≤ 7) ∧ (1 ≤ x.f2 ∧ x.f2 ≤ 20) := by
  intro x hx
  simp [jobsB] at h
  simpa [goodJ] using h.2.1 x hx
theorem spec_prJobs_loop (l : List S50) (hn : l.length ≤ 1048576) : ∀ (d i k : Nat), i + d = l.length → d < k →
    spec_prJobs.l0 k l l (l.length : Int) (i : Int) = some ((l.drop i).all goodJ && leJ (l.drop (i - 1))) := by
  intro d
  induction d with
  | zero =>
    intro i k h hk
    obtain ⟨k, rfl⟩ : ∃ m, k = m + 1 := ⟨k - 1, by omega⟩
    simp only [spec_prJobs.l0]
    rw [if_neg (by omega), List.drop_of_length_le (l := l) (i := i) (by omega), leJ_end l (by omega)]; rfl
  | succ d ih =>
    intro i k h hk
    obtain ⟨k, rfl⟩ : ∃ m, k = m + 1 := ⟨k - 1, by omega⟩
    have hlt : i < l.length := by omega
    have nx := ih (i + 1) k (by omega) (by omega)
    rw [Nat.add_sub_cancel] at nx
    have e : (l.drop i).all goodJ = (goodJ l[i] && (l.drop (i + 1)).all goodJ) := by rw [List.drop_eq_getElem_cons hlt, List.all_cons]
    simp only [spec_prJobs.l0, spec_l1In_eq, Option.bind_some]
    rw [if_pos (by omega), if_pos (by omega), if_pos (by omega), rdJ_nat l hlt, wrap_succ hlt (by omega), e]
    by_cases c0 : 0 ≤ l[i].f0 ∧ l[i].f0 ≤ 1000
    · rw [if_pos (by simpa using c0)]
      by_cases c1 : 0 ≤ l[i].f1 ∧ l[i].f1 ≤ 7
      · rw [if_pos (by simpa using c1)]
        by_cases c2 : 1 ≤ l[i].f2 ∧ l[i].f2 ≤ 20
        · have g : goodJ l[i] = true := by simp [goodJ, c0, c1, c2]
          rw [if_pos (by simpa using c2), g]
          by_cases h0 : 0 < i
          · rw [if_pos (by omega), wrap_pred h0 hlt (by omega), if_pos (by omega), if_pos (by omega), rdJ_nat l (show i - 1 < l.length by omega), leJ_at l h0 hlt]
            by_cases c : l[i - 1].f0 ≤ l[i].f0
            · rw [if_neg (by omega), nx]; simp [c]
            · rw [if_pos (by omega)]; simp [c]
          · obtain rfl : i = 0 := by omega
            rw [if_neg (by omega), nx, Bool.true_and]
        · have g : goodJ l[i] = false := by simp only [goodJ, c2, and_false, decide_false]
          rw [if_neg (by simpa using c2), g]; rfl
      · have g : goodJ l[i] = false := by simp only [goodJ, c1, and_false, false_and, decide_false]
        rw [if_neg (by simpa using c1), g]; rfl
    · have g : goodJ l[i] = false := by simp only [goodJ, c0, false_and, decide_false]
      rw [if_neg (by simpa using c0), g]; rfl
theorem spec_prJobs_eq {k : Nat} {l : List S50} (hn : l.length ≤ 1048576) (hk : l.length < k) : spec_prJobs.f k l = some (jobsB l) := by
  unfold spec_prJobs.f jobsB
  have := spec_prJobs_loop l hn l.length 0 k (by omega) hk
  rw [show ((0 : Nat) : Int) = 0 from rfl] at this
  by_cases h : l.length ≤ 20
  · rw [if_neg (by omega), this]; simp [h]
  · rw [if_pos (by omega)]; simp [h]
theorem impl_AreJobs_loop (l : List S50) (hn : l.length ≤ 1048576) : ∀ (d i k : Nat), i + d = l.length → d < k →
    impl_AreJobs.l0 k l l (l.length : Int) (i : Int) = some (((l.drop i).all goodJ && leJ (l.drop (i - 1))) && decide ((l.length : Int) ≤ 20)) := by
  intro d
  induction d with
  | zero =>
    intro i k h hk
    obtain ⟨k, rfl⟩ : ∃ m, k = m + 1 := ⟨k - 1, by omega⟩
    simp only [impl_AreJobs.l0]
    rw [if_neg (by omega), List.drop_of_length_le (l := l) (i := i) (by omega), leJ_end l (by omega)]; rfl
  | succ d ih =>
    intro i k h hk
    obtain ⟨k, rfl⟩ : ∃ m, k = m + 1 := ⟨k - 1, by omega⟩
    have hlt : i < l.length := by omega
    have nx := ih (i + 1) k (by omega) (by omega)
    rw [Nat.add_sub_cancel] at nx
    have e : (l.drop i).all goodJ = (goodJ l[i] && (l.drop (i + 1)).all goodJ) := by rw [List.drop_eq_getElem_cons hlt, List.all_cons]
    simp only [impl_AreJobs.l0, impl_isTick.f, impl_within_eq, Option.bind_some]
    rw [if_pos (by omega), if_pos (by omega), if_pos (by omega), rdJ_nat l hlt, wrap_succ hlt (by omega), e]
    by_cases c0 : 0 ≤ l[i].f0 ∧ l[i].f0 ≤ 1000
    · rw [if_pos (by simpa using c0)]
      by_cases c1 : 0 ≤ l[i].f1 ∧ l[i].f1 ≤ 7
      · rw [if_pos (by simpa using c1)]
        by_cases c2 : 1 ≤ l[i].f2 ∧ l[i].f2 ≤ 20
        · have g : goodJ l[i] = true := by simp [goodJ, c0, c1, c2]
          rw [if_pos (by simpa using c2), g]
          by_cases h0 : 0 < i
          · rw [if_pos (by omega), wrap_pred h0 hlt (by omega), if_pos (by omega), if_pos (by omega), rdJ_nat l (show i - 1 < l.length by omega), leJ_at l h0 hlt]
            by_cases c : l[i - 1].f0 ≤ l[i].f0
            · rw [if_neg (by omega), nx]; simp [c]
            · rw [if_pos (by omega)]; simp [c]
          · obtain rfl : i = 0 := by omega
            rw [if_neg (by omega), nx, Bool.true_and]
        · have g : goodJ l[i] = false := by simp only [goodJ, c2, and_false, decide_false]
          rw [if_neg (by simpa using c2), g]; rfl
      · have g : goodJ l[i] = false := by simp only [goodJ, c1, and_false, false_and, decide_false]
        rw [if_neg (by simpa using c1), g]; rfl
    · have g : goodJ l[i] = false := by simp only [goodJ, c0, false_and, decide_false]
      rw [if_neg (by simpa using c0), g]; rfl
theorem impl_AreJobs_eq {k : Nat} {l : List S50} (hn : l.length ≤ 1048576) (hk : l.length < k) : impl_AreJobs.f k l = some (jobsB l) := by
  unfold impl_AreJobs.f jobsB
  have := impl_AreJobs_loop l hn l.length 0 k (by omega) hk
  rw [show ((0 : Nat) : Int) = 0 from rfl] at this
  rw [this]
  by_cases h : l.length ≤ 20
  · simp [h, show (l.length : Int) ≤ 20 by omega]
  · simp [h, show ¬ (l.length : Int) ≤ 20 by omega]

/-- One job more: the stretches so far, the last one first. -/
def perS (r : List (Int × Int)) (t n : Int) : List (Int × Int) := match r with
  | [] => [(t, t + n)]
  | (a, b) :: r' => if b ≥ t then (a, b + n) :: r' else (t, t + n) :: (a, b) :: r'
theorem perS_cons (a b t n : Int) (r : List (Int × Int)) : perS ((a, b) :: r) t n = if b ≥ t then (a, b + n) :: r else (t, t + n) :: (a, b) :: r := rfl
def perRow (p : Int × Int) : List Int := [p.1, p.2]
/-- The stretches as rows, the first one first. -/
def perRows (r : List (Int × Int)) : List (List Int) := r.reverse.map perRow
def perAll (r : List (Int × Int)) : List S50 → List (Int × Int)
  | [] => r
  | j :: l => perAll (perS r j.f0 j.f2) l
theorem perRows_len (r : List (Int × Int)) : (perRows r).length = r.length := by simp [perRows]
theorem perRows_cons (p : Int × Int) (r : List (Int × Int)) : perRows (p :: r) = perRows r ++ [perRow p] := by simp [perRows]
theorem perS_len (r : List (Int × Int)) (t n : Int) : (perS r t n).length ≤ r.length + 1 := by
  unfold perS
  split
  · simp
  · split <;> simp
theorem perAll_len : ∀ (l : List S50) (r : List (Int × Int)), (perAll r l).length ≤ r.length + l.length
  | [], r => by simp [perAll]
  | j :: l, r => by
    have h1 := perAll_len l (perS r j.f0 j.f2)
    have h2 := perS_len r j.f0 j.f2
    rw [perAll, List.length_cons]; omega
/-- The ends lie within a bound. -/
def perOk (M : Int) (r : List (Int × Int)) : Prop := ∀ p ∈ r, (0 ≤ p.1 ∧ p.1 ≤ 1000) ∧ p.1 < p.2 ∧ p.2 ≤ M
theorem perS_ok {M t n : Int} {r : List (Int × Int)} (h : perOk M r) (hM : 1000 ≤ M) (ht : 0 ≤ t ∧ t ≤ 1000) (hn : 1 ≤ n ∧ n ≤ 20) : perOk (M + 20) (perS r t n) := by
  unfold perS
  split
  · intro p hp; simp at hp; subst hp; exact ⟨ht, by show t < t + n; omega, by show t + n ≤ _; omega⟩
  · rename_i a b r'
    have h0 := h (a, b) (by simp)
    split
    · intro p hp
      rcases List.mem_cons.1 hp with e | e
      · subst e; exact ⟨h0.1, by show a < b + n; have := h0.2.1; simp only at this; omega, by show b + n ≤ _; have := h0.2.2; simp only at this; omega⟩
      · have := h p (by simp [e]); exact ⟨this.1, this.2.1, by omega⟩
    · intro p hp
      rcases List.mem_cons.1 hp with e | e
      · subst e; exact ⟨ht, by show t < t + n; omega, by show t + n ≤ _; omega⟩
      · have := h p e; exact ⟨this.1, this.2.1, by omega⟩
theorem rdRow_last (r : List (Int × Int)) (p : Int × Int) : rd_L3 (perRows r ++ [perRow p]) (r.length : Int) = perRow p := by
  unfold rd_L3
  rw [Int.toNat_natCast, List.getD_eq_getElem?_getD, List.getElem?_append_right (by rw [perRows_len]; exact Nat.le_refl _), perRows_len, Nat.sub_self]; rfl

theorem impl_periods_loop (l : List S50) (hl : l.length ≤ 20) (hj : ∀ x ∈ l, (0 ≤ x.f0 ∧ x.f0 ≤ 1000) ∧ (0 ≤ x.f1 ∧ x.f1 ≤ 7) ∧ (1 ≤ x.f2 ∧ x.f2 ≤ 20)) : ∀ (d i : Nat) (r : List (Int × Int)), i + d = l.length → r.length ≤ i → perOk (1000 + 20 * (i : Int)) r →
    Ev (fun k => impl_periods.l0 k (perRows r) l (l.length : Int) (i : Int)) (perRows (perAll r (l.drop i))) := by
  intro d
  induction d with
  | zero =>
    intro i r h hr hok
    refine ev_end (fun k => ?_)
    simp only [impl_periods.l0]
    rw [if_neg (by omega), List.drop_of_length_le (l := l) (i := i) (by omega)]; rfl
  | succ d ih =>
    intro i r h hr hok
    have hi : i < l.length := by omega
    have hb := hj l[i] (List.getElem_mem hi)
    have hok2 := perS_ok (t := l[i].f0) (n := l[i].f2) hok (by omega) hb.1 hb.2.2
    have hlen2 := perS_len r l[i].f0 l[i].f2
    have next := ih (i + 1) (perS r l[i].f0 l[i].f2) (by omega) (by omega) (by rw [show (1000 : Int) + 20 * ((i + 1 : Nat) : Int) = 1000 + 20 * (i : Int) + 20 by omega]; exact hok2)
    rw [List.drop_eq_getElem_cons hi, perAll]
    refine Ev.step (fun k => ?_) next
    simp only [impl_periods.l0]
    rw [if_pos (by omega), if_pos (by omega), if_pos (by omega), rdJ_nat l hi, wrap_succ hi (by omega), perRows_len]
    have wf : wrap64 (l[i].f0 + l[i].f2) = l[i].f0 + l[i].f2 := wrap_id (by omega) (by omega)
    have wl : wrap64 ((r.length : Int) - 1) = (r.length : Int) - 1 := wrap_id (by omega) (by omega)
    rw [wf, wl]
    cases r with
    | nil =>
      rw [if_neg (by simp), if_pos (by simp)]
      rfl
    | cons p r' =>
      obtain ⟨a, b⟩ := p
      have hp := hok (a, b) (by simp)
      simp only at hp
      have e1 : ((((a, b) :: r').length : Nat) : Int) - 1 = (r'.length : Int) := by simp
      rw [e1, perRows_cons, rdRow_last, if_pos (by omega), if_pos (by omega), if_pos (by simp; omega), if_pos (by simp [perRow])]
      have e2 : rd (perRow (a, b)) 1 = b := rfl
      rw [e2]
      by_cases c : b ≥ l[i].f0
      · have e3 : perS ((a, b) :: r') l[i].f0 l[i].f2 = (a, b + l[i].f2) :: r' := by rw [perS_cons, if_pos c]
        rw [if_pos c, e3, perRows_cons, wrap_id (x := b + l[i].f2) (by omega) (by omega)]
        have e4 : (perRows r' ++ [perRow (a, b)]).set (r'.length : Int).toNat ((perRow (a, b)).set (1 : Int).toNat (b + l[i].f2)) = perRows r' ++ [perRow (a, b + l[i].f2)] := by
          rw [Int.toNat_natCast, List.set_append_right _ _ (by rw [perRows_len]; exact Nat.le_refl _), perRows_len, Nat.sub_self]; rfl
        rw [e4]
      · have e3 : perS ((a, b) :: r') l[i].f0 l[i].f2 = (l[i].f0, l[i].f0 + l[i].f2) :: (a, b) :: r' := by rw [perS_cons, if_neg c]
        rw [if_neg c, if_pos (by simp only [List.length_cons] at hr ⊢; omega), e3, perRows_cons, perRows_cons]; rfl
theorem perAll_ok (l : List S50) (hj : ∀ x ∈ l, (0 ≤ x.f0 ∧ x.f0 ≤ 1000) ∧ (0 ≤ x.f1 ∧ x.f1 ≤ 7) ∧ (1 ≤ x.f2 ∧ x.f2 ≤ 20)) : ∀ (M : Int) (r : List (Int × Int)), 1000 ≤ M → perOk M r → perOk (M + 20 * (l.length : Int)) (perAll r l) := by
  induction l with
  | nil => intro M r _ h; simpa [perAll] using h
  | cons j l ih =>
    intro M r hM h
    have hb := hj j (by simp)
    have := ih (fun x hx => hj x (by simp [hx])) (M + 20) (perS r j.f0 j.f2) (by omega) (perS_ok h hM hb.1 hb.2.2)
    rw [perAll]
    rw [List.length_cons, show M + 20 * ((l.length + 1 : Nat) : Int) = M + 20 + 20 * (l.length : Int) by omega]
    exact this

theorem spec_periods_loop (l : List S50) (hl : l.length ≤ 20) (hj : ∀ x ∈ l, (0 ≤ x.f0 ∧ x.f0 ≤ 1000) ∧ (0 ≤ x.f1 ∧ x.f1 ≤ 7) ∧ (1 ≤ x.f2 ∧ x.f2 ≤ 20)) : ∀ (d i : Nat) (r : List (Int × Int)), i + d = l.length → r.length ≤ i → perOk (1000 + 20 * (i : Int)) r →
    Ev (fun k => spec_BusyPeriods.l0 k (perRows r) l (l.length : Int) (i : Int)) (perRows (perAll r (l.drop i)), true) := by
  intro d
  induction d with
  | zero =>
    intro i r h hr hok
    refine ev_end (fun k => ?_)
    simp only [spec_BusyPeriods.l0]
    rw [if_neg (by omega), List.drop_of_length_le (l := l) (i := i) (by omega)]; rfl
  | succ d ih =>
    intro i r h hr hok
    have hi : i < l.length := by omega
    have hb := hj l[i] (List.getElem_mem hi)
    have hok2 := perS_ok (t := l[i].f0) (n := l[i].f2) hok (by omega) hb.1 hb.2.2
    have hlen2 := perS_len r l[i].f0 l[i].f2
    have next := ih (i + 1) (perS r l[i].f0 l[i].f2) (by omega) (by omega) (by rw [show (1000 : Int) + 20 * ((i + 1 : Nat) : Int) = 1000 + 20 * (i : Int) + 20 by omega]; exact hok2)
    rw [List.drop_eq_getElem_cons hi, perAll]
    refine Ev.step (fun k => ?_) next
    simp only [spec_BusyPeriods.l0]
    rw [if_pos (by omega), if_pos (by omega), if_pos (by omega), rdJ_nat l hi, wrap_succ hi (by omega), perRows_len]
    have wf : wrap64 (l[i].f0 + l[i].f2) = l[i].f0 + l[i].f2 := wrap_id (by omega) (by omega)
    have wl : wrap64 ((r.length : Int) - 1) = (r.length : Int) - 1 := wrap_id (by omega) (by omega)
    rw [wf, wl]
    cases r with
    | nil =>
      rw [if_neg (by simp), if_pos (by simp)]
      rfl
    | cons p r' =>
      obtain ⟨a, b⟩ := p
      have hp := hok (a, b) (by simp)
      simp only at hp
      have e1 : ((((a, b) :: r').length : Nat) : Int) - 1 = (r'.length : Int) := by simp
      rw [e1, perRows_cons, rdRow_last, if_pos (by omega), if_pos (by omega), if_pos (by simp; omega), if_pos (by simp [perRow])]
      have e0 : rd (perRow (a, b)) 0 = a := rfl
      have e2 : rd (perRow (a, b)) 1 = b := rfl
      rw [e2]
      by_cases c : b ≥ l[i].f0
      · have e3 : perS ((a, b) :: r') l[i].f0 l[i].f2 = (a, b + l[i].f2) :: r' := by rw [perS_cons, if_pos c]
        rw [if_pos c, if_pos (by simp [perRow]), e0, e3, perRows_cons, wrap_id (x := b + l[i].f2) (by omega) (by omega)]
        have e4 : (perRows r' ++ [perRow (a, b)]).set (r'.length : Int).toNat [a, b + l[i].f2] = perRows r' ++ [perRow (a, b + l[i].f2)] := by
          rw [Int.toNat_natCast, List.set_append_right _ _ (by rw [perRows_len]; exact Nat.le_refl _), perRows_len, Nat.sub_self]; rfl
        rw [e4]
      · have e3 : perS ((a, b) :: r') l[i].f0 l[i].f2 = (l[i].f0, l[i].f0 + l[i].f2) :: (a, b) :: r' := by rw [perS_cons, if_neg c]
        rw [if_neg c, if_pos (by simp only [List.length_cons] at hr ⊢; omega), e3, perRows_cons, perRows_cons]; rfl

/-- The numbers from m on, three a job. -/
def marksJ (m : Int) (n : Nat) : List S50 := (List.range n).map fun (j : Nat) => ⟨m + 3 * (j : Int), m + 3 * (j : Int) + 1, m + 3 * (j : Int) + 2⟩
theorem marksJ_length (m : Int) (n : Nat) : (marksJ m n).length = n := by simp [marksJ]
theorem marksJ_succ (m : Int) (n : Nat) : marksJ m (n + 1) = marksJ m n ++ [⟨m + 3 * (n : Int), m + 3 * (n : Int) + 1, m + 3 * (n : Int) + 2⟩] := by simp [marksJ, List.range_succ]
theorem markJobS_loop (l : List S50) (m : Int) (hm : 0 ≤ m) (hm2 : m ≤ 1099511627776) (hn : l.length ≤ 1048576) : ∀ (d i k : Nat), i + d = l.length → d < k →
    laws_markJobS.l0 k (marksJ m i ++ l.drop i) (m + 3 * (i : Int)) (i : Int) = some (m + 3 * (l.length : Int), marksJ m l.length) := by
  intro d
  induction d with
  | zero =>
    intro i k h hk
    obtain ⟨k, rfl⟩ : ∃ q, k = q + 1 := ⟨k - 1, by omega⟩
    obtain rfl : i = l.length := by omega
    simp only [laws_markJobS.l0]
    rw [if_neg (by simp [marksJ_length])]
    simp
  | succ d ih =>
    intro i k h hk
    obtain ⟨k, rfl⟩ : ∃ q, k = q + 1 := ⟨k - 1, by omega⟩
    have hi : i < l.length := by omega
    have hL : (marksJ m i ++ l.drop i).length = l.length := by simp [marksJ_length]; omega
    have hset : ∀ x : S50, (marksJ m i ++ l.drop i).set i x = marksJ m i ++ x :: l.drop (i + 1) := by
      intro x
      rw [List.set_append_right _ _ (by simp [marksJ_length]), marksJ_length, Nat.sub_self, List.drop_eq_getElem_cons hi, List.set_cons_zero]
    have hset2 : ∀ x y : S50, (marksJ m i ++ x :: l.drop (i + 1)).set i y = marksJ m i ++ y :: l.drop (i + 1) := by
      intro x y
      rw [List.set_append_right _ _ (by simp [marksJ_length]), marksJ_length, Nat.sub_self, List.set_cons_zero]
    have hrd : ∀ x : S50, rd_T50 (marksJ m i ++ x :: l.drop (i + 1)) (i : Int) = x := by
      intro x
      rw [rdJ_nat _ (by simp [marksJ_length])]
      simp [marksJ_length]
    simp only [laws_markJobS.l0]
    rw [if_pos (by rw [hL]; omega), if_pos (by omega), Int.toNat_natCast, hset, Option.bind_some, hrd, hset2, Option.bind_some, hrd, hset2]
    rw [wrap_succ hi (by omega), wrap_id (x := m + 3 * (i : Int) + 1) (by omega) (by omega), wrap_id (x := m + 3 * (i : Int) + 1 + 1) (by omega) (by omega), wrap_id (x := m + 3 * (i : Int) + 1 + 1 + 1) (by omega) (by omega)]
    have := ih (i + 1) k (by omega) (by omega)
    rw [marksJ_succ, List.append_assoc] at this
    rw [show m + 3 * (i : Int) + 1 + 1 + 1 = m + 3 * ((i + 1 : Nat) : Int) from by omega, show m + 3 * (i : Int) + 1 + 1 = m + 3 * (i : Int) + 2 from by omega]
    exact this
theorem markJobS_eq {k : Nat} {l : List S50} {m : Int} (hm : 0 ≤ m) (hm2 : m ≤ 1099511627776) (hn : l.length ≤ 1048576) (hk : l.length < k) : laws_markJobS.f k l m = some (m + 3 * (l.length : Int), marksJ m l.length) := by
  unfold laws_markJobS.f
  have := markJobS_loop l m hm hm2 hn l.length 0 k (by omega) hk
  simpa [marksJ] using this

theorem eqIntS_loop (l : List Int) (hn : l.length ≤ 1048576) : ∀ (d i k : Nat), i + d = l.length → d < k → laws_eqIntS.l0 k l l (i : Int) = some true := by
  intro d
  induction d with
  | zero =>
    intro i k h hk
    obtain ⟨k, rfl⟩ : ∃ m, k = m + 1 := ⟨k - 1, by omega⟩
    simp only [laws_eqIntS.l0]
    rw [if_neg (by omega)]
  | succ d ih =>
    intro i k h hk
    obtain ⟨k, rfl⟩ : ∃ m, k = m + 1 := ⟨k - 1, by omega⟩
    simp only [laws_eqIntS.l0]
    rw [if_pos (by omega), if_pos (by omega), if_pos (by omega), if_pos trivial, wrap_succ (n := l.length) (by omega) (by omega)]
    exact ih (i + 1) k (by omega) (by omega)
theorem eqIntS_refl {k : Nat} {l : List Int} (hn : l.length ≤ 1048576) (hk : l.length < k) : laws_eqIntS.f k l l = some true := by
  unfold laws_eqIntS.f
  rw [if_pos rfl]
  exact eqIntS_loop l hn l.length 0 k (by omega) hk

/-- n numbers from m on. -/
def marks (m : Int) (n : Nat) : List Int := (List.range n).map fun (j : Nat) => m + (j : Int)
theorem marks_length (m : Int) (n : Nat) : (marks m n).length = n := by simp [marks]
theorem marks_succ (m : Int) (n : Nat) : marks m (n + 1) = marks m n ++ [m + (n : Int)] := by simp [marks, List.range_succ]
theorem markIntS_loop (l : List Int) (m : Int) (hm : 0 ≤ m) (hm2 : m ≤ 1099511627776) (hn : l.length ≤ 1048576) : ∀ (d i k : Nat), i + d = l.length → d < k →
    laws_markIntS.l0 k (marks m i ++ l.drop i) (m + (i : Int)) (i : Int) = some (m + (l.length : Int), marks m l.length) := by
  intro d
  induction d with
  | zero =>
    intro i k h hk
    obtain ⟨k, rfl⟩ : ∃ m, k = m + 1 := ⟨k - 1, by omega⟩
    obtain rfl : i = l.length := by omega
    simp only [laws_markIntS.l0]
    rw [if_neg (by simp [marks_length])]
    simp
  | succ d ih =>
    intro i k h hk
    obtain ⟨k, rfl⟩ : ∃ m, k = m + 1 := ⟨k - 1, by omega⟩
    have hi : i < l.length := by omega
    have e : (marks m i ++ l.drop i).set i (m + (i : Int)) = marks m (i + 1) ++ l.drop (i + 1) := by
      rw [List.set_append_right _ _ (by simp [marks_length]), marks_length, Nat.sub_self, List.drop_eq_getElem_cons hi, List.set_cons_zero, marks_succ, List.append_assoc]; rfl
    simp only [laws_markIntS.l0]
    rw [if_pos (by simp [marks_length]; omega), if_pos (by omega), Int.toNat_natCast, e, wrap_succ hi (by omega), show wrap64 (m + (i : Int) + 1) = m + ((i + 1 : Nat) : Int) from by rw [wrap_id] <;> omega]
    exact ih (i + 1) k (by omega) (by omega)
theorem markIntS_eq {k : Nat} {l : List Int} {m : Int} (hm : 0 ≤ m) (hm2 : m ≤ 1099511627776) (hn : l.length ≤ 1048576) (hk : l.length < k) : laws_markIntS.f k l m = some (m + (l.length : Int), marks m l.length) := by
  unfold laws_markIntS.f
  have := markIntS_loop l m hm hm2 hn l.length 0 k (by omega) hk
  simpa [marks] using this
theorem heldIntS_loop (n : Nat) (m : Int) (hm : 0 ≤ m) (hm2 : m ≤ 1099511627776) (hn : n ≤ 1048576) : ∀ (d i k : Nat), i + d = n → d < k → laws_heldIntS.l0 k (marks m n) (m + (i : Int)) (i : Int) = some (m + (n : Int)) := by
  intro d
  induction d with
  | zero =>
    intro i k h hk
    obtain ⟨k, rfl⟩ : ∃ m, k = m + 1 := ⟨k - 1, by omega⟩
    obtain rfl : i = n := by omega
    simp only [laws_heldIntS.l0]
    rw [if_neg (by simp [marks_length])]
  | succ d ih =>
    intro i k h hk
    obtain ⟨k, rfl⟩ : ∃ m, k = m + 1 := ⟨k - 1, by omega⟩
    have hi : i < n := by omega
    have e : rd (marks m n) (i : Int) = m + (i : Int) := by rw [rd_nat _ (by simpa [marks_length] using hi)]; simp [marks]
    simp only [laws_heldIntS.l0]
    rw [if_pos (by simp [marks_length]; omega), if_pos (by omega), if_pos e, wrap_succ hi (by omega), show wrap64 (m + (i : Int) + 1) = m + ((i + 1 : Nat) : Int) from by rw [wrap_id] <;> omega]
    exact ih (i + 1) k (by omega) (by omega)
theorem heldIntS_eq {k n : Nat} {m : Int} (hm : 0 ≤ m) (hm2 : m ≤ 1099511627776) (hn : n ≤ 1048576) (hk : n < k) : laws_heldIntS.f k (marks m n) m = some (m + (n : Int)) := by
  unfold laws_heldIntS.f
  simpa using heldIntS_loop n m hm hm2 hn n 0 k (by omega) hk

theorem rdRow_at (l : List (List Int)) {i : Nat} (h : i < l.length) : rd_L3 l (i : Int) = l[i] := by simp [rd_L3, h]
theorem eqIntSS_loop (l : List (List Int)) (hn : l.length ≤ 4096) (hr : ∀ r ∈ l, r.length ≤ 4096) : ∀ (d i k : Nat), i + d = l.length → d + 4097 < k → laws_eqIntSS.l0 k l l (i : Int) = some true := by
  intro d
  induction d with
  | zero =>
    intro i k h hk
    obtain ⟨k, rfl⟩ : ∃ m, k = m + 1 := ⟨k - 1, by omega⟩
    simp only [laws_eqIntSS.l0]
    rw [if_neg (by omega)]
  | succ d ih =>
    intro i k h hk
    obtain ⟨k, rfl⟩ : ∃ m, k = m + 1 := ⟨k - 1, by omega⟩
    have hi : i < l.length := by omega
    have hb := hr l[i] (List.getElem_mem hi)
    simp only [laws_eqIntSS.l0]
    rw [if_pos (by omega), if_pos (by omega), if_pos (by omega), rdRow_at l hi, eqIntS_refl (by omega) (by omega), Option.bind_some, if_pos rfl, wrap_succ hi (by omega)]
    exact ih (i + 1) k (by omega) (by omega)
theorem eqIntSS_refl {k : Nat} {l : List (List Int)} (hn : l.length ≤ 4096) (hr : ∀ r ∈ l, r.length ≤ 4096) (hk : l.length + 4097 < k) : laws_eqIntSS.f k l l = some true := by
  unfold laws_eqIntSS.f
  rw [if_pos rfl]
  exact eqIntSS_loop l hn hr l.length 0 k (by omega) hk

theorem ss_sum (l : List (List Int)) (hr : ∀ r ∈ l, r.length ≤ 4096) : 0 ≤ laws_markIntSS.sum l ∧ laws_markIntSS.sum l ≤ 4096 * (l.length : Int) := by
  induction l with
  | nil => simp [laws_markIntSS.sum]
  | cons r l ih =>
    have := ih (fun x hx => hr x (by simp [hx]))
    have h0 := hr r (by simp)
    rw [laws_markIntSS.sum, List.length_cons]; omega
theorem heldIntSS_loop : ∀ (rest pre : List (List Int)) (m : Int) (k : Nat), (∀ r ∈ rest, r.length ≤ 4096) → 0 ≤ m → m + 4096 * (rest.length : Int) ≤ 1000000000 → pre.length + rest.length ≤ 4096 → rest.length + 4097 < k →
    laws_heldIntSS.l0 k (pre ++ laws_markIntSS.rows m rest) m (pre.length : Int) = some (m + laws_markIntSS.sum rest) := by
  intro rest
  induction rest with
  | nil =>
    intro pre m k _ _ _ _ hk
    obtain ⟨k, rfl⟩ : ∃ q, k = q + 1 := ⟨k - 1, by omega⟩
    simp only [laws_heldIntSS.l0]
    rw [if_neg (by simp [laws_markIntSS.rows]), laws_markIntSS.sum, Int.add_zero]
  | cons r rest ih =>
    intro pre m k hr h0 hm hn hk
    obtain ⟨k, rfl⟩ : ∃ q, k = q + 1 := ⟨k - 1, by omega⟩
    have hb := hr r (by simp)
    rw [List.length_cons] at hm hn hk
    have e : rd_L3 (pre ++ laws_markIntSS.marks m r.length :: laws_markIntSS.rows (m + (r.length : Int)) rest) (pre.length : Int) = marks m r.length := by
      simp [rd_L3]; rfl
    rw [laws_markIntSS.rows]
    simp only [laws_heldIntSS.l0]
    rw [if_pos (by simp only [List.length_append, List.length_cons]; omega), if_pos (by omega), e, heldIntS_eq h0 (by omega) (by omega) (by omega), Option.bind_some, if_neg (by omega), show wrap64 ((pre.length : Int) + 1) = ((pre.length + 1 : Nat) : Int) from by rw [wrap_id] <;> omega]
    have := ih (pre ++ [marks m r.length]) (m + (r.length : Int)) k (fun x hx => hr x (by simp [hx])) (by omega) (by omega) (by simp; omega) (by omega)
    rw [List.append_assoc, List.length_append] at this
    rw [laws_markIntSS.sum, ← Int.add_assoc]
    exact this
theorem heldIntSS_eq {k : Nat} {l : List (List Int)} (hn : l.length ≤ 4096) (hr : ∀ r ∈ l, r.length ≤ 4096) (hk : l.length + 4097 < k) : laws_heldIntSS.f k (laws_markIntSS.rows 1 l) 1 = some (1 + laws_markIntSS.sum l) := by
  unfold laws_heldIntSS.f
  exact heldIntSS_loop l [] 1 k hr (by omega) (by omega) (by simpa using hn) hk
theorem markIntSS_eq {l : List (List Int)} (hn : l.length ≤ 4096) (hr : ∀ r ∈ l, r.length ≤ 4096) : laws_markIntSS.f l 1 = some (1 + laws_markIntSS.sum l, laws_markIntSS.rows 1 l) := by
  unfold laws_markIntSS.f
  rw [if_pos ⟨hn, List.all_eq_true.2 (fun r h => by simpa using hr r h), by omega, by omega⟩]

theorem perRows_rows (r : List (Int × Int)) : ∀ x ∈ perRows r, x.length ≤ 4096 := by
  intro x hx
  simp only [perRows, List.mem_map] at hx
  obtain ⟨p, _, rfl⟩ := hx
  simp [perRow]
theorem both (L : List S50) (hn : L.length ≤ 1048576) : ∃ v : List (List Int) × Bool, Ev (fun k => spec_BusyPeriods.f k L) v ∧ Ev (fun k => impl_BusyPeriods.f k L) v ∧ v.1.length ≤ 20 ∧ ∀ x ∈ v.1, x.length ≤ 4096 := by
  cases hb : jobsB L with
  | false =>
    refine ⟨([], false), ⟨L.length + 2, fun k hk => ?_⟩, ⟨L.length + 2, fun k hk => ?_⟩, by simp, by simp⟩
    · show spec_BusyPeriods.f k L = _
      unfold spec_BusyPeriods.f
      rw [spec_prJobs_eq hn (by omega), hb, Option.bind_some, if_neg (by simp)]
    · show impl_BusyPeriods.f k L = _
      unfold impl_BusyPeriods.f
      rw [impl_AreJobs_eq hn (by omega), hb, Option.bind_some, if_neg (by simp)]
  | true =>
    have hl := jobsB_len hb
    have hj := jobsB_mem hb
    obtain ⟨K1, h1⟩ := spec_periods_loop L hl hj L.length 0 [] (by omega) (by simp) (by intro p hp; simp at hp)
    obtain ⟨K2, h2⟩ := impl_periods_loop L hl hj L.length 0 [] (by omega) (by simp) (by intro p hp; simp at hp)
    have hpl := perAll_len L []
    rw [List.drop_zero] at h1 h2
    simp only at h1 h2
    refine ⟨(perRows (perAll [] L), true), ⟨K1 + L.length + 2, fun k hk => ?_⟩, ⟨K2 + L.length + 2, fun k hk => ?_⟩, by rw [perRows_len]; simp at hpl; omega, perRows_rows _⟩
    · show spec_BusyPeriods.f k L = _
      unfold spec_BusyPeriods.f
      rw [spec_prJobs_eq hn (by omega), hb, Option.bind_some, if_pos rfl]
      exact h1 k (by omega)
    · show impl_BusyPeriods.f k L = _
      unfold impl_BusyPeriods.f
      rw [impl_AreJobs_eq hn (by omega), hb, Option.bind_some, if_pos rfl, show impl_periods.f k L = some (perRows (perAll [] L)) from h2 k (by omega), Option.bind_some]
theorem FnExactBusyPeriods : FnExactBusyPeriodsPure := by
  intro L0 hm _
  unfold maxLen at hm
  by_cases hn : L0.length ≤ 1048576
  · have n1 : ¬ (1048576 - (L0.length : Int) < 0) := by omega
    have hn2 : (L0.map toJ).length ≤ 1048576 := by simpa using hn
    have hLL : (L0.map toJ).length = L0.length := by simp
    obtain ⟨v, ⟨K1, h1⟩, ⟨K2, h2⟩, hv, hr⟩ := both (L0.map toJ) hn2
    simp only at h1 h2
    have hs := ss_sum v.1 hr
    refine ⟨K1 + K2 + L0.length + v.1.length + 5000, ?_⟩
    unfold laws_FnExactBusyPeriods.f
    rw [szJobS_ok hn, Option.bind_some, if_neg n1, toJobS_eq hn (by omega), Option.bind_some, h1 _ (by omega), Option.bind_some, h2 _ (by omega), Option.bind_some, eqIntSS_refl (by omega) hr (by omega), Option.bind_some, eqJobS_refl hn2 (by omega), Option.bind_some, markJobS_eq (by omega) (by omega) hn2 (by omega), Option.bind_some, markIntSS_eq (by omega) hr, Option.bind_some, heldIntSS_eq (by omega) hr (by omega), Option.bind_some]
    rw [if_pos ⟨rfl, rfl, rfl, by dsimp only; omega, by omega, rfl⟩]
  · exact ⟨0, by unfold laws_FnExactBusyPeriods.f; rw [szJobS_big hm hn]; rfl⟩

end Go.Proofs.Yteakcmjkiamnmaa.Pure
