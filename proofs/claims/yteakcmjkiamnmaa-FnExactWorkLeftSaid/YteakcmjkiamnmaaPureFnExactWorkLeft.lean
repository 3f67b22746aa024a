/- FnExactWorkLeft: the program's answer is the reference's, as plain functions over numbers and lists; no condition beyond the sizes that every value has. -/
import Derived.Test.YteakcmjkiamnmaaPFnExactWorkLeftx7
namespace Go.Proofs.Yteakcmjkiamnmaa.Pure
open Go.RowKit Go.Proofs.Yteakcmjkiamnmaa.PFnExactWorkLeft Go.Proofs.YteakcmjkiamnmaaW.PrintWords Go.Proofs.YteakcmjkiamnmaaW.PrintLast Go.Proofs.YteakcmjkiamnmaaW.PrintMore

/- It reaches: laws_szJobS.f, spec_l1In.f, spec_prJobs.f, spec_l1Most.f, spec_WorkLeft.f, laws_toJob.f, laws_toJobS.f, impl_within.f, impl_isTick.f, impl_AreJobs.f, impl_periods.f, impl_WorkLeft.f, laws_eqJob.f, laws_eqJobS.f, laws_FnExactWorkLeft.f -/
def FnExactWorkLeftPure : Prop := ∀ (l0 : List (S53)) (a1 : Int), l0.length ≤ maxLen → (∀ x ∈ l0, (Lit.int .i64 x.f0).wf = true ∧ (Lit.int .i64 x.f1).wf = true ∧ (Lit.int .i64 x.f2).wf = true) → (Lit.int .i64 a1).wf = true → ∃ k, laws_FnExactWorkLeft.f k l0 a1 = some true
set_option linter.unusedSimpArgs false
set_option linter.unusedVariables false
theorem wrap_id {x : Int} (h1 : -9223372036854775808 ≤ x) (h2 : x ≤ 9223372036854775807) : wrap64 x = x := by unfold wrap64; omega
theorem wrap_succ {i n : Nat} (h : i < n) (hn : n ≤ 4611686018427387904) : wrap64 ((i : Int) + 1) = ((i + 1 : Nat) : Int) := by rw [wrap_id] <;> omega
theorem rd_nat (l : List Int) {i : Nat} (h : i < l.length) : rd l (i : Int) = l[i] := by simp [rd, h]
theorem rd_mem (l : List Int) {i : Nat} (h : i < l.length) : rd l (i : Int) ∈ l := by rw [rd_nat l h]; exact List.getElem_mem h
/-- One round, and the end. -/
theorem ev_end {α : Type} {g : Nat → Option α} {r : α} (h : ∀ k, g (k + 1) = some r) : Ev g r := Ev.step h (Ev.now r)
theorem ev_of {α : Type} {g : Nat → Option α} {r : α} (h : ∀ k, g k = some r) : Ev g r := ⟨0, fun k _ => h k⟩
theorem ev_eq {α : Type} {g : Nat → Option α} {r r' : α} (h : Ev g r) (e : r = r') : Ev g r' := e ▸ h

theorem rdJ_nat (l : List S50) {i : Nat} (h : i < l.length) : rd_T50 l (i : Int) = l[i] := by simp [rd_T50, h]

theorem rdLJ_nat (l : List S53) {i : Nat} (h : i < l.length) : rd_T53 l (i : Int) = l[i] := by simp [rd_T53, h]
def toJ (x : S53) : S50 := ⟨x.f0, x.f1, x.f2⟩
theorem toJobS_loop (l : List S53) (hn : l.length ≤ 1048576) : ∀ (d i k : Nat), i + d = l.length → d < k → laws_toJobS.l0 k l ((l.take i).map toJ ++ List.replicate d z50) (i : Int) = some (l.map toJ) := by
  intro d
  induction d with
  | zero =>
    intro i k h hk
    obtain ⟨k, rfl⟩ : ∃ m, k = m + 1 := ⟨k - 1, by omega⟩
    simp only [laws_toJobS.l0]
    rw [if_neg (by omega)]
    simp [List.take_of_length_le (show l.length ≤ i by omega)]
  | succ d ih =>
    intro i k h hk
    obtain ⟨k, rfl⟩ : ∃ m, k = m + 1 := ⟨k - 1, by omega⟩
    have hi : i < l.length := by omega
    have e : ((l.take i).map toJ ++ List.replicate (d + 1) z50).set i (⟨l[i].f0, l[i].f1, l[i].f2⟩ : S50) = (l.take (i + 1)).map toJ ++ List.replicate d z50 := by
      rw [List.set_append_right _ _ (by simp; omega)]
      simp only [List.length_map, List.length_take, Nat.min_eq_left (Nat.le_of_lt hi), Nat.sub_self, List.replicate_succ, List.set_cons_zero]
      rw [List.take_succ_eq_append_getElem hi, List.map_append, List.append_assoc]; rfl
    simp only [laws_toJobS.l0, laws_toJob.f, Option.bind_some]
    rw [if_pos (by omega), if_pos (by omega), if_pos (by simp; omega), Int.toNat_natCast, rdLJ_nat l hi, e, wrap_succ hi (by omega)]
    exact ih (i + 1) k (by omega) (by omega)
theorem toJobS_eq {k : Nat} {l : List S53} (hn : l.length ≤ 1048576) (hk : l.length < k) : laws_toJobS.f k l = some (l.map toJ) := by
  unfold laws_toJobS.f
  rw [if_pos (by omega), if_pos (by omega), Int.toNat_natCast]
  have := toJobS_loop l hn l.length 0 k (by omega) hk
  simpa using this

theorem eqJobS_loop (l : List S50) (hn : l.length ≤ 1048576) : ∀ (d i k : Nat), i + d = l.length → d < k → laws_eqJobS.l0 k l l (i : Int) = some true := by
  intro d
  induction d with
  | zero =>
    intro i k h hk
    obtain ⟨k, rfl⟩ : ∃ m, k = m + 1 := ⟨k - 1, by omega⟩
    simp only [laws_eqJobS.l0]
    rw [if_neg (by omega)]
  | succ d ih =>
    intro i k h hk
    obtain ⟨k, rfl⟩ : ∃ m, k = m + 1 := ⟨k - 1, by omega⟩
    simp only [laws_eqJobS.l0, laws_eqJob.f, if_true, Option.bind_some]
    rw [if_pos (by omega), if_pos (by omega), if_pos (by omega), wrap_succ (n := l.length) (by omega) (by omega)]
    exact ih (i + 1) k (by omega) (by omega)
theorem eqJobS_refl {k : Nat} {l : List S50} (hn : l.length ≤ 1048576) (hk : l.length < k) : laws_eqJobS.f k l l = some true := by
  unfold laws_eqJobS.f
  rw [if_pos rfl]
  exact eqJobS_loop l hn l.length 0 k (by omega) hk

theorem szJobS_big {l : List S53} (hm : l.length ≤ 9223372036854775807) (h : ¬ l.length ≤ 1048576) : laws_szJobS.f l 1048576 = some (-1) := by
  unfold laws_szJobS.f
  rw [wrap_id (by omega) (by omega), if_pos (by omega)]
theorem szJobS_ok {l : List S53} (h : l.length ≤ 1048576) : laws_szJobS.f l 1048576 = some (1048576 - (l.length : Int)) := by
  unfold laws_szJobS.f
  rw [wrap_id (by omega) (by omega), if_neg (by omega)]

/-- Does each come no later than the next one? -/
def leJ : List S50 → Bool
  | a :: b :: t => decide (a.f0 ≤ b.f0) && leJ (b :: t)
  | _ => true
theorem leJ_at (l : List S50) {i : Nat} (h0 : 0 < i) (h : i < l.length) : leJ (l.drop (i - 1)) = (decide (l[i - 1].f0 ≤ l[i].f0) && leJ (l.drop i)) := by
  rw [List.drop_eq_getElem_cons (show i - 1 < l.length by omega), show i - 1 + 1 = i from by omega, List.drop_eq_getElem_cons h, leJ]
theorem leJ_end (l : List S50) {i : Nat} (h : i = l.length) : leJ (l.drop (i - 1)) = true := by
  rcases Nat.eq_zero_or_pos i with h0 | h0
  · rw [h0, List.drop_of_length_le (by omega)]; rfl
  · rw [List.drop_eq_getElem_cons (show i - 1 < l.length by omega), List.drop_of_length_le (by omega)]; rfl
theorem wrap_pred {i n : Nat} (h0 : 0 < i) (h : i < n) (hn : n ≤ 4611686018427387904) : wrap64 ((i : Int) - 1) = ((i - 1 : Nat) : Int) := by rw [wrap_id] <;> omega


theorem spec_l1In_eq (a b c : Int) : spec_l1In.f a b c = some (decide (b ≤ a ∧ a ≤ c)) := by
  unfold spec_l1In.f
  by_cases h : b ≤ a <;> simp [h]

theorem impl_within_eq (a b c : Int) : impl_within.f a b c = some (decide (b ≤ a ∧ a ≤ c)) := by
  unfold impl_within.f
  by_cases h : b ≤ a <;> simp [h]

def goodJ (x : S50) : Bool := decide ((0 ≤ x.f0 ∧ x.f0 ≤ 1000) ∧ (0 ≤ x.f1 ∧ x.f1 ≤ 7) ∧ (1 ≤ x.f2 ∧ x.f2 ≤ 20))
/-- What both call jobs. -/
def jobsB (l : List S50) : Bool := decide (l.length ≤ 20) && (l.all goodJ && leJ l)
theorem jobsB_len {l : List S50} (h : jobsB l = true) : l.length ≤ 20 := by simp [jobsB] at h; exact h.1
theorem jobsB_mem {l : List S50} (h : jobsB l = true) : ∀ x ∈ l, (0 ≤ x.f0 ∧ x.f0 ≤ 1000) ∧ (0 ≤ x.f1 ∧ x.f1 ≤ 7) ∧ (1 ≤ x.f2 ∧ x.f2 ≤ 20) := by
  intro x hx
  simp [jobsB] at h
  simpa [goodJ] using h.2.1 x hx
theorem spec_prJobs_loop (l : List S50) (hn : l.length ≤ 1048576) : ∀ (d i k : Nat), i + d = l.length → d < k →
    spec_prJobs.l0 k l l (l.length : Int) (i : Int) = some ((l.drop i).all goodJ && leJ (l.drop (i - 1))) := by
  intro d
  induction d with
  | zero =>
    intro i k h hk
    obtain ⟨k, rfl⟩ : ∃ m, k = m + 1 := ⟨k - 1, by omega⟩
    simp only [spec_prJobs.l0]
    rw [if_neg (by omega), List.drop_of_length_le (l := l) (i := i) (by omega), leJ_end l (by omega)]; rfl
  | succ d ih =>
    intro i k h hk
    obtain ⟨k, rfl⟩ : ∃ m, k = m + 1 := ⟨k - 1, by omega⟩
    have hlt : i < l.length := by omega
    have nx := ih (i + 1) k (by omega) (by omega)
    rw [Nat.add_sub_cancel] at nx
    have e : (l.drop i).all goodJ = (goodJ l[i] && (l.drop (i + 1)).all goodJ) := by rw [List.drop_eq_getElem_cons hlt, List.all_cons]
    simp only [spec_prJobs.l0, spec_l1In_eq, Option.bind_some]
    rw [if_pos (by omega), if_pos (by omega), if_pos (by omega), rdJ_nat l hlt, wrap_succ hlt (by omega), e]
    by_cases c0 : 0 ≤ l[i].f0 ∧ l[i].f0 ≤ 1000
    · rw [if_pos (by simpa using c0)]
      by_cases c1 : 0 ≤ l[i].f1 ∧ l[i].f1 ≤ 7
      · rw [if_pos (by simpa using c1)]
        by_cases c2 : 1 ≤ l[i].f2 ∧ l[i].f2 ≤ 20
        · have g : goodJ l[i] = true := by simp [goodJ, c0, c1, c2]
          rw [if_pos (by simpa using c2), g]
          by_cases h0 : 0 < i
          · rw [if_pos (by omega), wrap_pred h0 hlt (by omega), if_pos (by omega), if_pos (by omega), rdJ_nat l (show i - 1 < l.length by omega), leJ_at l h0 hlt]
            by_cases c : l[i - 1].f0 ≤ l[i].f0
            · rw [if_neg (by omega), nx]; simp [c]
            · rw [if_pos (by omega)]; simp [c]
          · obtain rfl : i = 0 := by omega
            rw [if_neg (by omega), nx, Bool.true_and]
        · have g : goodJ l[i] = false := by simp only [goodJ, c2, and_false, decide_false]
          rw [if_neg (by simpa using c2), g]; rfl
      · have g : goodJ l[i] = false := by simp only [goodJ, c1, and_false, false_and, decide_false]
        rw [if_neg (by simpa using c1), g]; rfl
    · have g : goodJ l[i] = false := by simp only [goodJ, c0, false_and, decide_false]
      rw [if_neg (by simpa using c0), g]; rfl
theorem spec_prJobs_eq {k : Nat} {l : List S50} (hn : l.length ≤ 1048576) (hk : l.length < k) : spec_prJobs.f k l = some (jobsB l) := by
  unfold spec_prJobs.f jobsB
  have := spec_prJobs_loop l hn l.length 0 k (by omega) hk
  rw [show ((0 : Nat) : Int) = 0 from rfl] at this
  by_cases h : l.length ≤ 20
  · rw [if_neg (by omega), this]; simp [h]
  · rw [if_pos (by omega)]; simp [h]
theorem impl_AreJobs_loop (l : List S50) (hn : l.length ≤ 1048576) : ∀ (d i k : Nat), i + d = l.length → d < k →
    impl_AreJobs.l0 k l l (l.length : Int) (i : Int) = some (((l.drop i).all goodJ && leJ (l.drop (i - 1))) && decide ((l.length : Int) ≤ 20)) := by
  intro d
  induction d with
  | zero =>
    intro i k h hk
    obtain ⟨k, rfl⟩ : ∃ m, k = m + 1 := ⟨k - 1, by omega⟩
    simp only [impl_AreJobs.l0]
    rw [if_neg (by omega), List.drop_of_length_le (l := l) (i := i) (by omega), leJ_end l (by omega)]; rfl
  | succ d ih =>
    intro i k h hk
    obtain ⟨k, rfl⟩ : ∃ m, k = m + 1 := ⟨k - 1, by omega⟩
    have hlt : i < l.length := by omega
    have nx := ih (i + 1) k (by omega) (by omega)
    rw [Nat.add_sub_cancel] at nx
    have e : (l.drop i).all goodJ = (goodJ l[i] && (l.drop (i + 1)).all goodJ) := by rw [List.drop_eq_getElem_cons hlt, List.all_cons]
    simp only [impl_AreJobs.l0, impl_isTick.f, impl_within_eq, Option.bind_some]
    rw [if_pos (by omega), if_pos (by omega), if_pos (by omega), rdJ_nat l hlt, wrap_succ hlt (by omega), e]
    by_cases c0 : 0 ≤ l[i].f0 ∧ l[i].f0 ≤ 1000
    · rw [if_pos (by simpa using c0)]
      by_cases c1 : 0 ≤ l[i].f1 ∧ l[i].f1 ≤ 7
      · rw [if_pos (by simpa using c1)]
        by_cases c2 : 1 ≤ l[i].f2 ∧ l[i].f2 ≤ 20
        · have g : goodJ l[i] = true := by simp [goodJ, c0, c1, c2]
          rw [if_pos (by simpa using c2), g]
          by_cases h0 : 0 < i
          · rw [if_pos (by omega), wrap_pred h0 hlt (by omega), if_pos (by omega), if_pos (by omega), rdJ_nat l (show i - 1 < l.length by omega), leJ_at l h0 hlt]
            by_cases c : l[i - 1].f0 ≤ l[i].f0
            · rw [if_neg (by omega), nx]; simp [c]
            · rw [if_pos (by omega)]; simp [c]
          · obtain rfl : i = 0 := by omega
            rw [if_neg (by omega), nx, Bool.true_and]
        · have g : goodJ l[i] = false := by simp only [goodJ, c2, and_false, decide_false]
          rw [if_neg (by simpa using c2), g]; rfl
      · have g : goodJ l[i] = false := by simp only [goodJ, c1, and_false, false_and, decide_false]
        rw [if_neg (by simpa using c1), g]; rfl
    · have g : goodJ l[i] = false := by simp only [goodJ, c0, false_and, decide_false]
      rw [if_neg (by simpa using c0), g]; rfl
theorem impl_AreJobs_eq {k : Nat} {l : List S50} (hn : l.length ≤ 1048576) (hk : l.length < k) : impl_AreJobs.f k l = some (jobsB l) := by
  unfold impl_AreJobs.f jobsB
  have := impl_AreJobs_loop l hn l.length 0 k (by omega) hk
  rw [show ((0 : Nat) : Int) = 0 from rfl] at this
  rw [this]
  by_cases h : l.length ≤ 20
  · simp [h, show (l.length : Int) ≤ 20 by omega]
  · simp [h, show ¬ (l.length : Int) ≤ 20 by omega]

/-- One job more: the stretches so far, the last one first. -/
def perS (r : List (Int × Int)) (t n : Int) : List (Int × Int) := match r with
  | [] => [(t, t + n)]
  | (a, b) :: r' => if b ≥ t then (a, b + n) :: r' else (t, t + n) :: (a, b) :: r'
theorem perS_cons (a b t n : Int) (r : List (Int × Int)) : perS ((a, b) :: r) t n = if b ≥ t then (a, b + n) :: r else (t, t + n) :: (a, b) :: r := rfl
def perRow (p : Int × Int) : List Int := [p.1, p.2]
/-- The stretches as rows, the first one first. -/
def perRows (r : List (Int × Int)) : List (List Int) := r.reverse.map perRow
def perAll (r : List (Int × Int)) : List S50 → List (Int × Int)
  | [] => r
  | j :: l => perAll (perS r j.f0 j.f2) l
theorem perRows_len (r : List (Int × Int)) : (perRows r).length = r.length := by simp [perRows]
theorem perRows_cons (p : Int × Int) (r : List (Int × Int)) : perRows (p :: r) = perRows r ++ [perRow p] := by simp [perRows]
theorem perS_len (r : List (Int × Int)) (t n : Int) : (perS r t n).length ≤ r.length + 1 := by
  unfold perS
  split
  · simp
  · split <;> simp
theorem perAll_len : ∀ (l : List S50) (r : List (Int × Int)), (perAll r l).length ≤ r.length + l.length
  | [], r => by simp [perAll]
  | j :: l, r => by
    have h1 := perAll_len l (perS r j.f0 j.f2)
    have h2 := perS_len r j.f0 j.f2
    rw [perAll, List.length_cons]; omega
/-- The ends lie within a bound. -/
def perOk (M : Int) (r : List (Int × Int)) : Prop := ∀ p ∈ r, (0 ≤ p.1 ∧ p.1 ≤ 1000) ∧ p.1 < p.2 ∧ p.2 ≤ M
theorem perS_ok {M t n : Int} {r : List (Int × Int)} (h : perOk M r) (hM : 1000 ≤ M) (ht : 0 ≤ t ∧ t ≤ 1000) (hn : 1 ≤ n ∧ n ≤ 20) : perOk (M + 20) (perS r t n) := by
  unfold perS
  split
  · intro p hp; simp at hp; subst hp; exact ⟨ht, by show t < t + n; omega, by show t + n ≤ _; omega⟩
  · rename_i a b r'
    have h0 := h (a, b) (by simp)
    split
    · intro p hp
      rcases List.mem_cons.1 hp with e | e
      · subst e; exact ⟨h0.1, by show a < b + n; have := h0.2.1; simp only at this; omega, by show b + n ≤ _; have := h0.2.2; simp only at this; omega⟩
      · have := h p (by simp [e]); exact ⟨this.1, this.2.1, by omega⟩
    · intro p hp
      rcases List.mem_cons.1 hp with e | e
      · subst e; exact ⟨ht, by show t < t + n; omega, by show t + n ≤ _; omega⟩
      · have := h p e; exact ⟨this.1, this.2.1, by omega⟩
theorem rdRow_last (r : List (Int × Int)) (p : Int × Int) : rd_L3 (perRows r ++ [perRow p]) (r.length : Int) = perRow p := by
  unfold rd_L3
  rw [Int.toNat_natCast, List.getD_eq_getElem?_getD, List.getElem?_append_right (by rw [perRows_len]; exact Nat.le_refl _), perRows_len, Nat.sub_self]; rfl

theorem impl_periods_loop (l : List S50) (hl : l.length ≤ 20) (hj : ∀ x ∈ l, (0 ≤ x.f0 ∧ x.f0 ≤ 1000) ∧ (0 ≤ x.f1 ∧ x.f1 ≤ 7) ∧ (1 ≤ x.f2 ∧ x.f2 ≤ 20)) : ∀ (d i : Nat) (r : List (Int × Int)), i + d = l.length → r.length ≤ i → perOk (1000 + 20 * (i : Int)) r →
    Ev (fun k => impl_periods.l0 k (perRows r) l (l.length : Int) (i : Int)) (perRows (perAll r (l.drop i))) := by
  intro d
  induction d with
  | zero =>
    intro i r h hr hok
    refine ev_end (fun k => ?_)
    simp only [impl_periods.l0]
    rw [if_neg (by omega), List.drop_of_length_le (l := l) (i := i) (by omega)]; rfl
  | succ d ih =>
    intro i r h hr hok
    have hi : i < l.length := by omega
    have hb := hj l[i] (List.getElem_mem hi)
    have hok2 := perS_ok (t := l[i].f0) (n := l[i].f2) hok (by omega) hb.1 hb.2.2
    have hlen2 := perS_len r l[i].f0 l[i].f2
    have next := ih (i + 1) (perS r l[i].f0 l[i].f2) (by omega) (by omega) (by rw [show (1000 : Int) + 20 * ((i + 1 : Nat) : Int) = 1000 + 20 * (i : Int) + 20 by omega]; exact hok2)
    rw [List.drop_eq_getElem_cons hi, perAll]
    refine Ev.step (fun k => ?_) next
    simp only [impl_periods.l0]
    rw [if_pos (by omega), if_pos (by omega), if_pos (by omega), rdJ_nat l hi, wrap_succ hi (by omega), perRows_len]
    have wf : wrap64 (l[i].f0 + l[i].f2) = l[i].f0 + l[i].f2 := wrap_id (by omega) (by omega)
    have wl : wrap64 ((r.length : Int) - 1) = (r.length : Int) - 1 := wrap_id (by omega) (by omega)
    rw [wf, wl]
    cases r with
    | nil =>
      rw [if_neg (by simp), if_pos (by simp)]
      rfl
    | cons p r' =>
      obtain ⟨a, b⟩ := p
      have hp := hok (a, b) (by simp)
      simp only at hp
      have e1 : ((((a, b) :: r').length : Nat) : Int) - 1 = (r'.length : Int) := by simp
      rw [e1, perRows_cons, rdRow_last, if_pos (by omega), if_pos (by omega), if_pos (by simp; omega), if_pos (by simp [perRow])]
      have e2 : rd (perRow (a, b)) 1 = b := rfl
      rw [e2]
      by_cases c : b ≥ l[i].f0
      · have e3 : perS ((a, b) :: r') l[i].f0 l[i].f2 = (a, b + l[i].f2) :: r' := by rw [perS_cons, if_pos c]
        rw [if_pos c, e3, perRows_cons, wrap_id (x := b + l[i].f2) (by omega) (by omega)]
        have e4 : (perRows r' ++ [perRow (a, b)]).set (r'.length : Int).toNat ((perRow (a, b)).set (1 : Int).toNat (b + l[i].f2)) = perRows r' ++ [perRow (a, b + l[i].f2)] := by
          rw [Int.toNat_natCast, List.set_append_right _ _ (by rw [perRows_len]; exact Nat.le_refl _), perRows_len, Nat.sub_self]; rfl
        rw [e4]
      · have e3 : perS ((a, b) :: r') l[i].f0 l[i].f2 = (l[i].f0, l[i].f0 + l[i].f2) :: (a, b) :: r' := by rw [perS_cons, if_neg c]
        rw [if_neg c, if_pos (by simp only [List.length_cons] at hr ⊢; omega), e3, perRows_cons, perRows_cons]; rfl
theorem perAll_ok (l : List S50) (hj : ∀ x ∈ l, (0 ≤ x.f0 ∧ x.f0 ≤ 1000) ∧ (0 ≤ x.f1 ∧ x.f1 ≤ 7) ∧ (1 ≤ x.f2 ∧ x.f2 ≤ 20)) : ∀ (M : Int) (r : List (Int × Int)), 1000 ≤ M → perOk M r → perOk (M + 20 * (l.length : Int)) (perAll r l) := by
  induction l with
  | nil => intro M r _ h; simpa [perAll] using h
  | cons j l ih =>
    intro M r hM h
    have hb := hj j (by simp)
    have := ih (fun x hx => hj x (by simp [hx])) (M + 20) (perS r j.f0 j.f2) (by omega) (perS_ok h hM hb.1 hb.2.2)
    rw [perAll]
    rw [List.length_cons, show M + 20 * ((l.length + 1 : Nat) : Int) = M + 20 + 20 * (l.length : Int) by omega]
    exact this

/-- Both come to the same. -/
def EvB {α : Type} (g1 g2 : Nat → Option α) : Prop := ∃ v, Ev g1 v ∧ Ev g2 v
theorem EvB.step {α : Type} {g1 g2 f1 f2 : Nat → Option α} (h1 : ∀ k, g1 (k + 1) = f1 k) (h2 : ∀ k, g2 (k + 1) = f2 k) (h : EvB f1 f2) : EvB g1 g2 := by
  obtain ⟨v, a, b⟩ := h
  exact ⟨v, Ev.step h1 a, Ev.step h2 b⟩
theorem EvB.ret {α : Type} {g1 g2 : Nat → Option α} {v : α} (h1 : ∀ k, g1 (k + 1) = some v) (h2 : ∀ k, g2 (k + 1) = some v) : EvB g1 g2 := ⟨v, ev_end h1, ev_end h2⟩

theorem most_eq (a b : Int) : spec_l1Most.f a b = some (mx a b) := by
  unfold spec_l1Most.f mx
  by_cases h : a > b
  · rw [if_pos h, if_neg (by omega)]
  · rw [if_neg h]
    by_cases h2 : a < b
    · rw [if_pos h2]
    · rw [if_neg h2]; congr 1; omega
def costP (T : Int) (p : Int × Int) : Int := mx 0 (mn T p.2 - p.1)
def costF (T : Int) : List (Int × Int) → Int
  | [] => 0
  | p :: r => costP T p + costF T r
theorem costF_app (T : Int) (r q : List (Int × Int)) : costF T (r ++ q) = costF T r + costF T q := by
  induction r with
  | nil => simp [costF]
  | cons p r ih => rw [List.cons_append, costF, costF, ih]; omega
theorem costF_rev (T : Int) (r : List (Int × Int)) : costF T r.reverse = costF T r := by
  induction r with
  | nil => rfl
  | cons p r ih => rw [List.reverse_cons, costF_app, ih, costF, costF, costF]; omega
def sumLe (T : Int) : List S50 → Int
  | [] => 0
  | j :: l => (if j.f0 ≤ T then j.f2 else 0) + sumLe T l
def specV (T : Int) : List S50 → Int → Int → Int
  | [], left, now => mx 0 (left - (T - now))
  | j :: l, left, now => if j.f0 > T then mx 0 (left - (T - now)) else specV T l (mx 0 (left - (j.f0 - now)) + j.f2) j.f0
theorem leJ_all : ∀ (l : List S50) (j : S50), leJ (j :: l) = true → (∀ x ∈ l, j.f0 ≤ x.f0) ∧ leJ l = true
  | [], j, _ => ⟨by simp, rfl⟩
  | x :: l, j, h => by
    rw [leJ, Bool.and_eq_true, decide_eq_true_eq] at h
    obtain ⟨h1, _⟩ := leJ_all l x h.2
    refine ⟨fun y hy => ?_, h.2⟩
    rcases List.mem_cons.1 hy with e | e
    · rw [e]; exact h.1
    · have := h1 y e; omega
theorem cost_late (T : Int) (hT : 0 ≤ T) : ∀ (l : List S50) (r : List (Int × Int)), (∀ x ∈ l, T < x.f0 ∧ 1 ≤ x.f2) → (∀ p ∈ r, p.1 < p.2) → costF T (perAll r l) = costF T r ∧ sumLe T l = 0
  | [], r, _, _ => ⟨rfl, rfl⟩
  | j :: l, r, h, hr => by
    have hj := h j (by simp)
    have hs : costF T (perS r j.f0 j.f2) = costF T r ∧ ∀ p ∈ perS r j.f0 j.f2, p.1 < p.2 := by
      unfold perS
      split
      · exact ⟨by simp only [costF, costP, mx, mn]; split <;> split <;> omega, by intro p hp; simp at hp; subst hp; show j.f0 < j.f0 + j.f2; omega⟩
      · rename_i a b r'
        have hab := hr (a, b) (by simp)
        simp only at hab
        split
        · refine ⟨?_, ?_⟩
          · simp only [costF, costP, mx, mn]
            rw [if_neg (show ¬ b + j.f2 < T by omega), if_neg (show ¬ b < T by omega)]
          · intro p hp
            rcases List.mem_cons.1 hp with e | e
            · subst e; show a < b + j.f2; omega
            · exact hr p (by simp [e])
        · refine ⟨?_, ?_⟩
          · have : costP T (j.f0, j.f0 + j.f2) = 0 := by simp only [costP, mx, mn]; split <;> split <;> omega
            rw [costF, this]; omega
          · intro p hp
            rcases List.mem_cons.1 hp with e | e
            · subst e; show j.f0 < j.f0 + j.f2; omega
            · exact hr p e
    obtain ⟨h1, h2⟩ := cost_late T hT l (perS r j.f0 j.f2) (fun x hx => h x (by simp [hx])) hs.2
    refine ⟨by rw [perAll, h1, hs.1], ?_⟩
    rw [sumLe, h2, if_neg (by omega)]; rfl
/-- How both come to the same. -/
def wInv (T W left now : Int) : List (Int × Int) → Prop
  | [] => W = 0 ∧ left = 0 ∧ now = 0
  | (a, b) :: r => W = costF T r + (b - a) ∧ left = b - now ∧ a ≤ now ∧ now ≤ T ∧ now < b
theorem work_eq (T : Int) (hT : 0 ≤ T) : ∀ (l : List S50) (r : List (Int × Int)) (W left now : Int), leJ l = true → (∀ x ∈ l, (0 ≤ x.f0 ∧ x.f0 ≤ 1000) ∧ (0 ≤ x.f1 ∧ x.f1 ≤ 7) ∧ (1 ≤ x.f2 ∧ x.f2 ≤ 20)) → (∀ x ∈ l, now ≤ x.f0) → (∀ p ∈ r, p.1 < p.2) → wInv T W left now r →
    specV T l left now = W + sumLe T l - costF T (perAll r l) := by
  have hend : ∀ (r : List (Int × Int)) (W left now : Int), wInv T W left now r → mx 0 (left - (T - now)) = W - costF T r := by
    intro r W left now h
    match r, h with
    | [], ⟨h1, h2, h3⟩ => subst h1 h2 h3; simp only [costF, mx]; split <;> omega
    | (a, b) :: r, ⟨h1, h2, h3, h4, h5⟩ => subst h1 h2; simp only [costF, costP, mx, mn]; split <;> split <;> split <;> omega
  intro l
  induction l with
  | nil =>
    intro r W left now _ _ _ _ hi
    rw [specV, perAll, sumLe, hend r W left now hi]; omega
  | cons j l ih =>
    intro r W left now hs hj hn hr hi
    obtain ⟨hs1, hs2⟩ := leJ_all l j hs
    have hb := hj j (by simp)
    have hnj := hn j (by simp)
    rw [specV]
    by_cases c : j.f0 > T
    · rw [if_pos c, hend r W left now hi]
      obtain ⟨h1, h2⟩ := cost_late T hT (j :: l) r (fun x hx => ⟨(List.mem_cons.1 hx).elim (fun e => by rw [e]; omega) (fun e => by have := hs1 x e; omega), by have := hj x hx; omega⟩) hr
      rw [h1, h2]; omega
    · rw [if_neg c, perAll, sumLe, if_pos (by omega)]
      have key : wInv T (W + j.f2) (mx 0 (left - (j.f0 - now)) + j.f2) j.f0 (perS r j.f0 j.f2) ∧ ∀ p ∈ perS r j.f0 j.f2, p.1 < p.2 := by
        match r, hi, hr with
        | [], ⟨h1, h2, h3⟩, _ =>
          subst h1 h2 h3
          refine ⟨⟨by simp only [costF]; omega, by simp only [mx]; split <;> omega, by omega, by omega, by omega⟩, ?_⟩
          intro p hp; simp [perS] at hp; subst hp; show j.f0 < j.f0 + j.f2; omega
        | (a, b) :: r', ⟨h1, h2, h3, h4, h5⟩, hr =>
          subst h1 h2
          rw [perS_cons]
          by_cases cb : b ≥ j.f0
          · rw [if_pos cb]
            refine ⟨⟨by omega, by simp only [mx]; split <;> omega, by omega, by omega, by omega⟩, ?_⟩
            intro p hp
            rcases List.mem_cons.1 hp with e | e
            · subst e; show a < b + j.f2; omega
            · exact hr p (by simp [e])
          · rw [if_neg cb]
            refine ⟨⟨?_, by simp only [mx]; split <;> omega, by omega, by omega, by omega⟩, ?_⟩
            · have : costP T (a, b) = b - a := by simp only [costP, mx, mn]; split <;> split <;> omega
              rw [costF, this]; omega
            · intro p hp
              rcases List.mem_cons.1 hp with e | e
              · subst e; show j.f0 < j.f0 + j.f2; omega
              · exact hr p e
      rw [ih (perS r j.f0 j.f2) (W + j.f2) _ j.f0 hs2 (fun x hx => hj x (by simp [hx])) hs1 key.2 key.1]
      omega
theorem spec_loop (T : Int) (hT : 0 ≤ T ∧ T ≤ 5000) (l : List S50) (hl : l.length ≤ 20) (hj : ∀ x ∈ l, (0 ≤ x.f0 ∧ x.f0 ≤ 1000) ∧ (0 ≤ x.f1 ∧ x.f1 ≤ 7) ∧ (1 ≤ x.f2 ∧ x.f2 ≤ 20)) : ∀ (d i : Nat) (left now : Int), i + d = l.length → leJ (l.drop i) = true → (∀ x ∈ l.drop i, now ≤ x.f0) → (0 ≤ left ∧ left ≤ 20 * (i : Int)) → (0 ≤ now ∧ now ≤ 1000) →
    Ev (fun k => spec_WorkLeft.l0 k T left now l (l.length : Int) (i : Int)) (specV T (l.drop i) left now, true) := by
  intro d
  induction d with
  | zero =>
    intro i left now h _ _ h1 h2
    refine ev_end (fun k => ?_)
    simp only [spec_WorkLeft.l0]
    rw [if_neg (by omega), List.drop_of_length_le (l := l) (i := i) (by omega), wrap_id (x := T - now) (by omega) (by omega), wrap_id (x := left - (T - now)) (by omega) (by omega), most_eq]; rfl
  | succ d ih =>
    intro i left now h hs hn h1 h2
    have hi : i < l.length := by omega
    have hb := hj l[i] (List.getElem_mem hi)
    rw [List.drop_eq_getElem_cons hi] at hs hn ⊢
    obtain ⟨hs1, hs2⟩ := leJ_all _ _ hs
    have hnj := hn l[i] List.mem_cons_self
    rw [specV]
    by_cases c : l[i].f0 > T
    · rw [if_pos c]
      refine ev_end (fun k => ?_)
      simp only [spec_WorkLeft.l0]
      rw [if_pos (by omega), if_pos (by omega), if_pos (by omega), rdJ_nat l hi, if_pos c, wrap_id (x := T - now) (by omega) (by omega), wrap_id (x := left - (T - now)) (by omega) (by omega), most_eq]; rfl
    · rw [if_neg c]
      have hm : 0 ≤ mx 0 (left - (l[i].f0 - now)) ∧ mx 0 (left - (l[i].f0 - now)) ≤ left := by unfold mx; split <;> omega
      refine Ev.step (fun k => ?_) (ih (i + 1) (mx 0 (left - (l[i].f0 - now)) + l[i].f2) l[i].f0 (by omega) hs2 hs1 (by omega) hb.1)
      simp only [spec_WorkLeft.l0]
      rw [if_pos (by omega), if_pos (by omega), if_pos (by omega), rdJ_nat l hi, if_neg c, wrap_id (x := l[i].f0 - now) (by omega) (by omega), wrap_id (x := left - (l[i].f0 - now)) (by omega) (by omega), most_eq, Option.bind_some, wrap_succ hi (by omega), wrap_id (x := mx 0 (left - (l[i].f0 - now)) + l[i].f2) (by omega) (by omega)]
theorem costP_le (T : Int) (hT : 0 ≤ T ∧ T ≤ 5000) (p : Int × Int) (h : 0 ≤ p.1) : 0 ≤ costP T p ∧ costP T p ≤ 5000 := by
  unfold costP mx mn; split <;> split <;> omega
theorem impl_l1 (T : Int) (hT : 0 ≤ T ∧ T ≤ 5000) (q : List (Int × Int)) (hq : q.length ≤ 20) (h0 : ∀ p ∈ q, (0 ≤ p.1 ∧ p.1 ≤ 1000) ∧ p.1 < p.2 ∧ p.2 ≤ 2000) : ∀ (d i : Nat) (x : Int), i + d = q.length → (-5000 * (i : Int) ≤ x ∧ x ≤ 1000) →
    Ev (fun k => impl_WorkLeft.l1 k T x (q.map perRow) ((q.map perRow).length : Int) (i : Int)) (x - costF T (q.drop i), true) := by
  have hlen : (q.map perRow).length = q.length := by simp
  intro d
  induction d with
  | zero =>
    intro i x h _
    refine ev_end (fun k => ?_)
    simp only [impl_WorkLeft.l1]
    rw [if_neg (by omega), List.drop_of_length_le (l := q) (i := i) (by omega), costF, Int.sub_zero]
  | succ d ih =>
    intro i x h hx
    have hi : i < q.length := by omega
    have hp := h0 q[i] (List.getElem_mem hi)
    have hc := costP_le T hT q[i] hp.1.1
    have er : rd_L3 (q.map perRow) (i : Int) = perRow q[i] := by
      unfold rd_L3
      rw [Int.toNat_natCast, List.getD_eq_getElem?_getD, List.getElem?_eq_getElem (by rw [hlen]; exact hi)]; simp
    have e0 : rd (perRow q[i]) 0 = q[i].1 := rfl
    have e1 : rd (perRow q[i]) 1 = q[i].2 := rfl
    have hmn : -5000 ≤ mn T q[i].2 - q[i].1 ∧ mn T q[i].2 - q[i].1 ≤ 5000 := by unfold mn; split <;> omega
    rw [List.drop_eq_getElem_cons hi, costF]
    refine ev_eq (Ev.step (fun k => ?_) (ih (i + 1) (x - costP T q[i]) (by omega) (by omega))) (by rw [show x - costP T q[i] - costF T (q.drop (i + 1)) = x - (costP T q[i] + costF T (q.drop (i + 1))) by omega])
    simp only [impl_WorkLeft.l1]
    rw [if_pos (by omega), if_pos (by omega), if_pos (by omega), er, if_pos (by simp [perRow]), if_pos (by simp [perRow]), e0, e1, wrap_id (x := mn T q[i].2 - q[i].1) (by omega) (by omega)]
    rw [show mx 0 (mn T q[i].2 - q[i].1) = costP T q[i] from rfl, wrap_id (x := x - costP T q[i]) (by omega) (by omega), wrap_succ hi (by omega)]
theorem impl_l0 (T : Int) (l : List S50) (hl : l.length ≤ 20) (hj : ∀ x ∈ l, (0 ≤ x.f0 ∧ x.f0 ≤ 1000) ∧ (0 ≤ x.f1 ∧ x.f1 ≤ 7) ∧ (1 ≤ x.f2 ∧ x.f2 ≤ 20)) (v : Int × Bool) : ∀ (d i : Nat) (x : Int), i + d = l.length → (0 ≤ x ∧ x ≤ 20 * (i : Int)) →
    Ev (fun k => (impl_periods.f k l).bind fun t => impl_WorkLeft.l1 k T (x + sumLe T (l.drop i)) t (t.length : Int) 0) v → Ev (fun k => impl_WorkLeft.l0 k l T x l (l.length : Int) (i : Int)) v := by
  intro d
  induction d with
  | zero =>
    intro i x h _ hv
    rw [List.drop_of_length_le (l := l) (i := i) (by omega), sumLe, Int.add_zero] at hv
    refine Ev.step (fun k => ?_) hv
    simp only [impl_WorkLeft.l0]
    rw [if_neg (by omega)]
  | succ d ih =>
    intro i x h hx hv
    have hi : i < l.length := by omega
    have hb := hj l[i] (List.getElem_mem hi)
    rw [List.drop_eq_getElem_cons hi, sumLe] at hv
    by_cases c : l[i].f0 ≤ T
    · rw [if_pos c] at hv
      refine Ev.step (fun k => ?_) (ih (i + 1) (x + l[i].f2) (by omega) (by omega) (by rw [show x + l[i].f2 + sumLe T (l.drop (i + 1)) = x + (l[i].f2 + sumLe T (l.drop (i + 1))) by omega]; exact hv))
      simp only [impl_WorkLeft.l0]
      rw [if_pos (by omega), if_pos (by omega), if_pos (by omega), rdJ_nat l hi, if_pos c, wrap_id (x := x + l[i].f2) (by omega) (by omega), wrap_succ hi (by omega)]
    · rw [if_neg c, Int.zero_add] at hv
      refine Ev.step (fun k => ?_) (ih (i + 1) x (by omega) (by omega) hv)
      simp only [impl_WorkLeft.l0]
      rw [if_pos (by omega), if_pos (by omega), if_pos (by omega), rdJ_nat l hi, if_neg c, wrap_succ hi (by omega)]
theorem sumLe_le (T : Int) : ∀ (l : List S50), (∀ x ∈ l, 1 ≤ x.f2 ∧ x.f2 ≤ 20) → 0 ≤ sumLe T l ∧ sumLe T l ≤ 20 * (l.length : Int)
  | [], _ => by simp [sumLe]
  | j :: l, h => by
    have := sumLe_le T l (fun x hx => h x (by simp [hx]))
    have hj := h j (by simp)
    rw [sumLe, List.length_cons]; split <;> omega
theorem both (l : List S50) (T : Int) (hn : l.length ≤ 1048576) : ∃ v : Int × Bool, Ev (fun k => spec_WorkLeft.f k l T) v ∧ Ev (fun k => impl_WorkLeft.f k l T) v := by
  cases hb : jobsB l with
  | false =>
    refine ⟨(0, false), ⟨l.length + 2, fun k hk => ?_⟩, ⟨l.length + 2, fun k hk => ?_⟩⟩
    · show spec_WorkLeft.f k l T = _
      obtain ⟨k, rfl⟩ : ∃ q, k = q + 1 := ⟨k - 1, by omega⟩
      unfold spec_WorkLeft.f
      rw [spec_prJobs_eq hn (by omega), hb, Option.bind_some, if_neg (by simp)]
      simp only [spec_WorkLeft.j0, if_true]
    · show impl_WorkLeft.f k l T = _
      obtain ⟨k, rfl⟩ : ∃ q, k = q + 1 := ⟨k - 1, by omega⟩
      unfold impl_WorkLeft.f
      rw [impl_AreJobs_eq hn (by omega), hb, Option.bind_some, if_neg (by simp)]
      simp only [impl_WorkLeft.j0, if_true]
  | true =>
    by_cases hT : 0 ≤ T ∧ T ≤ 5000
    · have hl := jobsB_len hb
      have hj := jobsB_mem hb
      have hs : leJ l = true := by simp [jobsB] at hb; exact hb.2.2
      obtain ⟨K1, h1⟩ := spec_loop T hT l hl hj l.length 0 0 0 (by omega) (by simpa using hs) (by intro x hx; have := hj x (by simpa using hx); omega) (by omega) (by omega)
      have hper := impl_periods_loop l hl hj l.length 0 [] (by omega) (by simp) (by intro p hp; simp at hp)
      have hok := perAll_ok l hj 1000 [] (by omega) (by intro p hp; simp at hp)
      have hpl := perAll_len l []
      rw [List.drop_zero] at hper
      have hsum := sumLe_le T l (fun x hx => by have := hj x hx; omega)
      obtain ⟨K2, h2⟩ := impl_l1 T hT (perAll [] l).reverse (by simp at hpl ⊢; omega) (fun p hp => by have := hok p (by simpa using hp); omega) (perAll [] l).reverse.length 0 (sumLe T l) (by omega) (by omega)
      obtain ⟨K3, h3⟩ := hper
      obtain ⟨K4, h4⟩ := impl_l0 T l hl hj (sumLe T l - costF T (perAll [] l), true) l.length 0 0 (by omega) (by omega) ⟨K2 + K3, fun k hk => by
        show (impl_periods.f k l).bind _ = _
        rw [show impl_periods.f k l = some (perRows (perAll [] l)) from h3 k (by omega), Option.bind_some, List.drop_zero, Int.zero_add]
        have h5 := h2 k (by omega)
        simp only [List.drop_zero, costF_rev] at h5
        exact h5⟩
      simp only at h1 h4
      have hw := work_eq T hT.1 l [] 0 0 0 hs hj (by intro x hx; have := hj x hx; omega) (by intro p hp; simp at hp) ⟨rfl, rfl, rfl⟩
      rw [Int.zero_add] at hw
      refine ⟨(sumLe T l - costF T (perAll [] l), true), ⟨K1 + l.length + 2, fun k hk => ?_⟩, ⟨K4 + l.length + 2, fun k hk => ?_⟩⟩
      · show spec_WorkLeft.f k l T = _
        obtain ⟨k, rfl⟩ : ∃ q, k = q + 1 := ⟨k - 1, by omega⟩
        unfold spec_WorkLeft.f
        rw [spec_prJobs_eq hn (by omega), hb, Option.bind_some, if_pos rfl, spec_l1In_eq, decide_eq_true hT, Option.bind_some]
        simp only [spec_WorkLeft.j0]
        rw [if_neg (by simp), ← hw]
        have := h1 k (by omega)
        simpa using this
      · show impl_WorkLeft.f k l T = _
        obtain ⟨k, rfl⟩ : ∃ q, k = q + 1 := ⟨k - 1, by omega⟩
        unfold impl_WorkLeft.f
        rw [impl_AreJobs_eq hn (by omega), hb, Option.bind_some, if_pos rfl, impl_within_eq, decide_eq_true hT, Option.bind_some]
        simp only [impl_WorkLeft.j0]
        rw [if_neg (by simp)]
        have := h4 k (by omega)
        simpa using this
    · refine ⟨(0, false), ⟨l.length + 2, fun k hk => ?_⟩, ⟨l.length + 2, fun k hk => ?_⟩⟩
      · show spec_WorkLeft.f k l T = _
        obtain ⟨k, rfl⟩ : ∃ q, k = q + 1 := ⟨k - 1, by omega⟩
        unfold spec_WorkLeft.f
        rw [spec_prJobs_eq hn (by omega), hb, Option.bind_some, if_pos rfl, spec_l1In_eq, decide_eq_false hT, Option.bind_some]
        simp only [spec_WorkLeft.j0]
        rw [if_pos (by simp)]
      · show impl_WorkLeft.f k l T = _
        obtain ⟨k, rfl⟩ : ∃ q, k = q + 1 := ⟨k - 1, by omega⟩
        unfold impl_WorkLeft.f
        rw [impl_AreJobs_eq hn (by omega), hb, Option.bind_some, if_pos rfl, impl_within_eq, decide_eq_false hT, Option.bind_some]
        simp only [impl_WorkLeft.j0]
        rw [if_pos (by simp)]
theorem FnExactWorkLeft : FnExactWorkLeftPure := by
  intro L0 T hm _ _
  unfold maxLen at hm
  by_cases hn : L0.length ≤ 1048576
  · have n1 : ¬ (1048576 - (L0.length : Int) < 0) := by omega
    have hn2 : (L0.map toJ).length ≤ 1048576 := by simpa using hn
    obtain ⟨v, ⟨K1, h1⟩, ⟨K2, h2⟩⟩ := both (L0.map toJ) T hn2
    have hLL : (L0.map toJ).length = L0.length := by simp
    refine ⟨K1 + K2 + L0.length + 10, ?_⟩
    generalize hL : L0.map toJ = L at *
    unfold laws_FnExactWorkLeft.f
    simp (disch := omega) only [Option.bind_some, ↓reduceIte, bne_self_eq_false, Bool.false_eq_true, h1, h2, szJobS_ok hn, n1, toJobS_eq hn, hL, eqJobS_refl hn2]
    rw [laws_FnExactWorkLeft.j0]
    simp (disch := omega) only [Option.bind_some, ↓reduceIte, bne_self_eq_false, Bool.false_eq_true, h1, h2, szJobS_ok hn, n1, toJobS_eq hn, hL, eqJobS_refl hn2]
  · exact ⟨0, by unfold laws_FnExactWorkLeft.f; rw [szJobS_big hm hn]; rfl⟩

end Go.Proofs.Yteakcmjkiamnmaa.Pure
