/- FnExactParseRing: the program's answer is the reference's, as plain functions over numbers and lists; no condition beyond the sizes that every value has. -/
import Derived.Test.YtnhlfbnfngembaaDoorPFnExactParseRingx5
namespace Go.Proofs.YtnhlfbnfngembaaDoor.Pure
open Go.RowKit Go.Proofs.YtnhlfbnfngembaaDoor.PFnExactParseRing Go.Proofs.YtnhlfbnfngembaaDoorW.PrintWords Go.Proofs.YtnhlfbnfngembaaDoorW.PrintLast Go.Proofs.YtnhlfbnfngembaaDoorW.PrintMore

/- The statement: ∀ (a0 : ByteArray), a0.size ≤ 140737488351232 → ∃ k, laws_FnExactParseRing.f k a0 = some true
What it reaches (each with k first where it has rounds; `.mono`: more rounds tell the same; `.l0`, ..: its loops, with `.mono_l`): spec_l1In.f, spec_l1Rising.f, spec_riGood.f, spec_l1Split.f, spec_l1Read.f, spec_riParse.f, spec_ParseRing.f, impl_number.f, strings_SplitN.f, strings_Cut.f, impl_within.f, impl_isRingSize.f, impl_allWithin.f, impl_areRising.f, impl_IsRing.f, strconv_Itoa.f, impl_numbersText.f, impl_ringText.f, impl_ParseRing.f, laws_eqIntS.f, laws_eqRing.f, laws_markIntS.f, laws_markRing.f, laws_heldIntS.f, laws_heldRing.f, laws_FnExactParseRing.f -/
set_option linter.unusedSimpArgs false
set_option linter.unusedVariables false
theorem wrap_id {x : Int} (h1 : -9223372036854775808 ≤ x) (h2 : x ≤ 9223372036854775807) : wrap64 x = x := by unfold wrap64; omega
theorem wrap_succ {i n : Nat} (h : i < n) (hn : n ≤ 4611686018427387904) : wrap64 ((i : Int) + 1) = ((i + 1 : Nat) : Int) := by rw [wrap_id] <;> omega
theorem rd_nat (l : List Int) {i : Nat} (h : i < l.length) : rd l (i : Int) = l[i] := by simp [rd, h]
theorem rd_mem (l : List Int) {i : Nat} (h : i < l.length) : rd l (i : Int) ∈ l := by rw [rd_nat l h]; exact List.getElem_mem h
/-- One round, and the end. -/
theorem ev_end {α : Type} {g : Nat → Option α} {r : α} (h : ∀ k, g (k + 1) = some r) : Ev g r := Ev.step h (Ev.now r)
theorem ev_of {α : Type} {g : Nat → Option α} {r : α} (h : ∀ k, g k = some r) : Ev g r := ⟨0, fun k _ => h k⟩
theorem ev_eq {α : Type} {g : Nat → Option α} {r r' : α} (h : Ev g r) (e : r = r') : Ev g r' := e ▸ h

/-- Is each number less than the next one? -/
def adjB : List Int → Bool
  | a :: b :: t => decide (a < b) && adjB (b :: t)
  | _ => true
def inB (lo hi x : Int) : Bool := decide (lo ≤ x ∧ x ≤ hi)
def risingB (l : List Int) (lo hi : Int) : Bool := l.all (inB lo hi) && adjB l
theorem adjB_at (l : List Int) {i : Nat} (h0 : 0 < i) (h : i < l.length) : adjB (l.drop (i - 1)) = (decide (l[i - 1] < l[i]) && adjB (l.drop i)) := by
  rw [List.drop_eq_getElem_cons (show i - 1 < l.length by omega), show i - 1 + 1 = i from by omega, List.drop_eq_getElem_cons h, adjB]
theorem wrap_pred {i n : Nat} (h0 : 0 < i) (h : i < n) (hn : n ≤ 4611686018427387904) : wrap64 ((i : Int) - 1) = ((i - 1 : Nat) : Int) := by rw [wrap_id] <;> omega

theorem spec_l1In_eq (a b c : Int) : spec_l1In.f a b c = some (decide (b ≤ a ∧ a ≤ c)) := by
  unfold spec_l1In.f
  by_cases h : b ≤ a <;> simp [h]

theorem spec_l1Rising_loop (lo hi : Int) (l : List Int) (hn : l.length ≤ 1048576) : ∀ (d i k : Nat), i + d = l.length → d < k →
    spec_l1Rising.l0 k l lo hi l (l.length : Int) (i : Int) = some ((l.drop i).all (inB lo hi) && adjB (l.drop (i - 1))) := by
  intro d
  induction d with
  | zero =>
    intro i k h hk
    obtain ⟨k, rfl⟩ : ∃ m, k = m + 1 := ⟨k - 1, by omega⟩
    simp only [spec_l1Rising.l0]
    rw [if_neg (by omega), List.drop_of_length_le (l := l) (i := i) (by omega)]
    have : adjB (l.drop (i - 1)) = true := by
      rcases Nat.eq_zero_or_pos i with h0 | h0
      · rw [h0, List.drop_of_length_le (by omega)]; rfl
      · rw [List.drop_eq_getElem_cons (show i - 1 < l.length by omega), List.drop_of_length_le (by omega)]; rfl
    simp [this]
  | succ d ih =>
    intro i k h hk
    obtain ⟨k, rfl⟩ : ∃ m, k = m + 1 := ⟨k - 1, by omega⟩
    have hlt : i < l.length := by omega
    have nx := ih (i + 1) k (by omega) (by omega)
    rw [Nat.add_sub_cancel] at nx
    have e : (l.drop i).all (inB lo hi) = (inB lo hi l[i] && (l.drop (i + 1)).all (inB lo hi)) := by rw [List.drop_eq_getElem_cons hlt, List.all_cons]
    simp only [spec_l1Rising.l0, spec_l1In_eq, Option.bind_some]
    rw [if_pos (by omega), if_pos (by omega), if_pos (by omega), rd_nat l hlt, wrap_succ hlt (by omega), e]
    by_cases c : lo ≤ l[i] ∧ l[i] ≤ hi
    · rw [if_pos (by simpa using c)]
      by_cases h0 : 0 < i
      · rw [if_pos (by omega), wrap_pred h0 hlt (by omega), if_pos (by omega), if_pos (by omega), rd_nat l (show i - 1 < l.length by omega), adjB_at l h0 hlt]
        by_cases c2 : l[i - 1] < l[i]
        · rw [if_neg (by omega), nx]; simp [inB, c, c2]
        · rw [if_pos (by omega)]; simp [c2]
      · obtain rfl : i = 0 := by omega
        rw [if_neg (by omega), nx]; simp [inB, c]
    · rw [if_neg (by simpa using c)]; simp only [inB, decide_eq_false c, Bool.false_and]
theorem spec_l1Rising_eq {k : Nat} {l : List Int} {lo hi : Int} (hn : l.length ≤ 1048576) (hk : l.length < k) : spec_l1Rising.f k l lo hi = some (risingB l lo hi) := by
  unfold spec_l1Rising.f
  simpa [risingB] using spec_l1Rising_loop lo hi l hn l.length 0 k (by omega) hk

theorem impl_areRising_loop (lo hi : Int) (l : List Int) (hn : l.length ≤ 1048576) : ∀ (d i k : Nat), i + d = l.length → d < k →
    impl_areRising.l0 k l lo hi l (l.length : Int) (i : Int) = some (adjB (l.drop (i - 1)) && l.all (inB lo hi)) := by
  intro d
  induction d with
  | zero =>
    intro i k h hk
    obtain ⟨k, rfl⟩ : ∃ m, k = m + 1 := ⟨k - 1, by omega⟩
    simp only [impl_areRising.l0]
    rw [if_neg (by omega)]
    have : adjB (l.drop (i - 1)) = true := by
      rcases Nat.eq_zero_or_pos i with h0 | h0
      · rw [h0, List.drop_of_length_le (by omega)]; rfl
      · rw [List.drop_eq_getElem_cons (show i - 1 < l.length by omega), List.drop_of_length_le (by omega)]; rfl
    rw [this, Bool.true_and]; rfl
  | succ d ih =>
    intro i k h hk
    obtain ⟨k, rfl⟩ : ∃ m, k = m + 1 := ⟨k - 1, by omega⟩
    have hlt : i < l.length := by omega
    have nx := ih (i + 1) k (by omega) (by omega)
    rw [Nat.add_sub_cancel] at nx
    simp only [impl_areRising.l0]
    rw [if_pos (by omega), if_pos (by omega), if_pos (by omega), rd_nat l hlt, wrap_succ hlt (by omega)]
    by_cases h0 : 0 < i
    · rw [if_pos (by omega), wrap_pred h0 hlt (by omega), if_pos (by omega), if_pos (by omega), rd_nat l (show i - 1 < l.length by omega), adjB_at l h0 hlt]
      by_cases c2 : l[i - 1] < l[i]
      · rw [if_neg (by omega), nx]; simp [c2]
      · rw [if_pos (by omega)]; simp [c2]
    · obtain rfl : i = 0 := by omega
      rw [if_neg (by omega), nx]
theorem impl_areRising_eq {k : Nat} {l : List Int} {lo hi : Int} (hn : l.length ≤ 1048576) (hk : l.length < k) : impl_areRising.f k l lo hi = some (risingB l lo hi) := by
  unfold impl_areRising.f
  have := impl_areRising_loop lo hi l hn l.length 0 k (by omega) hk
  rw [show ((0 : Nat) : Int) = 0 from rfl] at this
  simp [this, risingB, Bool.and_comm]

theorem impl_within_eq (a b c : Int) : impl_within.f a b c = some (decide (b ≤ a ∧ a ≤ c)) := by
  unfold impl_within.f
  by_cases h : b ≤ a <;> simp [h]

theorem eqIntS_loop (l : List Int) (hn : l.length ≤ 1048576) : ∀ (d i k : Nat), i + d = l.length → d < k → laws_eqIntS.l0 k l l (i : Int) = some true := by
  intro d
  induction d with
  | zero =>
    intro i k h hk
    obtain ⟨k, rfl⟩ : ∃ m, k = m + 1 := ⟨k - 1, by omega⟩
    simp only [laws_eqIntS.l0]
    rw [if_neg (by omega)]
  | succ d ih =>
    intro i k h hk
    obtain ⟨k, rfl⟩ : ∃ m, k = m + 1 := ⟨k - 1, by omega⟩
    simp only [laws_eqIntS.l0]
    rw [if_pos (by omega), if_pos (by omega), if_pos (by omega), if_pos trivial, wrap_succ (n := l.length) (by omega) (by omega)]
    exact ih (i + 1) k (by omega) (by omega)
theorem eqIntS_refl {k : Nat} {l : List Int} (hn : l.length ≤ 1048576) (hk : l.length < k) : laws_eqIntS.f k l l = some true := by
  unfold laws_eqIntS.f
  rw [if_pos rfl]
  exact eqIntS_loop l hn l.length 0 k (by omega) hk

theorem eqRing_refl {k : Nat} {s : Int} {l : List Int} (hn : l.length ≤ 1048576) (hk : l.length < k) : laws_eqRing.f k s l s l = some true := by
  unfold laws_eqRing.f
  rw [if_pos rfl, eqIntS_refl hn hk]
  rfl

/-- What both call a ring. -/
def ringB (s : Int) (l : List Int) : Bool := decide (2 ≤ s ∧ s ≤ 12) && risingB l 0 (s - 1)
theorem ringB_size {s : Int} {l : List Int} (h : ringB s l = true) : 2 ≤ s ∧ s ≤ 12 := by simp [ringB] at h; exact h.1
theorem spec_riGood_eq {k : Nat} {s : Int} {l : List Int} (hn : l.length ≤ 1048576) (hk : l.length < k) : spec_riGood.f k s l = some (ringB s l) := by
  unfold spec_riGood.f ringB
  simp only [spec_l1In_eq, Option.bind_some]
  by_cases h : 2 ≤ s ∧ s ≤ 12
  · rw [if_pos (by simpa using h), wrap_id (by omega) (by omega), spec_l1Rising_eq hn hk]; simp [h]
  · rw [if_neg (by simpa using h)]; simp [h]
theorem impl_IsRing_eq {k : Nat} {s : Int} {l : List Int} (hn : l.length ≤ 1048576) (hk : l.length < k) : impl_IsRing.f k s l = some (ringB s l) := by
  unfold impl_IsRing.f impl_isRingSize.f ringB
  simp only [impl_within_eq, Option.bind_some]
  by_cases h : 2 ≤ s ∧ s ≤ 12
  · rw [if_pos (by simpa using h), wrap_id (by omega) (by omega), impl_areRising_eq hn hk]; simp [h]
  · rw [if_neg (by simpa using h)]; simp [h]

/-- A text out of its bytes. -/
def bl (l : List UInt8) : ByteArray := ⟨l.toArray⟩
theorem bl_app (a b : List UInt8) : bl a ++ bl b = bl (a ++ b) := by
  apply ByteArray.ext; simp [bl]
theorem bl_size (a : List UInt8) : (bl a).size = a.length := by simp [bl, ByteArray.size]
theorem bl_of (s : ByteArray) : bl s.data.toList = s := by cases s; simp [bl]
theorem bl_data (a : List UInt8) : (bl a).data.toList = a := by simp [bl]
theorem dec_le (n : Nat) (h : n < 100) : (Lib.decDigits n).length ≤ 2 := dec_len n h

/-- What stands ahead goes to the first piece. -/
def consTo (p : List UInt8) : List (List UInt8) → List (List UInt8)
  | [] => [p]
  | y :: ys => (p ++ y) :: ys
/-- The pieces between the signs. -/
def splitAll (c : UInt8) : List UInt8 → List (List UInt8)
  | [] => [[]]
  | x :: l => if x = c then [] :: splitAll c l else consTo [x] (splitAll c l)
theorem splitAll_ne (c : UInt8) : ∀ l, splitAll c l ≠ []
  | [] => by simp [splitAll]
  | x :: l => by
    unfold splitAll
    split
    · simp
    · cases h : splitAll c l <;> simp [consTo]
theorem consTo_nil {ys : List (List UInt8)} (h : ys ≠ []) : consTo [] ys = ys := by
  cases ys with
  | nil => exact absurd rfl h
  | cons y t => rfl
theorem consTo_app (p q : List UInt8) {ys : List (List UInt8)} (h : ys ≠ []) : consTo p (consTo q ys) = consTo (p ++ q) ys := by
  cases ys with
  | nil => exact absurd rfl h
  | cons y t => simp [consTo]
theorem splitAll_free (c : UInt8) : ∀ (x : List UInt8), c ∉ x → splitAll c x = [x]
  | [], _ => rfl
  | a :: x, h => by
    simp only [List.mem_cons, not_or] at h
    rw [splitAll, if_neg (fun e => h.1 e.symm), splitAll_free c x h.2]; rfl
theorem splitAll_app (c : UInt8) (y : List UInt8) : ∀ (x : List UInt8), c ∉ x → splitAll c (x ++ c :: y) = x :: splitAll c y
  | [], _ => by rw [List.nil_append, splitAll, if_pos rfl]
  | a :: x, h => by
    simp only [List.mem_cons, not_or] at h
    rw [List.cons_append, splitAll, if_neg (fun e => h.1 e.symm), splitAll_app c y x h.2]; rfl
/-- Pieces with the sign between. -/
def joinC (c : UInt8) : List (List UInt8) → List UInt8
  | [] => []
  | [x] => x
  | x :: y :: r => x ++ c :: joinC c (y :: r)
theorem joinC_consTo (c a : UInt8) {ys : List (List UInt8)} (h : ys ≠ []) : joinC c (consTo [a] ys) = a :: joinC c ys := by
  match ys, h with
  | [y], _ => rfl
  | y :: z :: r, _ => rfl
theorem joinC_split (c : UInt8) : ∀ l, joinC c (splitAll c l) = l
  | [] => rfl
  | x :: l => by
    unfold splitAll
    split
    · rename_i h
      obtain ⟨y, r, e⟩ : ∃ y r, splitAll c l = y :: r := by
        cases e : splitAll c l with
        | nil => exact absurd e (splitAll_ne c l)
        | cons y r => exact ⟨y, r, rfl⟩
      have ih := joinC_split c l
      rw [e] at ih ⊢
      rw [joinC, ih, h]; rfl
    · rw [joinC_consTo c x (splitAll_ne c l), joinC_split c l]
theorem split_len (c : UInt8) : ∀ l : List UInt8, (splitAll c l).length ≤ l.length + 1
  | [] => by simp [splitAll]
  | x :: l => by
    have ih := split_len c l
    unfold splitAll
    split
    · simp only [List.length_cons]; omega
    · cases h : splitAll c l with
      | nil => simp [consTo]
      | cons y t => rw [h] at ih; simp only [consTo, List.length_cons] at ih ⊢; omega
theorem bt_bl (l : List UInt8) {i : Nat} (h : i < l.length) : bt (bl l) (i : Int) = ((l[i]).toNat : Int) := by
  have h2 : (i : Int).toNat < (bl l).size := by rw [bl_size]; exact h
  rw [bt, dif_pos h2]
  rfl
theorem bl_extract (l : List UInt8) (a b : Nat) : (bl l).extract a b = bl ((l.take b).drop a) := by
  apply ByteArray.ext
  apply Array.ext'
  simp [bl, ByteArray.data_extract, List.drop_take]
theorem bl_inj {a b : List UInt8} (h : bl a = bl b) : a = b := by
  have := congrArg (fun s : ByteArray => s.data.toList) h
  simpa [bl] using this
theorem split_loop (l : List UInt8) (c : UInt8) (hl : l.length ≤ 4194304) : ∀ (d i from_ k : Nat) (X : List ByteArray), from_ ≤ i → i + d = l.length → d < k → X.length + d ≤ 8000000 →
    spec_l1Split.l0 k (bl l) (c.toNat : Int) X (from_ : Int) (i : Int) = some (X ++ (consTo ((l.take i).drop from_) (splitAll c (l.drop i))).map bl) := by
  intro d
  induction d with
  | zero =>
    intro i f k X hf h hk hX
    obtain ⟨k, rfl⟩ : ∃ m, k = m + 1 := ⟨k - 1, by omega⟩
    rw [spec_l1Split.l0, bl_size, if_neg (by omega), if_pos (by omega), if_pos (by omega), if_pos (by omega), bl_extract, Int.toNat_natCast, List.drop_of_length_le (l := l) (i := i) (by omega)]
    obtain rfl : i = l.length := by omega
    simp [splitAll, consTo]
  | succ d ih =>
    intro i f k X hf h hk hX
    obtain ⟨k, rfl⟩ : ∃ m, k = m + 1 := ⟨k - 1, by omega⟩
    have hi : i < l.length := by omega
    rw [spec_l1Split.l0, bl_size, if_pos (by omega), if_pos (by omega), bt_bl l hi, List.drop_eq_getElem_cons hi, splitAll]
    by_cases hc : l[i] = c
    · rw [if_pos (by rw [hc]), if_pos (by omega), if_pos (by omega), if_pos (by omega), if_pos (by omega), if_pos hc, wrap_succ hi (by omega), ih (i + 1) (i + 1) k _ (Nat.le_refl _) (by omega) (by omega) (by simp only [List.length_append, List.length_cons, List.length_nil]; omega), bl_extract, Int.toNat_natCast, Int.toNat_natCast]
      rw [List.drop_of_length_le (l := l.take (i + 1)) (by rw [List.length_take]; omega), consTo_nil (splitAll_ne _ _)]
      simp [consTo]
    · rw [if_neg (show ¬ ((l[i].toNat : Int) = (c.toNat : Int)) from fun e => hc (UInt8.toNat_inj.1 (Int.ofNat.inj e))), if_neg hc, wrap_succ hi (by omega), ih (i + 1) f k X (by omega) (by omega) (by omega) (by omega), consTo_app _ _ (splitAll_ne _ _), List.take_succ_eq_append_getElem hi, List.drop_append_of_le_length (by rw [List.length_take]; omega)]
theorem spec_l1Split_eq {k : Nat} {l : List UInt8} {c : UInt8} (hl : l.length ≤ 4194304) (hk : l.length < k) : spec_l1Split.f k (bl l) (c.toNat : Int) = some ((splitAll c l).map bl) := by
  unfold spec_l1Split.f
  have h := split_loop l c hl l.length 0 0 k [] (Nat.le_refl _) (by omega) hk (by simp; omega)
  simp only [List.drop_zero, List.take_zero, List.drop_nil, List.nil_append, consTo_nil (splitAll_ne _ _)] at h
  exact h

def digS (l : List UInt8) : List UInt8 := l
/-- The value of digits behind a number. -/
def decV (n : Nat) (l : List UInt8) : Nat := l.foldl (fun n c => 10 * n + (c.toNat - 48)) n
theorem decV_nil (n : Nat) : decV n [] = n := by unfold decV; rw [List.foldl_nil]
theorem decV_cons (n : Nat) (c : UInt8) (l : List UInt8) : decV n (c :: l) = decV (10 * n + (c.toNat - 48)) l := by unfold decV; rw [List.foldl_cons]
def isDig (c : UInt8) : Bool := decide (48 ≤ c.toNat ∧ c.toNat ≤ 57)
/-- The number that a word reads as, -1 if it is none. -/
def readL (l : List UInt8) : Int := if (1 ≤ l.length ∧ l.length ≤ 6) ∧ ¬ (l.headD 0 = 48 ∧ 1 < l.length) ∧ l.all isDig = true then (decV 0 l : Int) else -1
theorem decV_le : ∀ (l : List UInt8) (n : Nat), n ≤ decV n l
  | [], n => by rw [decV_nil]; exact Nat.le_refl _
  | c :: l, n => by
    have := decV_le l (10 * n + (c.toNat - 48))
    rw [decV_cons]; omega
theorem decV_lt : ∀ (l : List UInt8) (n : Nat), l.all isDig = true → decV n l < (n + 1) * 10 ^ l.length
  | [], n, _ => by rw [decV_nil]; simp
  | c :: l, n, h => by
    simp only [List.all_cons, Bool.and_eq_true, isDig, decide_eq_true_eq] at h
    have := decV_lt l (10 * n + (c.toNat - 48)) h.2
    rw [decV_cons, List.length_cons, Nat.pow_succ]
    refine Nat.lt_of_lt_of_le this ?_
    rw [Nat.mul_comm (10 ^ l.length) 10, ← Nat.mul_assoc]
    exact Nat.mul_le_mul_right _ (by omega)
theorem read_loop (l : List UInt8) (hl : l.length ≤ 6) : ∀ (d i k n : Nat), i + d = l.length → d < k → n < 10 ^ i → 
    spec_l1Read.l0 k (bl l) (n : Int) (i : Int) = some (if (l.drop i).all isDig = true then (decV n (l.drop i) : Int) else -1) := by
  intro d
  induction d with
  | zero =>
    intro i k n h hk hn
    obtain ⟨k, rfl⟩ : ∃ m, k = m + 1 := ⟨k - 1, by omega⟩
    rw [spec_l1Read.l0, bl_size, if_neg (by omega), List.drop_of_length_le (by omega)]; rfl
  | succ d ih =>
    intro i k n h hk hn
    obtain ⟨k, rfl⟩ : ∃ m, k = m + 1 := ⟨k - 1, by omega⟩
    have hi : i < l.length := by omega
    rw [spec_l1Read.l0, bl_size, if_pos (by omega), if_pos (by omega), bt_bl l hi, List.drop_eq_getElem_cons hi, List.all_cons, decV_cons]
    generalize l[i] = c
    by_cases c1 : c.toNat < 48
    · rw [if_pos (by omega)]
      have e : isDig c = false := by unfold isDig; exact decide_eq_false (by omega)
      rw [e, Bool.false_and]; rfl
    · rw [if_neg (by omega)]
      by_cases c2 : c.toNat > 57
      · rw [if_pos (by omega)]
        have e : isDig c = false := by unfold isDig; exact decide_eq_false (by omega)
        rw [e, Bool.false_and]; rfl
      · have e : isDig c = true := by unfold isDig; exact decide_eq_true (by omega)
        have hp : 10 ^ i ≤ 100000 := Nat.le_trans (Nat.pow_le_pow_right (by decide) (show i ≤ 5 by omega)) (by decide)
        have hw : wrap64 (wrap64 (10 * (n : Int)) + ((c.toNat : Int) - 48) % 256) = ((10 * n + (c.toNat - 48) : Nat) : Int) := by
          rw [wrap_id (x := 10 * (n : Int)) (by omega) (by omega), wrap_id (by omega) (by omega)]; omega
        have hq : 10 * n + (c.toNat - 48) < 10 ^ (i + 1) := by rw [Nat.pow_succ]; omega
        rw [if_neg (by omega), hw, wrap_succ hi (by omega), ih (i + 1) k _ (by omega) (by omega) hq, e, Bool.true_and]
theorem spec_l1Read_eq {k : Nat} {l : List UInt8} (hk : 9 < k) : spec_l1Read.f k (bl l) = some (readL l) := by
  obtain ⟨k, rfl⟩ : ∃ m, k = m + 1 := ⟨k - 1, by omega⟩
  unfold spec_l1Read.f readL
  rw [bl_size, spec_l1In_eq, Option.bind_some]
  by_cases h : 1 ≤ l.length ∧ l.length ≤ 6
  · rw [decide_eq_true (by omega), if_pos rfl, if_pos (by omega), show (0 : Int) = ((0 : Nat) : Int) from rfl, bt_bl l (by omega)]
    obtain ⟨c, r, rfl⟩ : ∃ c r, l = c :: r := by
      cases l with
      | nil => simp at h
      | cons c r => exact ⟨c, r, rfl⟩
    have hr := read_loop (c :: r) h.2 (c :: r).length 0 k 0 (by omega) (by omega) (by decide)
    rw [List.drop_zero] at hr
    rw [List.getElem_cons_zero]
    have hd0 : (c :: r).headD 0 = c := rfl
    have hc48 : (c = 48) ↔ c.toNat = 48 := by rw [← UInt8.toNat_inj]; rfl
    by_cases h48 : c.toNat = 48
    · rw [if_pos (by omega)]
      by_cases h1 : 1 < (c :: r).length
      · rw [decide_eq_true (by omega), spec_l1Read.j0, if_pos rfl, if_neg (fun e => e.2.1 ⟨hc48.2 h48, h1⟩)]
      · rw [decide_eq_false (by omega), spec_l1Read.j0, if_neg (by simp)]
        refine hr.trans ?_
        by_cases ha : (c :: r).all isDig = true
        · rw [if_pos ha, if_pos ⟨h, fun e => h1 e.2, ha⟩]
        · rw [if_neg ha, if_neg (fun e => ha e.2.2)]
    · rw [if_neg (by omega), spec_l1Read.j0, if_neg (by simp)]
      refine hr.trans ?_
      by_cases ha : (c :: r).all isDig = true
      · rw [if_pos ha, if_pos ⟨h, fun e => h48 (hc48.1 e.1), ha⟩]
      · rw [if_neg ha, if_neg (fun e => ha e.2.2)]
  · rw [decide_eq_false (by omega), if_neg (by simp), spec_l1Read.j0, if_pos rfl, if_neg (fun e => h e.1)]
/-- A word that reads as a number below 100 is its numeral. -/
theorem read_dec {l : List UInt8} {a : Nat} (ha : a < 100) (h : readL l = (a : Int)) : l = Lib.decDigits a := by
  unfold readL at h
  by_cases c : (1 ≤ l.length ∧ l.length ≤ 6) ∧ ¬ (l.headD 0 = 48 ∧ 1 < l.length) ∧ l.all isDig = true
  case neg => rw [if_neg c] at h; omega
  rw [if_pos c] at h
  have hv : decV 0 l = a := by omega
  obtain ⟨⟨h1, h2⟩, h3, h4⟩ := c
  have of_d : ∀ (x : UInt8) (m : Nat), x.toNat = 48 + m → x = UInt8.ofNat (48 + m) := fun x m e => by rw [← e]; simp
  match l, h1, h3, h4, hv with
  | [x], _, _, h4, hv =>
    simp only [List.all_cons, List.all_nil, Bool.and_true, isDig, decide_eq_true_eq] at h4
    simp only [decV_cons, decV_nil] at hv
    rw [Lib.decDigits, dif_pos (by omega), of_d x a (by omega)]
  | [x, y], _, h3, h4, hv =>
    simp only [List.all_cons, List.all_nil, Bool.and_true, Bool.and_eq_true, isDig, decide_eq_true_eq] at h4
    simp only [decV_cons, decV_nil] at hv
    have hx : x.toNat ≠ 48 := fun e => h3 ⟨UInt8.toNat_inj.1 e, by simp⟩
    rw [Lib.decDigits, dif_neg (by omega), Lib.decDigits, dif_pos (by omega), of_d x (a / 10) (by omega), of_d y (a % 10) (by omega)]; rfl
  | x :: y :: z :: r, _, h3, h4, hv =>
    simp only [List.all_cons, Bool.and_eq_true, isDig, decide_eq_true_eq] at h4
    have hx : x.toNat ≠ 48 := fun e => h3 ⟨UInt8.toNat_inj.1 e, by simp⟩
    have := decV_le r (10 * (10 * (10 * 0 + (x.toNat - 48)) + (y.toNat - 48)) + (z.toNat - 48))
    simp only [decV_cons, decV_nil] at hv
    omega
theorem dec_one {a : Nat} (h : a < 10) : Lib.decDigits a = [UInt8.ofNat (48 + a)] := by rw [Lib.decDigits, dif_pos h]
theorem dec_two {a : Nat} (h : ¬ a < 10) (h2 : a < 100) : Lib.decDigits a = [UInt8.ofNat (48 + a / 10), UInt8.ofNat (48 + a % 10)] := by rw [Lib.decDigits, dif_neg h, Lib.decDigits, dif_pos (by omega)]; rfl
/-- What holds of all short numerals. -/
theorem dec_all (p : Nat → List UInt8 → Prop) (h1 : ∀ m : Fin 10, p m.val [UInt8.ofNat (48 + m.val)]) (h2 : ∀ m : Fin 90, p (m.val + 10) [UInt8.ofNat (48 + (m.val + 10) / 10), UInt8.ofNat (48 + (m.val + 10) % 10)]) {a : Nat} (h : a < 100) : p a (Lib.decDigits a) := by
  by_cases c : a < 10
  · rw [dec_one c]; exact h1 ⟨a, c⟩
  · rw [dec_two c h]
    have := h2 ⟨a - 10, by omega⟩
    simp only [show a - 10 + 10 = a by omega] at this
    exact this
theorem read_of {a : Nat} (h : a < 100) : readL (Lib.decDigits a) = (a : Int) := dec_all (fun a l => readL l = (a : Int)) (by decide +kernel) (by decide +kernel) h
theorem itoa_of (a : Nat) : Lib.itoa (a : Int) = Lib.decDigits a := by unfold Lib.itoa; rw [if_neg (by omega)]; rfl
theorem atoi_of {a : Nat} (h : a < 100) : Lib.atoiAll (Lib.decDigits a) = .ok (a : Int) := dec_all (fun a l => Lib.atoiAll l = .ok (a : Int)) (by decide +kernel) (by decide +kernel) h
theorem num_of {a : Nat} (h : a < 100) : numOf (Lib.decDigits a) = (a : Int) := by
  unfold numOf
  rw [atoi_of h]
  exact if_pos ⟨by omega, itoa_of a⟩
theorem num_dec {l : List UInt8} {a : Nat} (h : numOf l = (a : Int)) : l = Lib.decDigits a := by
  unfold numOf at h
  split at h
  · split at h
    · rename_i v _ hv
      rw [← hv.2, h, itoa_of]
    · omega
  · omega
theorem dec_free {a : Nat} (h : a < 100) (c : UInt8) (hc : isDig c = false) : c ∉ Lib.decDigits a := by
  have := dec_all (fun _ l => l.all isDig = true) (by decide +kernel) (by decide +kernel) h
  intro hm
  have := List.all_eq_true.1 this c hm
  rw [hc] at this; cases this
theorem num_range (l : List UInt8) : -1 ≤ numOf l := by
  unfold numOf
  split
  · split
    · omega
    · omega
  · omega

theorem ixb_free (c : UInt8) : ∀ (x : List UInt8), c ∉ x → Lib.indexByte x c = -1
  | [], _ => rfl
  | a :: x, h => by
    simp only [List.mem_cons, not_or] at h
    have ih := ixb_free c x h.2
    rw [Lib.indexByte, if_neg (by simpa using fun e => h.1 e.symm), ih]; rfl
theorem ixb_app (c : UInt8) (y : List UInt8) : ∀ (x : List UInt8), c ∉ x → Lib.indexByte (x ++ c :: y) c = (x.length : Int)
  | [], _ => by rw [List.nil_append, Lib.indexByte, if_pos (by simp)]; rfl
  | a :: x, h => by
    simp only [List.mem_cons, not_or] at h
    have ih := ixb_app c y x h.2
    rw [List.cons_append, Lib.indexByte, if_neg (by simpa using fun e => h.1 e.symm), ih, if_neg (by first | (simp; done) | (simp; omega)), List.length_cons]; omega
theorem splitK_free (c : UInt8) (k : Nat) (x : List UInt8) (h : c ∉ x) : Lib.splitK [c] 0 k x = [x] := by
  cases k with
  | zero => rfl
  | succ k => rw [Lib.splitK, Lib.index_one, ixb_free c x h, if_pos (by rfl)]
theorem splitK_app (c : UInt8) (k : Nat) (x y : List UInt8) (h : c ∉ x) : Lib.splitK [c] 0 (k + 1) (x ++ c :: y) = x :: Lib.splitK [c] 0 k y := by
  rw [Lib.splitK, Lib.index_one, ixb_app c y x h, if_neg (by first | (simp; done) | (simp; omega)), Int.toNat_natCast]
  simp
theorem splitK_mem (c : UInt8) : ∀ (k : Nat) (l : List UInt8), ∀ y ∈ Lib.splitK [c] 0 k l, y.length ≤ l.length
  | 0, l, y, h => by
    simp only [Lib.splitK, List.mem_singleton] at h
    rw [h]; exact Nat.le_refl _
  | k + 1, l, y, h => by
    rw [Lib.splitK] at h
    split at h
    · simp only [List.mem_singleton] at h
      rw [h]; exact Nat.le_refl _
    · rcases List.mem_cons.1 h with rfl | h
      · rw [List.length_take]; omega
      · have := splitK_mem c k _ y h
        rw [List.length_drop] at this; omega
theorem cut_app (c : UInt8) (x y : List UInt8) (h : c ∉ x) : Lib.cut (x ++ c :: y) [c] = (x, y, true) := by
  unfold Lib.cut
  rw [Lib.index_one, ixb_app c y x h, if_pos (by omega), Int.toNat_natCast]
  simp
theorem cut_len (x : List UInt8) (s : List UInt8) : (Lib.cut x s).1.length ≤ x.length ∧ (Lib.cut x s).2.1.length ≤ x.length := by
  unfold Lib.cut
  split
  · refine ⟨by simp only [List.length_take]; omega, by simp only [List.length_drop]; omega⟩
  · exact ⟨Nat.le_refl _, by simp⟩
theorem bl_of_data (s : ByteArray) : s = bl s.data.toList := (bl_of s).symm
/-- The pieces that the library's split gives. -/
theorem splitB_map (c : UInt8) (k : Nat) (l : List UInt8) : Lib.splitB (bl [c]) 0 k (bl l) = (Lib.splitK [c] 0 k l).map bl := by
  have h := Lib.splitB_data (bl [c]) 0 k (bl l)
  rw [bl_data, bl_data] at h
  rw [← h, List.map_map]
  refine (List.map_id'' (fun s => ?_) _).symm
  exact bl_of s

theorem adjB_rising : ∀ {l : List Int}, adjB l = true → l.Pairwise (· < ·)
  | [], _ => List.Pairwise.nil
  | [a], _ => by simp
  | a :: b :: t, h => by
    rw [adjB, Bool.and_eq_true, decide_eq_true_eq] at h
    have ih := adjB_rising h.2
    refine List.pairwise_cons.2 ⟨fun y hy => ?_, ih⟩
    rcases List.mem_cons.1 hy with rfl | hy
    · exact h.1
    · have := (List.pairwise_cons.1 ih).1 y hy; omega
theorem ringB_rising {s : Int} {l : List Int} (h : ringB s l = true) : l.Pairwise (· < ·) := by
  simp only [ringB, risingB, Bool.and_eq_true] at h
  exact adjB_rising h.2.2
theorem ringB_mem {s : Int} {l : List Int} (h : ringB s l = true) : ∀ x ∈ l, 0 ≤ x ∧ x < s := by
  intro x hx
  simp only [ringB, risingB, Bool.and_eq_true, List.all_eq_true, inB, decide_eq_true_eq] at h
  have := h.2.1 x hx; omega
theorem rising_len : ∀ (l : List Int) (lo hi : Int), l.Pairwise (· < ·) → (∀ x ∈ l, lo ≤ x ∧ x < hi) → lo ≤ hi → (l.length : Int) ≤ hi - lo
  | [], lo, hi, _, _, h => by simp only [List.length_nil]; omega
  | a :: t, lo, hi, hp, hm, h => by
    obtain ⟨h1, h2⟩ := List.pairwise_cons.1 hp
    have ha := hm a (by simp)
    have := rising_len t (a + 1) hi h2 (fun x hx => ⟨by have := h1 x hx; omega, (hm x (by simp [hx])).2⟩) (by omega)
    simp only [List.length_cons]; omega
theorem ringB_len {s : Int} {l : List Int} (h : ringB s l = true) : l.length ≤ 12 := by
  have h1 := ringB_size h
  have := rising_len l 0 s (ringB_rising h) (ringB_mem h) (by omega)
  omega

/-- A sign and a numeral for each number. -/
def tailT (l : List Int) : List UInt8 := l.flatMap fun x => [44] ++ Lib.decDigits x.toNat
def numsT (l : List Int) : List UInt8 := match l with | [] => [] | x :: r => Lib.decDigits x.toNat ++ tailT r
theorem numsT_join (l : List Int) : Lib.join ((numL l).map (·.data.toList)) [44] = numsT l := by
  cases l with
  | nil => rfl
  | cons x r =>
    simp only [numL, List.map_cons]
    rw [Lib.join_cons, numsT, tailT, Lib.joinTail, List.map_map, List.map_map, List.flatMap_def]
    rfl
/-- The text of a ring. -/
def ringT (s : Nat) (l : List Int) : List UInt8 := Lib.decDigits s ++ [58] ++ numsT l
theorem impl_numbersText_eq {l : List Int} (hm : ∀ x ∈ l, 0 ≤ x ∧ x < 100) (hl : l.length ≤ 1000) : impl_numbersText.f l (⟨#[44]⟩ : ByteArray) = some (bl (numsT l)) := by
  unfold impl_numbersText.f
  rw [if_pos ⟨hl, hm, by decide⟩]
  show some (bl (Lib.join _ [44])) = _
  rw [numsT_join]
theorem numsT_len (l : List Int) (hm : ∀ x ∈ l, 0 ≤ x ∧ x < 100) (hl : l.length ≤ 1000) : (numsT l).length ≤ 1002000 := by
  rw [← numsT_join]; exact join_num l [44] hm hl (by decide)
theorem impl_ringText_eq {s : Nat} {l : List Int} (hs : s < 100) (hm : ∀ x ∈ l, 0 ≤ x ∧ x < 100) (hl : l.length ≤ 1000) : impl_ringText.f (s : Int) l = some (bl (ringT s l)) := by
  have z0 := dec_le s hs
  have z1 := numsT_len l hm hl
  have q1 : (⟨#[58]⟩ : ByteArray) = bl [58] := rfl
  have q2 : strconv_Itoa.f (s : Int) = some (bl (Lib.decDigits s)) := by
    unfold strconv_Itoa.f; rw [if_pos (by omega), Int.toNat_natCast]; rfl
  unfold impl_ringText.f
  rw [q2, Option.bind_some, bl_size, if_pos (by omega), impl_numbersText_eq hm hl, Option.bind_some, q1, bl_app, bl_size, bl_size, if_pos (by simp only [List.length_append, List.length_cons, List.length_nil]; omega), bl_app]
  rfl

/-- n numbers from m on. -/
def marks (m : Int) (n : Nat) : List Int := (List.range n).map fun (j : Nat) => m + (j : Int)
theorem marks_length (m : Int) (n : Nat) : (marks m n).length = n := by simp [marks]
theorem marks_succ (m : Int) (n : Nat) : marks m (n + 1) = marks m n ++ [m + (n : Int)] := by simp [marks, List.range_succ]
theorem markIntS_loop (l : List Int) (m : Int) (hm : 0 ≤ m) (hm2 : m ≤ 1099511627776) (hn : l.length ≤ 1048576) : ∀ (d i k : Nat), i + d = l.length → d < k →
    laws_markIntS.l0 k (marks m i ++ l.drop i) (m + (i : Int)) (i : Int) = some (m + (l.length : Int), marks m l.length) := by
  intro d
  induction d with
  | zero =>
    intro i k h hk
    obtain ⟨k, rfl⟩ : ∃ m, k = m + 1 := ⟨k - 1, by omega⟩
    obtain rfl : i = l.length := by omega
    simp only [laws_markIntS.l0]
    rw [if_neg (by simp [marks_length])]
    simp
  | succ d ih =>
    intro i k h hk
    obtain ⟨k, rfl⟩ : ∃ m, k = m + 1 := ⟨k - 1, by omega⟩
    have hi : i < l.length := by omega
    have e : (marks m i ++ l.drop i).set i (m + (i : Int)) = marks m (i + 1) ++ l.drop (i + 1) := by
      rw [List.set_append_right _ _ (by simp [marks_length]), marks_length, Nat.sub_self, List.drop_eq_getElem_cons hi, List.set_cons_zero, marks_succ, List.append_assoc]; rfl
    simp only [laws_markIntS.l0]
    rw [if_pos (by simp [marks_length]; omega), if_pos (by omega), Int.toNat_natCast, e, wrap_succ hi (by omega), show wrap64 (m + (i : Int) + 1) = m + ((i + 1 : Nat) : Int) from by rw [wrap_id] <;> omega]
    exact ih (i + 1) k (by omega) (by omega)
theorem markIntS_eq {k : Nat} {l : List Int} {m : Int} (hm : 0 ≤ m) (hm2 : m ≤ 1099511627776) (hn : l.length ≤ 1048576) (hk : l.length < k) : laws_markIntS.f k l m = some (m + (l.length : Int), marks m l.length) := by
  unfold laws_markIntS.f
  have := markIntS_loop l m hm hm2 hn l.length 0 k (by omega) hk
  simpa [marks] using this
theorem heldIntS_loop (n : Nat) (m : Int) (hm : 0 ≤ m) (hm2 : m ≤ 1099511627776) (hn : n ≤ 1048576) : ∀ (d i k : Nat), i + d = n → d < k → laws_heldIntS.l0 k (marks m n) (m + (i : Int)) (i : Int) = some (m + (n : Int)) := by
  intro d
  induction d with
  | zero =>
    intro i k h hk
    obtain ⟨k, rfl⟩ : ∃ m, k = m + 1 := ⟨k - 1, by omega⟩
    obtain rfl : i = n := by omega
    simp only [laws_heldIntS.l0]
    rw [if_neg (by simp [marks_length])]
  | succ d ih =>
    intro i k h hk
    obtain ⟨k, rfl⟩ : ∃ m, k = m + 1 := ⟨k - 1, by omega⟩
    have hi : i < n := by omega
    have e : rd (marks m n) (i : Int) = m + (i : Int) := by rw [rd_nat _ (by simpa [marks_length] using hi)]; simp [marks]
    simp only [laws_heldIntS.l0]
    rw [if_pos (by simp [marks_length]; omega), if_pos (by omega), if_pos e, wrap_succ hi (by omega), show wrap64 (m + (i : Int) + 1) = m + ((i + 1 : Nat) : Int) from by rw [wrap_id] <;> omega]
    exact ih (i + 1) k (by omega) (by omega)
theorem heldIntS_eq {k n : Nat} {m : Int} (hm : 0 ≤ m) (hm2 : m ≤ 1099511627776) (hn : n ≤ 1048576) (hk : n < k) : laws_heldIntS.f k (marks m n) m = some (m + (n : Int)) := by
  unfold laws_heldIntS.f
  simpa using heldIntS_loop n m hm hm2 hn n 0 k (by omega) hk

theorem markRing_eq {k : Nat} {s : Int} {l : List Int} {m : Int} (hm : 0 ≤ m) (hm2 : m ≤ 1099511627776) (hn : l.length ≤ 1048576) (hk : l.length < k) : laws_markRing.f k s l m = some (m + (l.length : Int), marks m l.length) := by
  unfold laws_markRing.f; rw [markIntS_eq hm hm2 hn hk]; rfl

def z0 : Int × List Int × Bool := (0, [], false)
def numsOf (f : List UInt8 → Int) (t : List UInt8) (ps : List (List UInt8)) : List Int := if t = [] then [] else ps.map f
def specR (l : List UInt8) : Int × List Int × Bool :=
  match splitAll 58 l with
  | [h, t] => if l.length ≤ 60 ∧ ringB (readL h) (numsOf readL t (splitAll 44 t)) = true then (readL h, numsOf readL t (splitAll 44 t), true) else z0
  | _ => z0
def finR (l : List UInt8) (n : Int) (D : List Int) : Int × List Int × Bool := if ringB n D = true ∧ ringT n.toNat D = l then (n, D, true) else z0
def impR (l : List UInt8) : Int × List Int × Bool := finR l (numOf (Lib.cut l [58]).1) (numsOf numOf (Lib.cut l [58]).2.1 (Lib.splitK [44] 0 (min 14 ((Lib.cut l [58]).2.1.length + 1) - 1) (Lib.cut l [58]).2.1))
theorem rd_bl (ps : List (List UInt8)) {i : Nat} (h : i < ps.length) : rdOf ByteArray.empty (ps.map bl) (i : Int) = bl ps[i] := by
  simp [rdOf, List.getD_eq_getElem?_getD, h]
theorem spec_end {k : Nat} {a : Int} {X : List Int} (hX : X.length ≤ 1048576) (hk : X.length < k) : ((spec_riGood.f k a X).bind fun t132 => (if t132 = true then (some (a, X, true)) else (some (0, ([] : List Int), false)))) = some (if ringB a X = true then (a, X, true) else z0) := by
  rw [spec_riGood_eq hX hk, Option.bind_some]
  by_cases h : ringB a X = true
  · rw [if_pos h, if_pos h]
  · rw [if_neg h, if_neg h]; rfl
theorem spec_loop (ps : List (List UInt8)) (a : Int) (hp : ps.length ≤ 1000) : ∀ (d i k : Nat) (X : List Int), i + d = ps.length → d + 3000 < k → X.length + d ≤ 1000 →
    spec_riParse.l0 k (ps.map bl) (ps.length : Int) (i : Int) a X = some (if ringB a (X ++ (ps.drop i).map readL) = true then (a, X ++ (ps.drop i).map readL, true) else z0) := by
  intro d
  induction d with
  | zero =>
    intro i k X h hk hX
    obtain ⟨k, rfl⟩ : ∃ m, k = m + 1 := ⟨k - 1, by omega⟩
    rw [spec_riParse.l0, if_neg (by omega), List.drop_of_length_le (by omega), List.map_nil, List.append_nil, spec_end (by omega) (by omega)]
  | succ d ih =>
    intro i k X h hk hX
    obtain ⟨k, rfl⟩ : ∃ m, k = m + 1 := ⟨k - 1, by omega⟩
    have hi : i < ps.length := by omega
    rw [spec_riParse.l0, if_pos (by omega), if_pos (by omega), if_pos (by rw [List.length_map]; omega), rd_bl ps hi, spec_l1Read_eq (by omega), Option.bind_some, if_pos (by omega), wrap_succ hi (by omega), ih (i + 1) k _ (by omega) (by omega) (by simp only [List.length_append, List.length_cons, List.length_nil]; omega), List.drop_eq_getElem_cons hi, List.map_cons, List.append_assoc]
    rfl
theorem impl_end {l : List UInt8} {k : Nat} {n : Int} {X : List Int} (hX : X.length ≤ 1000) (hk : X.length + 1 < k) : impl_ParseRing.j1 k (bl l) n X = some (finR l n X) := by
  obtain ⟨k, rfl⟩ : ∃ m, k = m + 1 := ⟨k - 1, by omega⟩
  rw [impl_ParseRing.j1, impl_IsRing_eq (by omega) (by omega), Option.bind_some]
  unfold finR
  by_cases h : ringB n X = true
  · have hs := ringB_size h
    have hm : ∀ x ∈ X, 0 ≤ x ∧ x < 100 := fun x hx => by have := ringB_mem h x hx; omega
    obtain ⟨n, rfl⟩ : ∃ m : Nat, n = (m : Int) := ⟨n.toNat, by omega⟩
    rw [if_pos h, impl_ringText_eq (by omega) hm hX, Option.bind_some, ByteArray.toList_eq, ByteArray.toList_eq, bl_data, bl_data, Int.toNat_natCast]
    by_cases ht : ringT n X = l
    · rw [if_pos ht, if_pos ⟨h, ht⟩]
    · rw [if_neg ht, if_neg (fun e => ht e.2)]; rfl
  · rw [if_neg h, if_neg (fun e => h e.1)]; rfl
theorem impl_loop (l : List UInt8) (ps : List (List UInt8)) (a : Int) (hp : ps.length ≤ 100) (hw : ∀ w ∈ ps, w.length ≤ 4194304) : ∀ (d i k : Nat) (X : List Int), i + d = ps.length → d + 300 < k → X.length + d ≤ 100 →
    impl_ParseRing.l0 k (bl l) (ps.map bl) (ps.length : Int) (i : Int) a X = some (finR l a (X ++ (ps.drop i).map numOf)) := by
  intro d
  induction d with
  | zero =>
    intro i k X h hk hX
    obtain ⟨k, rfl⟩ : ∃ m, k = m + 1 := ⟨k - 1, by omega⟩
    rw [impl_ParseRing.l0, if_neg (by omega), List.drop_of_length_le (by omega), List.map_nil, List.append_nil, impl_end (by omega) (by omega)]
  | succ d ih =>
    intro i k X h hk hX
    obtain ⟨k, rfl⟩ : ∃ m, k = m + 1 := ⟨k - 1, by omega⟩
    have hi : i < ps.length := by omega
    have hs := hw _ (List.getElem_mem hi)
    rw [impl_ParseRing.l0, if_pos (by omega), if_pos (by omega), if_pos (by rw [List.length_map]; omega), rd_bl ps hi]
    unfold impl_number.f
    rw [bl_size, if_pos hs, Option.bind_some, if_pos (by omega), wrap_succ hi (by omega), ih (i + 1) k _ (by omega) (by omega) (by simp only [List.length_append, List.length_cons, List.length_nil]; omega), List.drop_eq_getElem_cons hi, List.map_cons, List.append_assoc, bl_data]
    rfl
theorem spec_eq (l : List UInt8) (hl : l.length ≤ 1048576) : Ev (fun k => spec_ParseRing.f k (bl l)) (specR l) := by
  refine ⟨l.length + 4000, fun k hk => ?_⟩
  show spec_ParseRing.f k (bl l) = _
  have done : ∀ v, spec_riParse.f k (bl l) = some v → spec_ParseRing.f k (bl l) = some v := fun v h => by
    unfold spec_ParseRing.f; rw [h]; rfl
  apply done
  obtain ⟨k, rfl⟩ : ∃ m, k = m + 1 := ⟨k - 1, by omega⟩
  unfold spec_riParse.f
  rw [show (58 : Int) = ((58 : UInt8).toNat : Int) from rfl, spec_l1Split_eq (by omega) (by omega), Option.bind_some, bl_size]
  unfold specR
  by_cases h60 : l.length ≤ 60
  · rw [if_neg (by omega)]
    match hs : splitAll 58 l with
    | [h, t] =>
      have e0 : rdOf ByteArray.empty [bl h, bl t] 0 = bl h := rfl
      have e1 : rdOf ByteArray.empty [bl h, bl t] 1 = bl t := rfl
      have hj := joinC_split 58 l
      rw [hs] at hj
      simp only [joinC] at hj
      have hlen : h.length + t.length ≤ l.length := by rw [← hj]; simp only [List.length_append, List.length_cons]; omega
      simp only [List.map_cons, List.map_nil]
      rw [show ((([bl h, bl t] : List ByteArray).length : Int) != 2) = false from rfl, spec_riParse.j0, if_neg (by simp), if_pos (by simp), e0, spec_l1Read_eq (by omega), Option.bind_some, if_pos (by simp), e1, ByteArray.toList_eq, bl_data]
      unfold numsOf
      by_cases ht : t = []
      · rw [if_pos ht, if_pos ht, spec_end (by simp) (by simp; omega)]
        by_cases hr : ringB (readL h) [] = true
        · rw [if_pos hr, if_pos ⟨h60, hr⟩]
        · rw [if_neg hr, if_neg (fun e => hr e.2)]
      · have hpl := split_len 44 t
        rw [if_neg ht, if_neg ht, show (44 : Int) = ((44 : UInt8).toNat : Int) from rfl, spec_l1Split_eq (by omega) (by omega), Option.bind_some, List.length_map]
        have hh := spec_loop (splitAll 44 t) (readL h) (by omega) (splitAll 44 t).length 0 k [] (by omega) (by omega) (by simp; omega)
        rw [List.drop_zero, List.nil_append] at hh
        refine hh.trans ?_
        by_cases hr : ringB (readL h) ((splitAll 44 t).map readL) = true
        · rw [if_pos hr, if_pos ⟨h60, hr⟩]
        · rw [if_neg hr, if_neg (fun e => hr e.2)]
    | [] => exact absurd hs (splitAll_ne _ _)
    | [x0] =>
      simp only [List.map_cons, List.map_nil]
      rw [show ((([bl x0] : List ByteArray).length : Int) != 2) = true from rfl, spec_riParse.j0, if_pos rfl]; rfl
    | x0 :: x1 :: x2 :: r =>
      have e : (((bl x0 :: bl x1 :: bl x2 :: r.map bl).length : Int) != 2) = true := by simp; omega
      simp only [List.map_cons]
      rw [e, spec_riParse.j0, if_pos rfl]; rfl
  · rw [if_pos (by omega), spec_riParse.j0, if_pos rfl]
    split
    · rw [if_neg (fun e => h60 e.1)]; rfl
    · rfl
theorem splitK_len (c : UInt8) : ∀ (k : Nat) (l : List UInt8), (Lib.splitK [c] 0 k l).length ≤ k + 1
  | 0, l => by simp [Lib.splitK]
  | k + 1, l => by
    rw [Lib.splitK]
    split
    · simp
    · have := splitK_len c k (l.drop ((Lib.index l [c]).toNat + [c].length))
      rw [List.length_cons]; omega
theorem impl_eq (l : List UInt8) (hl : l.length ≤ 1048576) : Ev (fun k => impl_ParseRing.f k (bl l)) (impR l) := by
  refine ⟨l.length + 4000, fun k hk => ?_⟩
  show impl_ParseRing.f k (bl l) = _
  have q1 : (⟨#[58]⟩ : ByteArray) = bl [58] := rfl
  have q2 : (⟨#[44]⟩ : ByteArray) = bl [44] := rfl
  obtain ⟨c1, c2⟩ := cut_len l [58]
  unfold impl_ParseRing.f strings_Cut.f
  rw [bl_size, if_pos (by omega), Option.bind_some, q1, bl_data, bl_data]
  unfold impR
  generalize Lib.cut l [58] = c at c1 c2 ⊢
  obtain ⟨h, t, b⟩ := c
  simp only at c1 c2 ⊢
  show (impl_number.f (bl h)).bind (fun t153 => if (bl t).toList = ([] : List UInt8) then _ else _) = _
  unfold impl_number.f
  rw [bl_size, if_pos (by omega), Option.bind_some, ByteArray.toList_eq, bl_data, bl_data]
  unfold numsOf
  by_cases ht : t = []
  · rw [if_pos ht, if_pos ht, impl_end (by simp) (by simp; omega)]
  · rw [if_neg ht, if_neg ht]
    show (strings_SplitN.f (bl t) (⟨#[44]⟩ : ByteArray) 14).bind _ = _
    unfold strings_SplitN.f
    rw [q2, bl_size, if_pos ⟨by omega, by rw [bl_size]; decide, by omega, by omega⟩, Option.bind_some, splitB_map, show ((14 : Int).toNat) = 14 from rfl]
    have m1 := splitK_len 44 (min 14 (t.length + 1) - 1) t
    have m2 := splitK_mem 44 (min 14 (t.length + 1) - 1) t
    generalize Lib.splitK [44] 0 (min 14 (t.length + 1) - 1) t = ps at m1 m2 ⊢
    have hh := impl_loop l ps (numOf h) (by omega) (fun w hw => by have := m2 w hw; omega) ps.length 0 k [] (by omega) (by omega) (by simp; omega)
    rw [List.drop_zero, List.nil_append] at hh
    rw [List.length_map]
    exact hh
theorem splitAll_join (c : UInt8) : ∀ (ps : List (List UInt8)), ps ≠ [] → (∀ w ∈ ps, c ∉ w) → splitAll c (joinC c ps) = ps
  | [], h, _ => absurd rfl h
  | [x], _, h => splitAll_free c x (h x (by simp))
  | x :: y :: r, _, h => by
    rw [joinC, splitAll_app c _ x (h x (by simp)), splitAll_join c (y :: r) (by simp) (fun w hw => h w (by simp [hw]))]
theorem splitK_join (c : UInt8) : ∀ (ps : List (List UInt8)) (k : Nat), ps ≠ [] → ps.length ≤ k + 1 → (∀ w ∈ ps, c ∉ w) → Lib.splitK [c] 0 k (joinC c ps) = ps
  | [], _, h, _, _ => absurd rfl h
  | [x], k, _, _, h => splitK_free c k x (h x (by simp))
  | x :: y :: r, k, _, hk, h => by
    obtain ⟨k, rfl⟩ : ∃ m, k = m + 1 := ⟨k - 1, by simp only [List.length_cons] at hk; omega⟩
    rw [joinC, splitK_app c k x _ (h x (by simp)), splitK_join c (y :: r) k (by simp) (by simp only [List.length_cons] at hk ⊢; omega) (fun w hw => h w (by simp [hw]))]
def decs (D : List Int) : List (List UInt8) := D.map fun x => Lib.decDigits x.toNat
theorem tail_join : ∀ (x : Int) (D : List Int), joinC 44 (decs (x :: D)) = Lib.decDigits x.toNat ++ tailT D
  | x, [] => by simp [decs, joinC, tailT]
  | x, y :: D => by
    have ih := tail_join y D
    simp only [decs, List.map_cons] at ih ⊢
    rw [joinC, ih]; simp [tailT]
theorem nums_join (D : List Int) : numsT D = joinC 44 (decs D) := by
  cases D with
  | nil => rfl
  | cons x D => rw [tail_join]; rfl
theorem decs_free {D : List Int} (h : ∀ x ∈ D, 0 ≤ x ∧ x < 100) (c : UInt8) (hc : isDig c = false) : ∀ w ∈ decs D, c ∉ w := by
  intro w hw
  simp only [decs, List.mem_map] at hw
  obtain ⟨x, hx, rfl⟩ := hw
  exact dec_free (by have := h x hx; omega) c hc
theorem decs_read {D : List Int} (h : ∀ x ∈ D, 0 ≤ x ∧ x < 100) : (decs D).map readL = D := by
  rw [decs, List.map_map]
  refine (List.map_congr_left fun x hx => ?_).trans (List.map_id _)
  have := h x hx
  show readL (Lib.decDigits x.toNat) = x
  rw [read_of (by omega)]; omega
theorem decs_num {D : List Int} (h : ∀ x ∈ D, 0 ≤ x ∧ x < 100) : (decs D).map numOf = D := by
  rw [decs, List.map_map]
  refine (List.map_congr_left fun x hx => ?_).trans (List.map_id _)
  have := h x hx
  show numOf (Lib.decDigits x.toNat) = x
  rw [num_of (by omega)]; omega
theorem joinC_mem (c d : UInt8) : ∀ (ps : List (List UInt8)), d ≠ c → (∀ w ∈ ps, d ∉ w) → d ∉ joinC c ps
  | [], _, _ => by simp [joinC]
  | [x], _, h => h x (by simp)
  | x :: y :: r, hd, h => by
    rw [joinC, List.mem_append, List.mem_cons]
    rintro (e | e | e)
    · exact h x (by simp) e
    · exact hd e
    · exact joinC_mem c d (y :: r) hd (fun w hw => h w (by simp [hw])) e
theorem nums_ne {x : Int} {D : List Int} : numsT (x :: D) ≠ [] := by
  intro e
  have : Lib.decDigits x.toNat ≠ [] := by rw [Lib.decDigits]; split <;> simp
  simp only [numsT, List.append_eq_nil_iff] at e
  exact this e.1
theorem tail_len (D : List Int) (h : ∀ x ∈ D, 0 ≤ x ∧ x < 100) : D.length ≤ (tailT D).length ∧ (tailT D).length ≤ 3 * D.length := by
  induction D with
  | nil => simp [tailT]
  | cons x D ih =>
    have i := ih (fun y hy => h y (by simp [hy]))
    have := dec_le x.toNat (by have := h x (by simp); omega)
    simp only [tailT, List.flatMap_cons, List.length_append, List.length_cons, List.length_nil] at i ⊢
    omega
theorem nums_len (D : List Int) (h : ∀ x ∈ D, 0 ≤ x ∧ x < 100) : D.length ≤ (numsT D).length + 1 ∧ (numsT D).length ≤ 3 * D.length := by
  cases D with
  | nil => simp [numsT]
  | cons x D =>
    have i := tail_len D (fun y hy => h y (by simp [hy]))
    have := dec_le x.toNat (by have := h x (by simp); omega)
    simp only [numsT, List.length_append, List.length_cons]
    omega
theorem spec_text {n : Nat} {D : List Int} (hr : ringB (n : Int) D = true) : specR (ringT n D) = ((n : Int), D, true) := by
  have hs := ringB_size hr
  have hl := ringB_len hr
  have hm : ∀ x ∈ D, 0 ≤ x ∧ x < 100 := fun x hx => by have := ringB_mem hr x hx; omega
  have hd := dec_le n (by omega)
  have hn := nums_len D hm
  have hform : ringT n D = Lib.decDigits n ++ 58 :: numsT D := by simp [ringT]
  have hfree : (58 : UInt8) ∉ numsT D := by rw [nums_join]; exact joinC_mem 44 58 _ (by decide) (decs_free hm 58 (by decide))
  have hsp : splitAll 58 (ringT n D) = [Lib.decDigits n, numsT D] := by rw [hform, splitAll_app _ _ _ (dec_free (by omega) 58 (by decide)), splitAll_free _ _ hfree]
  have hD : numsOf readL (numsT D) (splitAll 44 (numsT D)) = D := by
    cases D with
    | nil => rfl
    | cons x D =>
      unfold numsOf
      rw [if_neg nums_ne, nums_join, splitAll_join 44 _ (by simp [decs]) (decs_free hm 44 (by decide)), decs_read hm]
  unfold specR
  rw [hsp]
  simp only [hD]
  rw [read_of (by omega), if_pos ⟨by rw [hform]; simp only [List.length_append, List.length_cons]; omega, hr⟩]
theorem impl_text {n : Nat} {D : List Int} (hr : ringB (n : Int) D = true) : impR (ringT n D) = ((n : Int), D, true) := by
  have hs := ringB_size hr
  have hl := ringB_len hr
  have hm : ∀ x ∈ D, 0 ≤ x ∧ x < 100 := fun x hx => by have := ringB_mem hr x hx; omega
  have hn := nums_len D hm
  have hform : ringT n D = Lib.decDigits n ++ 58 :: numsT D := by simp [ringT]
  have hc : Lib.cut (ringT n D) [58] = (Lib.decDigits n, numsT D, true) := by rw [hform]; exact cut_app 58 _ _ (dec_free (by omega) 58 (by decide))
  have hD : numsOf numOf (numsT D) (Lib.splitK [44] 0 (min 14 ((numsT D).length + 1) - 1) (numsT D)) = D := by
    cases D with
    | nil => rfl
    | cons x D =>
      unfold numsOf
      rw [if_neg nums_ne]
      have hk : (decs (x :: D)).length ≤ min 14 ((numsT (x :: D)).length + 1) - 1 + 1 := by simp only [decs, List.length_map]; simp only [List.length_cons] at hl hn ⊢; omega
      generalize min 14 ((numsT (x :: D)).length + 1) - 1 = k at hk ⊢
      rw [nums_join, splitK_join 44 _ k (by simp [decs]) hk (decs_free hm 44 (by decide)), decs_num hm]
  unfold impR
  rw [hc]
  simp only [hD]
  rw [num_of (by omega)]
  unfold finR
  rw [Int.toNat_natCast, if_pos ⟨hr, rfl⟩]
theorem impl_back (l : List UInt8) : impR l = z0 ∨ ∃ (n : Nat) (D : List Int), ringB (n : Int) D = true ∧ ringT n D = l := by
  unfold impR finR
  generalize numOf (Lib.cut l [58]).1 = n
  generalize numsOf numOf _ _ = D
  by_cases c : ringB n D = true ∧ ringT n.toNat D = l
  · have hs := ringB_size c.1
    refine Or.inr ⟨n.toNat, D, ?_, c.2⟩
    rw [Int.toNat_of_nonneg (by omega)]; exact c.1
  · rw [if_neg c]; exact Or.inl rfl
theorem spec_back (l : List UInt8) : specR l = z0 ∨ ∃ (n : Nat) (D : List Int), ringB (n : Int) D = true ∧ ringT n D = l := by
  unfold specR
  split
  · rename_i h t hs
    by_cases c : l.length ≤ 60 ∧ ringB (readL h) (numsOf readL t (splitAll 44 t)) = true
    · right
      have hz := ringB_size c.2
      have hm := ringB_mem c.2
      have j1 := joinC_split 58 l
      rw [hs] at j1
      simp only [joinC] at j1
      have r1 := read_dec (l := h) (a := (readL h).toNat) (by omega) (by omega)
      refine ⟨(readL h).toNat, numsOf readL t (splitAll 44 t), by rw [Int.toNat_of_nonneg (by omega)]; exact c.2, ?_⟩
      have ht : numsT (numsOf readL t (splitAll 44 t)) = t := by
        unfold numsOf at hm ⊢
        by_cases ht : t = []
        · rw [if_pos ht, ht]; rfl
        · rw [if_neg ht] at hm ⊢
          rw [nums_join]
          have e : decs ((splitAll 44 t).map readL) = splitAll 44 t := by
            rw [decs, List.map_map]
            refine (List.map_congr_left fun w hw => ?_).trans (List.map_id _)
            have hr := hm (readL w) (List.mem_map_of_mem hw)
            show Lib.decDigits (readL w).toNat = w
            exact (read_dec (by omega) (by omega)).symm
          rw [e, joinC_split]
      show Lib.decDigits (readL h).toNat ++ [58] ++ numsT _ = l
      rw [ht, ← r1, ← j1]; simp
    · rw [if_neg c]; exact Or.inl rfl
  · exact Or.inl rfl
theorem same (l : List UInt8) : impR l = specR l := by
  rcases impl_back l with h | ⟨n, D, hf, rfl⟩
  · rcases spec_back l with h2 | ⟨n, D, hf, rfl⟩
    · rw [h, h2]
    · rw [spec_text hf, impl_text hf]
  · rw [spec_text hf, impl_text hf]
theorem len_le (l : List UInt8) : (specR l).2.1.length ≤ 16 := by
  rcases spec_back l with h | ⟨n, D, hf, rfl⟩
  · rw [h]; simp [z0]
  · rw [spec_text hf]; have := ringB_len hf; simp only; omega
theorem FnExactParseRing : laws_FnExactParseRing.Pure := by
  intro s hs
  by_cases hl : (s.size : Int) > 1048576
  · exact ⟨0, by unfold laws_FnExactParseRing.f; rw [if_pos hl]⟩
  · obtain ⟨l, rfl⟩ : ∃ l, s = bl l := ⟨s.data.toList, bl_of_data s⟩
    have hn : l.length ≤ 1048576 := by rw [bl_size] at hl; omega
    obtain ⟨K1, h1⟩ := spec_eq l hn
    obtain ⟨K2, h2⟩ := impl_eq l hn
    have hv := len_le l
    simp only [same l] at h2
    generalize specR l = v at h1 h2 hv
    obtain ⟨a, D, t⟩ := v
    simp only at h1 h2 hv
    have n2 : ¬ (1 + (D.length : Int) < 0) := by omega
    have hv2 : D.length ≤ 1048576 := by omega
    refine ⟨K1 + K2 + D.length + 10, ?_⟩
    unfold laws_FnExactParseRing.f
    simp (disch := omega) only [Option.bind_some, ↓reduceIte, bne_self_eq_false, Bool.false_eq_true, h1, h2, hl, n2, eqRing_refl hv2, laws_markRing.f, laws_heldRing.f, markIntS_eq, heldIntS_eq]
    rw [laws_FnExactParseRing.j0]
    simp (disch := omega) only [Option.bind_some, ↓reduceIte, bne_self_eq_false, Bool.false_eq_true, h1, h2, hl, n2, eqRing_refl hv2, laws_markRing.f, laws_heldRing.f, markIntS_eq, heldIntS_eq]
    rw [laws_FnExactParseRing.j1]
    simp (disch := omega) only [Option.bind_some, ↓reduceIte, bne_self_eq_false, Bool.false_eq_true, h1, h2, hl, n2, eqRing_refl hv2, laws_markRing.f, laws_heldRing.f, markIntS_eq, heldIntS_eq]

end Go.Proofs.YtnhlfbnfngembaaDoor.Pure
