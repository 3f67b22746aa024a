/- FnExactRingText: the program's answer is the reference's, as plain functions over numbers and lists; no condition beyond the sizes that every value has. -/
import Derived.Test.YtnhlfbnfngembaaDoorPFnExactRingTextx3
namespace Go.Proofs.YtnhlfbnfngembaaDoor.Pure
open Go.RowKit Go.Proofs.YtnhlfbnfngembaaDoor.PFnExactRingText Go.Proofs.YtnhlfbnfngembaaDoorW.PrintWords Go.Proofs.YtnhlfbnfngembaaDoorW.PrintLast Go.Proofs.YtnhlfbnfngembaaDoorW.PrintMore

/- It reaches: laws_eqIntS.f, laws_eqRing.f, laws_szIntS.f, laws_szRing.f, spec_l1In.f, spec_l1Rising.f, spec_riGood.f, spec_l1Num.f, spec_riText.f, spec_RingText.f, laws_toIntS.f, laws_toRing.f, impl_within.f, impl_isRingSize.f, impl_allWithin.f, impl_areRising.f, impl_IsRing.f, strconv_Itoa.f, impl_numbersText.f, impl_ringText.f, impl_RingText.f, laws_FnExactRingText.f -/
def FnExactRingTextPure : Prop := ∀ (a0_0 : Int) (l0_1 : List Int), (Lit.int .i64 a0_0).wf = true → l0_1.length ≤ maxLen → (∀ x ∈ l0_1, (Lit.int .i64 x).wf = true) → ∃ k, laws_FnExactRingText.f k a0_0 l0_1 = some true
set_option linter.unusedSimpArgs false
set_option linter.unusedVariables false
theorem wrap_id {x : Int} (h1 : -9223372036854775808 ≤ x) (h2 : x ≤ 9223372036854775807) : wrap64 x = x := by unfold wrap64; omega
theorem wrap_succ {i n : Nat} (h : i < n) (hn : n ≤ 4611686018427387904) : wrap64 ((i : Int) + 1) = ((i + 1 : Nat) : Int) := by rw [wrap_id] <;> omega
theorem rd_nat (l : List Int) {i : Nat} (h : i < l.length) : rd l (i : Int) = l[i] := by simp [rd, h]
theorem rd_mem (l : List Int) {i : Nat} (h : i < l.length) : rd l (i : Int) ∈ l := by rw [rd_nat l h]; exact List.getElem_mem h
/-- One round, and the end. -/
theorem ev_end {α : Type} {g : Nat → Option α} {r : α} (h : ∀ k, g (k + 1) = some r) : Ev g r := Ev.step h (Ev.now r)
theorem ev_of {α : Type} {g : Nat → Option α} {r : α} (h : ∀ k, g k = some r) : Ev g r := ⟨0, fun k _ => h k⟩
theorem ev_eq {α : Type} {g : Nat → Option α} {r r' : α} (h : Ev g r) (e : r = r') : Ev g r' := e ▸ h

/-- A text out of its bytes. -/
def bl (l : List UInt8) : ByteArray := ⟨l.toArray⟩
theorem bl_app (a b : List UInt8) : bl a ++ bl b = bl (a ++ b) := by
  apply ByteArray.ext; simp [bl]
theorem bl_size (a : List UInt8) : (bl a).size = a.length := by simp [bl, ByteArray.size]
theorem bl_of (s : ByteArray) : bl s.data.toList = s := by cases s; simp [bl]
theorem bl_data (a : List UInt8) : (bl a).data.toList = a := by simp [bl]
theorem str_one (n : Nat) (h : n < 10) : strOfNums [(wrap64 (48 + (n : Int))) % 256] = bl [UInt8.ofNat (48 + n)] := by
  have : ∀ m : Fin 10, strOfNums [(wrap64 (48 + (m.val : Int))) % 256] = bl [UInt8.ofNat (48 + m.val)] := by decide +kernel
  exact this ⟨n, h⟩
/-- The numeral of a number below 100. -/
theorem spec_l1Num_eq {k n : Nat} (hn : n < 100) (hk : 2 ≤ k) : spec_l1Num.f k (n : Int) = some (bl (Lib.decDigits n)) := by
  obtain ⟨k, rfl⟩ : ∃ m, k = m + 2 := ⟨k - 2, by omega⟩
  by_cases h : n < 10
  · show spec_l1Num.f (k + 1 + 1) _ = _
    rw [spec_l1Num.f, if_pos (by omega), str_one n h, Lib.decDigits, dif_pos h]
  · have e1 : Int.tdiv (n : Int) 10 = ((n / 10 : Nat) : Int) := by rw [Int.tdiv_eq_ediv_of_nonneg (by omega)]; rfl
    have e2 : Int.tmod (n : Int) 10 = ((n % 10 : Nat) : Int) := by rw [Int.tmod_eq_emod_of_nonneg (by omega)]; rfl
    show spec_l1Num.f (k + 1 + 1) _ = _
    rw [spec_l1Num.f, if_neg (by omega), e1, e2, wrap_id (by omega) (by omega), spec_l1Num.f, if_pos (by omega), str_one _ (by omega), Option.bind_some, Option.bind_some, str_one _ (by omega), bl_size, bl_size, if_pos (by simp), bl_app, Lib.decDigits, dif_neg h, Lib.decDigits, dif_pos (by omega)]
theorem dec_le (n : Nat) (h : n < 100) : (Lib.decDigits n).length ≤ 2 := dec_len n h

/-- Is each number less than the next one? -/
def adjB : List Int → Bool
  | a :: b :: t => decide (a < b) && adjB (b :: t)
  | _ => true
def inB (lo hi x : Int) : Bool := decide (lo ≤ x ∧ x ≤ hi)
def risingB (l : List Int) (lo hi : Int) : Bool := l.all (inB lo hi) && adjB l
theorem adjB_at (l : List Int) {i : Nat} (h0 : 0 < i) (h : i < l.length) : adjB (l.drop (i - 1)) = (decide (l[i - 1] < l[i]) && adjB (l.drop i)) := by
  rw [List.drop_eq_getElem_cons (show i - 1 < l.length by omega), show i - 1 + 1 = i from by omega, List.drop_eq_getElem_cons h, adjB]
theorem wrap_pred {i n : Nat} (h0 : 0 < i) (h : i < n) (hn : n ≤ 4611686018427387904) : wrap64 ((i : Int) - 1) = ((i - 1 : Nat) : Int) := by rw [wrap_id] <;> omega

theorem spec_l1In_eq (a b c : Int) : spec_l1In.f a b c = some (decide (b ≤ a ∧ a ≤ c)) := by
  unfold spec_l1In.f
  by_cases h : b ≤ a <;> simp [h]

theorem spec_l1Rising_loop (lo hi : Int) (l : List Int) (hn : l.length ≤ 1048576) : ∀ (d i k : Nat), i + d = l.length → d < k →
    spec_l1Rising.l0 k l lo hi l (l.length : Int) (i : Int) = some ((l.drop i).all (inB lo hi) && adjB (l.drop (i - 1))) := by
  intro d
  induction d with
  | zero =>
    intro i k h hk
    obtain ⟨k, rfl⟩ : ∃ m, k = m + 1 := ⟨k - 1, by omega⟩
    simp only [spec_l1Rising.l0]
    rw [if_neg (by omega), List.drop_of_length_le (l := l) (i := i) (by omega)]
    have : adjB (l.drop (i - 1)) = true := by
      rcases Nat.eq_zero_or_pos i with h0 | h0
      · rw [h0, List.drop_of_length_le (by omega)]; rfl
      · rw [List.drop_eq_getElem_cons (show i - 1 < l.length by omega), List.drop_of_length_le (by omega)]; rfl
    simp [this]
  | succ d ih =>
    intro i k h hk
    obtain ⟨k, rfl⟩ : ∃ m, k = m + 1 := ⟨k - 1, by omega⟩
    have hlt : i < l.length := by omega
    have nx := ih (i + 1) k (by omega) (by omega)
    rw [Nat.add_sub_cancel] at nx
    have e : (l.drop i).all (inB lo hi) = (inB lo hi l[i] && (l.drop (i + 1)).all (inB lo hi)) := by rw [List.drop_eq_getElem_cons hlt, List.all_cons]
    simp only [spec_l1Rising.l0, spec_l1In_eq, Option.bind_some]
    rw [if_pos (by omega), if_pos (by omega), if_pos (by omega), rd_nat l hlt, wrap_succ hlt (by omega), e]
    by_cases c : lo ≤ l[i] ∧ l[i] ≤ hi
    · rw [if_pos (by simpa using c)]
      by_cases h0 : 0 < i
      · rw [if_pos (by omega), wrap_pred h0 hlt (by omega), if_pos (by omega), if_pos (by omega), rd_nat l (show i - 1 < l.length by omega), adjB_at l h0 hlt]
        by_cases c2 : l[i - 1] < l[i]
        · rw [if_neg (by omega), nx]; simp [inB, c, c2]
        · rw [if_pos (by omega)]; simp [c2]
      · obtain rfl : i = 0 := by omega
        rw [if_neg (by omega), nx]; simp [inB, c]
    · rw [if_neg (by simpa using c)]; simp only [inB, decide_eq_false c, Bool.false_and]
theorem spec_l1Rising_eq {k : Nat} {l : List Int} {lo hi : Int} (hn : l.length ≤ 1048576) (hk : l.length < k) : spec_l1Rising.f k l lo hi = some (risingB l lo hi) := by
  unfold spec_l1Rising.f
  simpa [risingB] using spec_l1Rising_loop lo hi l hn l.length 0 k (by omega) hk

theorem impl_areRising_loop (lo hi : Int) (l : List Int) (hn : l.length ≤ 1048576) : ∀ (d i k : Nat), i + d = l.length → d < k →
    impl_areRising.l0 k l lo hi l (l.length : Int) (i : Int) = some (adjB (l.drop (i - 1)) && l.all (inB lo hi)) := by
  intro d
  induction d with
  | zero =>
    intro i k h hk
    obtain ⟨k, rfl⟩ : ∃ m, k = m + 1 := ⟨k - 1, by omega⟩
    simp only [impl_areRising.l0]
    rw [if_neg (by omega)]
    have : adjB (l.drop (i - 1)) = true := by
      rcases Nat.eq_zero_or_pos i with h0 | h0
      · rw [h0, List.drop_of_length_le (by omega)]; rfl
      · rw [List.drop_eq_getElem_cons (show i - 1 < l.length by omega), List.drop_of_length_le (by omega)]; rfl
    rw [this, Bool.true_and]; rfl
  | succ d ih =>
    intro i k h hk
    obtain ⟨k, rfl⟩ : ∃ m, k = m + 1 := ⟨k - 1, by omega⟩
    have hlt : i < l.length := by omega
    have nx := ih (i + 1) k (by omega) (by omega)
    rw [Nat.add_sub_cancel] at nx
    simp only [impl_areRising.l0]
    rw [if_pos (by omega), if_pos (by omega), if_pos (by omega), rd_nat l hlt, wrap_succ hlt (by omega)]
    by_cases h0 : 0 < i
    · rw [if_pos (by omega), wrap_pred h0 hlt (by omega), if_pos (by omega), if_pos (by omega), rd_nat l (show i - 1 < l.length by omega), adjB_at l h0 hlt]
      by_cases c2 : l[i - 1] < l[i]
      · rw [if_neg (by omega), nx]; simp [c2]
      · rw [if_pos (by omega)]; simp [c2]
    · obtain rfl : i = 0 := by omega
      rw [if_neg (by omega), nx]
theorem impl_areRising_eq {k : Nat} {l : List Int} {lo hi : Int} (hn : l.length ≤ 1048576) (hk : l.length < k) : impl_areRising.f k l lo hi = some (risingB l lo hi) := by
  unfold impl_areRising.f
  have := impl_areRising_loop lo hi l hn l.length 0 k (by omega) hk
  rw [show ((0 : Nat) : Int) = 0 from rfl] at this
  simp [this, risingB, Bool.and_comm]

theorem impl_within_eq (a b c : Int) : impl_within.f a b c = some (decide (b ≤ a ∧ a ≤ c)) := by
  unfold impl_within.f
  by_cases h : b ≤ a <;> simp [h]

theorem toIntS_loop (l : List Int) (hn : l.length ≤ 1048576) : ∀ (d i k : Nat), i + d = l.length → d < k → laws_toIntS.l0 k l (l.take i ++ List.replicate d 0) (i : Int) = some l := by
  intro d
  induction d with
  | zero =>
    intro i k h hk
    obtain ⟨k, rfl⟩ : ∃ m, k = m + 1 := ⟨k - 1, by omega⟩
    simp only [laws_toIntS.l0]
    rw [if_neg (by omega)]
    simp [List.take_of_length_le (show l.length ≤ i by omega)]
  | succ d ih =>
    intro i k h hk
    obtain ⟨k, rfl⟩ : ∃ m, k = m + 1 := ⟨k - 1, by omega⟩
    have hi : i < l.length := by omega
    have e : (l.take i ++ List.replicate (d + 1) 0).set i (rd l (i : Int)) = l.take (i + 1) ++ List.replicate d 0 := by
      rw [rd_nat l hi, List.set_append_right _ _ (by simp; omega)]
      simp only [List.length_take, Nat.min_eq_left (Nat.le_of_lt hi), Nat.sub_self, List.replicate_succ, List.set_cons_zero]
      rw [List.take_succ_eq_append_getElem hi, List.append_assoc]; rfl
    simp only [laws_toIntS.l0]
    rw [if_pos (by omega), if_pos (by omega), if_pos (by simp; omega), Int.toNat_natCast, e, wrap_succ hi (by omega)]
    exact ih (i + 1) k (by omega) (by omega)
theorem toIntS_eq {k : Nat} {l : List Int} (hn : l.length ≤ 1048576) (hk : l.length < k) : laws_toIntS.f k l = some l := by
  unfold laws_toIntS.f
  rw [if_pos (by omega), if_pos (by omega), Int.toNat_natCast]
  have := toIntS_loop l hn l.length 0 k (by omega) hk
  simpa using this

theorem eqIntS_loop (l : List Int) (hn : l.length ≤ 1048576) : ∀ (d i k : Nat), i + d = l.length → d < k → laws_eqIntS.l0 k l l (i : Int) = some true := by
  intro d
  induction d with
  | zero =>
    intro i k h hk
    obtain ⟨k, rfl⟩ : ∃ m, k = m + 1 := ⟨k - 1, by omega⟩
    simp only [laws_eqIntS.l0]
    rw [if_neg (by omega)]
  | succ d ih =>
    intro i k h hk
    obtain ⟨k, rfl⟩ : ∃ m, k = m + 1 := ⟨k - 1, by omega⟩
    simp only [laws_eqIntS.l0]
    rw [if_pos (by omega), if_pos (by omega), if_pos (by omega), if_pos trivial, wrap_succ (n := l.length) (by omega) (by omega)]
    exact ih (i + 1) k (by omega) (by omega)
theorem eqIntS_refl {k : Nat} {l : List Int} (hn : l.length ≤ 1048576) (hk : l.length < k) : laws_eqIntS.f k l l = some true := by
  unfold laws_eqIntS.f
  rw [if_pos rfl]
  exact eqIntS_loop l hn l.length 0 k (by omega) hk

theorem eqRing_refl {k : Nat} {s : Int} {l : List Int} (hn : l.length ≤ 1048576) (hk : l.length < k) : laws_eqRing.f k s l s l = some true := by
  unfold laws_eqRing.f
  rw [if_pos rfl, eqIntS_refl hn hk]
  rfl

/-- What both call a ring. -/
def ringB (s : Int) (l : List Int) : Bool := decide (2 ≤ s ∧ s ≤ 12) && risingB l 0 (s - 1)
theorem ringB_size {s : Int} {l : List Int} (h : ringB s l = true) : 2 ≤ s ∧ s ≤ 12 := by simp [ringB] at h; exact h.1
theorem spec_riGood_eq {k : Nat} {s : Int} {l : List Int} (hn : l.length ≤ 1048576) (hk : l.length < k) : spec_riGood.f k s l = some (ringB s l) := by
  unfold spec_riGood.f ringB
  simp only [spec_l1In_eq, Option.bind_some]
  by_cases h : 2 ≤ s ∧ s ≤ 12
  · rw [if_pos (by simpa using h), wrap_id (by omega) (by omega), spec_l1Rising_eq hn hk]; simp [h]
  · rw [if_neg (by simpa using h)]; simp [h]
theorem impl_IsRing_eq {k : Nat} {s : Int} {l : List Int} (hn : l.length ≤ 1048576) (hk : l.length < k) : impl_IsRing.f k s l = some (ringB s l) := by
  unfold impl_IsRing.f impl_isRingSize.f ringB
  simp only [impl_within_eq, Option.bind_some]
  by_cases h : 2 ≤ s ∧ s ≤ 12
  · rw [if_pos (by simpa using h), wrap_id (by omega) (by omega), impl_areRising_eq hn hk]; simp [h]
  · rw [if_neg (by simpa using h)]; simp [h]
theorem szRing_big {s : Int} {l : List Int} (hm : l.length ≤ 9223372036854775807) (h : ¬ l.length ≤ 1048576) : laws_szRing.f s l 1048576 = some (-1) := by
  unfold laws_szRing.f laws_szIntS.f
  rw [wrap_id (by omega) (by omega), if_pos (by omega)]; rfl
theorem szRing_ok {s : Int} {l : List Int} (h : l.length ≤ 1048576) : laws_szRing.f s l 1048576 = some (1048576 - (l.length : Int)) := by
  unfold laws_szRing.f laws_szIntS.f
  rw [wrap_id (by omega) (by omega), if_neg (by omega), Option.bind_some, if_neg (by omega)]
theorem toRing_eq {k : Nat} {s : Int} {l : List Int} (hn : l.length ≤ 1048576) (hk : l.length < k) : laws_toRing.f k s l = some (s, l) := by
  unfold laws_toRing.f
  rw [toIntS_eq hn hk]; rfl

theorem adjB_rising : ∀ {l : List Int}, adjB l = true → l.Pairwise (· < ·)
  | [], _ => List.Pairwise.nil
  | [a], _ => by simp
  | a :: b :: t, h => by
    rw [adjB, Bool.and_eq_true, decide_eq_true_eq] at h
    have ih := adjB_rising h.2
    refine List.pairwise_cons.2 ⟨fun y hy => ?_, ih⟩
    rcases List.mem_cons.1 hy with rfl | hy
    · exact h.1
    · have := (List.pairwise_cons.1 ih).1 y hy; omega
theorem ringB_rising {s : Int} {l : List Int} (h : ringB s l = true) : l.Pairwise (· < ·) := by
  simp only [ringB, risingB, Bool.and_eq_true] at h
  exact adjB_rising h.2.2
theorem ringB_mem {s : Int} {l : List Int} (h : ringB s l = true) : ∀ x ∈ l, 0 ≤ x ∧ x < s := by
  intro x hx
  simp only [ringB, risingB, Bool.and_eq_true, List.all_eq_true, inB, decide_eq_true_eq] at h
  have := h.2.1 x hx; omega
theorem rising_len : ∀ (l : List Int) (lo hi : Int), l.Pairwise (· < ·) → (∀ x ∈ l, lo ≤ x ∧ x < hi) → lo ≤ hi → (l.length : Int) ≤ hi - lo
  | [], lo, hi, _, _, h => by simp only [List.length_nil]; omega
  | a :: t, lo, hi, hp, hm, h => by
    obtain ⟨h1, h2⟩ := List.pairwise_cons.1 hp
    have ha := hm a (by simp)
    have := rising_len t (a + 1) hi h2 (fun x hx => ⟨by have := h1 x hx; omega, (hm x (by simp [hx])).2⟩) (by omega)
    simp only [List.length_cons]; omega
theorem ringB_len {s : Int} {l : List Int} (h : ringB s l = true) : l.length ≤ 12 := by
  have h1 := ringB_size h
  have := rising_len l 0 s (ringB_rising h) (ringB_mem h) (by omega)
  omega

/-- A sign and a numeral for each number. -/
def tailT (l : List Int) : List UInt8 := l.flatMap fun x => [44] ++ Lib.decDigits x.toNat
def numsT (l : List Int) : List UInt8 := match l with | [] => [] | x :: r => Lib.decDigits x.toNat ++ tailT r
theorem numsT_join (l : List Int) : Lib.join ((numL l).map (·.data.toList)) [44] = numsT l := by
  cases l with
  | nil => rfl
  | cons x r =>
    simp only [numL, List.map_cons]
    rw [Lib.join_cons, numsT, tailT, Lib.joinTail, List.map_map, List.map_map, List.flatMap_def]
    rfl
theorem tailT_drop (l : List Int) {i : Nat} (h : i < l.length) : tailT (l.drop i) = [44] ++ Lib.decDigits (rd l (i : Int)).toNat ++ tailT (l.drop (i + 1)) := by
  rw [List.drop_eq_getElem_cons h, rd_nat l h, tailT, List.flatMap_cons]; rfl
theorem spec_riText_loop (l : List Int) (hm : ∀ x ∈ l, 0 ≤ x ∧ x < 100) (hl : l.length ≤ 1000) : ∀ (d i k : Nat) (X : List UInt8), 0 < i → i + d = l.length → d + 2 < k → X.length + 3 * d ≤ 10000000 →
    spec_riText.l0 k (bl X) l (l.length : Int) (i : Int) = some (bl (X ++ tailT (l.drop i))) := by
  intro d
  induction d with
  | zero =>
    intro i k X h0 h hk _
    obtain ⟨k, rfl⟩ : ∃ m, k = m + 1 := ⟨k - 1, by omega⟩
    rw [spec_riText.l0]
    rw [if_neg (by omega), List.drop_of_length_le (by omega)]
    simp [tailT]
  | succ d ih =>
    intro i k X h0 h hk hX
    obtain ⟨k, rfl⟩ : ∃ m, k = m + 1 := ⟨k - 1, by omega⟩
    have hi : i < l.length := by omega
    have hx := hm _ (rd_mem l hi)
    have hd := tailT_drop l hi
    have q1 : (⟨#[44]⟩ : ByteArray) = bl [44] := rfl
    rw [spec_riText.l0]
    generalize rd l (i : Int) = x at hx hd ⊢
    obtain ⟨m, rfl⟩ : ∃ m : Nat, x = (m : Int) := ⟨x.toNat, by omega⟩
    rw [Int.toNat_natCast] at hd
    have hz := dec_le m (by omega)
    rw [if_pos (by omega), if_pos (by omega), if_pos (by omega), if_pos (by omega), q1, bl_size, if_pos (by omega), spec_l1Num_eq (by omega) (by omega), Option.bind_some, bl_app, bl_size, bl_size, if_pos (by simp only [List.length_append, List.length_cons, List.length_nil]; omega), bl_app, wrap_succ hi (by omega), ih (i + 1) k _ (by omega) (by omega) (by omega) (by simp only [List.length_append, List.length_cons, List.length_nil]; omega), hd]
    simp
theorem spec_riText_first (l : List Int) (hm : ∀ x ∈ l, 0 ≤ x ∧ x < 100) (hl : l.length ≤ 1000) (k : Nat) (X : List UInt8) (hk : l.length + 3 < k) (hX : X.length ≤ 100) :
    spec_riText.l0 k (bl X) l (l.length : Int) 0 = some (bl (X ++ numsT l)) := by
  obtain ⟨k, rfl⟩ : ∃ m, k = m + 1 := ⟨k - 1, by omega⟩
  cases l with
  | nil =>
    rw [spec_riText.l0, if_neg (by simp)]; simp [numsT]
  | cons x r =>
    have hx := hm x (by simp)
    have e : rd (x :: r) 0 = x := rfl
    rw [spec_riText.l0, e]
    obtain ⟨m, rfl⟩ : ∃ m : Nat, x = (m : Int) := ⟨x.toNat, by omega⟩
    have hz := dec_le m (by omega)
    have h1 := spec_riText_loop ((m : Int) :: r) hm hl r.length 1 k (X ++ Lib.decDigits m) (by omega) (by simp only [List.length_cons]; omega) (by simp only [List.length_cons] at hk; omega) (by simp only [List.length_append, List.length_cons] at hl ⊢; omega)
    rw [if_pos (by simp only [List.length_cons]; omega), if_pos (by omega), if_pos (by simp only [List.length_cons]; omega), if_neg (by omega), spec_l1Num_eq (by omega) (by omega), Option.bind_some, bl_size, bl_size, if_pos (by omega), bl_app]
    rw [show wrap64 (0 + 1) = ((1 : Nat) : Int) from by rw [wrap_id (by omega) (by omega)]; rfl, h1]
    simp [numsT]
/-- The text of a ring. -/
def ringT (s : Nat) (l : List Int) : List UInt8 := Lib.decDigits s ++ [58] ++ numsT l
theorem spec_riText_eq {k s : Nat} {l : List Int} (hs : s < 100) (hm : ∀ x ∈ l, 0 ≤ x ∧ x < 100) (hl : l.length ≤ 1000) (hk : l.length + 3 < k) : spec_riText.f k (s : Int) l = some (bl (ringT s l)) := by
  have z0 := dec_le s hs
  have q1 : (⟨#[58]⟩ : ByteArray) = bl [58] := rfl
  unfold spec_riText.f
  rw [spec_l1Num_eq hs (by omega), Option.bind_some, bl_size, if_pos (by omega), q1, bl_app, spec_riText_first l hm hl k _ hk (by simp only [List.length_append, List.length_cons, List.length_nil]; omega)]
  rfl
theorem impl_numbersText_eq {l : List Int} (hm : ∀ x ∈ l, 0 ≤ x ∧ x < 100) (hl : l.length ≤ 1000) : impl_numbersText.f l (⟨#[44]⟩ : ByteArray) = some (bl (numsT l)) := by
  unfold impl_numbersText.f
  rw [if_pos ⟨hl, hm, by decide⟩]
  show some (bl (Lib.join _ [44])) = _
  rw [numsT_join]
theorem numsT_len (l : List Int) (hm : ∀ x ∈ l, 0 ≤ x ∧ x < 100) (hl : l.length ≤ 1000) : (numsT l).length ≤ 1002000 := by
  rw [← numsT_join]; exact join_num l [44] hm hl (by decide)
theorem impl_ringText_eq {s : Nat} {l : List Int} (hs : s < 100) (hm : ∀ x ∈ l, 0 ≤ x ∧ x < 100) (hl : l.length ≤ 1000) : impl_ringText.f (s : Int) l = some (bl (ringT s l)) := by
  have z0 := dec_le s hs
  have z1 := numsT_len l hm hl
  have q1 : (⟨#[58]⟩ : ByteArray) = bl [58] := rfl
  have q2 : strconv_Itoa.f (s : Int) = some (bl (Lib.decDigits s)) := by
    unfold strconv_Itoa.f; rw [if_pos (by omega), Int.toNat_natCast]; rfl
  unfold impl_ringText.f
  rw [q2, Option.bind_some, bl_size, if_pos (by omega), impl_numbersText_eq hm hl, Option.bind_some, q1, bl_app, bl_size, bl_size, if_pos (by simp only [List.length_append, List.length_cons, List.length_nil]; omega), bl_app]
  rfl

theorem both (s : Int) (l : List Int) (hn : l.length ≤ 1048576) : ∃ v : ByteArray × Bool, Ev (fun k => spec_RingText.f k s l) v ∧ Ev (fun k => impl_RingText.f k s l) v := by
  cases hb : ringB s l with
  | false =>
    refine ⟨(⟨#[]⟩, false), ⟨l.length + 1, fun k hk => ?_⟩, ⟨l.length + 1, fun k hk => ?_⟩⟩
    · show spec_RingText.f k s l = _
      unfold spec_RingText.f; rw [spec_riGood_eq (k := k) hn (by omega), hb]; rfl
    · show impl_RingText.f k s l = _
      unfold impl_RingText.f; rw [impl_IsRing_eq hn (by omega), hb]; rfl
  | true =>
    have hs := ringB_size hb
    have hl := ringB_len hb
    have hm : ∀ x ∈ l, 0 ≤ x ∧ x < 100 := fun x hx => by have := ringB_mem hb x hx; omega
    obtain ⟨s, rfl⟩ : ∃ n : Nat, s = (n : Int) := ⟨s.toNat, by omega⟩
    refine ⟨(bl (ringT s l), true), ⟨l.length + 4, fun k hk => ?_⟩, ⟨l.length + 4, fun k hk => ?_⟩⟩
    · show spec_RingText.f k _ l = _
      unfold spec_RingText.f
      rw [spec_riGood_eq (k := k) hn (by omega), hb, Option.bind_some, if_pos rfl, spec_riText_eq (by omega) hm (by omega) (by omega), Option.bind_some]
    · show impl_RingText.f k _ l = _
      unfold impl_RingText.f
      rw [impl_IsRing_eq hn (by omega), hb, Option.bind_some, if_pos rfl, impl_ringText_eq (by omega) hm (by omega), Option.bind_some]
theorem FnExactRingText : FnExactRingTextPure := by
  intro s l _ hm _
  unfold maxLen at hm
  by_cases hn : l.length ≤ 1048576
  · have n1 : ¬ (1048576 - (l.length : Int) < 0) := by omega
    obtain ⟨v, ⟨K1, h1⟩, ⟨K2, h2⟩⟩ := both s l hn
    refine ⟨K1 + K2 + l.length + 10, ?_⟩
    unfold laws_FnExactRingText.f
    simp (disch := omega) only [Option.bind_some, ↓reduceIte, bne_self_eq_false, Bool.false_eq_true, h1, h2, szRing_ok hn, n1, toRing_eq hn, eqRing_refl hn]
    rw [laws_FnExactRingText.j0]
    simp (disch := omega) only [Option.bind_some, ↓reduceIte, bne_self_eq_false, Bool.false_eq_true, h1, h2, szRing_ok hn, n1, toRing_eq hn, eqRing_refl hn]
  · exact ⟨0, by unfold laws_FnExactRingText.f; rw [szRing_big hm hn]; rfl⟩

end Go.Proofs.YtnhlfbnfngembaaDoor.Pure
