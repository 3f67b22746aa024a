/- FnExactParseFrame: the program's answer is the reference's, as plain functions over numbers and lists; no condition beyond the sizes that every value has. -/
import Derived.Test.YtnhlfbnfngembaaDoorPFnExactParseFramex6
namespace Go.Proofs.YtnhlfbnfngembaaDoor.Pure
open Go.RowKit Go.Proofs.YtnhlfbnfngembaaDoor.PFnExactParseFrame Go.Proofs.YtnhlfbnfngembaaDoorW.PrintWords Go.Proofs.YtnhlfbnfngembaaDoorW.PrintLast Go.Proofs.YtnhlfbnfngembaaDoorW.PrintMore

/- The statement: ∀ (a0 : ByteArray), a0.size ≤ 140737488351232 → ∃ k, laws_FnExactParseFrame.f k a0 = some true
What it reaches (each with k first where it has rounds; `.mono`: more rounds tell the same; `.l0`, ..: its loops, with `.mono_l`): spec_l1In.f, spec_frStation.f, spec_l1All.f, spec_frGood.f, spec_l1Split.f, spec_l1Read.f, spec_frDigit.f, spec_frParse.f, spec_ParseFrame.f, impl_number.f, strings_SplitN.f, strings_Cut.f, strings_IndexByte.f, impl_within.f, impl_isStation.f, impl_allWithin.f, impl_IsFrame.f, strconv_Itoa.f, impl_frameText.f, impl_ParseFrame.f, laws_eqIntS.f, laws_eqFrame.f, laws_markIntS.f, laws_markFrame.f, laws_heldIntS.f, laws_heldFrame.f, laws_FnExactParseFrame.f -/
set_option linter.unusedSimpArgs false
set_option linter.unusedVariables false
theorem wrap_id {x : Int} (h1 : -9223372036854775808 ≤ x) (h2 : x ≤ 9223372036854775807) : wrap64 x = x := by unfold wrap64; omega
theorem wrap_succ {i n : Nat} (h : i < n) (hn : n ≤ 4611686018427387904) : wrap64 ((i : Int) + 1) = ((i + 1 : Nat) : Int) := by rw [wrap_id] <;> omega
theorem rd_nat (l : List Int) {i : Nat} (h : i < l.length) : rd l (i : Int) = l[i] := by simp [rd, h]
theorem rd_mem (l : List Int) {i : Nat} (h : i < l.length) : rd l (i : Int) ∈ l := by rw [rd_nat l h]; exact List.getElem_mem h
/-- One round, and the end. -/
theorem ev_end {α : Type} {g : Nat → Option α} {r : α} (h : ∀ k, g (k + 1) = some r) : Ev g r := Ev.step h (Ev.now r)
theorem ev_of {α : Type} {g : Nat → Option α} {r : α} (h : ∀ k, g k = some r) : Ev g r := ⟨0, fun k _ => h k⟩
theorem ev_eq {α : Type} {g : Nat → Option α} {r r' : α} (h : Ev g r) (e : r = r') : Ev g r' := e ▸ h

theorem spec_l1In_eq (a b c : Int) : spec_l1In.f a b c = some (decide (b ≤ a ∧ a ≤ c)) := by
  unfold spec_l1In.f
  by_cases h : b ≤ a <;> simp [h]

theorem l1All_loop (lo hi : Int) (l : List Int) (hn : l.length ≤ 1048576) : ∀ (d i k : Nat), i + d = l.length → d < k → spec_l1All.l0 k lo hi l (l.length : Int) (i : Int) = some ((l.drop i).all fun x => decide (lo ≤ x ∧ x ≤ hi)) := by
  intro d
  induction d with
  | zero =>
    intro i k h hk
    obtain ⟨k, rfl⟩ : ∃ m, k = m + 1 := ⟨k - 1, by omega⟩
    simp only [spec_l1All.l0]
    rw [if_neg (by omega), List.drop_of_length_le (by omega)]
    rfl
  | succ d ih =>
    intro i k h hk
    obtain ⟨k, rfl⟩ : ∃ m, k = m + 1 := ⟨k - 1, by omega⟩
    have hlt : i < l.length := by omega
    simp only [spec_l1All.l0, spec_l1In_eq, Option.bind_some]
    rw [if_pos (by omega), if_pos (by omega), if_pos (by omega), rd_nat l hlt, wrap_succ hlt (by omega), ih (i + 1) k (by omega) (by omega), List.drop_eq_getElem_cons hlt, List.all_cons]
    by_cases c : lo ≤ l[i] ∧ l[i] ≤ hi <;> simp [c]
theorem spec_l1All_eq {k : Nat} {l : List Int} {lo hi : Int} (hn : l.length ≤ 1048576) (hk : l.length < k) : spec_l1All.f k l lo hi = some (l.all fun x => decide (lo ≤ x ∧ x ≤ hi)) := by
  unfold spec_l1All.f
  simpa using l1All_loop lo hi l hn l.length 0 k (by omega) hk

theorem impl_within_eq (a b c : Int) : impl_within.f a b c = some (decide (b ≤ a ∧ a ≤ c)) := by
  unfold impl_within.f
  by_cases h : b ≤ a <;> simp [h]

theorem eqIntS_loop (l : List Int) (hn : l.length ≤ 1048576) : ∀ (d i k : Nat), i + d = l.length → d < k → laws_eqIntS.l0 k l l (i : Int) = some true := by
  intro d
  induction d with
  | zero =>
    intro i k h hk
    obtain ⟨k, rfl⟩ : ∃ m, k = m + 1 := ⟨k - 1, by omega⟩
    simp only [laws_eqIntS.l0]
    rw [if_neg (by omega)]
  | succ d ih =>
    intro i k h hk
    obtain ⟨k, rfl⟩ : ∃ m, k = m + 1 := ⟨k - 1, by omega⟩
    simp only [laws_eqIntS.l0]
    rw [if_pos (by omega), if_pos (by omega), if_pos (by omega), if_pos trivial, wrap_succ (n := l.length) (by omega) (by omega)]
    exact ih (i + 1) k (by omega) (by omega)
theorem eqIntS_refl {k : Nat} {l : List Int} (hn : l.length ≤ 1048576) (hk : l.length < k) : laws_eqIntS.f k l l = some true := by
  unfold laws_eqIntS.f
  rw [if_pos rfl]
  exact eqIntS_loop l hn l.length 0 k (by omega) hk

/-- What both call a frame. -/
def frameB (a b p : Int) (l : List Int) : Bool := decide ((0 ≤ a ∧ a ≤ 11) ∧ (0 ≤ b ∧ b ≤ 11) ∧ (0 ≤ p ∧ p ≤ 7)) && (decide (l.length ≤ 16) && l.all fun x => decide (0 ≤ x ∧ x ≤ 255))
theorem frameB_head {a b p : Int} {l : List Int} (h : frameB a b p l = true) : (0 ≤ a ∧ a ≤ 11) ∧ (0 ≤ b ∧ b ≤ 11) ∧ (0 ≤ p ∧ p ≤ 7) := by simp only [frameB, Bool.and_eq_true, decide_eq_true_eq] at h; exact h.1
theorem frameB_len {a b p : Int} {l : List Int} (h : frameB a b p l = true) : l.length ≤ 16 := by simp only [frameB, Bool.and_eq_true, decide_eq_true_eq] at h; exact h.2.1
theorem frameB_mem {a b p : Int} {l : List Int} (h : frameB a b p l = true) : ∀ x ∈ l, 0 ≤ x ∧ x ≤ 255 := by simp only [frameB, Bool.and_eq_true, decide_eq_true_eq, List.all_eq_true] at h; exact h.2.2
theorem spec_frGood_eq {k : Nat} {a b p : Int} {l : List Int} (hn : l.length ≤ 1048576) (hk : l.length < k) : spec_frGood.f k a b p l = some (frameB a b p l) := by
  unfold spec_frGood.f spec_frStation.f frameB
  simp only [spec_l1In_eq, Option.bind_some, spec_l1All_eq hn hk]
  by_cases h0 : 0 ≤ a ∧ a ≤ 11 <;> by_cases h1 : 0 ≤ b ∧ b ≤ 11 <;> by_cases h2 : 0 ≤ p ∧ p ≤ 7 <;> by_cases h3 : l.length ≤ 16 <;>
    simp only [h0, h1, h2, h3, decide_true, decide_false, if_true, and_true, true_and, and_false, false_and, Bool.true_and, Bool.false_and, if_neg (show ¬ (false = true) by decide), show ((l.length : Int) ≤ 16) = (l.length ≤ 16) from propext ⟨fun h => by omega, fun h => by omega⟩, if_false]
theorem impl_IsFrame_eq (a b p : Int) (l : List Int) : impl_IsFrame.f a b p l = some (frameB a b p l) := by
  unfold impl_IsFrame.f impl_isStation.f impl_allWithin.f frameB
  simp only [impl_within_eq, Option.bind_some]
  by_cases h0 : 0 ≤ a ∧ a ≤ 11 <;> by_cases h1 : 0 ≤ b ∧ b ≤ 11 <;> by_cases h2 : 0 ≤ p ∧ p ≤ 7 <;> by_cases h3 : l.length ≤ 16 <;>
    simp only [h0, h1, h2, h3, decide_true, decide_false, if_true, and_true, true_and, and_false, false_and, Bool.true_and, Bool.false_and, if_neg (show ¬ (false = true) by decide), show ((l.length : Int) ≤ 16) = (l.length ≤ 16) from propext ⟨fun h => by omega, fun h => by omega⟩, if_false]
theorem eqFrame_refl {k : Nat} {a b p : Int} {l : List Int} (hn : l.length ≤ 1048576) (hk : l.length < k) : laws_eqFrame.f k a b p l a b p l = some true := by
  unfold laws_eqFrame.f
  simp only [if_true, eqIntS_refl hn hk, Option.bind_some]

/-- A text out of its bytes. -/
def bl (l : List UInt8) : ByteArray := ⟨l.toArray⟩
theorem bl_app (a b : List UInt8) : bl a ++ bl b = bl (a ++ b) := by
  apply ByteArray.ext; simp [bl]
theorem bl_size (a : List UInt8) : (bl a).size = a.length := by simp [bl, ByteArray.size]
theorem bl_of (s : ByteArray) : bl s.data.toList = s := by cases s; simp [bl]
theorem bl_data (a : List UInt8) : (bl a).data.toList = a := by simp [bl]
theorem dec_le (n : Nat) (h : n < 100) : (Lib.decDigits n).length ≤ 2 := dec_len n h

/-- The text of a frame. -/
def textL (a b p : Nat) (l : List Int) : List UInt8 := Lib.decDigits a ++ [62] ++ Lib.decDigits b ++ [58] ++ Lib.decDigits p ++ [58] ++ hexL l
theorem impl_frameText_eq {a b p : Nat} {l : List Int} (ha : a < 100) (hb : b < 100) (hp : p < 100) (hm : ∀ x ∈ l, 0 ≤ x ∧ x ≤ 255) (hl : l.length ≤ 1048576) : impl_frameText.f (a : Int) (b : Int) (p : Int) l = some (bl (textL a b p l)) := by
  unfold impl_frameText.f
  rw [if_pos ⟨⟨by omega, by omega⟩, ⟨by omega, by omega⟩, ⟨by omega, by omega⟩, hl, hm⟩]
  have q1 : (⟨#[62]⟩ : ByteArray) = bl [62] := rfl
  have q2 : (⟨#[58]⟩ : ByteArray) = bl [58] := rfl
  have e : headS (a : Int).toNat (b : Int).toNat (p : Int).toNat = bl (Lib.decDigits a ++ [62] ++ Lib.decDigits b ++ [58] ++ Lib.decDigits p ++ [58]) := by
    unfold headS
    rw [q1, q2, Int.toNat_natCast, Int.toNat_natCast, Int.toNat_natCast]
    show bl _ ++ _ ++ bl _ ++ _ ++ bl _ ++ _ = _
    rw [bl_app, bl_app, bl_app, bl_app, bl_app]
  rw [e, bl_data]; rfl

/-- What stands ahead goes to the first piece. -/
def consTo (p : List UInt8) : List (List UInt8) → List (List UInt8)
  | [] => [p]
  | y :: ys => (p ++ y) :: ys
/-- The pieces between the signs. -/
def splitAll (c : UInt8) : List UInt8 → List (List UInt8)
  | [] => [[]]
  | x :: l => if x = c then [] :: splitAll c l else consTo [x] (splitAll c l)
theorem splitAll_ne (c : UInt8) : ∀ l, splitAll c l ≠ []
  | [] => by simp [splitAll]
  | x :: l => by
    unfold splitAll
    split
    · simp
    · cases h : splitAll c l <;> simp [consTo]
theorem consTo_nil {ys : List (List UInt8)} (h : ys ≠ []) : consTo [] ys = ys := by
  cases ys with
  | nil => exact absurd rfl h
  | cons y t => rfl
theorem consTo_app (p q : List UInt8) {ys : List (List UInt8)} (h : ys ≠ []) : consTo p (consTo q ys) = consTo (p ++ q) ys := by
  cases ys with
  | nil => exact absurd rfl h
  | cons y t => simp [consTo]
theorem splitAll_free (c : UInt8) : ∀ (x : List UInt8), c ∉ x → splitAll c x = [x]
  | [], _ => rfl
  | a :: x, h => by
    simp only [List.mem_cons, not_or] at h
    rw [splitAll, if_neg (fun e => h.1 e.symm), splitAll_free c x h.2]; rfl
theorem splitAll_app (c : UInt8) (y : List UInt8) : ∀ (x : List UInt8), c ∉ x → splitAll c (x ++ c :: y) = x :: splitAll c y
  | [], _ => by rw [List.nil_append, splitAll, if_pos rfl]
  | a :: x, h => by
    simp only [List.mem_cons, not_or] at h
    rw [List.cons_append, splitAll, if_neg (fun e => h.1 e.symm), splitAll_app c y x h.2]; rfl
/-- Pieces with the sign between. -/
def joinC (c : UInt8) : List (List UInt8) → List UInt8
  | [] => []
  | [x] => x
  | x :: y :: r => x ++ c :: joinC c (y :: r)
theorem joinC_consTo (c a : UInt8) {ys : List (List UInt8)} (h : ys ≠ []) : joinC c (consTo [a] ys) = a :: joinC c ys := by
  match ys, h with
  | [y], _ => rfl
  | y :: z :: r, _ => rfl
theorem joinC_split (c : UInt8) : ∀ l, joinC c (splitAll c l) = l
  | [] => rfl
  | x :: l => by
    unfold splitAll
    split
    · rename_i h
      obtain ⟨y, r, e⟩ : ∃ y r, splitAll c l = y :: r := by
        cases e : splitAll c l with
        | nil => exact absurd e (splitAll_ne c l)
        | cons y r => exact ⟨y, r, rfl⟩
      have ih := joinC_split c l
      rw [e] at ih ⊢
      rw [joinC, ih, h]; rfl
    · rw [joinC_consTo c x (splitAll_ne c l), joinC_split c l]
theorem split_len (c : UInt8) : ∀ l : List UInt8, (splitAll c l).length ≤ l.length + 1
  | [] => by simp [splitAll]
  | x :: l => by
    have ih := split_len c l
    unfold splitAll
    split
    · simp only [List.length_cons]; omega
    · cases h : splitAll c l with
      | nil => simp [consTo]
      | cons y t => rw [h] at ih; simp only [consTo, List.length_cons] at ih ⊢; omega
theorem bt_bl (l : List UInt8) {i : Nat} (h : i < l.length) : bt (bl l) (i : Int) = ((l[i]).toNat : Int) := by
  have h2 : (i : Int).toNat < (bl l).size := by rw [bl_size]; exact h
  rw [bt, dif_pos h2]
  rfl
theorem bl_extract (l : List UInt8) (a b : Nat) : (bl l).extract a b = bl ((l.take b).drop a) := by
  apply ByteArray.ext
  apply Array.ext'
  simp [bl, ByteArray.data_extract, List.drop_take]
theorem bl_inj {a b : List UInt8} (h : bl a = bl b) : a = b := by
  have := congrArg (fun s : ByteArray => s.data.toList) h
  simpa [bl] using this
theorem split_loop (l : List UInt8) (c : UInt8) (hl : l.length ≤ 4194304) : ∀ (d i from_ k : Nat) (X : List ByteArray), from_ ≤ i → i + d = l.length → d < k → X.length + d ≤ 8000000 →
    spec_l1Split.l0 k (bl l) (c.toNat : Int) X (from_ : Int) (i : Int) = some (X ++ (consTo ((l.take i).drop from_) (splitAll c (l.drop i))).map bl) := by
  intro d
  induction d with
  | zero =>
    intro i f k X hf h hk hX
    obtain ⟨k, rfl⟩ : ∃ m, k = m + 1 := ⟨k - 1, by omega⟩
    rw [spec_l1Split.l0, bl_size, if_neg (by omega), if_pos (by omega), if_pos (by omega), if_pos (by omega), bl_extract, Int.toNat_natCast, List.drop_of_length_le (l := l) (i := i) (by omega)]
    obtain rfl : i = l.length := by omega
    simp [splitAll, consTo]
  | succ d ih =>
    intro i f k X hf h hk hX
    obtain ⟨k, rfl⟩ : ∃ m, k = m + 1 := ⟨k - 1, by omega⟩
    have hi : i < l.length := by omega
    rw [spec_l1Split.l0, bl_size, if_pos (by omega), if_pos (by omega), bt_bl l hi, List.drop_eq_getElem_cons hi, splitAll]
    by_cases hc : l[i] = c
    · rw [if_pos (by rw [hc]), if_pos (by omega), if_pos (by omega), if_pos (by omega), if_pos (by omega), if_pos hc, wrap_succ hi (by omega), ih (i + 1) (i + 1) k _ (Nat.le_refl _) (by omega) (by omega) (by simp only [List.length_append, List.length_cons, List.length_nil]; omega), bl_extract, Int.toNat_natCast, Int.toNat_natCast]
      rw [List.drop_of_length_le (l := l.take (i + 1)) (by rw [List.length_take]; omega), consTo_nil (splitAll_ne _ _)]
      simp [consTo]
    · rw [if_neg (show ¬ ((l[i].toNat : Int) = (c.toNat : Int)) from fun e => hc (UInt8.toNat_inj.1 (Int.ofNat.inj e))), if_neg hc, wrap_succ hi (by omega), ih (i + 1) f k X (by omega) (by omega) (by omega) (by omega), consTo_app _ _ (splitAll_ne _ _), List.take_succ_eq_append_getElem hi, List.drop_append_of_le_length (by rw [List.length_take]; omega)]
theorem spec_l1Split_eq {k : Nat} {l : List UInt8} {c : UInt8} (hl : l.length ≤ 4194304) (hk : l.length < k) : spec_l1Split.f k (bl l) (c.toNat : Int) = some ((splitAll c l).map bl) := by
  unfold spec_l1Split.f
  have h := split_loop l c hl l.length 0 0 k [] (Nat.le_refl _) (by omega) hk (by simp; omega)
  simp only [List.drop_zero, List.take_zero, List.drop_nil, List.nil_append, consTo_nil (splitAll_ne _ _)] at h
  exact h

def digS (l : List UInt8) : List UInt8 := l
/-- The value of digits behind a number. -/
def decV (n : Nat) (l : List UInt8) : Nat := l.foldl (fun n c => 10 * n + (c.toNat - 48)) n
theorem decV_nil (n : Nat) : decV n [] = n := by unfold decV; rw [List.foldl_nil]
theorem decV_cons (n : Nat) (c : UInt8) (l : List UInt8) : decV n (c :: l) = decV (10 * n + (c.toNat - 48)) l := by unfold decV; rw [List.foldl_cons]
def isDig (c : UInt8) : Bool := decide (48 ≤ c.toNat ∧ c.toNat ≤ 57)
/-- The number that a word reads as, -1 if it is none. -/
def readL (l : List UInt8) : Int := if (1 ≤ l.length ∧ l.length ≤ 6) ∧ ¬ (l.headD 0 = 48 ∧ 1 < l.length) ∧ l.all isDig = true then (decV 0 l : Int) else -1
theorem decV_le : ∀ (l : List UInt8) (n : Nat), n ≤ decV n l
  | [], n => by rw [decV_nil]; exact Nat.le_refl _
  | c :: l, n => by
    have := decV_le l (10 * n + (c.toNat - 48))
    rw [decV_cons]; omega
theorem decV_lt : ∀ (l : List UInt8) (n : Nat), l.all isDig = true → decV n l < (n + 1) * 10 ^ l.length
  | [], n, _ => by rw [decV_nil]; simp
  | c :: l, n, h => by
    simp only [List.all_cons, Bool.and_eq_true, isDig, decide_eq_true_eq] at h
    have := decV_lt l (10 * n + (c.toNat - 48)) h.2
    rw [decV_cons, List.length_cons, Nat.pow_succ]
    refine Nat.lt_of_lt_of_le this ?_
    rw [Nat.mul_comm (10 ^ l.length) 10, ← Nat.mul_assoc]
    exact Nat.mul_le_mul_right _ (by omega)
theorem read_loop (l : List UInt8) (hl : l.length ≤ 6) : ∀ (d i k n : Nat), i + d = l.length → d < k → n < 10 ^ i → 
    spec_l1Read.l0 k (bl l) (n : Int) (i : Int) = some (if (l.drop i).all isDig = true then (decV n (l.drop i) : Int) else -1) := by
  intro d
  induction d with
  | zero =>
    intro i k n h hk hn
    obtain ⟨k, rfl⟩ : ∃ m, k = m + 1 := ⟨k - 1, by omega⟩
    rw [spec_l1Read.l0, bl_size, if_neg (by omega), List.drop_of_length_le (by omega)]; rfl
  | succ d ih =>
    intro i k n h hk hn
    obtain ⟨k, rfl⟩ : ∃ m, k = m + 1 := ⟨k - 1, by omega⟩
    have hi : i < l.length := by omega
    rw [spec_l1Read.l0, bl_size, if_pos (by omega), if_pos (by omega), bt_bl l hi, List.drop_eq_getElem_cons hi, List.all_cons, decV_cons]
    generalize l[i] = c
    by_cases c1 : c.toNat < 48
    · rw [if_pos (by omega)]
      have e : isDig c = false := by unfold isDig; exact decide_eq_false (by omega)
      rw [e, Bool.false_and]; rfl
    · rw [if_neg (by omega)]
      by_cases c2 : c.toNat > 57
      · rw [if_pos (by omega)]
        have e : isDig c = false := by unfold isDig; exact decide_eq_false (by omega)
        rw [e, Bool.false_and]; rfl
      · have e : isDig c = true := by unfold isDig; exact decide_eq_true (by omega)
        have hp : 10 ^ i ≤ 100000 := Nat.le_trans (Nat.pow_le_pow_right (by decide) (show i ≤ 5 by omega)) (by decide)
        have hw : wrap64 (wrap64 (10 * (n : Int)) + ((c.toNat : Int) - 48) % 256) = ((10 * n + (c.toNat - 48) : Nat) : Int) := by
          rw [wrap_id (x := 10 * (n : Int)) (by omega) (by omega), wrap_id (by omega) (by omega)]; omega
        have hq : 10 * n + (c.toNat - 48) < 10 ^ (i + 1) := by rw [Nat.pow_succ]; omega
        rw [if_neg (by omega), hw, wrap_succ hi (by omega), ih (i + 1) k _ (by omega) (by omega) hq, e, Bool.true_and]
theorem spec_l1Read_eq {k : Nat} {l : List UInt8} (hk : 9 < k) : spec_l1Read.f k (bl l) = some (readL l) := by
  obtain ⟨k, rfl⟩ : ∃ m, k = m + 1 := ⟨k - 1, by omega⟩
  unfold spec_l1Read.f readL
  rw [bl_size, spec_l1In_eq, Option.bind_some]
  by_cases h : 1 ≤ l.length ∧ l.length ≤ 6
  · rw [decide_eq_true (by omega), if_pos rfl, if_pos (by omega), show (0 : Int) = ((0 : Nat) : Int) from rfl, bt_bl l (by omega)]
    obtain ⟨c, r, rfl⟩ : ∃ c r, l = c :: r := by
      cases l with
      | nil => simp at h
      | cons c r => exact ⟨c, r, rfl⟩
    have hr := read_loop (c :: r) h.2 (c :: r).length 0 k 0 (by omega) (by omega) (by decide)
    rw [List.drop_zero] at hr
    rw [List.getElem_cons_zero]
    have hd0 : (c :: r).headD 0 = c := rfl
    have hc48 : (c = 48) ↔ c.toNat = 48 := by rw [← UInt8.toNat_inj]; rfl
    by_cases h48 : c.toNat = 48
    · rw [if_pos (by omega)]
      by_cases h1 : 1 < (c :: r).length
      · rw [decide_eq_true (by omega), spec_l1Read.j0, if_pos rfl, if_neg (fun e => e.2.1 ⟨hc48.2 h48, h1⟩)]
      · rw [decide_eq_false (by omega), spec_l1Read.j0, if_neg (by simp)]
        refine hr.trans ?_
        by_cases ha : (c :: r).all isDig = true
        · rw [if_pos ha, if_pos ⟨h, fun e => h1 e.2, ha⟩]
        · rw [if_neg ha, if_neg (fun e => ha e.2.2)]
    · rw [if_neg (by omega), spec_l1Read.j0, if_neg (by simp)]
      refine hr.trans ?_
      by_cases ha : (c :: r).all isDig = true
      · rw [if_pos ha, if_pos ⟨h, fun e => h48 (hc48.1 e.1), ha⟩]
      · rw [if_neg ha, if_neg (fun e => ha e.2.2)]
  · rw [decide_eq_false (by omega), if_neg (by simp), spec_l1Read.j0, if_pos rfl, if_neg (fun e => h e.1)]
/-- A word that reads as a number below 100 is its numeral. -/
theorem read_dec {l : List UInt8} {a : Nat} (ha : a < 100) (h : readL l = (a : Int)) : l = Lib.decDigits a := by
  unfold readL at h
  by_cases c : (1 ≤ l.length ∧ l.length ≤ 6) ∧ ¬ (l.headD 0 = 48 ∧ 1 < l.length) ∧ l.all isDig = true
  case neg => rw [if_neg c] at h; omega
  rw [if_pos c] at h
  have hv : decV 0 l = a := by omega
  obtain ⟨⟨h1, h2⟩, h3, h4⟩ := c
  have of_d : ∀ (x : UInt8) (m : Nat), x.toNat = 48 + m → x = UInt8.ofNat (48 + m) := fun x m e => by rw [← e]; simp
  match l, h1, h3, h4, hv with
  | [x], _, _, h4, hv =>
    simp only [List.all_cons, List.all_nil, Bool.and_true, isDig, decide_eq_true_eq] at h4
    simp only [decV_cons, decV_nil] at hv
    rw [Lib.decDigits, dif_pos (by omega), of_d x a (by omega)]
  | [x, y], _, h3, h4, hv =>
    simp only [List.all_cons, List.all_nil, Bool.and_true, Bool.and_eq_true, isDig, decide_eq_true_eq] at h4
    simp only [decV_cons, decV_nil] at hv
    have hx : x.toNat ≠ 48 := fun e => h3 ⟨UInt8.toNat_inj.1 e, by simp⟩
    rw [Lib.decDigits, dif_neg (by omega), Lib.decDigits, dif_pos (by omega), of_d x (a / 10) (by omega), of_d y (a % 10) (by omega)]; rfl
  | x :: y :: z :: r, _, h3, h4, hv =>
    simp only [List.all_cons, Bool.and_eq_true, isDig, decide_eq_true_eq] at h4
    have hx : x.toNat ≠ 48 := fun e => h3 ⟨UInt8.toNat_inj.1 e, by simp⟩
    have := decV_le r (10 * (10 * (10 * 0 + (x.toNat - 48)) + (y.toNat - 48)) + (z.toNat - 48))
    simp only [decV_cons, decV_nil] at hv
    omega
theorem dec_one {a : Nat} (h : a < 10) : Lib.decDigits a = [UInt8.ofNat (48 + a)] := by rw [Lib.decDigits, dif_pos h]
theorem dec_two {a : Nat} (h : ¬ a < 10) (h2 : a < 100) : Lib.decDigits a = [UInt8.ofNat (48 + a / 10), UInt8.ofNat (48 + a % 10)] := by rw [Lib.decDigits, dif_neg h, Lib.decDigits, dif_pos (by omega)]; rfl
/-- What holds of all short numerals. -/
theorem dec_all (p : Nat → List UInt8 → Prop) (h1 : ∀ m : Fin 10, p m.val [UInt8.ofNat (48 + m.val)]) (h2 : ∀ m : Fin 90, p (m.val + 10) [UInt8.ofNat (48 + (m.val + 10) / 10), UInt8.ofNat (48 + (m.val + 10) % 10)]) {a : Nat} (h : a < 100) : p a (Lib.decDigits a) := by
  by_cases c : a < 10
  · rw [dec_one c]; exact h1 ⟨a, c⟩
  · rw [dec_two c h]
    have := h2 ⟨a - 10, by omega⟩
    simp only [show a - 10 + 10 = a by omega] at this
    exact this
theorem read_of {a : Nat} (h : a < 100) : readL (Lib.decDigits a) = (a : Int) := dec_all (fun a l => readL l = (a : Int)) (by decide +kernel) (by decide +kernel) h
theorem itoa_of (a : Nat) : Lib.itoa (a : Int) = Lib.decDigits a := by unfold Lib.itoa; rw [if_neg (by omega)]; rfl
theorem atoi_of {a : Nat} (h : a < 100) : Lib.atoiAll (Lib.decDigits a) = .ok (a : Int) := dec_all (fun a l => Lib.atoiAll l = .ok (a : Int)) (by decide +kernel) (by decide +kernel) h
theorem num_of {a : Nat} (h : a < 100) : numOf (Lib.decDigits a) = (a : Int) := by
  unfold numOf
  rw [atoi_of h]
  exact if_pos ⟨by omega, itoa_of a⟩
theorem num_dec {l : List UInt8} {a : Nat} (h : numOf l = (a : Int)) : l = Lib.decDigits a := by
  unfold numOf at h
  split at h
  · split at h
    · rename_i v _ hv
      rw [← hv.2, h, itoa_of]
    · omega
  · omega
theorem dec_free {a : Nat} (h : a < 100) (c : UInt8) (hc : isDig c = false) : c ∉ Lib.decDigits a := by
  have := dec_all (fun _ l => l.all isDig = true) (by decide +kernel) (by decide +kernel) h
  intro hm
  have := List.all_eq_true.1 this c hm
  rw [hc] at this; cases this
theorem num_range (l : List UInt8) : -1 ≤ numOf l := by
  unfold numOf
  split
  · split
    · omega
    · omega
  · omega

def hexS : List UInt8 := [48, 49, 50, 51, 52, 53, 54, 55, 56, 57, 97, 98, 99, 100, 101, 102]
/-- The number of a letter of half bytes, -1 if it is none. -/
def ix (c : UInt8) : Int := Lib.indexByte hexS c
def hexI : List UInt8 → List Int
  | c :: d :: r => (16 * ix c + ix d) :: hexI r
  | _ => []
def okH (l : List UInt8) : Bool := l.all fun c => decide (0 ≤ ix c)
theorem ix_range (c : UInt8) : -1 ≤ ix c ∧ ix c ≤ 15 := by
  have : ∀ m : Fin 256, -1 ≤ ix (UInt8.ofNat m.val) ∧ ix (UInt8.ofNat m.val) ≤ 15 := by decide +kernel
  have h := this ⟨c.toNat, c.toNat_lt⟩
  simpa using h
theorem ix_hex {n : Nat} (h : n < 16) : ix (hexB n) = (n : Int) := by
  have : ∀ m : Fin 16, ix (hexB m.val) = (m.val : Int) := by decide +kernel
  exact this ⟨n, h⟩
theorem hex_ix (c : UInt8) (h : 0 ≤ ix c) : hexB (ix c).toNat = c := by
  have : ∀ m : Fin 256, 0 ≤ ix (UInt8.ofNat m.val) → hexB (ix (UInt8.ofNat m.val)).toNat = UInt8.ofNat m.val := by decide +kernel
  have h2 := this ⟨c.toNat, c.toNat_lt⟩
  simp only [UInt8.ofNat_toNat] at h2
  exact h2 h
theorem hexI_hexL : ∀ (l : List Int), (∀ x ∈ l, 0 ≤ x ∧ x ≤ 255) → hexI (hexL l) = l ∧ okH (hexL l) = true
  | [], _ => ⟨rfl, rfl⟩
  | x :: l, h => by
    obtain ⟨h1, h2⟩ := hexI_hexL l (fun y hy => h y (by simp [hy]))
    have hx := h x (by simp)
    have e : hexL (x :: l) = hexB (x / 16).toNat :: hexB (x % 16).toNat :: hexL l := by simp [hexL]
    have i1 := ix_hex (n := (x / 16).toNat) (by omega)
    have i2 := ix_hex (n := (x % 16).toNat) (by omega)
    rw [e]
    refine ⟨?_, ?_⟩
    · rw [hexI, i1, i2, h1]
      congr 1; omega
    · simp only [okH, List.all_cons, Bool.and_eq_true, decide_eq_true_eq] at h2 ⊢
      exact ⟨by rw [i1]; omega, by rw [i2]; omega, h2⟩
theorem hexL_hexI : ∀ (n : Nat) (l : List UInt8), l.length = 2 * n → okH l = true → hexL (hexI l) = l ∧ (∀ x ∈ hexI l, 0 ≤ x ∧ x ≤ 255) ∧ (hexI l).length = n
  | 0, l, hl, _ => by
    obtain rfl := List.eq_nil_of_length_eq_zero (by omega : l.length = 0)
    exact ⟨rfl, by simp [hexI], rfl⟩
  | n + 1, l, hl, h => by
    match l, hl, h with
    | c :: d :: r, hl, h =>
      simp only [okH, List.all_cons, Bool.and_eq_true, decide_eq_true_eq] at h
      obtain ⟨h1, h2, h3⟩ := hexL_hexI n r (by simp only [List.length_cons] at hl; omega) h.2.2
      have r1 := ix_range c
      have r2 := ix_range d
      have e1 : ((16 * ix c + ix d) / 16).toNat = (ix c).toNat := by have := h.1; have := h.2.1; omega
      have e2 : ((16 * ix c + ix d) % 16).toNat = (ix d).toNat := by have := h.1; have := h.2.1; omega
      refine ⟨?_, ?_, by rw [hexI, List.length_cons, h3]⟩
      · rw [hexI]
        show [hexB ((16 * ix c + ix d) / 16).toNat, hexB ((16 * ix c + ix d) % 16).toNat] ++ hexL (hexI r) = _
        rw [e1, e2, hex_ix c h.1, hex_ix d h.2.1, h1]; rfl
      · intro x hx
        rw [hexI, List.mem_cons] at hx
        rcases hx with rfl | hx
        · have := h.1; have := h.2.1; omega
        · exact h2 x hx
theorem hexI_len : ∀ (n : Nat) (l : List UInt8), l.length = 2 * n → (hexI l).length = n
  | 0, l, hl => by
    obtain rfl := List.eq_nil_of_length_eq_zero (by omega : l.length = 0)
    rfl
  | n + 1, l, hl => by
    match l, hl with
    | c :: d :: r, hl => rw [hexI, List.length_cons, hexI_len n r (by simp only [List.length_cons] at hl; omega)]
/-- What the reference calls a digit. -/
theorem spec_frDigit_eq {k : Nat} (c : UInt8) (hk : 17 ≤ k) : spec_frDigit.f k (c.toNat : Int) = some (ix c) := by
  have : ∀ m : Fin 256, spec_frDigit.f 17 ((UInt8.ofNat m.val).toNat : Int) = some (ix (UInt8.ofNat m.val)) := by decide +kernel
  have h := this ⟨c.toNat, c.toNat_lt⟩
  simp only [UInt8.ofNat_toNat] at h
  obtain ⟨j, rfl⟩ : ∃ j, k = 17 + j := ⟨k - 17, by omega⟩
  induction j with
  | zero => exact h
  | succ j ih => exact spec_frDigit.mono _ _ _ (ih (by omega))
theorem impl_index_eq (c : UInt8) : strings_IndexByte.f (⟨#[48, 49, 50, 51, 52, 53, 54, 55, 56, 57, 97, 98, 99, 100, 101, 102]⟩ : ByteArray) (c.toNat : Int) = some (ix c) := by
  unfold strings_IndexByte.f ix
  rw [Int.toNat_natCast]
  show some (Lib.indexByte hexS (UInt8.ofNat c.toNat)) = _
  rw [UInt8.ofNat_toNat]

theorem ixb_free (c : UInt8) : ∀ (x : List UInt8), c ∉ x → Lib.indexByte x c = -1
  | [], _ => rfl
  | a :: x, h => by
    simp only [List.mem_cons, not_or] at h
    have ih := ixb_free c x h.2
    rw [Lib.indexByte, if_neg (by simpa using fun e => h.1 e.symm), ih]; rfl
theorem ixb_app (c : UInt8) (y : List UInt8) : ∀ (x : List UInt8), c ∉ x → Lib.indexByte (x ++ c :: y) c = (x.length : Int)
  | [], _ => by rw [List.nil_append, Lib.indexByte, if_pos (by simp)]; rfl
  | a :: x, h => by
    simp only [List.mem_cons, not_or] at h
    have ih := ixb_app c y x h.2
    rw [List.cons_append, Lib.indexByte, if_neg (by simpa using fun e => h.1 e.symm), ih, if_neg (by first | (simp; done) | (simp; omega)), List.length_cons]; omega
theorem splitK_free (c : UInt8) (k : Nat) (x : List UInt8) (h : c ∉ x) : Lib.splitK [c] 0 k x = [x] := by
  cases k with
  | zero => rfl
  | succ k => rw [Lib.splitK, Lib.index_one, ixb_free c x h, if_pos (by rfl)]
theorem splitK_app (c : UInt8) (k : Nat) (x y : List UInt8) (h : c ∉ x) : Lib.splitK [c] 0 (k + 1) (x ++ c :: y) = x :: Lib.splitK [c] 0 k y := by
  rw [Lib.splitK, Lib.index_one, ixb_app c y x h, if_neg (by first | (simp; done) | (simp; omega)), Int.toNat_natCast]
  simp
theorem splitK_mem (c : UInt8) : ∀ (k : Nat) (l : List UInt8), ∀ y ∈ Lib.splitK [c] 0 k l, y.length ≤ l.length
  | 0, l, y, h => by
    simp only [Lib.splitK, List.mem_singleton] at h
    rw [h]; exact Nat.le_refl _
  | k + 1, l, y, h => by
    rw [Lib.splitK] at h
    split at h
    · simp only [List.mem_singleton] at h
      rw [h]; exact Nat.le_refl _
    · rcases List.mem_cons.1 h with rfl | h
      · rw [List.length_take]; omega
      · have := splitK_mem c k _ y h
        rw [List.length_drop] at this; omega
theorem cut_app (c : UInt8) (x y : List UInt8) (h : c ∉ x) : Lib.cut (x ++ c :: y) [c] = (x, y, true) := by
  unfold Lib.cut
  rw [Lib.index_one, ixb_app c y x h, if_pos (by omega), Int.toNat_natCast]
  simp
theorem cut_len (x : List UInt8) (s : List UInt8) : (Lib.cut x s).1.length ≤ x.length ∧ (Lib.cut x s).2.1.length ≤ x.length := by
  unfold Lib.cut
  split
  · refine ⟨by simp only [List.length_take]; omega, by simp only [List.length_drop]; omega⟩
  · exact ⟨Nat.le_refl _, by simp⟩
theorem bl_of_data (s : ByteArray) : s = bl s.data.toList := (bl_of s).symm
/-- The pieces that the library's split gives. -/
theorem splitB_map (c : UInt8) (k : Nat) (l : List UInt8) : Lib.splitB (bl [c]) 0 k (bl l) = (Lib.splitK [c] 0 k l).map bl := by
  have h := Lib.splitB_data (bl [c]) 0 k (bl l)
  rw [bl_data, bl_data] at h
  rw [← h, List.map_map]
  refine (List.map_id'' (fun s => ?_) _).symm
  exact bl_of s

/-- n numbers from m on. -/
def marks (m : Int) (n : Nat) : List Int := (List.range n).map fun (j : Nat) => m + (j : Int)
theorem marks_length (m : Int) (n : Nat) : (marks m n).length = n := by simp [marks]
theorem marks_succ (m : Int) (n : Nat) : marks m (n + 1) = marks m n ++ [m + (n : Int)] := by simp [marks, List.range_succ]
theorem markIntS_loop (l : List Int) (m : Int) (hm : 0 ≤ m) (hm2 : m ≤ 1099511627776) (hn : l.length ≤ 1048576) : ∀ (d i k : Nat), i + d = l.length → d < k →
    laws_markIntS.l0 k (marks m i ++ l.drop i) (m + (i : Int)) (i : Int) = some (m + (l.length : Int), marks m l.length) := by
  intro d
  induction d with
  | zero =>
    intro i k h hk
    obtain ⟨k, rfl⟩ : ∃ m, k = m + 1 := ⟨k - 1, by omega⟩
    obtain rfl : i = l.length := by omega
    simp only [laws_markIntS.l0]
    rw [if_neg (by simp [marks_length])]
    simp
  | succ d ih =>
    intro i k h hk
    obtain ⟨k, rfl⟩ : ∃ m, k = m + 1 := ⟨k - 1, by omega⟩
    have hi : i < l.length := by omega
    have e : (marks m i ++ l.drop i).set i (m + (i : Int)) = marks m (i + 1) ++ l.drop (i + 1) := by
      rw [List.set_append_right _ _ (by simp [marks_length]), marks_length, Nat.sub_self, List.drop_eq_getElem_cons hi, List.set_cons_zero, marks_succ, List.append_assoc]; rfl
    simp only [laws_markIntS.l0]
    rw [if_pos (by simp [marks_length]; omega), if_pos (by omega), Int.toNat_natCast, e, wrap_succ hi (by omega), show wrap64 (m + (i : Int) + 1) = m + ((i + 1 : Nat) : Int) from by rw [wrap_id] <;> omega]
    exact ih (i + 1) k (by omega) (by omega)
theorem markIntS_eq {k : Nat} {l : List Int} {m : Int} (hm : 0 ≤ m) (hm2 : m ≤ 1099511627776) (hn : l.length ≤ 1048576) (hk : l.length < k) : laws_markIntS.f k l m = some (m + (l.length : Int), marks m l.length) := by
  unfold laws_markIntS.f
  have := markIntS_loop l m hm hm2 hn l.length 0 k (by omega) hk
  simpa [marks] using this
theorem heldIntS_loop (n : Nat) (m : Int) (hm : 0 ≤ m) (hm2 : m ≤ 1099511627776) (hn : n ≤ 1048576) : ∀ (d i k : Nat), i + d = n → d < k → laws_heldIntS.l0 k (marks m n) (m + (i : Int)) (i : Int) = some (m + (n : Int)) := by
  intro d
  induction d with
  | zero =>
    intro i k h hk
    obtain ⟨k, rfl⟩ : ∃ m, k = m + 1 := ⟨k - 1, by omega⟩
    obtain rfl : i = n := by omega
    simp only [laws_heldIntS.l0]
    rw [if_neg (by simp [marks_length])]
  | succ d ih =>
    intro i k h hk
    obtain ⟨k, rfl⟩ : ∃ m, k = m + 1 := ⟨k - 1, by omega⟩
    have hi : i < n := by omega
    have e : rd (marks m n) (i : Int) = m + (i : Int) := by rw [rd_nat _ (by simpa [marks_length] using hi)]; simp [marks]
    simp only [laws_heldIntS.l0]
    rw [if_pos (by simp [marks_length]; omega), if_pos (by omega), if_pos e, wrap_succ hi (by omega), show wrap64 (m + (i : Int) + 1) = m + ((i + 1 : Nat) : Int) from by rw [wrap_id] <;> omega]
    exact ih (i + 1) k (by omega) (by omega)
theorem heldIntS_eq {k n : Nat} {m : Int} (hm : 0 ≤ m) (hm2 : m ≤ 1099511627776) (hn : n ≤ 1048576) (hk : n < k) : laws_heldIntS.f k (marks m n) m = some (m + (n : Int)) := by
  unfold laws_heldIntS.f
  simpa using heldIntS_loop n m hm hm2 hn n 0 k (by omega) hk

def z0 : Int × Int × Int × List Int × Bool := (0, 0, 0, [], false)
/-- What the reference makes of a text. -/
def specP (l : List UInt8) : Int × Int × Int × List Int × Bool :=
  match splitAll 58 l with
  | [x0, x1, x2] => if l.length ≤ 60 ∧ x2.length % 2 = 0 then
      match splitAll 62 x0 with
      | [f, t] => if okH x2 = true ∧ frameB (readL f) (readL t) (readL x1) (hexI x2) = true then (readL f, readL t, readL x1, hexI x2, true) else z0
      | _ => z0
    else z0
  | _ => z0
def fin (l : List UInt8) (a b p : Int) (D : List Int) : Int × Int × Int × List Int × Bool := if frameB a b p D = true ∧ textL a.toNat b.toNat p.toNat D = l then (a, b, p, D, true) else z0
/-- What the program makes of a text. -/
def impP (l : List UInt8) : Int × Int × Int × List Int × Bool :=
  match Lib.splitK [58] 0 (min 4 (l.length + 1) - 1) l with
  | [x0, x1, x2] => if x2.length % 2 = 0 ∧ x2.length ≤ 32 then fin l (numOf (Lib.cut x0 [62]).1) (numOf (Lib.cut x0 [62]).2.1) (numOf x1) (hexI x2) else z0
  | _ => z0
theorem hexI_drop (x : List UInt8) {i : Nat} (h : i + 1 < x.length) : hexI (x.drop i) = (16 * ix (x[i]'(by omega)) + ix (x[i + 1]'h)) :: hexI (x.drop (i + 2)) ∧ okH (x.drop i) = (decide (0 ≤ ix (x[i]'(by omega))) && (decide (0 ≤ ix (x[i + 1]'h)) && okH (x.drop (i + 2)))) := by
  rw [List.drop_eq_getElem_cons (show i < x.length by omega), List.drop_eq_getElem_cons h]
  exact ⟨rfl, rfl⟩
theorem w2 {i n : Nat} (h : i ≤ n) (hn : n ≤ 4611686018427387) : wrap64 ((i : Int) + 2) = ((i + 2 : Nat) : Int) := by rw [wrap_id (by omega) (by omega)]; rfl
theorem wix (c d : UInt8) : wrap64 (wrap64 (16 * ix c) + ix d) = 16 * ix c + ix d := by
  have h1 := ix_range c
  have h2 := ix_range d
  rw [wrap_id (x := 16 * ix c) (by omega) (by omega), wrap_id (by omega) (by omega)]
theorem spec_loop (y0 y1 : ByteArray) (x : List UInt8) (a b p : Int) (hx : x.length ≤ 60) : ∀ (d i k : Nat) (X : List Int), i + 2 * d = x.length → d + 200 < k → X.length + d ≤ 60 →
    spec_frParse.l0 k [y0, y1, bl x] (i : Int) a b p X = some (if okH (x.drop i) = true ∧ frameB a b p (X ++ hexI (x.drop i)) = true then (a, b, p, X ++ hexI (x.drop i), true) else z0) := by
  intro d
  induction d with
  | zero =>
    intro i k X h hk hX
    obtain ⟨k, rfl⟩ : ∃ m, k = m + 1 := ⟨k - 1, by omega⟩
    have e2 : rdOf ByteArray.empty [y0, y1, bl x] 2 = bl x := rfl
    rw [spec_frParse.l0, e2, bl_size, if_pos (by simp), if_neg (by omega), List.drop_of_length_le (by omega), spec_frGood_eq (by omega) (by omega), Option.bind_some]
    have e3 : okH [] = true := rfl
    have e4 : X ++ hexI [] = X := by simp [hexI]
    rw [e3, e4]
    by_cases hf : frameB a b p X = true
    · rw [if_pos hf, if_pos ⟨rfl, hf⟩]
    · rw [if_neg hf, if_neg (fun e => hf e.2)]; rfl
  | succ d ih =>
    intro i k X h hk hX
    obtain ⟨k, rfl⟩ : ∃ m, k = m + 1 := ⟨k - 1, by omega⟩
    have hi : i < x.length := by omega
    have hi1 : i + 1 < x.length := by omega
    have e2 : rdOf ByteArray.empty [y0, y1, bl x] 2 = bl x := rfl
    obtain ⟨hd1, hd2⟩ := hexI_drop x hi1
    rw [spec_frParse.l0, e2, bl_size, if_pos (by simp), if_pos (by omega), if_pos (by omega), bt_bl x hi, spec_frDigit_eq _ (by omega), Option.bind_some, wrap_succ hi (by omega), if_pos (by omega), if_pos (by omega), bt_bl x hi1, spec_frDigit_eq _ (by omega), Option.bind_some, hd1, hd2, w2 (Nat.le_of_lt hi) (by omega), wix]
    have r1 := ix_range (x[i])
    have r2 := ix_range (x[i + 1])
    generalize ix (x[i]) = u at r1 ⊢
    generalize ix (x[i + 1]) = v at r2 ⊢
    by_cases h1 : u < 0
    · rw [if_pos h1, decide_eq_false (by omega), if_neg (by simp)]; rfl
    · rw [if_neg h1, decide_eq_true (by omega), Bool.true_and]
      by_cases h2 : v < 0
      · rw [if_pos h2, decide_eq_false (by omega), if_neg (by simp)]; rfl
      · rw [if_neg h2, decide_eq_true (by omega), Bool.true_and, if_pos (by omega), ih (i + 2) k _ (by omega) (by omega) (by simp only [List.length_append, List.length_cons, List.length_nil]; omega), List.append_assoc]
        rfl
theorem impl_loop (l : List UInt8) (y0 y1 : ByteArray) (x : List UInt8) (a b p : Int) (hx : x.length ≤ 32) : ∀ (d i k : Nat) (X : List Int), i + 2 * d = x.length → d < k → X.length + d ≤ 16 →
    impl_ParseFrame.l0 k (bl l) [y0, y1, bl x] (i : Int) a b p X = some (fin l a b p (X ++ hexI (x.drop i))) := by
  intro d
  induction d with
  | zero =>
    intro i k X h hk hX
    obtain ⟨k, rfl⟩ : ∃ m, k = m + 1 := ⟨k - 1, by omega⟩
    have e2 : rdOf ByteArray.empty [y0, y1, bl x] 2 = bl x := rfl
    have e4 : X ++ hexI [] = X := by simp [hexI]
    rw [impl_ParseFrame.l0, e2, bl_size, if_pos (by simp), if_neg (by omega), List.drop_of_length_le (by omega), impl_IsFrame_eq, Option.bind_some, e4]
    unfold fin
    by_cases hf : frameB a b p X = true
    · obtain ⟨⟨h1, h2⟩, ⟨h3, h4⟩, h5, h6⟩ := frameB_head hf
      have hm := frameB_mem hf
      obtain ⟨a, rfl⟩ : ∃ n : Nat, a = (n : Int) := ⟨a.toNat, by omega⟩
      obtain ⟨b, rfl⟩ : ∃ n : Nat, b = (n : Int) := ⟨b.toNat, by omega⟩
      obtain ⟨p, rfl⟩ : ∃ n : Nat, p = (n : Int) := ⟨p.toNat, by omega⟩
      rw [if_pos hf, impl_frameText_eq (by omega) (by omega) (by omega) hm (by omega), Option.bind_some, ByteArray.toList_eq, ByteArray.toList_eq, bl_data, bl_data, Int.toNat_natCast, Int.toNat_natCast, Int.toNat_natCast]
      by_cases ht : textL a b p X = l
      · rw [if_pos ht, if_pos ⟨hf, ht⟩]
      · rw [if_neg ht, if_neg (fun e => ht e.2)]; rfl
    · rw [if_neg hf, if_neg (fun e => hf e.1)]; rfl
  | succ d ih =>
    intro i k X h hk hX
    obtain ⟨k, rfl⟩ : ∃ m, k = m + 1 := ⟨k - 1, by omega⟩
    have hi : i < x.length := by omega
    have hi1 : i + 1 < x.length := by omega
    have e2 : rdOf ByteArray.empty [y0, y1, bl x] 2 = bl x := rfl
    obtain ⟨hd1, hd2⟩ := hexI_drop x hi1
    rw [impl_ParseFrame.l0, e2, bl_size, if_pos (by simp), if_pos (by omega), if_pos (by omega), bt_bl x hi, impl_index_eq, Option.bind_some, wrap_succ hi (by omega), if_pos (by omega), if_pos (by omega), bt_bl x hi1, impl_index_eq, Option.bind_some, if_pos (by omega), w2 (Nat.le_of_lt hi) (by omega), wix, ih (i + 2) k _ (by omega) (by omega) (by simp only [List.length_append, List.length_cons, List.length_nil]; omega), hd1, List.append_assoc]
    rfl
theorem spec_eq (l : List UInt8) (hl : l.length ≤ 1048576) : Ev (fun k => spec_ParseFrame.f k (bl l)) (specP l) := by
  refine ⟨l.length + 300, fun k hk => ?_⟩
  show spec_ParseFrame.f k (bl l) = _
  have done : ∀ v, spec_frParse.f k (bl l) = some v → spec_ParseFrame.f k (bl l) = some v := fun v h => by
    unfold spec_ParseFrame.f; rw [h]; rfl
  apply done
  obtain ⟨k, rfl⟩ : ∃ m, k = m + 1 := ⟨k - 1, by omega⟩
  unfold spec_frParse.f
  rw [show (58 : Int) = ((58 : UInt8).toNat : Int) from rfl, spec_l1Split_eq (by omega) (by omega), Option.bind_some, bl_size]
  unfold specP
  by_cases h60 : l.length ≤ 60
  · rw [if_neg (by omega)]
    match hs : splitAll 58 l with
    | [x0, x1, x2] =>
      have e0 : rdOf ByteArray.empty [bl x0, bl x1, bl x2] 0 = bl x0 := rfl
      have e1 : rdOf ByteArray.empty [bl x0, bl x1, bl x2] 1 = bl x1 := rfl
      have e2 : rdOf ByteArray.empty [bl x0, bl x1, bl x2] 2 = bl x2 := rfl
      have hj := joinC_split 58 l
      rw [hs] at hj
      simp only [joinC] at hj
      have hlen : x0.length + x1.length + x2.length ≤ l.length := by rw [← hj]; simp only [List.length_append, List.length_cons]; omega
      simp only [List.map_cons, List.map_nil]
      rw [if_pos (by simp), if_pos (by simp), e2, bl_size]
      by_cases hev : x2.length % 2 = 0
      · rw [show ((x2.length : Int) % 2 != 0) = false from by simp; omega, spec_frParse.j0, if_neg (by simp), if_pos (by simp), e0, show (62 : Int) = ((62 : UInt8).toNat : Int) from rfl, spec_l1Split_eq (by omega) (by omega), Option.bind_some]
        simp only [h60, hev, and_self, if_true]
        match hs2 : splitAll 62 x0 with
        | [f, t] =>
          have e3 : rdOf ByteArray.empty [bl f, bl t] 0 = bl f := rfl
          have e4 : rdOf ByteArray.empty [bl f, bl t] 1 = bl t := rfl
          simp only [List.map_cons, List.map_nil]
          rw [if_pos (by simp), if_pos (by simp), e3, spec_l1Read_eq (by omega), Option.bind_some, if_pos (by simp), e4, spec_l1Read_eq (by omega), Option.bind_some, if_pos (by simp), e1, spec_l1Read_eq (by omega), Option.bind_some]
          have h := spec_loop (bl x0) (bl x1) x2 (readL f) (readL t) (readL x1) (by omega) (x2.length / 2) 0 k [] (by omega) (by omega) (by simp; omega)
          rw [List.drop_zero, List.nil_append] at h
          exact h
        | [] => simp [z0]
        | [f] => simp [z0]
        | f :: t :: u :: r =>
          simp only [List.map_cons]
          rw [if_neg (by simp only [List.length_cons]; omega)]; rfl
      · rw [show ((x2.length : Int) % 2 != 0) = true from by simp; omega, spec_frParse.j0, if_pos rfl, if_neg (fun e => hev e.2)]; rfl
    | [] => exact absurd hs (splitAll_ne _ _)
    | [x0] =>
      simp only [List.map_cons, List.map_nil]
      rw [if_neg (by simp), spec_frParse.j0, if_pos rfl]; rfl
    | [x0, x1] =>
      simp only [List.map_cons, List.map_nil]
      rw [if_neg (by simp), spec_frParse.j0, if_pos rfl]; rfl
    | x0 :: x1 :: x2 :: x3 :: r =>
      simp only [List.map_cons]
      rw [if_neg (by simp only [List.length_cons]; omega), spec_frParse.j0, if_pos rfl]; rfl
  · rw [if_pos (by omega), spec_frParse.j0, if_pos rfl]
    split
    · rw [if_neg (fun e => h60 e.1)]; rfl
    · rfl
theorem impl_eq (l : List UInt8) (hl : l.length ≤ 1048576) : Ev (fun k => impl_ParseFrame.f k (bl l)) (impP l) := by
  refine ⟨l.length + 300, fun k hk => ?_⟩
  show impl_ParseFrame.f k (bl l) = _
  obtain ⟨k, rfl⟩ : ∃ m, k = m + 1 := ⟨k - 1, by omega⟩
  unfold impl_ParseFrame.f strings_SplitN.f
  have q1 : (⟨#[58]⟩ : ByteArray) = bl [58] := rfl
  have q2 : (⟨#[62]⟩ : ByteArray) = bl [62] := rfl
  rw [bl_size, if_pos ⟨by omega, by decide, by omega, by omega⟩, Option.bind_some, q1, splitB_map, show ((4 : Int).toNat) = 4 from rfl]
  unfold impP
  match hs : Lib.splitK [58] 0 (min 4 (l.length + 1) - 1) l with
  | [x0, x1, x2] =>
    have e0 : rdOf ByteArray.empty [bl x0, bl x1, bl x2] 0 = bl x0 := rfl
    have e1 : rdOf ByteArray.empty [bl x0, bl x1, bl x2] 1 = bl x1 := rfl
    have e2 : rdOf ByteArray.empty [bl x0, bl x1, bl x2] 2 = bl x2 := rfl
    have m0 := splitK_mem 58 _ l x0 (by rw [hs]; simp)
    have m1 := splitK_mem 58 _ l x1 (by rw [hs]; simp)
    have m2 := splitK_mem 58 _ l x2 (by rw [hs]; simp)
    obtain ⟨c1, c2⟩ := cut_len x0 [62]
    simp only [List.map_cons, List.map_nil]
    rw [if_pos (by simp), if_pos (by simp), e2, bl_size]
    by_cases hev : x2.length % 2 = 0
    · rw [if_pos (by omega)]
      by_cases h32 : x2.length ≤ 32
      · rw [decide_eq_false (by omega), impl_ParseFrame.j0, if_neg (by simp), if_pos (by simp), e0, q2]
        unfold strings_Cut.f
        rw [bl_size, if_pos (by omega), Option.bind_some, bl_data, bl_data]
        show (impl_number.f (bl (Lib.cut x0 [62]).1)).bind _ = _
        unfold impl_number.f
        rw [bl_size, if_pos (by omega), Option.bind_some]
        show (if (bl (Lib.cut x0 [62]).2.1).size ≤ 4194304 then some (numOf (bl (Lib.cut x0 [62]).2.1).data.toList) else none).bind _ = _
        rw [bl_size, if_pos (by omega), Option.bind_some, if_pos (by simp), e1, bl_size, if_pos (by omega), Option.bind_some, bl_data, bl_data, bl_data, if_pos ⟨hev, h32⟩]
        have h := impl_loop l (bl x0) (bl x1) x2 (numOf (Lib.cut x0 [62]).1) (numOf (Lib.cut x0 [62]).2.1) (numOf x1) h32 (x2.length / 2) 0 k [] (by omega) (by omega) (by simp; omega)
        rw [List.drop_zero, List.nil_append] at h
        exact h
      · rw [decide_eq_true (by omega), impl_ParseFrame.j0, if_pos rfl, if_neg (fun e => h32 e.2)]; rfl
    · rw [if_neg (by omega), impl_ParseFrame.j0, if_pos rfl, if_neg (fun e => hev e.1)]; rfl
  | [] =>
    rw [List.map_nil, if_neg (by simp), impl_ParseFrame.j0, if_pos rfl]; rfl
  | [x0] =>
    simp only [List.map_cons, List.map_nil]
    rw [if_neg (by simp), impl_ParseFrame.j0, if_pos rfl]; rfl
  | [x0, x1] =>
    simp only [List.map_cons, List.map_nil]
    rw [if_neg (by simp), impl_ParseFrame.j0, if_pos rfl]; rfl
  | x0 :: x1 :: x2 :: x3 :: r =>
    simp only [List.map_cons]
    rw [if_neg (by simp only [List.length_cons]; omega), impl_ParseFrame.j0, if_pos rfl]; rfl
/-- A frame's text, by its signs. -/
theorem text_form (a b p : Nat) (D : List Int) : textL a b p D = (Lib.decDigits a ++ 62 :: Lib.decDigits b) ++ 58 :: (Lib.decDigits p ++ 58 :: hexL D) := by simp [textL]
theorem hex_free (D : List Int) (h : ∀ x ∈ D, 0 ≤ x ∧ x ≤ 255) : (58 : UInt8) ∉ hexL D := by
  intro hm
  have h2 := (hexI_hexL D h).2
  have := List.all_eq_true.1 h2 58 hm
  revert this
  decide
theorem ends_free {a b : Nat} (ha : a < 100) (hb : b < 100) : (58 : UInt8) ∉ Lib.decDigits a ++ 62 :: Lib.decDigits b := by
  simp only [List.mem_append, List.mem_cons, not_or]
  exact ⟨dec_free ha 58 (by decide), by decide, dec_free hb 58 (by decide)⟩
theorem spec_text {a b p : Nat} {D : List Int} (hf : frameB (a : Int) (b : Int) (p : Int) D = true) : specP (textL a b p D) = ((a : Int), (b : Int), (p : Int), D, true) := by
  obtain ⟨⟨h1, h2⟩, ⟨h3, h4⟩, h5, h6⟩ := frameB_head hf
  have hm := frameB_mem hf
  have hl := frameB_len hf
  obtain ⟨i1, i2⟩ := hexI_hexL D hm
  have hlen : (textL a b p D).length ≤ 60 := by
    have := dec_le a (by omega); have := dec_le b (by omega); have := dec_le p (by omega); have := hexL_len D
    rw [text_form]; simp only [List.length_append, List.length_cons]; omega
  have hs : splitAll 58 (textL a b p D) = [Lib.decDigits a ++ 62 :: Lib.decDigits b, Lib.decDigits p, hexL D] := by
    rw [text_form, splitAll_app _ _ _ (ends_free (by omega) (by omega)), splitAll_app _ _ _ (dec_free (by omega) 58 (by decide)), splitAll_free _ _ (hex_free D hm)]
  have hs2 : splitAll 62 (Lib.decDigits a ++ 62 :: Lib.decDigits b) = [Lib.decDigits a, Lib.decDigits b] := by
    rw [splitAll_app _ _ _ (dec_free (by omega) 62 (by decide)), splitAll_free _ _ (dec_free (by omega) 62 (by decide))]
  unfold specP
  rw [hs]
  simp only [hs2]
  rw [if_pos ⟨hlen, by rw [hexL_len]; omega⟩, read_of (by omega), read_of (by omega), read_of (by omega), i1, if_pos ⟨i2, hf⟩]
theorem impl_text {a b p : Nat} {D : List Int} (hf : frameB (a : Int) (b : Int) (p : Int) D = true) : impP (textL a b p D) = ((a : Int), (b : Int), (p : Int), D, true) := by
  obtain ⟨⟨h1, h2⟩, ⟨h3, h4⟩, h5, h6⟩ := frameB_head hf
  have hm := frameB_mem hf
  have hl := frameB_len hf
  obtain ⟨i1, i2⟩ := hexI_hexL D hm
  have hlen : 3 ≤ (textL a b p D).length := by
    rw [text_form]; simp only [List.length_append, List.length_cons]; omega
  have hs : Lib.splitK [58] 0 (min 4 ((textL a b p D).length + 1) - 1) (textL a b p D) = [Lib.decDigits a ++ 62 :: Lib.decDigits b, Lib.decDigits p, hexL D] := by
    rw [show min 4 ((textL a b p D).length + 1) - 1 = 2 + 1 by omega, text_form, splitK_app _ _ _ _ (ends_free (by omega) (by omega)), splitK_app _ 1 _ _ (dec_free (by omega) 58 (by decide)), splitK_free _ _ _ (hex_free D hm)]
  have hc := cut_app 62 (Lib.decDigits a) (Lib.decDigits b) (dec_free (by omega) 62 (by decide))
  unfold impP
  rw [hs]
  simp only [hc]
  rw [if_pos ⟨by rw [hexL_len]; omega, by rw [hexL_len]; omega⟩, num_of (by omega), num_of (by omega), num_of (by omega), i1]
  unfold fin
  rw [Int.toNat_natCast, Int.toNat_natCast, Int.toNat_natCast, if_pos ⟨hf, rfl⟩]
/-- Where the program finds a frame the text is its. -/
theorem impl_back (l : List UInt8) : impP l = z0 ∨ ∃ (a b p : Nat) (D : List Int), frameB (a : Int) (b : Int) (p : Int) D = true ∧ textL a b p D = l := by
  have h : ∀ a b p D, fin l a b p D = z0 ∨ ∃ (a b p : Nat) (D : List Int), frameB (a : Int) (b : Int) (p : Int) D = true ∧ textL a b p D = l := by
    intro a b p D
    unfold fin
    by_cases c : frameB a b p D = true ∧ textL a.toNat b.toNat p.toNat D = l
    · obtain ⟨⟨h1, h2⟩, ⟨h3, h4⟩, h5, h6⟩ := frameB_head c.1
      refine Or.inr ⟨a.toNat, b.toNat, p.toNat, D, ?_, c.2⟩
      rw [Int.toNat_of_nonneg h1, Int.toNat_of_nonneg h3, Int.toNat_of_nonneg h5]; exact c.1
    · rw [if_neg c]; exact Or.inl rfl
  unfold impP
  split
  · split
    · exact h _ _ _ _
    · exact Or.inl rfl
  · exact Or.inl rfl
theorem spec_back (l : List UInt8) : specP l = z0 ∨ ∃ (a b p : Nat) (D : List Int), frameB (a : Int) (b : Int) (p : Int) D = true ∧ textL a b p D = l := by
  unfold specP
  split
  · rename_i x0 x1 x2 hs
    by_cases c1 : l.length ≤ 60 ∧ x2.length % 2 = 0
    · rw [if_pos c1]
      split
      · rename_i f t hs2
        by_cases c : okH x2 = true ∧ frameB (readL f) (readL t) (readL x1) (hexI x2) = true
        · right
          obtain ⟨⟨h1, h2⟩, ⟨h3, h4⟩, h5, h6⟩ := frameB_head c.2
          have j1 := joinC_split 58 l
          have j2 := joinC_split 62 x0
          rw [hs] at j1
          rw [hs2] at j2
          simp only [joinC] at j1 j2
          obtain ⟨g1, _, _⟩ := hexL_hexI (x2.length / 2) x2 (by omega) c.1
          have r1 := read_dec (l := f) (a := (readL f).toNat) (by omega) (by omega)
          have r2 := read_dec (l := t) (a := (readL t).toNat) (by omega) (by omega)
          have r3 := read_dec (l := x1) (a := (readL x1).toNat) (by omega) (by omega)
          refine ⟨(readL f).toNat, (readL t).toNat, (readL x1).toNat, hexI x2, ?_, ?_⟩
          · rw [Int.toNat_of_nonneg h1, Int.toNat_of_nonneg h3, Int.toNat_of_nonneg h5]; exact c.2
          · rw [text_form, ← r1, ← r2, ← r3, g1, j2, j1]
        · rw [if_neg c]; exact Or.inl rfl
      · exact Or.inl rfl
    · rw [if_neg c1]; exact Or.inl rfl
  · exact Or.inl rfl
theorem same (l : List UInt8) : impP l = specP l := by
  rcases impl_back l with h | ⟨a, b, p, D, hf, rfl⟩
  · rcases spec_back l with h2 | ⟨a, b, p, D, hf, rfl⟩
    · rw [h, h2]
    · rw [spec_text hf, impl_text hf]
  · rw [spec_text hf, impl_text hf]
theorem len_le (l : List UInt8) : (specP l).2.2.2.1.length ≤ 16 := by
  rcases spec_back l with h | ⟨a, b, p, D, hf, rfl⟩
  · rw [h]; simp [z0]
  · rw [spec_text hf]; exact frameB_len hf
theorem FnExactParseFrame : laws_FnExactParseFrame.Pure := by
  intro s hs
  by_cases hl : (s.size : Int) > 1048576
  · exact ⟨0, by unfold laws_FnExactParseFrame.f; rw [if_pos hl]⟩
  · obtain ⟨l, rfl⟩ : ∃ l, s = bl l := ⟨s.data.toList, bl_of_data s⟩
    have hn : l.length ≤ 1048576 := by rw [bl_size] at hl; omega
    obtain ⟨K1, h1⟩ := spec_eq l hn
    obtain ⟨K2, h2⟩ := impl_eq l hn
    have hv := len_le l
    simp only [same l] at h2
    generalize specP l = v at h1 h2 hv
    obtain ⟨a, b, p, D, t⟩ := v
    simp only at h1 h2 hv
    have n2 : ¬ (1 + (D.length : Int) < 0) := by omega
    have hv2 : D.length ≤ 1048576 := by omega
    refine ⟨K1 + K2 + D.length + 10, ?_⟩
    unfold laws_FnExactParseFrame.f
    simp (disch := omega) only [Option.bind_some, ↓reduceIte, bne_self_eq_false, Bool.false_eq_true, h1, h2, hl, n2, eqFrame_refl hv2, laws_markFrame.f, laws_heldFrame.f, markIntS_eq, heldIntS_eq]
    rw [laws_FnExactParseFrame.j0]
    simp (disch := omega) only [Option.bind_some, ↓reduceIte, bne_self_eq_false, Bool.false_eq_true, h1, h2, hl, n2, eqFrame_refl hv2, laws_markFrame.f, laws_heldFrame.f, markIntS_eq, heldIntS_eq]
    rw [laws_FnExactParseFrame.j1]
    simp (disch := omega) only [Option.bind_some, ↓reduceIte, bne_self_eq_false, Bool.false_eq_true, h1, h2, hl, n2, eqFrame_refl hv2, laws_markFrame.f, laws_heldFrame.f, markIntS_eq, heldIntS_eq]

end Go.Proofs.YtnhlfbnfngembaaDoor.Pure
