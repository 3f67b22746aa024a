/- FnExactFrameText: the program's answer is the reference's, as plain functions over numbers and lists; no condition beyond the sizes that every value has. -/
import Derived.Test.YtnhlfbnfngembaaDoorPFnExactFrameTextx4
namespace Go.Proofs.YtnhlfbnfngembaaDoor.Pure
open Go.RowKit Go.Proofs.YtnhlfbnfngembaaDoor.PFnExactFrameText Go.Proofs.YtnhlfbnfngembaaDoorW.PrintWords Go.Proofs.YtnhlfbnfngembaaDoorW.PrintLast Go.Proofs.YtnhlfbnfngembaaDoorW.PrintMore

/- It reaches: laws_eqIntS.f, laws_eqFrame.f, laws_szIntS.f, laws_szFrame.f, spec_l1In.f, spec_frStation.f, spec_l1All.f, spec_frGood.f, spec_l1Num.f, spec_frText.f, spec_FrameText.f, laws_toIntS.f, laws_toFrame.f, impl_within.f, impl_isStation.f, impl_allWithin.f, impl_IsFrame.f, strconv_Itoa.f, impl_frameText.f, impl_FrameText.f, laws_FnExactFrameText.f -/
def FnExactFrameTextPure : Prop := ∀ (a0_0 : Int) (a0_1 : Int) (a0_2 : Int) (l0_3 : List Int), (Lit.int .i64 a0_0).wf = true → (Lit.int .i64 a0_1).wf = true → (Lit.int .i64 a0_2).wf = true → l0_3.length ≤ maxLen → (∀ x ∈ l0_3, (Lit.int .i64 x).wf = true) → ∃ k, laws_FnExactFrameText.f k a0_0 a0_1 a0_2 l0_3 = some true
set_option linter.unusedSimpArgs false
set_option linter.unusedVariables false
theorem wrap_id {x : Int} (h1 : -9223372036854775808 ≤ x) (h2 : x ≤ 9223372036854775807) : wrap64 x = x := by unfold wrap64; omega
theorem wrap_succ {i n : Nat} (h : i < n) (hn : n ≤ 4611686018427387904) : wrap64 ((i : Int) + 1) = ((i + 1 : Nat) : Int) := by rw [wrap_id] <;> omega
theorem rd_nat (l : List Int) {i : Nat} (h : i < l.length) : rd l (i : Int) = l[i] := by simp [rd, h]
theorem rd_mem (l : List Int) {i : Nat} (h : i < l.length) : rd l (i : Int) ∈ l := by rw [rd_nat l h]; exact List.getElem_mem h
/-- One round, and the end. -/
theorem ev_end {α : Type} {g : Nat → Option α} {r : α} (h : ∀ k, g (k + 1) = some r) : Ev g r := Ev.step h (Ev.now r)
theorem ev_of {α : Type} {g : Nat → Option α} {r : α} (h : ∀ k, g k = some r) : Ev g r := ⟨0, fun k _ => h k⟩
theorem ev_eq {α : Type} {g : Nat → Option α} {r r' : α} (h : Ev g r) (e : r = r') : Ev g r' := e ▸ h

theorem spec_l1In_eq (a b c : Int) : spec_l1In.f a b c = some (decide (b ≤ a ∧ a ≤ c)) := by
  unfold spec_l1In.f
  by_cases h : b ≤ a <;> simp [h]

theorem l1All_loop (lo hi : Int) (l : List Int) (hn : l.length ≤ 1048576) : ∀ (d i k : Nat), i + d = l.length → d < k → spec_l1All.l0 k lo hi l (l.length : Int) (i : Int) = some ((l.drop i).all fun x => decide (lo ≤ x ∧ x ≤ hi)) := by
  intro d
  induction d with
  | zero =>
    intro i k h hk
    obtain ⟨k, rfl⟩ : ∃ m, k = m + 1 := ⟨k - 1, by omega⟩
    simp only [spec_l1All.l0]
    rw [if_neg (by omega), List.drop_of_length_le (by omega)]
    rfl
  | succ d ih =>
    intro i k h hk
    obtain ⟨k, rfl⟩ : ∃ m, k = m + 1 := ⟨k - 1, by omega⟩
    have hlt : i < l.length := by omega
    simp only [spec_l1All.l0, spec_l1In_eq, Option.bind_some]
    rw [if_pos (by omega), if_pos (by omega), if_pos (by omega), rd_nat l hlt, wrap_succ hlt (by omega), ih (i + 1) k (by omega) (by omega), List.drop_eq_getElem_cons hlt, List.all_cons]
    by_cases c : lo ≤ l[i] ∧ l[i] ≤ hi <;> simp [c]
theorem spec_l1All_eq {k : Nat} {l : List Int} {lo hi : Int} (hn : l.length ≤ 1048576) (hk : l.length < k) : spec_l1All.f k l lo hi = some (l.all fun x => decide (lo ≤ x ∧ x ≤ hi)) := by
  unfold spec_l1All.f
  simpa using l1All_loop lo hi l hn l.length 0 k (by omega) hk

theorem impl_within_eq (a b c : Int) : impl_within.f a b c = some (decide (b ≤ a ∧ a ≤ c)) := by
  unfold impl_within.f
  by_cases h : b ≤ a <;> simp [h]

theorem eqIntS_loop (l : List Int) (hn : l.length ≤ 1048576) : ∀ (d i k : Nat), i + d = l.length → d < k → laws_eqIntS.l0 k l l (i : Int) = some true := by
  intro d
  induction d with
  | zero =>
    intro i k h hk
    obtain ⟨k, rfl⟩ : ∃ m, k = m + 1 := ⟨k - 1, by omega⟩
    simp only [laws_eqIntS.l0]
    rw [if_neg (by omega)]
  | succ d ih =>
    intro i k h hk
    obtain ⟨k, rfl⟩ : ∃ m, k = m + 1 := ⟨k - 1, by omega⟩
    simp only [laws_eqIntS.l0]
    rw [if_pos (by omega), if_pos (by omega), if_pos (by omega), if_pos trivial, wrap_succ (n := l.length) (by omega) (by omega)]
    exact ih (i + 1) k (by omega) (by omega)
theorem eqIntS_refl {k : Nat} {l : List Int} (hn : l.length ≤ 1048576) (hk : l.length < k) : laws_eqIntS.f k l l = some true := by
  unfold laws_eqIntS.f
  rw [if_pos rfl]
  exact eqIntS_loop l hn l.length 0 k (by omega) hk

/-- What both call a frame. -/
def frameB (a b p : Int) (l : List Int) : Bool := decide ((0 ≤ a ∧ a ≤ 11) ∧ (0 ≤ b ∧ b ≤ 11) ∧ (0 ≤ p ∧ p ≤ 7)) && (decide (l.length ≤ 16) && l.all fun x => decide (0 ≤ x ∧ x ≤ 255))
theorem frameB_head {a b p : Int} {l : List Int} (h : frameB a b p l = true) : (0 ≤ a ∧ a ≤ 11) ∧ (0 ≤ b ∧ b ≤ 11) ∧ (0 ≤ p ∧ p ≤ 7) := by simp only [frameB, Bool.and_eq_true, decide_eq_true_eq] at h; exact h.1
theorem frameB_len {a b p : Int} {l : List Int} (h : frameB a b p l = true) : l.length ≤ 16 := by simp only [frameB, Bool.and_eq_true, decide_eq_true_eq] at h; exact h.2.1
theorem frameB_mem {a b p : Int} {l : List Int} (h : frameB a b p l = true) : ∀ x ∈ l, 0 ≤ x ∧ x ≤ 255 := by simp only [frameB, Bool.and_eq_true, decide_eq_true_eq, List.all_eq_true] at h; exact h.2.2
theorem spec_frGood_eq {k : Nat} {a b p : Int} {l : List Int} (hn : l.length ≤ 1048576) (hk : l.length < k) : spec_frGood.f k a b p l = some (frameB a b p l) := by
  unfold spec_frGood.f spec_frStation.f frameB
  simp only [spec_l1In_eq, Option.bind_some, spec_l1All_eq hn hk]
  by_cases h0 : 0 ≤ a ∧ a ≤ 11 <;> by_cases h1 : 0 ≤ b ∧ b ≤ 11 <;> by_cases h2 : 0 ≤ p ∧ p ≤ 7 <;> by_cases h3 : l.length ≤ 16 <;>
    simp only [h0, h1, h2, h3, decide_true, decide_false, if_true, and_true, true_and, and_false, false_and, Bool.true_and, Bool.false_and, if_neg (show ¬ (false = true) by decide), show ((l.length : Int) ≤ 16) = (l.length ≤ 16) from propext ⟨fun h => by omega, fun h => by omega⟩, if_false]
theorem impl_IsFrame_eq (a b p : Int) (l : List Int) : impl_IsFrame.f a b p l = some (frameB a b p l) := by
  unfold impl_IsFrame.f impl_isStation.f impl_allWithin.f frameB
  simp only [impl_within_eq, Option.bind_some]
  by_cases h0 : 0 ≤ a ∧ a ≤ 11 <;> by_cases h1 : 0 ≤ b ∧ b ≤ 11 <;> by_cases h2 : 0 ≤ p ∧ p ≤ 7 <;> by_cases h3 : l.length ≤ 16 <;>
    simp only [h0, h1, h2, h3, decide_true, decide_false, if_true, and_true, true_and, and_false, false_and, Bool.true_and, Bool.false_and, if_neg (show ¬ (false = true) by decide), show ((l.length : Int) ≤ 16) = (l.length ≤ 16) from propext ⟨fun h => by omega, fun h => by omega⟩, if_false]
theorem eqFrame_refl {k : Nat} {a b p : Int} {l : List Int} (hn : l.length ≤ 1048576) (hk : l.length < k) : laws_eqFrame.f k a b p l a b p l = some true := by
  unfold laws_eqFrame.f
  simp only [if_true, eqIntS_refl hn hk, Option.bind_some]

/-- A text out of its bytes. -/
def bl (l : List UInt8) : ByteArray := ⟨l.toArray⟩
theorem bl_app (a b : List UInt8) : bl a ++ bl b = bl (a ++ b) := by
  apply ByteArray.ext; simp [bl]
theorem bl_size (a : List UInt8) : (bl a).size = a.length := by simp [bl, ByteArray.size]
theorem bl_of (s : ByteArray) : bl s.data.toList = s := by cases s; simp [bl]
theorem bl_data (a : List UInt8) : (bl a).data.toList = a := by simp [bl]
theorem str_one (n : Nat) (h : n < 10) : strOfNums [(wrap64 (48 + (n : Int))) % 256] = bl [UInt8.ofNat (48 + n)] := by
  have : ∀ m : Fin 10, strOfNums [(wrap64 (48 + (m.val : Int))) % 256] = bl [UInt8.ofNat (48 + m.val)] := by decide +kernel
  exact this ⟨n, h⟩
/-- The numeral of a number below 100. -/
theorem spec_l1Num_eq {k n : Nat} (hn : n < 100) (hk : 2 ≤ k) : spec_l1Num.f k (n : Int) = some (bl (Lib.decDigits n)) := by
  obtain ⟨k, rfl⟩ : ∃ m, k = m + 2 := ⟨k - 2, by omega⟩
  by_cases h : n < 10
  · show spec_l1Num.f (k + 1 + 1) _ = _
    rw [spec_l1Num.f, if_pos (by omega), str_one n h, Lib.decDigits, dif_pos h]
  · have e1 : Int.tdiv (n : Int) 10 = ((n / 10 : Nat) : Int) := by rw [Int.tdiv_eq_ediv_of_nonneg (by omega)]; rfl
    have e2 : Int.tmod (n : Int) 10 = ((n % 10 : Nat) : Int) := by rw [Int.tmod_eq_emod_of_nonneg (by omega)]; rfl
    show spec_l1Num.f (k + 1 + 1) _ = _
    rw [spec_l1Num.f, if_neg (by omega), e1, e2, wrap_id (by omega) (by omega), spec_l1Num.f, if_pos (by omega), str_one _ (by omega), Option.bind_some, Option.bind_some, str_one _ (by omega), bl_size, bl_size, if_pos (by simp), bl_app, Lib.decDigits, dif_neg h, Lib.decDigits, dif_pos (by omega)]
theorem dec_le (n : Nat) (h : n < 100) : (Lib.decDigits n).length ≤ 2 := dec_len n h

theorem w_small {a : Nat} (h : a ≤ 1000) : wrap64 (a : Int) = (a : Int) := wrap_id (by omega) (by omega)
theorem w_small1 {a : Nat} (h : a ≤ 1000) : wrap64 ((a : Int) + 1) = ((a + 1 : Nat) : Int) := by rw [wrap_id (by omega) (by omega)]; rfl
theorem hex_cut (n : Nat) (h : n < 16) : (⟨#[48, 49, 50, 51, 52, 53, 54, 55, 56, 57, 97, 98, 99, 100, 101, 102]⟩ : ByteArray).extract n (n + 1) = bl [hexB n] := by
  have : ∀ m : Fin 16, (⟨#[48, 49, 50, 51, 52, 53, 54, 55, 56, 57, 97, 98, 99, 100, 101, 102]⟩ : ByteArray).extract m.val (m.val + 1) = bl [hexB m.val] := by decide +kernel
  exact this ⟨n, h⟩
theorem hexL_drop (l : List Int) {i : Nat} (h : i < l.length) : hexL (l.drop i) = [hexB (rd l (i : Int) / 16).toNat, hexB (rd l (i : Int) % 16).toNat] ++ hexL (l.drop (i + 1)) := by
  rw [List.drop_eq_getElem_cons h, rd_nat l h, hexL, List.flatMap_cons]; rfl
theorem spec_frText_loop (l : List Int) (hm : ∀ x ∈ l, 0 ≤ x ∧ x ≤ 255) (hl : l.length ≤ 1048576) : ∀ (d i k : Nat) (X : List UInt8), i + d = l.length → d < k → X.length + 2 * d ≤ 10000000 →
    spec_frText.l0 k (bl X) l (l.length : Int) (i : Int) = some (bl (X ++ hexL (l.drop i))) := by
  intro d
  induction d with
  | zero =>
    intro i k X h hk _
    obtain ⟨k, rfl⟩ : ∃ m, k = m + 1 := ⟨k - 1, by omega⟩
    rw [spec_frText.l0]
    rw [if_neg (by omega), List.drop_of_length_le (by omega)]
    simp [hexL]
  | succ d ih =>
    intro i k X h hk hX
    obtain ⟨k, rfl⟩ : ∃ m, k = m + 1 := ⟨k - 1, by omega⟩
    have hi : i < l.length := by omega
    have hx := hm _ (rd_mem l hi)
    have hd := hexL_drop l hi
    rw [spec_frText.l0]
    generalize rd l (i : Int) = x at hx hd ⊢
    obtain ⟨m, rfl⟩ : ∃ m : Nat, x = (m : Int) := ⟨x.toNat, by omega⟩
    have f1 : ((m : Int) / 16).toNat = m / 16 := by omega
    have f2 : ((m : Int) % 16).toNat = m % 16 := by omega
    rw [f1, f2] at hd
    clear f1 f2
    have c1 : m / 16 < 16 := by omega
    have c2 : m % 16 < 16 := by omega
    have w1 : wrap64 ((m / 16 : Nat) : Int) = ((m / 16 : Nat) : Int) := w_small (Nat.le_trans (Nat.le_of_lt c1) (by decide))
    have w2 : wrap64 (((m / 16 : Nat) : Int) + 1) = ((m / 16 + 1 : Nat) : Int) := w_small1 (Nat.le_trans (Nat.le_of_lt c1) (by decide))
    have w3 : wrap64 (((m % 16 : Nat) : Int) + 1) = ((m % 16 + 1 : Nat) : Int) := w_small1 (Nat.le_trans (Nat.le_of_lt c2) (by decide))
    have e1 : Int.tdiv (m : Int) 16 = ((m / 16 : Nat) : Int) := by rw [Int.tdiv_eq_ediv_of_nonneg (Int.natCast_nonneg m)]; rfl
    have e2 : Int.tmod (m : Int) 16 = ((m % 16 : Nat) : Int) := by rw [Int.tmod_eq_emod_of_nonneg (Int.natCast_nonneg m)]; rfl
    simp only [e1, e2, w1, w2, w3, Int.toNat_natCast, hex_cut (m / 16) c1, hex_cut (m % 16) c2]
    clear e1 e2 w1 w2 w3
    rw [if_pos (by omega), if_pos (by omega), if_pos (by omega), if_pos (by omega), if_pos (by omega), if_pos (by omega), if_pos (by omega), if_pos (by omega), if_pos (by omega), if_pos (by simp [bl_size]), bl_app, if_pos (by simp only [bl_size, List.length_append, List.length_cons, List.length_nil]; omega), bl_app, wrap_succ hi (by omega), ih (i + 1) k _ (by omega) (by omega) (by simp only [List.length_append, List.length_cons, List.length_nil]; omega), hd]
    simp
/-- The text of a frame. -/
def textL (a b p : Nat) (l : List Int) : List UInt8 := Lib.decDigits a ++ [62] ++ Lib.decDigits b ++ [58] ++ Lib.decDigits p ++ [58] ++ hexL l
theorem spec_frText_eq {k a b p : Nat} {l : List Int} (ha : a < 100) (hb : b < 100) (hp : p < 100) (hm : ∀ x ∈ l, 0 ≤ x ∧ x ≤ 255) (hl : l.length ≤ 1048576) (hk : l.length + 2 < k) : spec_frText.f k (a : Int) (b : Int) (p : Int) l = some (bl (textL a b p l)) := by
  have z0 := dec_le a ha
  have z1 := dec_le b hb
  have z2 := dec_le p hp
  have q1 : (⟨#[62]⟩ : ByteArray) = bl [62] := rfl
  have q2 : (⟨#[58]⟩ : ByteArray) = bl [58] := rfl
  unfold spec_frText.f
  simp only [q1, q2]
  rw [spec_l1Num_eq ha (by omega), Option.bind_some, bl_size, if_pos (by omega), spec_l1Num_eq hb (by omega), Option.bind_some, bl_app, bl_size, bl_size, if_pos (by simp only [List.length_append, List.length_cons, List.length_nil]; omega), bl_app, bl_size, if_pos (by simp only [List.length_append, List.length_cons, List.length_nil]; omega), spec_l1Num_eq hp (by omega), Option.bind_some, bl_app, bl_size, bl_size, if_pos (by simp only [List.length_append, List.length_cons, List.length_nil]; omega), bl_app, bl_size, if_pos (by simp only [List.length_append, List.length_cons, List.length_nil]; omega), bl_app]
  have h := spec_frText_loop l hm hl l.length 0 k (Lib.decDigits a ++ [62] ++ Lib.decDigits b ++ [58] ++ Lib.decDigits p ++ [58]) (by omega) (by omega) (by simp only [List.length_append, List.length_cons, List.length_nil]; omega)
  rw [List.drop_zero] at h
  exact h
theorem impl_frameText_eq {a b p : Nat} {l : List Int} (ha : a < 100) (hb : b < 100) (hp : p < 100) (hm : ∀ x ∈ l, 0 ≤ x ∧ x ≤ 255) (hl : l.length ≤ 1048576) : impl_frameText.f (a : Int) (b : Int) (p : Int) l = some (bl (textL a b p l)) := by
  unfold impl_frameText.f
  rw [if_pos ⟨⟨by omega, by omega⟩, ⟨by omega, by omega⟩, ⟨by omega, by omega⟩, hl, hm⟩]
  have q1 : (⟨#[62]⟩ : ByteArray) = bl [62] := rfl
  have q2 : (⟨#[58]⟩ : ByteArray) = bl [58] := rfl
  have e : headS (a : Int).toNat (b : Int).toNat (p : Int).toNat = bl (Lib.decDigits a ++ [62] ++ Lib.decDigits b ++ [58] ++ Lib.decDigits p ++ [58]) := by
    unfold headS
    rw [q1, q2, Int.toNat_natCast, Int.toNat_natCast, Int.toNat_natCast]
    show bl _ ++ _ ++ bl _ ++ _ ++ bl _ ++ _ = _
    rw [bl_app, bl_app, bl_app, bl_app, bl_app]
  rw [e, bl_data]; rfl

theorem toIntS_loop (l : List Int) (hn : l.length ≤ 1048576) : ∀ (d i k : Nat), i + d = l.length → d < k → laws_toIntS.l0 k l (l.take i ++ List.replicate d 0) (i : Int) = some l := by
  intro d
  induction d with
  | zero =>
    intro i k h hk
    obtain ⟨k, rfl⟩ : ∃ m, k = m + 1 := ⟨k - 1, by omega⟩
    simp only [laws_toIntS.l0]
    rw [if_neg (by omega)]
    simp [List.take_of_length_le (show l.length ≤ i by omega)]
  | succ d ih =>
    intro i k h hk
    obtain ⟨k, rfl⟩ : ∃ m, k = m + 1 := ⟨k - 1, by omega⟩
    have hi : i < l.length := by omega
    have e : (l.take i ++ List.replicate (d + 1) 0).set i (rd l (i : Int)) = l.take (i + 1) ++ List.replicate d 0 := by
      rw [rd_nat l hi, List.set_append_right _ _ (by simp; omega)]
      simp only [List.length_take, Nat.min_eq_left (Nat.le_of_lt hi), Nat.sub_self, List.replicate_succ, List.set_cons_zero]
      rw [List.take_succ_eq_append_getElem hi, List.append_assoc]; rfl
    simp only [laws_toIntS.l0]
    rw [if_pos (by omega), if_pos (by omega), if_pos (by simp; omega), Int.toNat_natCast, e, wrap_succ hi (by omega)]
    exact ih (i + 1) k (by omega) (by omega)
theorem toIntS_eq {k : Nat} {l : List Int} (hn : l.length ≤ 1048576) (hk : l.length < k) : laws_toIntS.f k l = some l := by
  unfold laws_toIntS.f
  rw [if_pos (by omega), if_pos (by omega), Int.toNat_natCast]
  have := toIntS_loop l hn l.length 0 k (by omega) hk
  simpa using this

theorem szFrame_big {a b p : Int} {l : List Int} (hm : l.length ≤ 9223372036854775807) (h : ¬ l.length ≤ 1048576) : laws_szFrame.f a b p l 1048576 = some (-1) := by
  unfold laws_szFrame.f laws_szIntS.f
  rw [wrap_id (by omega) (by omega), if_pos (by omega)]; rfl
theorem szFrame_ok {a b p : Int} {l : List Int} (h : l.length ≤ 1048576) : laws_szFrame.f a b p l 1048576 = some (1048576 - (l.length : Int)) := by
  unfold laws_szFrame.f laws_szIntS.f
  rw [wrap_id (by omega) (by omega), if_neg (by omega), Option.bind_some, if_neg (by omega)]
theorem toFrame_eq {k : Nat} {a b p : Int} {l : List Int} (hn : l.length ≤ 1048576) (hk : l.length < k) : laws_toFrame.f k a b p l = some (a, b, p, l) := by
  unfold laws_toFrame.f
  rw [toIntS_eq hn hk]; rfl

theorem both (a b p : Int) (l : List Int) (hn : l.length ≤ 1048576) : ∃ v : ByteArray × Bool, Ev (fun k => spec_FrameText.f k a b p l) v ∧ impl_FrameText.f a b p l = some v := by
  cases hb : frameB a b p l with
  | false =>
    refine ⟨(⟨#[]⟩, false), ⟨l.length + 1, fun k hk => ?_⟩, ?_⟩
    · show spec_FrameText.f k a b p l = _
      unfold spec_FrameText.f; rw [spec_frGood_eq (k := k) hn (by omega), hb]; rfl
    · unfold impl_FrameText.f; rw [impl_IsFrame_eq, hb]; rfl
  | true =>
    obtain ⟨⟨h1, h2⟩, ⟨h3, h4⟩, h5, h6⟩ := frameB_head hb
    have hl := frameB_len hb
    obtain ⟨a, rfl⟩ : ∃ n : Nat, a = (n : Int) := ⟨a.toNat, by omega⟩
    obtain ⟨b, rfl⟩ : ∃ n : Nat, b = (n : Int) := ⟨b.toNat, by omega⟩
    obtain ⟨p, rfl⟩ : ∃ n : Nat, p = (n : Int) := ⟨p.toNat, by omega⟩
    refine ⟨(bl (textL a b p l), true), ⟨l.length + 3, fun k hk => ?_⟩, ?_⟩
    · show spec_FrameText.f k _ _ _ l = _
      unfold spec_FrameText.f
      rw [spec_frGood_eq (k := k) hn (by omega), hb, Option.bind_some, if_pos rfl, spec_frText_eq (by omega) (by omega) (by omega) (frameB_mem hb) hn (by omega), Option.bind_some]
    · unfold impl_FrameText.f
      rw [impl_IsFrame_eq, hb, Option.bind_some, if_pos rfl, impl_frameText_eq (by omega) (by omega) (by omega) (frameB_mem hb) hn, Option.bind_some]
theorem FnExactFrameText : FnExactFrameTextPure := by
  intro a b p l _ _ _ hm _
  unfold maxLen at hm
  by_cases hn : l.length ≤ 1048576
  · have n1 : ¬ (1048576 - (l.length : Int) < 0) := by omega
    obtain ⟨v, ⟨K1, h1⟩, h2⟩ := both a b p l hn
    refine ⟨K1 + l.length + 10, ?_⟩
    unfold laws_FnExactFrameText.f
    simp (disch := omega) only [Option.bind_some, ↓reduceIte, bne_self_eq_false, Bool.false_eq_true, h1, h2, szFrame_ok hn, n1, toFrame_eq hn, eqFrame_refl hn]
    rw [laws_FnExactFrameText.j0]
    simp (disch := omega) only [Option.bind_some, ↓reduceIte, bne_self_eq_false, Bool.false_eq_true, h1, h2, szFrame_ok hn, n1, toFrame_eq hn, eqFrame_refl hn]
  · exact ⟨0, by unfold laws_FnExactFrameText.f; rw [szFrame_big hm hn]; rfl⟩

end Go.Proofs.YtnhlfbnfngembaaDoor.Pure
