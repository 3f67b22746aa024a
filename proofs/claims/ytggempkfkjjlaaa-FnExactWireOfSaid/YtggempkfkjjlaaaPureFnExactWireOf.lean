/- FnExactWireOf: the program's answer is the reference's, as plain functions over numbers and lists; no condition beyond the sizes that every value has. -/
import Derived.Test.YtggempkfkjjlaaaPFnExactWireOfx6
namespace Go.Proofs.Ytggempkfkjjlaaa.Pure
open Go.RowKit Go.Proofs.Ytggempkfkjjlaaa.PFnExactWireOf Go.Proofs.YtggempkfkjjlaaaW.PrintWords Go.Proofs.YtggempkfkjjlaaaW.PrintLast Go.Proofs.YtggempkfkjjlaaaW.PrintMore

/- It reaches: laws_eqIntS.f, laws_szIntS.f, laws_szFrame.f, laws_toIntS.f, laws_toFrame.f, laws_eqFrame.f, laws_markIntS.f, laws_heldIntS.f, laws_markFrame.f, spec_l1In.f, spec_l1All.f, spec_frStation.f, spec_frGood.f, spec_frBits.f, spec_frStuff.f, spec_frCheck.f, spec_frList.f, spec_frFlag.f, spec_WireOf.f, impl_within.f, impl_isStation.f, impl_allWithin.f, impl_IsFrame.f, impl_bitsOf.f, impl_stuffed.f, impl_check.f, impl_bytesOf.f, slices_Concat_int_int.f, impl_flag.f, impl_WireOf.f, laws_FnExactWireOf.f -/
def FnExactWireOfPure : Prop := ∀ (a0_0 : Int) (a0_1 : Int) (a0_2 : Int) (l0_3 : List Int), (Lit.int .i64 a0_0).wf = true → (Lit.int .i64 a0_1).wf = true → (Lit.int .i64 a0_2).wf = true → l0_3.length ≤ maxLen → (∀ x ∈ l0_3, (Lit.int .i64 x).wf = true) → ∃ k, laws_FnExactWireOf.f k a0_0 a0_1 a0_2 l0_3 = some true
set_option linter.unusedSimpArgs false
set_option linter.unusedVariables false
theorem wrap_id {x : Int} (h1 : -9223372036854775808 ≤ x) (h2 : x ≤ 9223372036854775807) : wrap64 x = x := by unfold wrap64; omega
theorem wrap_succ {i n : Nat} (h : i < n) (hn : n ≤ 4611686018427387904) : wrap64 ((i : Int) + 1) = ((i + 1 : Nat) : Int) := by rw [wrap_id] <;> omega
theorem rd_nat (l : List Int) {i : Nat} (h : i < l.length) : rd l (i : Int) = l[i] := by simp [rd, h]
theorem rd_mem (l : List Int) {i : Nat} (h : i < l.length) : rd l (i : Int) ∈ l := by rw [rd_nat l h]; exact List.getElem_mem h
/-- One round, and the end. -/
theorem ev_end {α : Type} {g : Nat → Option α} {r : α} (h : ∀ k, g (k + 1) = some r) : Ev g r := Ev.step h (Ev.now r)
theorem ev_of {α : Type} {g : Nat → Option α} {r : α} (h : ∀ k, g k = some r) : Ev g r := ⟨0, fun k _ => h k⟩
theorem ev_eq {α : Type} {g : Nat → Option α} {r r' : α} (h : Ev g r) (e : r = r') : Ev g r' := e ▸ h

theorem spec_l1In_eq (a b c : Int) : spec_l1In.f a b c = some (decide (b ≤ a ∧ a ≤ c)) := by
  unfold spec_l1In.f
  by_cases h : b ≤ a <;> simp [h]

theorem l1All_loop (lo hi : Int) (l : List Int) (hn : l.length ≤ 1048576) : ∀ (d i k : Nat), i + d = l.length → d < k → spec_l1All.l0 k lo hi l (l.length : Int) (i : Int) = some ((l.drop i).all fun x => decide (lo ≤ x ∧ x ≤ hi)) := by
  intro d
  induction d with
  | zero =>
    intro i k h hk
    obtain ⟨k, rfl⟩ : ∃ m, k = m + 1 := ⟨k - 1, by omega⟩
    simp only [spec_l1All.l0]
    rw [if_neg (by omega), List.drop_of_length_le (by omega)]
    rfl
  | succ d ih =>
    intro i k h hk
    obtain ⟨k, rfl⟩ : ∃ m, k = m + 1 := ⟨k - 1, by omega⟩
    have hlt : i < l.length := by omega
    simp only [spec_l1All.l0, spec_l1In_eq, Option.bind_some]
    rw [if_pos (by omega), if_pos (by omega), if_pos (by omega), rd_nat l hlt, wrap_succ hlt (by omega), ih (i + 1) k (by omega) (by omega), List.drop_eq_getElem_cons hlt, List.all_cons]
    by_cases c : lo ≤ l[i] ∧ l[i] ≤ hi <;> simp [c]
theorem spec_l1All_eq {k : Nat} {l : List Int} {lo hi : Int} (hn : l.length ≤ 1048576) (hk : l.length < k) : spec_l1All.f k l lo hi = some (l.all fun x => decide (lo ≤ x ∧ x ≤ hi)) := by
  unfold spec_l1All.f
  simpa using l1All_loop lo hi l hn l.length 0 k (by omega) hk

theorem impl_within_eq (a b c : Int) : impl_within.f a b c = some (decide (b ≤ a ∧ a ≤ c)) := by
  unfold impl_within.f
  by_cases h : b ≤ a <;> simp [h]

theorem eqIntS_loop (l : List Int) (hn : l.length ≤ 1048576) : ∀ (d i k : Nat), i + d = l.length → d < k → laws_eqIntS.l0 k l l (i : Int) = some true := by
  intro d
  induction d with
  | zero =>
    intro i k h hk
    obtain ⟨k, rfl⟩ : ∃ m, k = m + 1 := ⟨k - 1, by omega⟩
    simp only [laws_eqIntS.l0]
    rw [if_neg (by omega)]
  | succ d ih =>
    intro i k h hk
    obtain ⟨k, rfl⟩ : ∃ m, k = m + 1 := ⟨k - 1, by omega⟩
    simp only [laws_eqIntS.l0]
    rw [if_pos (by omega), if_pos (by omega), if_pos (by omega), if_pos trivial, wrap_succ (n := l.length) (by omega) (by omega)]
    exact ih (i + 1) k (by omega) (by omega)
theorem eqIntS_refl {k : Nat} {l : List Int} (hn : l.length ≤ 1048576) (hk : l.length < k) : laws_eqIntS.f k l l = some true := by
  unfold laws_eqIntS.f
  rw [if_pos rfl]
  exact eqIntS_loop l hn l.length 0 k (by omega) hk

/-- What both call a frame. -/
def frameB (a b p : Int) (l : List Int) : Bool := decide ((0 ≤ a ∧ a ≤ 11) ∧ (0 ≤ b ∧ b ≤ 11) ∧ (0 ≤ p ∧ p ≤ 7)) && (decide (l.length ≤ 16) && l.all fun x => decide (0 ≤ x ∧ x ≤ 255))
theorem frameB_head {a b p : Int} {l : List Int} (h : frameB a b p l = true) : (0 ≤ a ∧ a ≤ 11) ∧ (0 ≤ b ∧ b ≤ 11) ∧ (0 ≤ p ∧ p ≤ 7) := by simp only [frameB, Bool.and_eq_true, decide_eq_true_eq] at h; exact h.1
theorem frameB_len {a b p : Int} {l : List Int} (h : frameB a b p l = true) : l.length ≤ 16 := by simp only [frameB, Bool.and_eq_true, decide_eq_true_eq] at h; exact h.2.1
theorem frameB_mem {a b p : Int} {l : List Int} (h : frameB a b p l = true) : ∀ x ∈ l, 0 ≤ x ∧ x ≤ 255 := by simp only [frameB, Bool.and_eq_true, decide_eq_true_eq, List.all_eq_true] at h; exact h.2.2
theorem spec_frGood_eq {k : Nat} {a b p : Int} {l : List Int} (hn : l.length ≤ 1048576) (hk : l.length < k) : spec_frGood.f k a b p l = some (frameB a b p l) := by
  unfold spec_frGood.f spec_frStation.f frameB
  simp only [spec_l1In_eq, Option.bind_some, spec_l1All_eq hn hk]
  by_cases h0 : 0 ≤ a ∧ a ≤ 11 <;> by_cases h1 : 0 ≤ b ∧ b ≤ 11 <;> by_cases h2 : 0 ≤ p ∧ p ≤ 7 <;> by_cases h3 : l.length ≤ 16 <;>
    simp only [h0, h1, h2, h3, decide_true, decide_false, if_true, and_true, true_and, and_false, false_and, Bool.true_and, Bool.false_and, if_neg (show ¬ (false = true) by decide), show ((l.length : Int) ≤ 16) = (l.length ≤ 16) from propext ⟨fun h => by omega, fun h => by omega⟩, if_false]
theorem impl_IsFrame_eq (a b p : Int) (l : List Int) : impl_IsFrame.f a b p l = some (frameB a b p l) := by
  unfold impl_IsFrame.f impl_isStation.f impl_allWithin.f frameB
  simp only [impl_within_eq, Option.bind_some]
  by_cases h0 : 0 ≤ a ∧ a ≤ 11 <;> by_cases h1 : 0 ≤ b ∧ b ≤ 11 <;> by_cases h2 : 0 ≤ p ∧ p ≤ 7 <;> by_cases h3 : l.length ≤ 16 <;>
    simp only [h0, h1, h2, h3, decide_true, decide_false, if_true, and_true, true_and, and_false, false_and, Bool.true_and, Bool.false_and, if_neg (show ¬ (false = true) by decide), show ((l.length : Int) ≤ 16) = (l.length ≤ 16) from propext ⟨fun h => by omega, fun h => by omega⟩, if_false]
theorem eqFrame_refl {k : Nat} {a b p : Int} {l : List Int} (hn : l.length ≤ 1048576) (hk : l.length < k) : laws_eqFrame.f k a b p l a b p l = some true := by
  unfold laws_eqFrame.f
  simp only [if_true, eqIntS_refl hn hk, Option.bind_some]

theorem xor_nat {a b : Nat} (ha : a < 4294967296) (hb : b < 4294967296) : Go.bits .xor .i64 (a : Int) (b : Int) = ((a ^^^ b : Nat) : Int) := by
  have ha' : a % 2 ^ 64 = a := Nat.mod_eq_of_lt (by omega)
  have hb' : b % 2 ^ 64 = b := Nat.mod_eq_of_lt (by omega)
  have hx : a ^^^ b < 4294967296 := Nat.xor_lt_two_pow (n := 32) ha hb
  have e : Go.bits .xor .i64 (a : Int) (b : Int) = IntKind.i64.wrap (((a ^^^ b : Nat)) : Int) := by
    simp only [bits, BitVec.ofInt_natCast, BitVec.toNat_xor, BitVec.toNat_ofNat]
    rw [show IntKind.i64.bits = 64 from rfl, ha', hb']
  rw [e, IntKind.wrap_i64]
  omega
/-- One step of the check's division, on a byte. -/
def crcStep (r : Nat) : Nat := if r * 2 > 255 then (r * 2 - 256) ^^^ 7 else r * 2
theorem crcStep_lt {r : Nat} (h : r < 256) : crcStep r < 256 := by
  unfold crcStep
  split
  · exact Nat.xor_lt_two_pow (n := 8) (by omega) (by omega)
  · omega
theorem crc_263 : ∀ x : Fin 256, 128 ≤ x.val → (x.val * 2) ^^^ 263 = (x.val * 2 - 256) ^^^ 7 := by decide +kernel
def crcIter : Nat → Nat → Nat
  | 0, r => r
  | d + 1, r => crcIter d (crcStep r)
theorem crcIter_lt : ∀ (d : Nat) {r : Nat}, r < 256 → crcIter d r < 256
  | 0, _, h => h
  | d + 1, _, h => crcIter_lt d (crcStep_lt h)
/-- The check of bytes, from a rest on. -/
def crcOf (n : Nat) : Nat → List Int → Nat
  | r, [] => r
  | r, b :: t => crcOf n (crcIter n (r ^^^ b.toNat)) t
theorem crcOf_cons (n r : Nat) (b : Int) (t : List Int) : crcOf n r (b :: t) = crcOf n (crcIter n (r ^^^ b.toNat)) t := rfl
theorem byte_nat {l : List Int} (hb : ∀ x ∈ l, 0 ≤ x ∧ x ≤ 255) {i : Nat} (hi : i < l.length) : ∃ b : Nat, l[i] = (b : Int) ∧ b < 256 := by
  have := hb l[i] (List.getElem_mem hi)
  exact ⟨l[i].toNat, by omega, by omega⟩
theorem crcOf_lt : ∀ (l : List Int) {r : Nat}, r < 256 → (∀ x ∈ l, 0 ≤ x ∧ x ≤ 255) → crcOf 8 r l < 256
  | [], _, h, _ => h
  | b :: t, r, h, hb => by
    have := hb b (by simp)
    rw [crcOf_cons]
    exact crcOf_lt t (crcIter_lt 8 (Nat.xor_lt_two_pow (n := 8) h (by omega))) (fun x hx => hb x (by simp [hx]))

theorem spec_check_l1 (l : List Int) (n i : Int) (v : Int) : ∀ (d j r : Nat), j + d = 8 → r < 256 → Ev (fun k => spec_frCheck.l0 k (crcIter d r : Int) l n (wrap64 (i + 1))) v → Ev (fun k => spec_frCheck.l1 k (r : Int) (j : Int) l n i) v := by
  intro d
  induction d with
  | zero =>
    intro j r h hr hv
    refine Ev.step (fun k => ?_) hv
    simp only [spec_frCheck.l1]
    rw [if_neg (by omega)]; simp only [crcIter]
  | succ d ih =>
    intro j r h hr hv
    refine Ev.step (fun k => ?_) (ih (j + 1) (crcStep r) (by omega) (crcStep_lt hr) (by simpa only [crcIter] using hv))
    simp only [spec_frCheck.l1]
    rw [if_pos (by omega), wrap_id (x := (r : Int) * 2) (by omega) (by omega), wrap_id (x := (j : Int) + 1) (by omega) (by omega)]
    by_cases c : r * 2 > 255
    · rw [if_pos (by omega)]
      have e : Int.tmod ((r : Int) * 2) 256 = ((r * 2 - 256 : Nat) : Int) := by
        rw [Int.tmod_eq_emod_of_nonneg (by omega)]; omega
      have e2 : Go.bits .xor .i64 (Int.tmod ((r : Int) * 2) 256) 7 = ((crcStep r : Nat) : Int) := by
        rw [e, show (7 : Int) = ((7 : Nat) : Int) from rfl, xor_nat (by omega) (by omega), crcStep, if_pos c]
      rw [e2, show ((j + 1 : Nat) : Int) = (j : Int) + 1 from by omega]
    · rw [if_neg (by omega)]
      have e2 : (r : Int) * 2 = ((crcStep r : Nat) : Int) := by rw [crcStep, if_neg c]; omega
      rw [e2, show ((j + 1 : Nat) : Int) = (j : Int) + 1 from by omega]
theorem spec_check_l0 (l : List Int) (hb : ∀ x ∈ l, 0 ≤ x ∧ x ≤ 255) (hn : l.length ≤ 1048576) : ∀ (d i r : Nat), i + d = l.length → r < 256 → Ev (fun k => spec_frCheck.l0 k (r : Int) l (l.length : Int) (i : Int)) (crcOf 8 r (l.drop i) : Int) := by
  intro d
  induction d with
  | zero =>
    intro i r h hr
    refine ev_end (fun k => ?_)
    simp only [spec_frCheck.l0]
    rw [if_neg (by omega), List.drop_of_length_le (by omega)]; rfl
  | succ d ih =>
    intro i r h hr
    have hi : i < l.length := by omega
    obtain ⟨b, eb, hb2⟩ := byte_nat hb hi
    have hx : r ^^^ b < 256 := Nat.xor_lt_two_pow (n := 8) hr hb2
    have e : crcOf 8 r (l.drop i) = crcOf 8 (crcIter 8 (r ^^^ b)) (l.drop (i + 1)) := by
      rw [List.drop_eq_getElem_cons hi, crcOf_cons, eb, Int.toNat_natCast]
    have next := ih (i + 1) (crcIter 8 (r ^^^ b)) (by omega) (crcIter_lt 8 hx)
    rw [← e, ← wrap_succ hi (by omega)] at next
    refine Ev.step (fun k => ?_) (spec_check_l1 l (l.length : Int) (i : Int) _ 8 0 (r ^^^ b) rfl hx next)
    simp only [spec_frCheck.l0]
    rw [if_pos (by omega), if_pos (by omega), if_pos (by omega), rd_nat l hi, eb, xor_nat (by omega) (by omega), show ((0 : Nat) : Int) = 0 from rfl]
theorem spec_frCheck_ev {l : List Int} (hb : ∀ x ∈ l, 0 ≤ x ∧ x ≤ 255) (hn : l.length ≤ 1048576) : Ev (fun k => spec_frCheck.f k l) (crcOf 8 0 l : Int) := by
  unfold spec_frCheck.f
  simpa using spec_check_l0 l hb hn l.length 0 0 (by omega) (by omega)

theorem impl_check_l1 (l : List Int) (n i : Int) (v : Int) : ∀ (d j r : Nat), j + d = 8 → r < 256 → Ev (fun k => impl_check.l0 k (crcIter d r : Int) l n (wrap64 (i + 1))) v → Ev (fun k => impl_check.l1 k (r : Int) l n i (j : Int)) v := by
  intro d
  induction d with
  | zero =>
    intro j r h hr hv
    refine Ev.step (fun k => ?_) hv
    simp only [impl_check.l1]
    rw [if_neg (by omega)]; simp only [crcIter]
  | succ d ih =>
    intro j r h hr hv
    refine Ev.step (fun k => ?_) (ih (j + 1) (crcStep r) (by omega) (crcStep_lt hr) (by simpa only [crcIter] using hv))
    simp only [impl_check.l1]
    rw [if_pos (by omega), wrap_id (x := (r : Int) * 2) (by omega) (by omega), wrap_id (x := (j : Int) + 1) (by omega) (by omega)]
    by_cases c : r * 2 > 255
    · rw [if_pos (by omega)]
      have e2 : Go.bits .xor .i64 ((r : Int) * 2) 263 = ((crcStep r : Nat) : Int) := by
        rw [show (263 : Int) = ((263 : Nat) : Int) from rfl, show (r : Int) * 2 = ((r * 2 : Nat) : Int) from by omega, xor_nat (by omega) (by omega), crcStep, if_pos c]
        exact congrArg (Nat.cast : Nat → Int) (crc_263 ⟨r, hr⟩ (by show 128 ≤ r; omega))
      rw [e2, show ((j + 1 : Nat) : Int) = (j : Int) + 1 from by omega]
    · rw [if_neg (by omega)]
      have e2 : (r : Int) * 2 = ((crcStep r : Nat) : Int) := by rw [crcStep, if_neg c]; omega
      rw [e2, show ((j + 1 : Nat) : Int) = (j : Int) + 1 from by omega]
theorem impl_check_l0 (l : List Int) (hb : ∀ x ∈ l, 0 ≤ x ∧ x ≤ 255) (hn : l.length ≤ 1048576) : ∀ (d i r : Nat), i + d = l.length → r < 256 → Ev (fun k => impl_check.l0 k (r : Int) l (l.length : Int) (i : Int)) (crcOf 8 r (l.drop i) : Int) := by
  intro d
  induction d with
  | zero =>
    intro i r h hr
    refine ev_end (fun k => ?_)
    simp only [impl_check.l0]
    rw [if_neg (by omega), List.drop_of_length_le (by omega)]; rfl
  | succ d ih =>
    intro i r h hr
    have hi : i < l.length := by omega
    obtain ⟨b, eb, hb2⟩ := byte_nat hb hi
    have hx : r ^^^ b < 256 := Nat.xor_lt_two_pow (n := 8) hr hb2
    have e : crcOf 8 r (l.drop i) = crcOf 8 (crcIter 8 (r ^^^ b)) (l.drop (i + 1)) := by
      rw [List.drop_eq_getElem_cons hi, crcOf_cons, eb, Int.toNat_natCast]
    have next := ih (i + 1) (crcIter 8 (r ^^^ b)) (by omega) (crcIter_lt 8 hx)
    rw [← e, ← wrap_succ hi (by omega)] at next
    refine Ev.step (fun k => ?_) (impl_check_l1 l (l.length : Int) (i : Int) _ 8 0 (r ^^^ b) rfl hx next)
    simp only [impl_check.l0]
    rw [if_pos (by omega), if_pos (by omega), if_pos (by omega), rd_nat l hi, eb, xor_nat (by omega) (by omega), show ((0 : Nat) : Int) = 0 from rfl]
theorem impl_check_ev {l : List Int} (hb : ∀ x ∈ l, 0 ≤ x ∧ x ≤ 255) (hn : l.length ≤ 1048576) : Ev (fun k => impl_check.f k l) (crcOf 8 0 l : Int) := by
  unfold impl_check.f
  simpa using impl_check_l0 l hb hn l.length 0 0 (by omega) (by omega)

theorem and_nat {a b : Nat} (ha : a < 4294967296) (hb : b < 4294967296) : Go.bits .and .i64 (a : Int) (b : Int) = ((a &&& b : Nat) : Int) := by
  have ha' : a % 2 ^ 64 = a := Nat.mod_eq_of_lt (by omega)
  have hb' : b % 2 ^ 64 = b := Nat.mod_eq_of_lt (by omega)
  have hx : a &&& b < 4294967296 := Nat.lt_of_le_of_lt Nat.and_le_left ha
  have e : Go.bits .and .i64 (a : Int) (b : Int) = IntKind.i64.wrap (((a &&& b : Nat)) : Int) := by
    simp only [bits, BitVec.ofInt_natCast, BitVec.toNat_and, BitVec.toNat_ofNat]
    rw [show IntKind.i64.bits = 64 from rfl, ha', hb']
  rw [e, IntKind.wrap_i64]
  omega
theorem shr_nat (b j : Nat) (hj : j ≤ 64) : shr .i64 (b : Int) (j : Int) = ((b / 2 ^ j : Nat) : Int) := by
  unfold shr
  rw [Int.toNat_natCast, show min j IntKind.i64.bits = j from Nat.min_eq_left hj]
  rw [Int.natCast_ediv, Int.natCast_pow]; rfl
/-- The j last bits of a number, the greatest first. -/
def bitsN : Nat → Nat → List Int
  | 0, _ => []
  | j + 1, b => ((b / 2 ^ j % 2 : Nat) : Int) :: bitsN j b
theorem bitsN_length : ∀ (j b : Nat), (bitsN j b).length = j
  | 0, _ => rfl
  | j + 1, b => by rw [bitsN, List.length_cons, bitsN_length j b]
def bitsL : List Int → List Int
  | [] => []
  | b :: t => bitsN 8 b.toNat ++ bitsL t
theorem bitsL_length : ∀ l : List Int, (bitsL l).length = 8 * l.length
  | [] => rfl
  | b :: t => by rw [bitsL, List.length_append, bitsN_length, bitsL_length t, List.length_cons]; omega

theorem spec_frBits_l1 (l : List Int) (n i : Int) (v : List Int) (b : Nat) (hb : b < 256) : ∀ (j : Nat) (acc : List Int), j ≤ 8 → acc.length + j ≤ 1099511627776 → Ev (fun k => spec_frBits.l0 k (acc ++ bitsN j b) l n (wrap64 (i + 1))) v → Ev (fun k => spec_frBits.l1 k acc (b : Int) ((j : Int) - 1) l n i) v := by
  intro j
  induction j with
  | zero =>
    intro acc _ ha hv
    refine Ev.step (fun k => ?_) hv
    simp only [spec_frBits.l1]
    rw [if_neg (by omega)]; simp only [bitsN, List.append_nil]
  | succ j ih =>
    intro acc hj ha hv
    have hv2 : Ev (fun k => spec_frBits.l0 k ((acc ++ [((b / 2 ^ j % 2 : Nat) : Int)]) ++ bitsN j b) l n (wrap64 (i + 1))) v := by
      rw [List.append_assoc]; exact hv
    refine Ev.step (fun k => ?_) (ih (acc ++ [((b / 2 ^ j % 2 : Nat) : Int)]) (by omega) (by simp; omega) hv2)
    simp only [spec_frBits.l1]
    have e : ((j + 1 : Nat) : Int) - 1 = (j : Int) := by omega
    have e2 : Int.tmod (shr .i64 (b : Int) (j : Int)) 2 = ((b / 2 ^ j % 2 : Nat) : Int) := by
      rw [shr_nat b j (by omega), Int.tmod_eq_emod_of_nonneg (Int.natCast_nonneg _)]; rfl
    rw [e, if_pos (by omega), if_pos (by omega), if_pos (by omega), e2, wrap_id (by omega) (by omega)]
theorem spec_frBits_l0 (l : List Int) (hb : ∀ x ∈ l, 0 ≤ x ∧ x ≤ 255) (hn : l.length ≤ 1048576) : ∀ (d i : Nat) (acc : List Int), i + d = l.length → acc.length + 8 * d ≤ 1099511627776 → Ev (fun k => spec_frBits.l0 k acc l (l.length : Int) (i : Int)) (acc ++ bitsL (l.drop i)) := by
  intro d
  induction d with
  | zero =>
    intro i acc h _
    refine ev_end (fun k => ?_)
    simp only [spec_frBits.l0]
    rw [if_neg (by omega), List.drop_of_length_le (by omega), bitsL, List.append_nil]
  | succ d ih =>
    intro i acc h ha
    have hi : i < l.length := by omega
    obtain ⟨b, eb, hb2⟩ := byte_nat hb hi
    have next := ih (i + 1) (acc ++ bitsN 8 b) (by omega) (by rw [List.length_append, bitsN_length]; omega)
    rw [← wrap_succ hi (by omega)] at next
    have e : acc ++ bitsL (l.drop i) = acc ++ bitsN 8 b ++ bitsL (l.drop (i + 1)) := by
      rw [List.drop_eq_getElem_cons hi, bitsL, eb, Int.toNat_natCast, List.append_assoc]
    rw [e]
    refine Ev.step (fun k => ?_) (spec_frBits_l1 l (l.length : Int) (i : Int) _ b hb2 8 acc (by omega) (by omega) next)
    simp only [spec_frBits.l0]
    rw [if_pos (by omega), if_pos (by omega), if_pos (by omega), rd_nat l hi, eb]; rfl
theorem spec_frBits_ev {l : List Int} (hb : ∀ x ∈ l, 0 ≤ x ∧ x ≤ 255) (hn : l.length ≤ 1048576) : Ev (fun k => spec_frBits.f k l) (bitsL l) := by
  unfold spec_frBits.f
  simpa using spec_frBits_l0 l hb hn l.length 0 [] (by omega) (by simp; omega)

theorem impl_bitsOf_l1 (l : List Int) (n i : Int) (v : List Int) (b : Nat) (hb : b < 256) : ∀ (j : Nat) (acc : List Int), j ≤ 8 → acc.length + j ≤ 1099511627776 → Ev (fun k => impl_bitsOf.l0 k (acc ++ bitsN j b) l n (wrap64 (i + 1))) v → Ev (fun k => impl_bitsOf.l1 k acc (b : Int) ((j : Int) - 1) l n i) v := by
  intro j
  induction j with
  | zero =>
    intro acc _ ha hv
    refine Ev.step (fun k => ?_) hv
    simp only [impl_bitsOf.l1]
    rw [if_neg (by omega)]; simp only [bitsN, List.append_nil]
  | succ j ih =>
    intro acc hj ha hv
    have hv2 : Ev (fun k => impl_bitsOf.l0 k ((acc ++ [((b / 2 ^ j % 2 : Nat) : Int)]) ++ bitsN j b) l n (wrap64 (i + 1))) v := by
      rw [List.append_assoc]; exact hv
    refine Ev.step (fun k => ?_) (ih (acc ++ [((b / 2 ^ j % 2 : Nat) : Int)]) (by omega) (by simp; omega) hv2)
    simp only [impl_bitsOf.l1]
    have e : ((j + 1 : Nat) : Int) - 1 = (j : Int) := by omega
    have e2 : Go.bits .and .i64 (shr .i64 (b : Int) (j : Int)) 1 = ((b / 2 ^ j % 2 : Nat) : Int) := by
      have h2 : b / 2 ^ j < 4294967296 := Nat.lt_of_le_of_lt (Nat.div_le_self _ _) (by omega)
      rw [shr_nat b j (by omega), show (1 : Int) = ((1 : Nat) : Int) from rfl, and_nat h2 (by omega), Nat.and_one_is_mod]
    rw [e, if_pos (by omega), if_pos (by omega), if_pos (by omega), e2, wrap_id (by omega) (by omega)]
theorem impl_bitsOf_l0 (l : List Int) (hb : ∀ x ∈ l, 0 ≤ x ∧ x ≤ 255) (hn : l.length ≤ 1048576) : ∀ (d i : Nat) (acc : List Int), i + d = l.length → acc.length + 8 * d ≤ 1099511627776 → Ev (fun k => impl_bitsOf.l0 k acc l (l.length : Int) (i : Int)) (acc ++ bitsL (l.drop i)) := by
  intro d
  induction d with
  | zero =>
    intro i acc h _
    refine ev_end (fun k => ?_)
    simp only [impl_bitsOf.l0]
    rw [if_neg (by omega), List.drop_of_length_le (by omega), bitsL, List.append_nil]
  | succ d ih =>
    intro i acc h ha
    have hi : i < l.length := by omega
    obtain ⟨b, eb, hb2⟩ := byte_nat hb hi
    have next := ih (i + 1) (acc ++ bitsN 8 b) (by omega) (by rw [List.length_append, bitsN_length]; omega)
    rw [← wrap_succ hi (by omega)] at next
    have e : acc ++ bitsL (l.drop i) = acc ++ bitsN 8 b ++ bitsL (l.drop (i + 1)) := by
      rw [List.drop_eq_getElem_cons hi, bitsL, eb, Int.toNat_natCast, List.append_assoc]
    rw [e]
    refine Ev.step (fun k => ?_) (impl_bitsOf_l1 l (l.length : Int) (i : Int) _ b hb2 8 acc (by omega) (by omega) next)
    simp only [impl_bitsOf.l0]
    rw [if_pos (by omega), if_pos (by omega), if_pos (by omega), rd_nat l hi, eb]; rfl
theorem impl_bitsOf_ev {l : List Int} (hb : ∀ x ∈ l, 0 ≤ x ∧ x ≤ 255) (hn : l.length ≤ 1048576) : Ev (fun k => impl_bitsOf.f k l) (bitsL l) := by
  unfold impl_bitsOf.f
  simpa using impl_bitsOf_l0 l hb hn l.length 0 [] (by omega) (by simp; omega)

/-- Stuffed bits, o ones being behind. -/
def stuffF : Nat → List Int → List Int
  | _, [] => []
  | o, x :: t => if x = 0 then x :: stuffF 0 t else if o + 1 = 5 then x :: 0 :: stuffF 0 t else x :: stuffF (o + 1) t
theorem stuffF_len : ∀ (l : List Int) (o : Nat), (stuffF o l).length ≤ 2 * l.length
  | [], _ => by simp [stuffF]
  | x :: t, o => by
    have h0 := stuffF_len t 0
    have h1 := stuffF_len t (o + 1)
    unfold stuffF
    split
    · simp only [List.length_cons]; omega
    · split <;> simp only [List.length_cons] <;> omega
theorem bit_at {l : List Int} (hb : ∀ x ∈ l, 0 ≤ x ∧ x ≤ 1) {i : Nat} (hi : i < l.length) : l[i] = 0 ∨ l[i] = 1 := by
  have := hb l[i] (List.getElem_mem hi); omega

theorem spec_frStuff_l0 (l : List Int) (hb : ∀ x ∈ l, 0 ≤ x ∧ x ≤ 1) (hn : l.length ≤ 1048576) : ∀ (d i o : Nat) (acc : List Int), i + d = l.length → o ≤ 4 → acc.length + 2 * d ≤ 1099511627776 → Ev (fun k => spec_frStuff.l0 k acc (o : Int) l (l.length : Int) (i : Int)) (acc ++ stuffF o (l.drop i)) := by
  intro d
  induction d with
  | zero =>
    intro i o acc h _ _
    refine ev_end (fun k => ?_)
    simp only [spec_frStuff.l0]
    rw [if_neg (by omega), List.drop_of_length_le (by omega), stuffF, List.append_nil]
  | succ d ih =>
    intro i o acc h ho ha
    have hi : i < l.length := by omega
    rw [List.drop_eq_getElem_cons hi, stuffF]
    rcases bit_at hb hi with e | e
    · rw [if_pos e, show acc ++ l[i] :: stuffF 0 (l.drop (i + 1)) = (acc ++ [l[i]]) ++ stuffF 0 (l.drop (i + 1)) from by rw [List.append_assoc]; rfl]
      refine Ev.step (fun k => ?_) (ih (i + 1) 0 (acc ++ [l[i]]) (by omega) (by omega) (by simp; omega))
      simp only [spec_frStuff.l0]
      rw [if_pos (by omega), if_pos (by omega), if_pos (by omega), if_pos (by omega), Option.bind_some, rd_nat l hi, e, wrap_id (x := (o : Int) + 1) (by omega) (by omega), wrap_id (by omega) (by omega), if_neg (by omega), wrap_succ hi (by omega)]; rfl
    · rw [if_neg (by omega)]
      by_cases h5 : o + 1 = 5
      · rw [if_pos h5, show acc ++ l[i] :: 0 :: stuffF 0 (l.drop (i + 1)) = ((acc ++ [l[i]]) ++ [0]) ++ stuffF 0 (l.drop (i + 1)) from by rw [List.append_assoc, List.append_assoc]; rfl]
        refine Ev.step (fun k => ?_) (ih (i + 1) 0 ((acc ++ [l[i]]) ++ [0]) (by omega) (by omega) (by simp; omega))
        simp only [spec_frStuff.l0]
        rw [if_pos (by omega), if_pos (by omega), if_pos (by omega), if_pos (by omega), Option.bind_some, rd_nat l hi, e, wrap_id (x := (o : Int) + 1) (by omega) (by omega), wrap_id (by omega) (by omega), if_pos (by omega), if_pos (by simp; omega), wrap_succ hi (by omega)]; rfl
      · rw [if_neg h5, show acc ++ l[i] :: stuffF (o + 1) (l.drop (i + 1)) = (acc ++ [l[i]]) ++ stuffF (o + 1) (l.drop (i + 1)) from by rw [List.append_assoc]; rfl]
        refine Ev.step (fun k => ?_) (ih (i + 1) (o + 1) (acc ++ [l[i]]) (by omega) (by omega) (by simp; omega))
        simp only [spec_frStuff.l0]
        rw [if_pos (by omega), if_pos (by omega), if_pos (by omega), if_pos (by omega), Option.bind_some, rd_nat l hi, e, wrap_id (x := (o : Int) + 1) (by omega) (by omega), wrap_id (by omega) (by omega), if_neg (by omega), wrap_succ hi (by omega), show ((o : Int) + 1) * 1 = ((o + 1 : Nat) : Int) from by omega]
theorem spec_frStuff_ev {l : List Int} (hb : ∀ x ∈ l, 0 ≤ x ∧ x ≤ 1) (hn : l.length ≤ 1048576) : Ev (fun k => spec_frStuff.f k l) (stuffF 0 l) := by
  unfold spec_frStuff.f
  simpa using spec_frStuff_l0 l hb hn l.length 0 0 [] (by omega) (by omega) (by simp; omega)

theorem impl_stuffed_l0 (l : List Int) (hb : ∀ x ∈ l, 0 ≤ x ∧ x ≤ 1) (hn : l.length ≤ 1048576) : ∀ (d i o : Nat) (acc : List Int), i + d = l.length → o ≤ 4 → acc.length + 2 * d ≤ 1099511627776 → Ev (fun k => impl_stuffed.l0 k acc (o : Int) l (l.length : Int) (i : Int)) (acc ++ stuffF o (l.drop i)) := by
  intro d
  induction d with
  | zero =>
    intro i o acc h _ _
    refine ev_end (fun k => ?_)
    simp only [impl_stuffed.l0]
    rw [if_neg (by omega), List.drop_of_length_le (by omega), stuffF, List.append_nil]
  | succ d ih =>
    intro i o acc h ho ha
    have hi : i < l.length := by omega
    rw [List.drop_eq_getElem_cons hi, stuffF]
    rcases bit_at hb hi with e | e
    · rw [if_pos e, show acc ++ l[i] :: stuffF 0 (l.drop (i + 1)) = (acc ++ [l[i]]) ++ stuffF 0 (l.drop (i + 1)) from by rw [List.append_assoc]; rfl]
      refine Ev.step (fun k => ?_) (ih (i + 1) 0 (acc ++ [l[i]]) (by omega) (by omega) (by simp; omega))
      simp only [impl_stuffed.l0]
      rw [if_pos (by omega), if_pos (by omega), if_pos (by omega), if_pos (by omega), Option.bind_some, rd_nat l hi, if_pos e, wrap_succ hi (by omega)]; rfl
    · rw [if_neg (by omega)]
      by_cases h5 : o + 1 = 5
      · rw [if_pos h5, show acc ++ l[i] :: 0 :: stuffF 0 (l.drop (i + 1)) = ((acc ++ [l[i]]) ++ [0]) ++ stuffF 0 (l.drop (i + 1)) from by rw [List.append_assoc, List.append_assoc]; rfl]
        refine Ev.step (fun k => ?_) (ih (i + 1) 0 ((acc ++ [l[i]]) ++ [0]) (by omega) (by omega) (by simp; omega))
        simp only [impl_stuffed.l0]
        rw [if_pos (by omega), if_pos (by omega), if_pos (by omega), if_pos (by omega), Option.bind_some, rd_nat l hi, if_neg (by omega), wrap_id (x := (o : Int) + 1) (by omega) (by omega), if_pos (by omega), if_pos (by simp; omega), wrap_succ hi (by omega)]; rfl
      · rw [if_neg h5, show acc ++ l[i] :: stuffF (o + 1) (l.drop (i + 1)) = (acc ++ [l[i]]) ++ stuffF (o + 1) (l.drop (i + 1)) from by rw [List.append_assoc]; rfl]
        refine Ev.step (fun k => ?_) (ih (i + 1) (o + 1) (acc ++ [l[i]]) (by omega) (by omega) (by simp; omega))
        simp only [impl_stuffed.l0]
        rw [if_pos (by omega), if_pos (by omega), if_pos (by omega), if_pos (by omega), Option.bind_some, rd_nat l hi, if_neg (by omega), wrap_id (x := (o : Int) + 1) (by omega) (by omega), if_neg (by omega), wrap_succ hi (by omega), show (o : Int) + 1 = ((o + 1 : Nat) : Int) from by omega]
theorem impl_stuffed_ev {l : List Int} (hb : ∀ x ∈ l, 0 ≤ x ∧ x ≤ 1) (hn : l.length ≤ 1048576) : Ev (fun k => impl_stuffed.f k l) (stuffF 0 l) := by
  unfold impl_stuffed.f
  simpa using impl_stuffed_l0 l hb hn l.length 0 0 [] (by omega) (by omega) (by simp; omega)

/-- n numbers from m on. -/
def marks (m : Int) (n : Nat) : List Int := (List.range n).map fun (j : Nat) => m + (j : Int)
theorem marks_length (m : Int) (n : Nat) : (marks m n).length = n := by simp [marks]
theorem marks_succ (m : Int) (n : Nat) : marks m (n + 1) = marks m n ++ [m + (n : Int)] := by simp [marks, List.range_succ]
theorem markIntS_loop (l : List Int) (m : Int) (hm : 0 ≤ m) (hm2 : m ≤ 1099511627776) (hn : l.length ≤ 1048576) : ∀ (d i k : Nat), i + d = l.length → d < k →
    laws_markIntS.l0 k (marks m i ++ l.drop i) (m + (i : Int)) (i : Int) = some (m + (l.length : Int), marks m l.length) := by
  intro d
  induction d with
  | zero =>
    intro i k h hk
    obtain ⟨k, rfl⟩ : ∃ m, k = m + 1 := ⟨k - 1, by omega⟩
    obtain rfl : i = l.length := by omega
    simp only [laws_markIntS.l0]
    rw [if_neg (by simp [marks_length])]
    simp
  | succ d ih =>
    intro i k h hk
    obtain ⟨k, rfl⟩ : ∃ m, k = m + 1 := ⟨k - 1, by omega⟩
    have hi : i < l.length := by omega
    have e : (marks m i ++ l.drop i).set i (m + (i : Int)) = marks m (i + 1) ++ l.drop (i + 1) := by
      rw [List.set_append_right _ _ (by simp [marks_length]), marks_length, Nat.sub_self, List.drop_eq_getElem_cons hi, List.set_cons_zero, marks_succ, List.append_assoc]; rfl
    simp only [laws_markIntS.l0]
    rw [if_pos (by simp [marks_length]; omega), if_pos (by omega), Int.toNat_natCast, e, wrap_succ hi (by omega), show wrap64 (m + (i : Int) + 1) = m + ((i + 1 : Nat) : Int) from by rw [wrap_id] <;> omega]
    exact ih (i + 1) k (by omega) (by omega)
theorem markIntS_eq {k : Nat} {l : List Int} {m : Int} (hm : 0 ≤ m) (hm2 : m ≤ 1099511627776) (hn : l.length ≤ 1048576) (hk : l.length < k) : laws_markIntS.f k l m = some (m + (l.length : Int), marks m l.length) := by
  unfold laws_markIntS.f
  have := markIntS_loop l m hm hm2 hn l.length 0 k (by omega) hk
  simpa [marks] using this
theorem heldIntS_loop (n : Nat) (m : Int) (hm : 0 ≤ m) (hm2 : m ≤ 1099511627776) (hn : n ≤ 1048576) : ∀ (d i k : Nat), i + d = n → d < k → laws_heldIntS.l0 k (marks m n) (m + (i : Int)) (i : Int) = some (m + (n : Int)) := by
  intro d
  induction d with
  | zero =>
    intro i k h hk
    obtain ⟨k, rfl⟩ : ∃ m, k = m + 1 := ⟨k - 1, by omega⟩
    obtain rfl : i = n := by omega
    simp only [laws_heldIntS.l0]
    rw [if_neg (by simp [marks_length])]
  | succ d ih =>
    intro i k h hk
    obtain ⟨k, rfl⟩ : ∃ m, k = m + 1 := ⟨k - 1, by omega⟩
    have hi : i < n := by omega
    have e : rd (marks m n) (i : Int) = m + (i : Int) := by rw [rd_nat _ (by simpa [marks_length] using hi)]; simp [marks]
    simp only [laws_heldIntS.l0]
    rw [if_pos (by simp [marks_length]; omega), if_pos (by omega), if_pos e, wrap_succ hi (by omega), show wrap64 (m + (i : Int) + 1) = m + ((i + 1 : Nat) : Int) from by rw [wrap_id] <;> omega]
    exact ih (i + 1) k (by omega) (by omega)
theorem heldIntS_eq {k n : Nat} {m : Int} (hm : 0 ≤ m) (hm2 : m ≤ 1099511627776) (hn : n ≤ 1048576) (hk : n < k) : laws_heldIntS.f k (marks m n) m = some (m + (n : Int)) := by
  unfold laws_heldIntS.f
  simpa using heldIntS_loop n m hm hm2 hn n 0 k (by omega) hk

theorem toIntS_loop (l : List Int) (hn : l.length ≤ 1048576) : ∀ (d i k : Nat), i + d = l.length → d < k → laws_toIntS.l0 k l (l.take i ++ List.replicate d 0) (i : Int) = some l := by
  intro d
  induction d with
  | zero =>
    intro i k h hk
    obtain ⟨k, rfl⟩ : ∃ m, k = m + 1 := ⟨k - 1, by omega⟩
    simp only [laws_toIntS.l0]
    rw [if_neg (by omega)]
    simp [List.take_of_length_le (show l.length ≤ i by omega)]
  | succ d ih =>
    intro i k h hk
    obtain ⟨k, rfl⟩ : ∃ m, k = m + 1 := ⟨k - 1, by omega⟩
    have hi : i < l.length := by omega
    have e : (l.take i ++ List.replicate (d + 1) 0).set i (rd l (i : Int)) = l.take (i + 1) ++ List.replicate d 0 := by
      rw [rd_nat l hi, List.set_append_right _ _ (by simp; omega)]
      simp only [List.length_take, Nat.min_eq_left (Nat.le_of_lt hi), Nat.sub_self, List.replicate_succ, List.set_cons_zero]
      rw [List.take_succ_eq_append_getElem hi, List.append_assoc]; rfl
    simp only [laws_toIntS.l0]
    rw [if_pos (by omega), if_pos (by omega), if_pos (by simp; omega), Int.toNat_natCast, e, wrap_succ hi (by omega)]
    exact ih (i + 1) k (by omega) (by omega)
theorem toIntS_eq {k : Nat} {l : List Int} (hn : l.length ≤ 1048576) (hk : l.length < k) : laws_toIntS.f k l = some l := by
  unfold laws_toIntS.f
  rw [if_pos (by omega), if_pos (by omega), Int.toNat_natCast]
  have := toIntS_loop l hn l.length 0 k (by omega) hk
  simpa using this

theorem szFrame_big {a b p : Int} {l : List Int} (hm : l.length ≤ 9223372036854775807) (h : ¬ l.length ≤ 1048576) : laws_szFrame.f a b p l 1048576 = some (-1) := by
  unfold laws_szFrame.f laws_szIntS.f
  rw [wrap_id (by omega) (by omega), if_pos (by omega)]; rfl
theorem szFrame_ok {a b p : Int} {l : List Int} (h : l.length ≤ 1048576) : laws_szFrame.f a b p l 1048576 = some (1048576 - (l.length : Int)) := by
  unfold laws_szFrame.f laws_szIntS.f
  rw [wrap_id (by omega) (by omega), if_neg (by omega), Option.bind_some, if_neg (by omega)]
theorem toFrame_eq {k : Nat} {a b p : Int} {l : List Int} (hn : l.length ≤ 1048576) (hk : l.length < k) : laws_toFrame.f k a b p l = some (a, b, p, l) := by
  unfold laws_toFrame.f
  rw [toIntS_eq hn hk]; rfl

theorem bitsN_mem : ∀ (j b : Nat), ∀ x ∈ bitsN j b, 0 ≤ x ∧ x ≤ 1
  | 0, _, _, h => by simp [bitsN] at h
  | j + 1, b, x, h => by
    rw [bitsN] at h
    rcases List.mem_cons.1 h with rfl | h
    · omega
    · exact bitsN_mem j b x h
theorem bitsL_mem : ∀ (l : List Int), ∀ x ∈ bitsL l, 0 ≤ x ∧ x ≤ 1
  | [], _, h => by simp [bitsL] at h
  | b :: t, x, h => by
    rw [bitsL] at h
    rcases List.mem_append.1 h with h | h
    · exact bitsN_mem _ _ x h
    · exact bitsL_mem t x h
theorem impl_list_ev {a b p : Int} {l : List Int} (h : frameB a b p l = true) : Ev (fun k => impl_bytesOf.f k a b p l) ([a * 16 + b, p * 32 + (l.length : Int)] ++ l ++ [(crcOf 8 0 ([a * 16 + b, p * 32 + (l.length : Int)] ++ l) : Int)]) := by
  obtain ⟨⟨h1, h2⟩, ⟨h3, h4⟩, h5, h6⟩ := frameB_head h
  have hl := frameB_len h
  have w1 : wrap64 (wrap64 (a * 16) + b) = a * 16 + b := by rw [wrap_id (x := a * 16) (by omega) (by omega), wrap_id (by omega) (by omega)]
  have w2 : wrap64 (wrap64 (p * 32) + (l.length : Int)) = p * 32 + (l.length : Int) := by rw [wrap_id (x := p * 32) (by omega) (by omega), wrap_id (by omega) (by omega)]
  have hm : ∀ x ∈ [a * 16 + b, p * 32 + (l.length : Int)] ++ l, 0 ≤ x ∧ x ≤ 255 := by
    intro x hx
    simp only [List.cons_append, List.nil_append, List.mem_cons] at hx
    rcases hx with rfl | rfl | hx
    · omega
    · omega
    · exact frameB_mem h x hx
  obtain ⟨K2, g2⟩ := impl_check_ev hm (by simp; omega)
  simp only at g2
  refine ⟨K2, fun k hk => ?_⟩
  show impl_bytesOf.f k a b p l = _
  unfold impl_bytesOf.f
  simp (disch := omega) only [Option.bind_some, if_true, w1, w2]
  rw [if_pos (by simp; omega), g2 k (by omega), Option.bind_some, if_pos (by simp; omega)]
theorem spec_list_ev {a b p : Int} {l : List Int} (h : frameB a b p l = true) : Ev (fun k => spec_frList.f k a b p l) ([a * 16 + b, p * 32 + (l.length : Int)] ++ l ++ [(crcOf 8 0 ([a * 16 + b, p * 32 + (l.length : Int)] ++ l) : Int)]) := by
  obtain ⟨⟨h1, h2⟩, ⟨h3, h4⟩, h5, h6⟩ := frameB_head h
  have hl := frameB_len h
  have w1 : wrap64 (wrap64 (a * 16) + b) = a * 16 + b := by rw [wrap_id (x := a * 16) (by omega) (by omega), wrap_id (by omega) (by omega)]
  have w2 : wrap64 (wrap64 (p * 32) + (l.length : Int)) = p * 32 + (l.length : Int) := by rw [wrap_id (x := p * 32) (by omega) (by omega), wrap_id (by omega) (by omega)]
  have hm : ∀ x ∈ [a * 16 + b, p * 32 + (l.length : Int)] ++ l, 0 ≤ x ∧ x ≤ 255 := by
    intro x hx
    simp only [List.cons_append, List.nil_append, List.mem_cons] at hx
    rcases hx with rfl | rfl | hx
    · omega
    · omega
    · exact frameB_mem h x hx
  obtain ⟨K2, g2⟩ := spec_frCheck_ev hm (by simp; omega)
  simp only at g2
  refine ⟨K2, fun k hk => ?_⟩
  show spec_frList.f k a b p l = _
  unfold spec_frList.f
  simp (disch := omega) only [Option.bind_some, if_true, w1, w2]
  rw [if_pos (by simp; omega), g2 k (by omega), Option.bind_some, if_pos (by simp; omega)]
theorem list_bytes {a b p : Int} {l : List Int} (h : frameB a b p l = true) : (∀ x ∈ [a * 16 + b, p * 32 + (l.length : Int)] ++ l ++ [(crcOf 8 0 ([a * 16 + b, p * 32 + (l.length : Int)] ++ l) : Int)], 0 ≤ x ∧ x ≤ 255) ∧ ([a * 16 + b, p * 32 + (l.length : Int)] ++ l ++ [(crcOf 8 0 ([a * 16 + b, p * 32 + (l.length : Int)] ++ l) : Int)]).length ≤ 19 := by
  obtain ⟨⟨h1, h2⟩, ⟨h3, h4⟩, h5, h6⟩ := frameB_head h
  have hl := frameB_len h
  have hm : ∀ x ∈ [a * 16 + b, p * 32 + (l.length : Int)] ++ l, 0 ≤ x ∧ x ≤ 255 := by
    intro x hx
    simp only [List.cons_append, List.nil_append, List.mem_cons] at hx
    rcases hx with rfl | rfl | hx
    · omega
    · omega
    · exact frameB_mem h x hx
  have hc := crcOf_lt ([a * 16 + b, p * 32 + (l.length : Int)] ++ l) (r := 0) (by omega) hm
  generalize crcOf 8 0 ([a * 16 + b, p * 32 + (l.length : Int)] ++ l) = z at hc ⊢
  refine ⟨fun x hx => ?_, by simp only [List.length_append, List.length_cons, List.length_nil]; omega⟩
  rcases List.mem_append.1 hx with hx | hx
  · exact hm x hx
  · simp only [List.mem_singleton] at hx; omega
theorem both (a b p : Int) (l : List Int) (hn : l.length ≤ 1048576) : ∃ v : List Int × Bool, Ev (fun k => spec_WireOf.f k a b p l) v ∧ Ev (fun k => impl_WireOf.f k a b p l) v ∧ v.1.length ≤ 400 := by
  cases hb : frameB a b p l with
  | false =>
    refine ⟨([], false), ⟨l.length + 1, fun k hk => ?_⟩, ⟨0, fun k hk => ?_⟩, by simp⟩
    · show spec_WireOf.f k a b p l = _
      unfold spec_WireOf.f; rw [spec_frGood_eq (k := k) hn (by omega), hb]; rfl
    · show impl_WireOf.f k a b p l = _
      unfold impl_WireOf.f; rw [impl_IsFrame_eq, hb]; rfl
  | true =>
    obtain ⟨m1, m2⟩ := list_bytes hb
    obtain ⟨K1, g1⟩ := spec_list_ev hb
    obtain ⟨K2, g2⟩ := impl_list_ev hb
    generalize [a * 16 + b, p * 32 + (l.length : Int)] ++ l ++ [(crcOf 8 0 ([a * 16 + b, p * 32 + (l.length : Int)] ++ l) : Int)] = B at m1 m2 g1 g2
    have hbl := bitsL_length B
    obtain ⟨K3, g3⟩ := spec_frBits_ev m1 (by omega)
    obtain ⟨K4, g4⟩ := impl_bitsOf_ev m1 (by omega)
    obtain ⟨K5, g5⟩ := spec_frStuff_ev (bitsL_mem B) (by omega)
    obtain ⟨K6, g6⟩ := impl_stuffed_ev (bitsL_mem B) (by omega)
    have hsl := stuffF_len (bitsL B) 0
    generalize stuffF 0 (bitsL B) = T at g5 g6 hsl
    simp only at g1 g2 g3 g4 g5 g6
    refine ⟨([0, 1, 1, 1, 1, 1, 1, 0] ++ T ++ [0, 1, 1, 1, 1, 1, 1, 0], true), ⟨K1 + K3 + K5 + l.length + 1, fun k hk => ?_⟩, ⟨K2 + K4 + K6, fun k hk => ?_⟩, by simp only [List.length_append, List.length_cons, List.length_nil]; omega⟩
    · show spec_WireOf.f k a b p l = _
      unfold spec_WireOf.f spec_frFlag.f
      rw [spec_frGood_eq hn (by omega), hb, Option.bind_some, if_pos rfl, Option.bind_some, g1 k (by omega), Option.bind_some, g3 k (by omega), Option.bind_some, g5 k (by omega), Option.bind_some, if_pos (by simp only [List.length_cons, List.length_nil]; omega), Option.bind_some, Option.bind_some, if_pos (by simp only [List.length_append, List.length_cons, List.length_nil]; omega)]
    · show impl_WireOf.f k a b p l = _
      unfold impl_WireOf.f impl_flag.f slices_Concat_int_int.f
      rw [impl_IsFrame_eq, hb, Option.bind_some, if_pos rfl, Option.bind_some, g2 k (by omega), Option.bind_some, g4 k (by omega), Option.bind_some, g6 k (by omega), Option.bind_some, Option.bind_some, if_pos ⟨by simp, by simp only [List.flatten_cons, List.flatten_nil, List.length_append, List.length_cons, List.length_nil]; omega⟩, Option.bind_some]
      simp
theorem FnExactWireOf : FnExactWireOfPure := by
  intro a b p l _ _ _ hm _
  unfold maxLen at hm
  by_cases hn : l.length ≤ 1048576
  · have n1 : ¬ (1048576 - (l.length : Int) < 0) := by omega
    obtain ⟨v, ⟨K1, h1⟩, ⟨K2, h2⟩, hv⟩ := both a b p l hn
    have n2 : ¬ (1 + (v.1.length : Int) < 0) := by omega
    have n3 : ¬ (1 + (l.length : Int) < 0) := by omega
    have hv2 : v.1.length ≤ 1048576 := by omega
    refine ⟨K1 + K2 + l.length + v.1.length + 10, ?_⟩
    unfold laws_FnExactWireOf.f
    simp (disch := omega) only [Option.bind_some, ↓reduceIte, bne_self_eq_false, Bool.false_eq_true, szFrame_ok hn, n1, n2, n3, toFrame_eq hn, h1, h2, eqFrame_refl hn, eqIntS_refl hv2, eqIntS_refl hn, laws_markFrame.f, markIntS_eq, heldIntS_eq]
    rw [laws_FnExactWireOf.j0]
    simp (disch := omega) only [Option.bind_some, ↓reduceIte, bne_self_eq_false, Bool.false_eq_true, szFrame_ok hn, n1, n2, n3, toFrame_eq hn, h1, h2, eqFrame_refl hn, eqIntS_refl hv2, eqIntS_refl hn, laws_markFrame.f, markIntS_eq, heldIntS_eq]
    rw [laws_FnExactWireOf.j1]
    simp (disch := omega) only [Option.bind_some, ↓reduceIte, bne_self_eq_false, Bool.false_eq_true, szFrame_ok hn, n1, n2, n3, toFrame_eq hn, h1, h2, eqFrame_refl hn, eqIntS_refl hv2, eqIntS_refl hn, laws_markFrame.f, markIntS_eq, heldIntS_eq]
    rw [laws_FnExactWireOf.j2]
    simp (disch := omega) only [Option.bind_some, ↓reduceIte, bne_self_eq_false, Bool.false_eq_true, szFrame_ok hn, n1, n2, n3, toFrame_eq hn, h1, h2, eqFrame_refl hn, eqIntS_refl hv2, eqIntS_refl hn, laws_markFrame.f, markIntS_eq, heldIntS_eq]
  · exact ⟨0, by unfold laws_FnExactWireOf.f; rw [szFrame_big hm hn]; rfl⟩

end Go.Proofs.Ytggempkfkjjlaaa.Pure
