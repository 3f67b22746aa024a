/- FnExactFrameOf: the program's answer is the reference's, as plain functions over numbers and lists; no condition beyond the sizes that every value has. -/
import Derived.Test.YtggempkfkjjlaaaPFnExactFrameOfx7
namespace Go.Proofs.Ytggempkfkjjlaaa.Pure
open Go.RowKit Go.Proofs.Ytggempkfkjjlaaa.PFnExactFrameOf Go.Proofs.YtggempkfkjjlaaaW.PrintWords Go.Proofs.YtggempkfkjjlaaaW.PrintLast Go.Proofs.YtggempkfkjjlaaaW.PrintMore

/- It reaches: laws_toIntS.f, laws_eqIntS.f, laws_eqFrame.f, laws_markIntS.f, laws_markFrame.f, spec_l1In.f, spec_l1All.f, spec_frBytes.f, spec_frCheck.f, spec_frHas.f, spec_frStation.f, spec_frGood.f, spec_l1Own.f, spec_frOf.f, spec_FrameOf.f, impl_allWithin.f, impl_areBytes.f, impl_within.f, impl_isStation.f, impl_IsFrame.f, slices_Clone_int_int.f, impl_check.f, impl_bytesOf.f, slices_Equal_int_int.f, impl_frameOf.f, impl_FrameOf.f, laws_heldIntS.f, laws_heldFrame.f, laws_FnExactFrameOf.f -/
def FnExactFrameOfPure : Prop := ∀ (l0 : List Int), l0.length ≤ maxLen → (∀ x ∈ l0, (Lit.int .i64 x).wf = true) → ∃ k, laws_FnExactFrameOf.f k l0 = some true
set_option linter.unusedSimpArgs false
set_option linter.unusedVariables false
theorem wrap_id {x : Int} (h1 : -9223372036854775808 ≤ x) (h2 : x ≤ 9223372036854775807) : wrap64 x = x := by unfold wrap64; omega
theorem wrap_succ {i n : Nat} (h : i < n) (hn : n ≤ 4611686018427387904) : wrap64 ((i : Int) + 1) = ((i + 1 : Nat) : Int) := by rw [wrap_id] <;> omega
theorem rd_nat (l : List Int) {i : Nat} (h : i < l.length) : rd l (i : Int) = l[i] := by simp [rd, h]
theorem rd_mem (l : List Int) {i : Nat} (h : i < l.length) : rd l (i : Int) ∈ l := by rw [rd_nat l h]; exact List.getElem_mem h
/-- One round, and the end. -/
theorem ev_end {α : Type} {g : Nat → Option α} {r : α} (h : ∀ k, g (k + 1) = some r) : Ev g r := Ev.step h (Ev.now r)
theorem ev_of {α : Type} {g : Nat → Option α} {r : α} (h : ∀ k, g k = some r) : Ev g r := ⟨0, fun k _ => h k⟩
theorem ev_eq {α : Type} {g : Nat → Option α} {r r' : α} (h : Ev g r) (e : r = r') : Ev g r' := e ▸ h

theorem spec_l1In_eq (a b c : Int) : spec_l1In.f a b c = some (decide (b ≤ a ∧ a ≤ c)) := by
  unfold spec_l1In.f
  by_cases h : b ≤ a <;> simp [h]

theorem l1All_loop (lo hi : Int) (l : List Int) (hn : l.length ≤ 1048576) : ∀ (d i k : Nat), i + d = l.length → d < k → spec_l1All.l0 k lo hi l (l.length : Int) (i : Int) = some ((l.drop i).all fun x => decide (lo ≤ x ∧ x ≤ hi)) := by
  intro d
  induction d with
  | zero =>
    intro i k h hk
    obtain ⟨k, rfl⟩ : ∃ m, k = m + 1 := ⟨k - 1, by omega⟩
    simp only [spec_l1All.l0]
    rw [if_neg (by omega), List.drop_of_length_le (by omega)]
    rfl
  | succ d ih =>
    intro i k h hk
    obtain ⟨k, rfl⟩ : ∃ m, k = m + 1 := ⟨k - 1, by omega⟩
    have hlt : i < l.length := by omega
    simp only [spec_l1All.l0, spec_l1In_eq, Option.bind_some]
    rw [if_pos (by omega), if_pos (by omega), if_pos (by omega), rd_nat l hlt, wrap_succ hlt (by omega), ih (i + 1) k (by omega) (by omega), List.drop_eq_getElem_cons hlt, List.all_cons]
    by_cases c : lo ≤ l[i] ∧ l[i] ≤ hi <;> simp [c]
theorem spec_l1All_eq {k : Nat} {l : List Int} {lo hi : Int} (hn : l.length ≤ 1048576) (hk : l.length < k) : spec_l1All.f k l lo hi = some (l.all fun x => decide (lo ≤ x ∧ x ≤ hi)) := by
  unfold spec_l1All.f
  simpa using l1All_loop lo hi l hn l.length 0 k (by omega) hk

theorem impl_within_eq (a b c : Int) : impl_within.f a b c = some (decide (b ≤ a ∧ a ≤ c)) := by
  unfold impl_within.f
  by_cases h : b ≤ a <;> simp [h]

theorem eqIntS_loop (l : List Int) (hn : l.length ≤ 1048576) : ∀ (d i k : Nat), i + d = l.length → d < k → laws_eqIntS.l0 k l l (i : Int) = some true := by
  intro d
  induction d with
  | zero =>
    intro i k h hk
    obtain ⟨k, rfl⟩ : ∃ m, k = m + 1 := ⟨k - 1, by omega⟩
    simp only [laws_eqIntS.l0]
    rw [if_neg (by omega)]
  | succ d ih =>
    intro i k h hk
    obtain ⟨k, rfl⟩ : ∃ m, k = m + 1 := ⟨k - 1, by omega⟩
    simp only [laws_eqIntS.l0]
    rw [if_pos (by omega), if_pos (by omega), if_pos (by omega), if_pos trivial, wrap_succ (n := l.length) (by omega) (by omega)]
    exact ih (i + 1) k (by omega) (by omega)
theorem eqIntS_refl {k : Nat} {l : List Int} (hn : l.length ≤ 1048576) (hk : l.length < k) : laws_eqIntS.f k l l = some true := by
  unfold laws_eqIntS.f
  rw [if_pos rfl]
  exact eqIntS_loop l hn l.length 0 k (by omega) hk

/-- What both call a frame. -/
def frameB (a b p : Int) (l : List Int) : Bool := decide ((0 ≤ a ∧ a ≤ 11) ∧ (0 ≤ b ∧ b ≤ 11) ∧ (0 ≤ p ∧ p ≤ 7)) && (decide (l.length ≤ 16) && l.all fun x => decide (0 ≤ x ∧ x ≤ 255))
theorem frameB_head {a b p : Int} {l : List Int} (h : frameB a b p l = true) : (0 ≤ a ∧ a ≤ 11) ∧ (0 ≤ b ∧ b ≤ 11) ∧ (0 ≤ p ∧ p ≤ 7) := by simp only [frameB, Bool.and_eq_true, decide_eq_true_eq] at h; exact h.1
theorem frameB_len {a b p : Int} {l : List Int} (h : frameB a b p l = true) : l.length ≤ 16 := by simp only [frameB, Bool.and_eq_true, decide_eq_true_eq] at h; exact h.2.1
theorem frameB_mem {a b p : Int} {l : List Int} (h : frameB a b p l = true) : ∀ x ∈ l, 0 ≤ x ∧ x ≤ 255 := by simp only [frameB, Bool.and_eq_true, decide_eq_true_eq, List.all_eq_true] at h; exact h.2.2
theorem spec_frGood_eq {k : Nat} {a b p : Int} {l : List Int} (hn : l.length ≤ 1048576) (hk : l.length < k) : spec_frGood.f k a b p l = some (frameB a b p l) := by
  unfold spec_frGood.f spec_frStation.f frameB
  simp only [spec_l1In_eq, Option.bind_some, spec_l1All_eq hn hk]
  by_cases h0 : 0 ≤ a ∧ a ≤ 11 <;> by_cases h1 : 0 ≤ b ∧ b ≤ 11 <;> by_cases h2 : 0 ≤ p ∧ p ≤ 7 <;> by_cases h3 : l.length ≤ 16 <;>
    simp only [h0, h1, h2, h3, decide_true, decide_false, if_true, and_true, true_and, and_false, false_and, Bool.true_and, Bool.false_and, if_neg (show ¬ (false = true) by decide), show ((l.length : Int) ≤ 16) = (l.length ≤ 16) from propext ⟨fun h => by omega, fun h => by omega⟩, if_false]
theorem impl_IsFrame_eq (a b p : Int) (l : List Int) : impl_IsFrame.f a b p l = some (frameB a b p l) := by
  unfold impl_IsFrame.f impl_isStation.f impl_allWithin.f frameB
  simp only [impl_within_eq, Option.bind_some]
  by_cases h0 : 0 ≤ a ∧ a ≤ 11 <;> by_cases h1 : 0 ≤ b ∧ b ≤ 11 <;> by_cases h2 : 0 ≤ p ∧ p ≤ 7 <;> by_cases h3 : l.length ≤ 16 <;>
    simp only [h0, h1, h2, h3, decide_true, decide_false, if_true, and_true, true_and, and_false, false_and, Bool.true_and, Bool.false_and, if_neg (show ¬ (false = true) by decide), show ((l.length : Int) ≤ 16) = (l.length ≤ 16) from propext ⟨fun h => by omega, fun h => by omega⟩, if_false]
theorem eqFrame_refl {k : Nat} {a b p : Int} {l : List Int} (hn : l.length ≤ 1048576) (hk : l.length < k) : laws_eqFrame.f k a b p l a b p l = some true := by
  unfold laws_eqFrame.f
  simp only [if_true, eqIntS_refl hn hk, Option.bind_some]

theorem xor_nat {a b : Nat} (ha : a < 4294967296) (hb : b < 4294967296) : Go.bits .xor .i64 (a : Int) (b : Int) = ((a ^^^ b : Nat) : Int) := by
  have ha' : a % 2 ^ 64 = a := Nat.mod_eq_of_lt (by omega)
  have hb' : b % 2 ^ 64 = b := Nat.mod_eq_of_lt (by omega)
  have hx : a ^^^ b < 4294967296 := Nat.xor_lt_two_pow (n := 32) ha hb
  have e : Go.bits .xor .i64 (a : Int) (b : Int) = IntKind.i64.wrap (((a ^^^ b : Nat)) : Int) := by
    simp only [bits, BitVec.ofInt_natCast, BitVec.toNat_xor, BitVec.toNat_ofNat]
    rw [show IntKind.i64.bits = 64 from rfl, ha', hb']
  rw [e, IntKind.wrap_i64]
  omega
/-- One step of the check's division, on a byte. -/
def crcStep (r : Nat) : Nat := if r * 2 > 255 then (r * 2 - 256) ^^^ 7 else r * 2
theorem crcStep_lt {r : Nat} (h : r < 256) : crcStep r < 256 := by
  unfold crcStep
  split
  · exact Nat.xor_lt_two_pow (n := 8) (by omega) (by omega)
  · omega
theorem crc_263 : ∀ x : Fin 256, 128 ≤ x.val → (x.val * 2) ^^^ 263 = (x.val * 2 - 256) ^^^ 7 := by decide +kernel
def crcIter : Nat → Nat → Nat
  | 0, r => r
  | d + 1, r => crcIter d (crcStep r)
theorem crcIter_lt : ∀ (d : Nat) {r : Nat}, r < 256 → crcIter d r < 256
  | 0, _, h => h
  | d + 1, _, h => crcIter_lt d (crcStep_lt h)
/-- The check of bytes, from a rest on. -/
def crcOf (n : Nat) : Nat → List Int → Nat
  | r, [] => r
  | r, b :: t => crcOf n (crcIter n (r ^^^ b.toNat)) t
theorem crcOf_cons (n r : Nat) (b : Int) (t : List Int) : crcOf n r (b :: t) = crcOf n (crcIter n (r ^^^ b.toNat)) t := rfl
theorem byte_nat {l : List Int} (hb : ∀ x ∈ l, 0 ≤ x ∧ x ≤ 255) {i : Nat} (hi : i < l.length) : ∃ b : Nat, l[i] = (b : Int) ∧ b < 256 := by
  have := hb l[i] (List.getElem_mem hi)
  exact ⟨l[i].toNat, by omega, by omega⟩
theorem crcOf_lt : ∀ (l : List Int) {r : Nat}, r < 256 → (∀ x ∈ l, 0 ≤ x ∧ x ≤ 255) → crcOf 8 r l < 256
  | [], _, h, _ => h
  | b :: t, r, h, hb => by
    have := hb b (by simp)
    rw [crcOf_cons]
    exact crcOf_lt t (crcIter_lt 8 (Nat.xor_lt_two_pow (n := 8) h (by omega))) (fun x hx => hb x (by simp [hx]))

theorem spec_check_l1 (l : List Int) (n i : Int) (v : Int) : ∀ (d j r : Nat), j + d = 8 → r < 256 → Ev (fun k => spec_frCheck.l0 k (crcIter d r : Int) l n (wrap64 (i + 1))) v → Ev (fun k => spec_frCheck.l1 k (r : Int) (j : Int) l n i) v := by
  intro d
  induction d with
  | zero =>
    intro j r h hr hv
    refine Ev.step (fun k => ?_) hv
    simp only [spec_frCheck.l1]
    rw [if_neg (by omega)]; simp only [crcIter]
  | succ d ih =>
    intro j r h hr hv
    refine Ev.step (fun k => ?_) (ih (j + 1) (crcStep r) (by omega) (crcStep_lt hr) (by simpa only [crcIter] using hv))
    simp only [spec_frCheck.l1]
    rw [if_pos (by omega), wrap_id (x := (r : Int) * 2) (by omega) (by omega), wrap_id (x := (j : Int) + 1) (by omega) (by omega)]
    by_cases c : r * 2 > 255
    · rw [if_pos (by omega)]
      have e : Int.tmod ((r : Int) * 2) 256 = ((r * 2 - 256 : Nat) : Int) := by
        rw [Int.tmod_eq_emod_of_nonneg (by omega)]; omega
      have e2 : Go.bits .xor .i64 (Int.tmod ((r : Int) * 2) 256) 7 = ((crcStep r : Nat) : Int) := by
        rw [e, show (7 : Int) = ((7 : Nat) : Int) from rfl, xor_nat (by omega) (by omega), crcStep, if_pos c]
      rw [e2, show ((j + 1 : Nat) : Int) = (j : Int) + 1 from by omega]
    · rw [if_neg (by omega)]
      have e2 : (r : Int) * 2 = ((crcStep r : Nat) : Int) := by rw [crcStep, if_neg c]; omega
      rw [e2, show ((j + 1 : Nat) : Int) = (j : Int) + 1 from by omega]
theorem spec_check_l0 (l : List Int) (hb : ∀ x ∈ l, 0 ≤ x ∧ x ≤ 255) (hn : l.length ≤ 1048576) : ∀ (d i r : Nat), i + d = l.length → r < 256 → Ev (fun k => spec_frCheck.l0 k (r : Int) l (l.length : Int) (i : Int)) (crcOf 8 r (l.drop i) : Int) := by
  intro d
  induction d with
  | zero =>
    intro i r h hr
    refine ev_end (fun k => ?_)
    simp only [spec_frCheck.l0]
    rw [if_neg (by omega), List.drop_of_length_le (by omega)]; rfl
  | succ d ih =>
    intro i r h hr
    have hi : i < l.length := by omega
    obtain ⟨b, eb, hb2⟩ := byte_nat hb hi
    have hx : r ^^^ b < 256 := Nat.xor_lt_two_pow (n := 8) hr hb2
    have e : crcOf 8 r (l.drop i) = crcOf 8 (crcIter 8 (r ^^^ b)) (l.drop (i + 1)) := by
      rw [List.drop_eq_getElem_cons hi, crcOf_cons, eb, Int.toNat_natCast]
    have next := ih (i + 1) (crcIter 8 (r ^^^ b)) (by omega) (crcIter_lt 8 hx)
    rw [← e, ← wrap_succ hi (by omega)] at next
    refine Ev.step (fun k => ?_) (spec_check_l1 l (l.length : Int) (i : Int) _ 8 0 (r ^^^ b) rfl hx next)
    simp only [spec_frCheck.l0]
    rw [if_pos (by omega), if_pos (by omega), if_pos (by omega), rd_nat l hi, eb, xor_nat (by omega) (by omega), show ((0 : Nat) : Int) = 0 from rfl]
theorem spec_frCheck_ev {l : List Int} (hb : ∀ x ∈ l, 0 ≤ x ∧ x ≤ 255) (hn : l.length ≤ 1048576) : Ev (fun k => spec_frCheck.f k l) (crcOf 8 0 l : Int) := by
  unfold spec_frCheck.f
  simpa using spec_check_l0 l hb hn l.length 0 0 (by omega) (by omega)

theorem impl_check_l1 (l : List Int) (n i : Int) (v : Int) : ∀ (d j r : Nat), j + d = 8 → r < 256 → Ev (fun k => impl_check.l0 k (crcIter d r : Int) l n (wrap64 (i + 1))) v → Ev (fun k => impl_check.l1 k (r : Int) l n i (j : Int)) v := by
  intro d
  induction d with
  | zero =>
    intro j r h hr hv
    refine Ev.step (fun k => ?_) hv
    simp only [impl_check.l1]
    rw [if_neg (by omega)]; simp only [crcIter]
  | succ d ih =>
    intro j r h hr hv
    refine Ev.step (fun k => ?_) (ih (j + 1) (crcStep r) (by omega) (crcStep_lt hr) (by simpa only [crcIter] using hv))
    simp only [impl_check.l1]
    rw [if_pos (by omega), wrap_id (x := (r : Int) * 2) (by omega) (by omega), wrap_id (x := (j : Int) + 1) (by omega) (by omega)]
    by_cases c : r * 2 > 255
    · rw [if_pos (by omega)]
      have e2 : Go.bits .xor .i64 ((r : Int) * 2) 263 = ((crcStep r : Nat) : Int) := by
        rw [show (263 : Int) = ((263 : Nat) : Int) from rfl, show (r : Int) * 2 = ((r * 2 : Nat) : Int) from by omega, xor_nat (by omega) (by omega), crcStep, if_pos c]
        exact congrArg (Nat.cast : Nat → Int) (crc_263 ⟨r, hr⟩ (by show 128 ≤ r; omega))
      rw [e2, show ((j + 1 : Nat) : Int) = (j : Int) + 1 from by omega]
    · rw [if_neg (by omega)]
      have e2 : (r : Int) * 2 = ((crcStep r : Nat) : Int) := by rw [crcStep, if_neg c]; omega
      rw [e2, show ((j + 1 : Nat) : Int) = (j : Int) + 1 from by omega]
theorem impl_check_l0 (l : List Int) (hb : ∀ x ∈ l, 0 ≤ x ∧ x ≤ 255) (hn : l.length ≤ 1048576) : ∀ (d i r : Nat), i + d = l.length → r < 256 → Ev (fun k => impl_check.l0 k (r : Int) l (l.length : Int) (i : Int)) (crcOf 8 r (l.drop i) : Int) := by
  intro d
  induction d with
  | zero =>
    intro i r h hr
    refine ev_end (fun k => ?_)
    simp only [impl_check.l0]
    rw [if_neg (by omega), List.drop_of_length_le (by omega)]; rfl
  | succ d ih =>
    intro i r h hr
    have hi : i < l.length := by omega
    obtain ⟨b, eb, hb2⟩ := byte_nat hb hi
    have hx : r ^^^ b < 256 := Nat.xor_lt_two_pow (n := 8) hr hb2
    have e : crcOf 8 r (l.drop i) = crcOf 8 (crcIter 8 (r ^^^ b)) (l.drop (i + 1)) := by
      rw [List.drop_eq_getElem_cons hi, crcOf_cons, eb, Int.toNat_natCast]
    have next := ih (i + 1) (crcIter 8 (r ^^^ b)) (by omega) (crcIter_lt 8 hx)
    rw [← e, ← wrap_succ hi (by omega)] at next
    refine Ev.step (fun k => ?_) (impl_check_l1 l (l.length : Int) (i : Int) _ 8 0 (r ^^^ b) rfl hx next)
    simp only [impl_check.l0]
    rw [if_pos (by omega), if_pos (by omega), if_pos (by omega), rd_nat l hi, eb, xor_nat (by omega) (by omega), show ((0 : Nat) : Int) = 0 from rfl]
theorem impl_check_ev {l : List Int} (hb : ∀ x ∈ l, 0 ≤ x ∧ x ≤ 255) (hn : l.length ≤ 1048576) : Ev (fun k => impl_check.f k l) (crcOf 8 0 l : Int) := by
  unfold impl_check.f
  simpa using impl_check_l0 l hb hn l.length 0 0 (by omega) (by omega)

theorem slicesEq_loop (l l' : List Int) (he : l.length = l'.length) (hn : l.length ≤ 1048576) : ∀ (d i k : Nat), i + d = l.length → d < k → slices_Equal_int_int.l0 k l l' (l.length : Int) (i : Int) = some (decide (l.drop i = l'.drop i)) := by
  intro d
  induction d with
  | zero =>
    intro i k h hk
    obtain ⟨k, rfl⟩ : ∃ m, k = m + 1 := ⟨k - 1, by omega⟩
    simp only [slices_Equal_int_int.l0]
    rw [if_neg (by omega), List.drop_of_length_le (l := l) (by omega), List.drop_of_length_le (l := l') (by omega)]; rfl
  | succ d ih =>
    intro i k h hk
    obtain ⟨k, rfl⟩ : ∃ m, k = m + 1 := ⟨k - 1, by omega⟩
    have hi : i < l.length := by omega
    have hi' : i < l'.length := by omega
    simp only [slices_Equal_int_int.l0]
    rw [if_pos (by omega), if_pos (by omega), if_pos (by omega), if_pos (by omega), rd_nat l hi, rd_nat l' hi', wrap_succ hi (by omega), ih (i + 1) k (by omega) (by omega), List.drop_eq_getElem_cons hi, List.drop_eq_getElem_cons hi']
    by_cases c : l[i] = l'[i]
    · rw [if_pos c, c]; exact congrArg some (decide_eq_decide.mpr ⟨fun h => by rw [h], fun h => by injection h⟩)
    · rw [if_neg c, decide_eq_false (fun h => c (by injection h))]
theorem slicesEq_eq {k : Nat} {l l' : List Int} (hn : l.length ≤ 1048576) (hk : l.length < k) : slices_Equal_int_int.f k l l' = some (decide (l = l')) := by
  unfold slices_Equal_int_int.f
  by_cases he : l.length = l'.length
  · rw [if_pos (by omega)]
    have := slicesEq_loop l l' he hn l.length 0 k (by omega) hk
    simpa using this
  · rw [if_neg (by omega), decide_eq_false (fun h => he (by rw [h]))]

/-- What both call bytes. -/
def bytesB (l : List Int) : Bool := decide (l.length ≤ 40) && l.all fun x => decide (0 ≤ x ∧ x ≤ 255)
theorem spec_frBytes_eq {k : Nat} {l : List Int} (hn : l.length ≤ 1048576) (hk : l.length < k) : spec_frBytes.f k l = some (bytesB l) := by
  unfold spec_frBytes.f bytesB
  rw [spec_l1All_eq hn hk]
  by_cases h : (l.length : Int) ≤ 40
  · simp [show l.length ≤ 40 by omega, h]
  · simp [show ¬ l.length ≤ 40 by omega, h]
theorem impl_areBytes_eq (l : List Int) : impl_areBytes.f l = some (bytesB l) := by
  unfold impl_areBytes.f impl_allWithin.f bytesB
  by_cases h : (l.length : Int) ≤ 40
  · simp [show l.length ≤ 40 by omega, h]
  · simp [show ¬ l.length ≤ 40 by omega, h]
theorem bytesB_len {l : List Int} (h : bytesB l = true) : l.length ≤ 40 := by simp [bytesB] at h; exact h.1
theorem bytesB_mem {l : List Int} (h : bytesB l = true) : ∀ x ∈ l, 0 ≤ x ∧ x ≤ 255 := by simp [bytesB] at h; exact h.2

def bodyF (l : List Int) : List Int := (l.take (l.length - 1)).drop 2
/-- Do these bytes hold a frame: the check, the length and the parts fit? -/
def okF (l : List Int) : Prop := 3 ≤ l.length ∧ (crcOf 8 0 (l.take (l.length - 1)) : Int) = rd l ((l.length - 1 : Nat) : Int) ∧ rd l 1 % 32 = (l.length : Int) - 3 ∧ frameB (rd l 0 / 16) (rd l 0 % 16) (rd l 1 / 32) (bodyF l) = true
instance okFDec (l : List Int) : Decidable (okF l) := by unfold okF; infer_instance
def unF (l : List Int) : Int × Int × Int × List Int × Bool := if okF l then (rd l 0 / 16, rd l 0 % 16, rd l 1 / 32, bodyF l, true) else (0, 0, 0, [], false)
theorem bodyF_len (l : List Int) : (bodyF l).length = l.length - 3 := by simp [bodyF]; omega
theorem unF_len {l : List Int} (h : l.length ≤ 40) : (unF l).2.2.2.1.length ≤ 40 := by
  unfold unF; split
  · simp only [bodyF_len]; omega
  · simp
theorem split3 (l : List Int) (h : 3 ≤ l.length) : l.take (l.length - 1) = rd l 0 :: rd l 1 :: bodyF l ∧ l = (rd l 0 :: rd l 1 :: bodyF l) ++ [rd l ((l.length - 1 : Nat) : Int)] := by
  match l, h with
  | a :: b :: t, h =>
    have e : (a :: b :: t).take ((a :: b :: t).length - 1) = a :: b :: t.take (t.length - 1) := by
      simp only [List.length_cons] at *
      rw [show t.length + 1 + 1 - 1 = t.length - 1 + 1 + 1 by omega]; rfl
    have eb : bodyF (a :: b :: t) = t.take (t.length - 1) := by rw [bodyF, e]; rfl
    have r0 : rd (a :: b :: t) 0 = a := by simp [rd]
    have r1 : rd (a :: b :: t) 1 = b := by simp [rd]
    refine ⟨by rw [e, eb, r0, r1], ?_⟩
    have r2 := rd_nat (a :: b :: t) (i := (a :: b :: t).length - 1) (by omega)
    rw [eb, r0, r1, r2, ← e]
    have := List.take_append_getElem (l := a :: b :: t) (i := (a :: b :: t).length - 1) (by omega)
    rw [this, Nat.sub_add_cancel (by omega), List.take_length]
theorem byte_rd {l : List Int} (hb : ∀ x ∈ l, 0 ≤ x ∧ x ≤ 255) {i : Nat} (hi : i < l.length) : 0 ≤ rd l (i : Int) ∧ rd l (i : Int) ≤ 255 := hb _ (rd_mem l hi)
theorem spec_frHas_ev {l : List Int} (hb : ∀ x ∈ l, 0 ≤ x ∧ x ≤ 255) (hn : l.length ≤ 1048576) (h0 : 1 ≤ l.length) : Ev (fun k => spec_frHas.f k l) ((crcOf 8 0 (l.take (l.length - 1)) : Int) == rd l ((l.length - 1 : Nat) : Int)) := by
  have ht : ∀ x ∈ l.take (l.length - 1), 0 ≤ x ∧ x ≤ 255 := fun x hx => hb x (List.mem_of_mem_take hx)
  have htl : (l.take (l.length - 1)).length ≤ 1048576 := by simp; omega
  obtain ⟨K1, h1⟩ := spec_frCheck_ev ht htl
  simp only at h1
  have e : wrap64 ((l.length : Int) - 1) = ((l.length - 1 : Nat) : Int) := by rw [wrap_id] <;> omega
  refine ⟨K1, fun k hk => ?_⟩
  show spec_frHas.f k l = _
  unfold spec_frHas.f
  rw [e, if_pos (by omega), if_pos (by omega), if_pos (by omega), Int.toNat_natCast, h1 k (by omega), Option.bind_some, if_pos (by omega)]
theorem spec_frOf_ev {l : List Int} (hb : ∀ x ∈ l, 0 ≤ x ∧ x ≤ 255) (hn : l.length ≤ 1048576) : Ev (fun k => spec_frOf.f k l) (unF l) := by
  by_cases h3 : 3 ≤ l.length
  · obtain ⟨K1, h1⟩ := spec_frHas_ev hb hn (by omega)
    have b0 := byte_rd hb (i := 0) (by omega)
    have b1 := byte_rd hb (i := 1) (by omega)
    simp only [Int.natCast_zero, Int.natCast_one, show ((0 : Nat) : Int) = 0 from rfl, show ((1 : Nat) : Int) = 1 from rfl] at h1 b0 b1
    have e : wrap64 ((l.length : Int) - 1) = ((l.length - 1 : Nat) : Int) := by rw [wrap_id] <;> omega
    have e3 : wrap64 ((l.length : Int) - 3) = (l.length : Int) - 3 := by rw [wrap_id] <;> omega
    have t0 : Int.tdiv (rd l 0) 16 = rd l 0 / 16 := Int.tdiv_eq_ediv_of_nonneg (by omega)
    have t1 : Int.tmod (rd l 0) 16 = rd l 0 % 16 := Int.tmod_eq_emod_of_nonneg (by omega)
    have t2 : Int.tdiv (rd l 1) 32 = rd l 1 / 32 := Int.tdiv_eq_ediv_of_nonneg (by omega)
    have t3 : Int.tmod (rd l 1) 32 = rd l 1 % 32 := Int.tmod_eq_emod_of_nonneg (by omega)
    have hbl : (bodyF l).length ≤ 1048576 := by rw [bodyF_len]; omega
    refine ⟨K1 + l.length + 2, fun k hk => ?_⟩
    obtain ⟨k, rfl⟩ : ∃ m, k = m + 1 := ⟨k - 1, by omega⟩
    show spec_frOf.f (k + 1) l = _
    unfold spec_frOf.f unF
    rw [if_neg (by omega), h1 (k + 1) (by omega), Option.bind_some]
    by_cases hc : (crcOf 8 0 (l.take (l.length - 1)) : Int) = rd l ((l.length - 1 : Nat) : Int)
    · rw [if_pos (by simpa using hc), if_pos (by omega), t3, e3]
      by_cases hm : rd l 1 % 32 = (l.length : Int) - 3
      · simp only [spec_frOf.j0]
        rw [if_neg (by simp [hm]), if_pos (by omega), if_pos (by omega), e, if_pos (by omega), if_pos (by omega), Int.toNat_natCast]
        have own : spec_l1Own.f (bodyF l) = some (bodyF l) := by
          unfold spec_l1Own.f; rw [Option.bind_some, if_pos (by simp; omega)]; rfl
        rw [show List.drop 2 (List.take (l.length - 1) l) = bodyF l from rfl, own, Option.bind_some, t0, t1, t2, wrap_id (x := rd l 0 / 16) (by omega) (by omega), wrap_id (x := rd l 1 / 32) (by omega) (by omega),
          spec_frGood_eq hbl (by rw [bodyF_len]; omega), Option.bind_some]
        by_cases hg : frameB (rd l 0 / 16) (rd l 0 % 16) (rd l 1 / 32) (bodyF l) = true
        · rw [if_pos hg, if_pos ⟨h3, hc, hm, hg⟩]
        · rw [if_neg hg, if_neg (fun h => hg h.2.2.2)]
      · simp only [spec_frOf.j0]
        rw [if_pos (by simpa using hm), if_neg (fun h => hm h.2.2.1)]
    · rw [if_neg (by simpa using hc), if_neg (fun h => hc h.2.1)]
      simp only [spec_frOf.j0, if_true]
  · refine ⟨1, fun k hk => ?_⟩
    obtain ⟨k, rfl⟩ : ∃ m, k = m + 1 := ⟨k - 1, by omega⟩
    show spec_frOf.f (k + 1) l = _
    unfold spec_frOf.f unF
    rw [if_pos (by omega), if_neg (fun h => h3 h.1)]; rfl
theorem impl_bytesOf_ev {a b p : Int} {l : List Int} (h : frameB a b p l = true) : Ev (fun k => impl_bytesOf.f k a b p l) ([a * 16 + b, p * 32 + (l.length : Int)] ++ l ++ [(crcOf 8 0 ([a * 16 + b, p * 32 + (l.length : Int)] ++ l) : Int)]) := by
  obtain ⟨⟨h1, h2⟩, ⟨h3, h4⟩, h5, h6⟩ := frameB_head h
  have hl := frameB_len h
  have w1 : wrap64 (wrap64 (a * 16) + b) = a * 16 + b := by rw [wrap_id (x := a * 16) (by omega) (by omega), wrap_id (by omega) (by omega)]
  have w2 : wrap64 (wrap64 (p * 32) + (l.length : Int)) = p * 32 + (l.length : Int) := by rw [wrap_id (x := p * 32) (by omega) (by omega), wrap_id (by omega) (by omega)]
  have hm : ∀ x ∈ [a * 16 + b, p * 32 + (l.length : Int)] ++ l, 0 ≤ x ∧ x ≤ 255 := by
    intro x hx
    simp only [List.cons_append, List.nil_append, List.mem_cons] at hx
    rcases hx with rfl | rfl | hx
    · omega
    · omega
    · exact frameB_mem h x hx
  obtain ⟨K2, g2⟩ := impl_check_ev hm (by simp; omega)
  simp only at g2
  refine ⟨K2, fun k hk => ?_⟩
  show impl_bytesOf.f k a b p l = _
  unfold impl_bytesOf.f
  simp (disch := omega) only [Option.bind_some, if_true, w1, w2]
  rw [if_pos (by simp; omega), g2 k (by omega), Option.bind_some, if_pos (by simp; omega)]
theorem impl_frameOf_ev {l : List Int} (hb : ∀ x ∈ l, 0 ≤ x ∧ x ≤ 255) (hn : l.length ≤ 1048576) : Ev (fun k => impl_frameOf.f k l) (unF l) := by
  by_cases h3 : 3 ≤ l.length
  · have b0 := byte_rd hb (i := 0) (by omega)
    have b1 := byte_rd hb (i := 1) (by omega)
    simp only [show ((0 : Nat) : Int) = 0 from rfl, show ((1 : Nat) : Int) = 1 from rfl] at b0 b1
    have e : wrap64 ((l.length : Int) - 1) = ((l.length - 1 : Nat) : Int) := by rw [wrap_id] <;> omega
    have t0 : Int.tdiv (rd l 0) 16 = rd l 0 / 16 := Int.tdiv_eq_ediv_of_nonneg (by omega)
    have t1 : Int.tmod (rd l 0) 16 = rd l 0 % 16 := Int.tmod_eq_emod_of_nonneg (by omega)
    have t2 : Int.tdiv (rd l 1) 32 = rd l 1 / 32 := Int.tdiv_eq_ediv_of_nonneg (by omega)
    have hbl : (bodyF l).length ≤ 1048576 := by rw [bodyF_len]; omega
    have hbody := bodyF_len l
    have own : slices_Clone_int_int.f (bodyF l) = some (bodyF l) := by unfold slices_Clone_int_int.f; rw [if_pos (by omega)]
    obtain ⟨s1, s2⟩ := split3 l h3
    by_cases hg : frameB (rd l 0 / 16) (rd l 0 % 16) (rd l 1 / 32) (bodyF l) = true
    · obtain ⟨K1, h1⟩ := impl_bytesOf_ev hg
      simp only at h1
      have a1 : rd l 0 / 16 * 16 + rd l 0 % 16 = rd l 0 := by omega
      rw [a1] at h1
      have key : decide ([rd l 0, rd l 1 / 32 * 32 + ((bodyF l).length : Int)] ++ bodyF l ++ [(crcOf 8 0 ([rd l 0, rd l 1 / 32 * 32 + ((bodyF l).length : Int)] ++ bodyF l) : Int)] = l) = decide (okF l) := by
        refine decide_eq_decide.mpr ⟨fun h => ?_, fun h => ?_⟩
        · have h' := h.trans s2
          simp only [List.cons_append, List.nil_append, List.cons.injEq, true_and] at h'
          obtain ⟨m1, m2⟩ := h'
          have m3 := (List.append_inj m2 rfl).2
          simp only [List.cons.injEq, and_true] at m3
          rw [m1] at m3
          refine ⟨h3, ?_, by omega, hg⟩
          rw [s1]; exact m3
        · obtain ⟨_, m2, m3, _⟩ := h
          have m1 : rd l 1 / 32 * 32 + ((bodyF l).length : Int) = rd l 1 := by omega
          rw [m1]
          rw [s1] at m2
          exact (congrArg (fun z => rd l 0 :: rd l 1 :: bodyF l ++ [z]) m2).trans s2.symm
      refine ⟨K1 + l.length + 60, fun k hk => ?_⟩
      show impl_frameOf.f k l = _
      unfold impl_frameOf.f unF
      rw [if_neg (by omega), if_pos (by omega), if_pos (by omega), e, if_pos (by omega), if_pos (by omega), Int.toNat_natCast, show List.drop 2 (List.take (l.length - 1) l) = bodyF l from rfl, own, Option.bind_some, t0, t1, t2,
        wrap_id (x := rd l 0 / 16) (by omega) (by omega), wrap_id (x := rd l 1 / 32) (by omega) (by omega), impl_IsFrame_eq, Option.bind_some, if_pos hg, h1 k (by omega), Option.bind_some, slicesEq_eq (by simp; omega) (by simp; omega), key, Option.bind_some]
      by_cases ho : okF l
      · rw [if_pos ho, if_pos (decide_eq_true ho)]
      · rw [if_neg ho, if_neg (by simpa using ho)]
    · refine ⟨0, fun k hk => ?_⟩
      show impl_frameOf.f k l = _
      unfold impl_frameOf.f unF
      rw [if_neg (by omega), if_pos (by omega), if_pos (by omega), e, if_pos (by omega), if_pos (by omega), Int.toNat_natCast, show List.drop 2 (List.take (l.length - 1) l) = bodyF l from rfl, own, Option.bind_some, t0, t1, t2,
        wrap_id (x := rd l 0 / 16) (by omega) (by omega), wrap_id (x := rd l 1 / 32) (by omega) (by omega), impl_IsFrame_eq, Option.bind_some, if_neg hg, if_neg (fun h => hg h.2.2.2)]
  · refine ⟨0, fun k hk => ?_⟩
    show impl_frameOf.f k l = _
    unfold impl_frameOf.f unF
    rw [if_pos (by omega), if_neg (fun h => h3 h.1)]

/-- n numbers from m on. -/
def marks (m : Int) (n : Nat) : List Int := (List.range n).map fun (j : Nat) => m + (j : Int)
theorem marks_length (m : Int) (n : Nat) : (marks m n).length = n := by simp [marks]
theorem marks_succ (m : Int) (n : Nat) : marks m (n + 1) = marks m n ++ [m + (n : Int)] := by simp [marks, List.range_succ]
theorem markIntS_loop (l : List Int) (m : Int) (hm : 0 ≤ m) (hm2 : m ≤ 1099511627776) (hn : l.length ≤ 1048576) : ∀ (d i k : Nat), i + d = l.length → d < k →
    laws_markIntS.l0 k (marks m i ++ l.drop i) (m + (i : Int)) (i : Int) = some (m + (l.length : Int), marks m l.length) := by
  intro d
  induction d with
  | zero =>
    intro i k h hk
    obtain ⟨k, rfl⟩ : ∃ m, k = m + 1 := ⟨k - 1, by omega⟩
    obtain rfl : i = l.length := by omega
    simp only [laws_markIntS.l0]
    rw [if_neg (by simp [marks_length])]
    simp
  | succ d ih =>
    intro i k h hk
    obtain ⟨k, rfl⟩ : ∃ m, k = m + 1 := ⟨k - 1, by omega⟩
    have hi : i < l.length := by omega
    have e : (marks m i ++ l.drop i).set i (m + (i : Int)) = marks m (i + 1) ++ l.drop (i + 1) := by
      rw [List.set_append_right _ _ (by simp [marks_length]), marks_length, Nat.sub_self, List.drop_eq_getElem_cons hi, List.set_cons_zero, marks_succ, List.append_assoc]; rfl
    simp only [laws_markIntS.l0]
    rw [if_pos (by simp [marks_length]; omega), if_pos (by omega), Int.toNat_natCast, e, wrap_succ hi (by omega), show wrap64 (m + (i : Int) + 1) = m + ((i + 1 : Nat) : Int) from by rw [wrap_id] <;> omega]
    exact ih (i + 1) k (by omega) (by omega)
theorem markIntS_eq {k : Nat} {l : List Int} {m : Int} (hm : 0 ≤ m) (hm2 : m ≤ 1099511627776) (hn : l.length ≤ 1048576) (hk : l.length < k) : laws_markIntS.f k l m = some (m + (l.length : Int), marks m l.length) := by
  unfold laws_markIntS.f
  have := markIntS_loop l m hm hm2 hn l.length 0 k (by omega) hk
  simpa [marks] using this
theorem heldIntS_loop (n : Nat) (m : Int) (hm : 0 ≤ m) (hm2 : m ≤ 1099511627776) (hn : n ≤ 1048576) : ∀ (d i k : Nat), i + d = n → d < k → laws_heldIntS.l0 k (marks m n) (m + (i : Int)) (i : Int) = some (m + (n : Int)) := by
  intro d
  induction d with
  | zero =>
    intro i k h hk
    obtain ⟨k, rfl⟩ : ∃ m, k = m + 1 := ⟨k - 1, by omega⟩
    obtain rfl : i = n := by omega
    simp only [laws_heldIntS.l0]
    rw [if_neg (by simp [marks_length])]
  | succ d ih =>
    intro i k h hk
    obtain ⟨k, rfl⟩ : ∃ m, k = m + 1 := ⟨k - 1, by omega⟩
    have hi : i < n := by omega
    have e : rd (marks m n) (i : Int) = m + (i : Int) := by rw [rd_nat _ (by simpa [marks_length] using hi)]; simp [marks]
    simp only [laws_heldIntS.l0]
    rw [if_pos (by simp [marks_length]; omega), if_pos (by omega), if_pos e, wrap_succ hi (by omega), show wrap64 (m + (i : Int) + 1) = m + ((i + 1 : Nat) : Int) from by rw [wrap_id] <;> omega]
    exact ih (i + 1) k (by omega) (by omega)
theorem heldIntS_eq {k n : Nat} {m : Int} (hm : 0 ≤ m) (hm2 : m ≤ 1099511627776) (hn : n ≤ 1048576) (hk : n < k) : laws_heldIntS.f k (marks m n) m = some (m + (n : Int)) := by
  unfold laws_heldIntS.f
  simpa using heldIntS_loop n m hm hm2 hn n 0 k (by omega) hk

theorem toIntS_loop (l : List Int) (hn : l.length ≤ 1048576) : ∀ (d i k : Nat), i + d = l.length → d < k → laws_toIntS.l0 k l (l.take i ++ List.replicate d 0) (i : Int) = some l := by
  intro d
  induction d with
  | zero =>
    intro i k h hk
    obtain ⟨k, rfl⟩ : ∃ m, k = m + 1 := ⟨k - 1, by omega⟩
    simp only [laws_toIntS.l0]
    rw [if_neg (by omega)]
    simp [List.take_of_length_le (show l.length ≤ i by omega)]
  | succ d ih =>
    intro i k h hk
    obtain ⟨k, rfl⟩ : ∃ m, k = m + 1 := ⟨k - 1, by omega⟩
    have hi : i < l.length := by omega
    have e : (l.take i ++ List.replicate (d + 1) 0).set i (rd l (i : Int)) = l.take (i + 1) ++ List.replicate d 0 := by
      rw [rd_nat l hi, List.set_append_right _ _ (by simp; omega)]
      simp only [List.length_take, Nat.min_eq_left (Nat.le_of_lt hi), Nat.sub_self, List.replicate_succ, List.set_cons_zero]
      rw [List.take_succ_eq_append_getElem hi, List.append_assoc]; rfl
    simp only [laws_toIntS.l0]
    rw [if_pos (by omega), if_pos (by omega), if_pos (by simp; omega), Int.toNat_natCast, e, wrap_succ hi (by omega)]
    exact ih (i + 1) k (by omega) (by omega)
theorem toIntS_eq {k : Nat} {l : List Int} (hn : l.length ≤ 1048576) (hk : l.length < k) : laws_toIntS.f k l = some l := by
  unfold laws_toIntS.f
  rw [if_pos (by omega), if_pos (by omega), Int.toNat_natCast]
  have := toIntS_loop l hn l.length 0 k (by omega) hk
  simpa using this

theorem both (l : List Int) (hn : l.length ≤ 1048576) : ∃ v : Int × Int × Int × List Int × Bool, Ev (fun k => spec_FrameOf.f k l) v ∧ Ev (fun k => impl_FrameOf.f k l) v ∧ v.2.2.2.1.length ≤ 40 := by
  cases hb : bytesB l with
  | false =>
    refine ⟨(0, 0, 0, [], false), ⟨l.length + 1, fun k hk => ?_⟩, ⟨0, fun k hk => ?_⟩, by simp⟩
    · show spec_FrameOf.f k l = _
      unfold spec_FrameOf.f; rw [spec_frBytes_eq (k := k) hn (by omega), hb]; rfl
    · show impl_FrameOf.f k l = _
      unfold impl_FrameOf.f; rw [impl_areBytes_eq, hb]; rfl
  | true =>
    obtain ⟨K1, h1⟩ := spec_frOf_ev (bytesB_mem hb) hn
    obtain ⟨K2, h2⟩ := impl_frameOf_ev (bytesB_mem hb) hn
    simp only at h1 h2
    refine ⟨unF l, ⟨K1 + l.length + 1, fun k hk => ?_⟩, ⟨K2, fun k hk => ?_⟩, unF_len (bytesB_len hb)⟩
    · show spec_FrameOf.f k l = _
      unfold spec_FrameOf.f; rw [spec_frBytes_eq (k := k) hn (by omega), hb, Option.bind_some, if_pos rfl, h1 k (by omega)]; rfl
    · show impl_FrameOf.f k l = _
      unfold impl_FrameOf.f; rw [impl_areBytes_eq, hb, Option.bind_some, if_pos rfl, h2 k (by omega)]; rfl
theorem FnExactFrameOf : FnExactFrameOfPure := by
  intro l _ _
  by_cases hl : (l.length : Int) > 1048576
  · exact ⟨0, by unfold laws_FnExactFrameOf.f; rw [if_pos hl]⟩
  · have hn : l.length ≤ 1048576 := by omega
    obtain ⟨v, ⟨K1, h1⟩, ⟨K2, h2⟩, hv⟩ := both l hn
    obtain ⟨a, b, p, m, ok⟩ := v
    simp only at h1 h2 hv
    have n2 : ¬ (1 + (m.length : Int) < 0) := by omega
    have n3 : ¬ (1 + (l.length : Int) < 0) := by omega
    have hv2 : m.length ≤ 1048576 := by omega
    refine ⟨K1 + K2 + l.length + m.length + 10, ?_⟩
    unfold laws_FnExactFrameOf.f
    simp (disch := omega) only [Option.bind_some, ↓reduceIte, bne_self_eq_false, Bool.false_eq_true, h1, h2, hl, n2, n3, toIntS_eq hn, eqFrame_refl hv2, eqIntS_refl hn, laws_markFrame.f, laws_heldFrame.f, markIntS_eq, heldIntS_eq]
    rw [laws_FnExactFrameOf.j0]
    simp (disch := omega) only [Option.bind_some, ↓reduceIte, bne_self_eq_false, Bool.false_eq_true, h1, h2, hl, n2, n3, toIntS_eq hn, eqFrame_refl hv2, eqIntS_refl hn, laws_markFrame.f, laws_heldFrame.f, markIntS_eq, heldIntS_eq]
    rw [laws_FnExactFrameOf.j1]
    simp (disch := omega) only [Option.bind_some, ↓reduceIte, bne_self_eq_false, Bool.false_eq_true, h1, h2, hl, n2, n3, toIntS_eq hn, eqFrame_refl hv2, eqIntS_refl hn, laws_markFrame.f, laws_heldFrame.f, markIntS_eq, heldIntS_eq]
    rw [laws_FnExactFrameOf.j2]
    simp (disch := omega) only [Option.bind_some, ↓reduceIte, bne_self_eq_false, Bool.false_eq_true, h1, h2, hl, n2, n3, toIntS_eq hn, eqFrame_refl hv2, eqIntS_refl hn, laws_markFrame.f, laws_heldFrame.f, markIntS_eq, heldIntS_eq]

end Go.Proofs.Ytggempkfkjjlaaa.Pure
