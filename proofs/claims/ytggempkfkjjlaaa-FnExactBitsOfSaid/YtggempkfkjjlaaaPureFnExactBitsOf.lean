/- FnExactBitsOf: the program's answer is the reference's, as plain functions over numbers and lists; no condition beyond the sizes that every value has. -/
import Derived.Test.YtggempkfkjjlaaaPFnExactBitsOfx3
namespace Go.Proofs.Ytggempkfkjjlaaa.Pure
open Go.RowKit Go.Proofs.Ytggempkfkjjlaaa.PFnExactBitsOf Go.Proofs.YtggempkfkjjlaaaW.PrintWords Go.Proofs.YtggempkfkjjlaaaW.PrintLast Go.Proofs.YtggempkfkjjlaaaW.PrintMore

/- It reaches: laws_toIntS.f, laws_eqIntS.f, spec_l1In.f, spec_l1All.f, spec_frBytes.f, spec_frBits.f, spec_BitsOf.f, impl_allWithin.f, impl_areBytes.f, impl_bitsOf.f, impl_BitsOf.f, laws_markIntS.f, laws_heldIntS.f, laws_FnExactBitsOf.f -/
def FnExactBitsOfPure : Prop := ∀ (l0 : List Int), l0.length ≤ maxLen → (∀ x ∈ l0, (Lit.int .i64 x).wf = true) → ∃ k, laws_FnExactBitsOf.f k l0 = some true
set_option linter.unusedSimpArgs false
set_option linter.unusedVariables false
theorem wrap_id {x : Int} (h1 : -9223372036854775808 ≤ x) (h2 : x ≤ 9223372036854775807) : wrap64 x = x := by unfold wrap64; omega
theorem wrap_succ {i n : Nat} (h : i < n) (hn : n ≤ 4611686018427387904) : wrap64 ((i : Int) + 1) = ((i + 1 : Nat) : Int) := by rw [wrap_id] <;> omega
theorem rd_nat (l : List Int) {i : Nat} (h : i < l.length) : rd l (i : Int) = l[i] := by simp [rd, h]
theorem rd_mem (l : List Int) {i : Nat} (h : i < l.length) : rd l (i : Int) ∈ l := by rw [rd_nat l h]; exact List.getElem_mem h
/-- One round, and the end. -/
theorem ev_end {α : Type} {g : Nat → Option α} {r : α} (h : ∀ k, g (k + 1) = some r) : Ev g r := Ev.step h (Ev.now r)
theorem ev_of {α : Type} {g : Nat → Option α} {r : α} (h : ∀ k, g k = some r) : Ev g r := ⟨0, fun k _ => h k⟩
theorem ev_eq {α : Type} {g : Nat → Option α} {r r' : α} (h : Ev g r) (e : r = r') : Ev g r' := e ▸ h

theorem spec_l1In_eq (a b c : Int) : spec_l1In.f a b c = some (decide (b ≤ a ∧ a ≤ c)) := by
  unfold spec_l1In.f
  by_cases h : b ≤ a <;> simp [h]

theorem l1All_loop (lo hi : Int) (l : List Int) (hn : l.length ≤ 1048576) : ∀ (d i k : Nat), i + d = l.length → d < k → spec_l1All.l0 k lo hi l (l.length : Int) (i : Int) = some ((l.drop i).all fun x => decide (lo ≤ x ∧ x ≤ hi)) := by
  intro d
  induction d with
  | zero =>
    intro i k h hk
    obtain ⟨k, rfl⟩ : ∃ m, k = m + 1 := ⟨k - 1, by omega⟩
    simp only [spec_l1All.l0]
    rw [if_neg (by omega), List.drop_of_length_le (by omega)]
    rfl
  | succ d ih =>
    intro i k h hk
    obtain ⟨k, rfl⟩ : ∃ m, k = m + 1 := ⟨k - 1, by omega⟩
    have hlt : i < l.length := by omega
    simp only [spec_l1All.l0, spec_l1In_eq, Option.bind_some]
    rw [if_pos (by omega), if_pos (by omega), if_pos (by omega), rd_nat l hlt, wrap_succ hlt (by omega), ih (i + 1) k (by omega) (by omega), List.drop_eq_getElem_cons hlt, List.all_cons]
    by_cases c : lo ≤ l[i] ∧ l[i] ≤ hi <;> simp [c]
theorem spec_l1All_eq {k : Nat} {l : List Int} {lo hi : Int} (hn : l.length ≤ 1048576) (hk : l.length < k) : spec_l1All.f k l lo hi = some (l.all fun x => decide (lo ≤ x ∧ x ≤ hi)) := by
  unfold spec_l1All.f
  simpa using l1All_loop lo hi l hn l.length 0 k (by omega) hk

/-- What both call bytes. -/
def bytesB (l : List Int) : Bool := decide (l.length ≤ 40) && l.all fun x => decide (0 ≤ x ∧ x ≤ 255)
theorem spec_frBytes_eq {k : Nat} {l : List Int} (hn : l.length ≤ 1048576) (hk : l.length < k) : spec_frBytes.f k l = some (bytesB l) := by
  unfold spec_frBytes.f bytesB
  rw [spec_l1All_eq hn hk]
  by_cases h : (l.length : Int) ≤ 40
  · simp [show l.length ≤ 40 by omega, h]
  · simp [show ¬ l.length ≤ 40 by omega, h]
theorem impl_areBytes_eq (l : List Int) : impl_areBytes.f l = some (bytesB l) := by
  unfold impl_areBytes.f impl_allWithin.f bytesB
  by_cases h : (l.length : Int) ≤ 40
  · simp [show l.length ≤ 40 by omega, h]
  · simp [show ¬ l.length ≤ 40 by omega, h]
theorem bytesB_len {l : List Int} (h : bytesB l = true) : l.length ≤ 40 := by simp [bytesB] at h; exact h.1
theorem bytesB_mem {l : List Int} (h : bytesB l = true) : ∀ x ∈ l, 0 ≤ x ∧ x ≤ 255 := by simp [bytesB] at h; exact h.2

theorem xor_nat {a b : Nat} (ha : a < 4294967296) (hb : b < 4294967296) : Go.bits .xor .i64 (a : Int) (b : Int) = ((a ^^^ b : Nat) : Int) := by
  have ha' : a % 2 ^ 64 = a := Nat.mod_eq_of_lt (by omega)
  have hb' : b % 2 ^ 64 = b := Nat.mod_eq_of_lt (by omega)
  have hx : a ^^^ b < 4294967296 := Nat.xor_lt_two_pow (n := 32) ha hb
  have e : Go.bits .xor .i64 (a : Int) (b : Int) = IntKind.i64.wrap (((a ^^^ b : Nat)) : Int) := by
    simp only [bits, BitVec.ofInt_natCast, BitVec.toNat_xor, BitVec.toNat_ofNat]
    rw [show IntKind.i64.bits = 64 from rfl, ha', hb']
  rw [e, IntKind.wrap_i64]
  omega
/-- One step of the check's division, on a byte. -/
def crcStep (r : Nat) : Nat := if r * 2 > 255 then (r * 2 - 256) ^^^ 7 else r * 2
theorem crcStep_lt {r : Nat} (h : r < 256) : crcStep r < 256 := by
  unfold crcStep
  split
  · exact Nat.xor_lt_two_pow (n := 8) (by omega) (by omega)
  · omega
theorem crc_263 : ∀ x : Fin 256, 128 ≤ x.val → (x.val * 2) ^^^ 263 = (x.val * 2 - 256) ^^^ 7 := by decide +kernel
def crcIter : Nat → Nat → Nat
  | 0, r => r
  | d + 1, r => crcIter d (crcStep r)
theorem crcIter_lt : ∀ (d : Nat) {r : Nat}, r < 256 → crcIter d r < 256
  | 0, _, h => h
  | d + 1, _, h => crcIter_lt d (crcStep_lt h)
/-- The check of bytes, from a rest on. -/
def crcOf (n : Nat) : Nat → List Int → Nat
  | r, [] => r
  | r, b :: t => crcOf n (crcIter n (r ^^^ b.toNat)) t
theorem crcOf_cons (n r : Nat) (b : Int) (t : List Int) : crcOf n r (b :: t) = crcOf n (crcIter n (r ^^^ b.toNat)) t := rfl
theorem byte_nat {l : List Int} (hb : ∀ x ∈ l, 0 ≤ x ∧ x ≤ 255) {i : Nat} (hi : i < l.length) : ∃ b : Nat, l[i] = (b : Int) ∧ b < 256 := by
  have := hb l[i] (List.getElem_mem hi)
  exact ⟨l[i].toNat, by omega, by omega⟩
theorem crcOf_lt : ∀ (l : List Int) {r : Nat}, r < 256 → (∀ x ∈ l, 0 ≤ x ∧ x ≤ 255) → crcOf 8 r l < 256
  | [], _, h, _ => h
  | b :: t, r, h, hb => by
    have := hb b (by simp)
    rw [crcOf_cons]
    exact crcOf_lt t (crcIter_lt 8 (Nat.xor_lt_two_pow (n := 8) h (by omega))) (fun x hx => hb x (by simp [hx]))

theorem and_nat {a b : Nat} (ha : a < 4294967296) (hb : b < 4294967296) : Go.bits .and .i64 (a : Int) (b : Int) = ((a &&& b : Nat) : Int) := by
  have ha' : a % 2 ^ 64 = a := Nat.mod_eq_of_lt (by omega)
  have hb' : b % 2 ^ 64 = b := Nat.mod_eq_of_lt (by omega)
  have hx : a &&& b < 4294967296 := Nat.lt_of_le_of_lt Nat.and_le_left ha
  have e : Go.bits .and .i64 (a : Int) (b : Int) = IntKind.i64.wrap (((a &&& b : Nat)) : Int) := by
    simp only [bits, BitVec.ofInt_natCast, BitVec.toNat_and, BitVec.toNat_ofNat]
    rw [show IntKind.i64.bits = 64 from rfl, ha', hb']
  rw [e, IntKind.wrap_i64]
  omega
theorem shr_nat (b j : Nat) (hj : j ≤ 64) : shr .i64 (b : Int) (j : Int) = ((b / 2 ^ j : Nat) : Int) := by
  unfold shr
  rw [Int.toNat_natCast, show min j IntKind.i64.bits = j from Nat.min_eq_left hj]
  rw [Int.natCast_ediv, Int.natCast_pow]; rfl
/-- The j last bits of a number, the greatest first. -/
def bitsN : Nat → Nat → List Int
  | 0, _ => []
  | j + 1, b => ((b / 2 ^ j % 2 : Nat) : Int) :: bitsN j b
theorem bitsN_length : ∀ (j b : Nat), (bitsN j b).length = j
  | 0, _ => rfl
  | j + 1, b => by rw [bitsN, List.length_cons, bitsN_length j b]
def bitsL : List Int → List Int
  | [] => []
  | b :: t => bitsN 8 b.toNat ++ bitsL t
theorem bitsL_length : ∀ l : List Int, (bitsL l).length = 8 * l.length
  | [] => rfl
  | b :: t => by rw [bitsL, List.length_append, bitsN_length, bitsL_length t, List.length_cons]; omega

theorem spec_frBits_l1 (l : List Int) (n i : Int) (v : List Int) (b : Nat) (hb : b < 256) : ∀ (j : Nat) (acc : List Int), j ≤ 8 → acc.length + j ≤ 1099511627776 → Ev (fun k => spec_frBits.l0 k (acc ++ bitsN j b) l n (wrap64 (i + 1))) v → Ev (fun k => spec_frBits.l1 k acc (b : Int) ((j : Int) - 1) l n i) v := by
  intro j
  induction j with
  | zero =>
    intro acc _ ha hv
    refine Ev.step (fun k => ?_) hv
    simp only [spec_frBits.l1]
    rw [if_neg (by omega)]; simp only [bitsN, List.append_nil]
  | succ j ih =>
    intro acc hj ha hv
    have hv2 : Ev (fun k => spec_frBits.l0 k ((acc ++ [((b / 2 ^ j % 2 : Nat) : Int)]) ++ bitsN j b) l n (wrap64 (i + 1))) v := by
      rw [List.append_assoc]; exact hv
    refine Ev.step (fun k => ?_) (ih (acc ++ [((b / 2 ^ j % 2 : Nat) : Int)]) (by omega) (by simp; omega) hv2)
    simp only [spec_frBits.l1]
    have e : ((j + 1 : Nat) : Int) - 1 = (j : Int) := by omega
    have e2 : Int.tmod (shr .i64 (b : Int) (j : Int)) 2 = ((b / 2 ^ j % 2 : Nat) : Int) := by
      rw [shr_nat b j (by omega), Int.tmod_eq_emod_of_nonneg (Int.natCast_nonneg _)]; rfl
    rw [e, if_pos (by omega), if_pos (by omega), if_pos (by omega), e2, wrap_id (by omega) (by omega)]
theorem spec_frBits_l0 (l : List Int) (hb : ∀ x ∈ l, 0 ≤ x ∧ x ≤ 255) (hn : l.length ≤ 1048576) : ∀ (d i : Nat) (acc : List Int), i + d = l.length → acc.length + 8 * d ≤ 1099511627776 → Ev (fun k => spec_frBits.l0 k acc l (l.length : Int) (i : Int)) (acc ++ bitsL (l.drop i)) := by
  intro d
  induction d with
  | zero =>
    intro i acc h _
    refine ev_end (fun k => ?_)
    simp only [spec_frBits.l0]
    rw [if_neg (by omega), List.drop_of_length_le (by omega), bitsL, List.append_nil]
  | succ d ih =>
    intro i acc h ha
    have hi : i < l.length := by omega
    obtain ⟨b, eb, hb2⟩ := byte_nat hb hi
    have next := ih (i + 1) (acc ++ bitsN 8 b) (by omega) (by rw [List.length_append, bitsN_length]; omega)
    rw [← wrap_succ hi (by omega)] at next
    have e : acc ++ bitsL (l.drop i) = acc ++ bitsN 8 b ++ bitsL (l.drop (i + 1)) := by
      rw [List.drop_eq_getElem_cons hi, bitsL, eb, Int.toNat_natCast, List.append_assoc]
    rw [e]
    refine Ev.step (fun k => ?_) (spec_frBits_l1 l (l.length : Int) (i : Int) _ b hb2 8 acc (by omega) (by omega) next)
    simp only [spec_frBits.l0]
    rw [if_pos (by omega), if_pos (by omega), if_pos (by omega), rd_nat l hi, eb]; rfl
theorem spec_frBits_ev {l : List Int} (hb : ∀ x ∈ l, 0 ≤ x ∧ x ≤ 255) (hn : l.length ≤ 1048576) : Ev (fun k => spec_frBits.f k l) (bitsL l) := by
  unfold spec_frBits.f
  simpa using spec_frBits_l0 l hb hn l.length 0 [] (by omega) (by simp; omega)

theorem impl_bitsOf_l1 (l : List Int) (n i : Int) (v : List Int) (b : Nat) (hb : b < 256) : ∀ (j : Nat) (acc : List Int), j ≤ 8 → acc.length + j ≤ 1099511627776 → Ev (fun k => impl_bitsOf.l0 k (acc ++ bitsN j b) l n (wrap64 (i + 1))) v → Ev (fun k => impl_bitsOf.l1 k acc (b : Int) ((j : Int) - 1) l n i) v := by
  intro j
  induction j with
  | zero =>
    intro acc _ ha hv
    refine Ev.step (fun k => ?_) hv
    simp only [impl_bitsOf.l1]
    rw [if_neg (by omega)]; simp only [bitsN, List.append_nil]
  | succ j ih =>
    intro acc hj ha hv
    have hv2 : Ev (fun k => impl_bitsOf.l0 k ((acc ++ [((b / 2 ^ j % 2 : Nat) : Int)]) ++ bitsN j b) l n (wrap64 (i + 1))) v := by
      rw [List.append_assoc]; exact hv
    refine Ev.step (fun k => ?_) (ih (acc ++ [((b / 2 ^ j % 2 : Nat) : Int)]) (by omega) (by simp; omega) hv2)
    simp only [impl_bitsOf.l1]
    have e : ((j + 1 : Nat) : Int) - 1 = (j : Int) := by omega
    have e2 : Go.bits .and .i64 (shr .i64 (b : Int) (j : Int)) 1 = ((b / 2 ^ j % 2 : Nat) : Int) := by
      have h2 : b / 2 ^ j < 4294967296 := Nat.lt_of_le_of_lt (Nat.div_le_self _ _) (by omega)
      rw [shr_nat b j (by omega), show (1 : Int) = ((1 : Nat) : Int) from rfl, and_nat h2 (by omega), Nat.and_one_is_mod]
    rw [e, if_pos (by omega), if_pos (by omega), if_pos (by omega), e2, wrap_id (by omega) (by omega)]
theorem impl_bitsOf_l0 (l : List Int) (hb : ∀ x ∈ l, 0 ≤ x ∧ x ≤ 255) (hn : l.length ≤ 1048576) : ∀ (d i : Nat) (acc : List Int), i + d = l.length → acc.length + 8 * d ≤ 1099511627776 → Ev (fun k => impl_bitsOf.l0 k acc l (l.length : Int) (i : Int)) (acc ++ bitsL (l.drop i)) := by
  intro d
  induction d with
  | zero =>
    intro i acc h _
    refine ev_end (fun k => ?_)
    simp only [impl_bitsOf.l0]
    rw [if_neg (by omega), List.drop_of_length_le (by omega), bitsL, List.append_nil]
  | succ d ih =>
    intro i acc h ha
    have hi : i < l.length := by omega
    obtain ⟨b, eb, hb2⟩ := byte_nat hb hi
    have next := ih (i + 1) (acc ++ bitsN 8 b) (by omega) (by rw [List.length_append, bitsN_length]; omega)
    rw [← wrap_succ hi (by omega)] at next
    have e : acc ++ bitsL (l.drop i) = acc ++ bitsN 8 b ++ bitsL (l.drop (i + 1)) := by
      rw [List.drop_eq_getElem_cons hi, bitsL, eb, Int.toNat_natCast, List.append_assoc]
    rw [e]
    refine Ev.step (fun k => ?_) (impl_bitsOf_l1 l (l.length : Int) (i : Int) _ b hb2 8 acc (by omega) (by omega) next)
    simp only [impl_bitsOf.l0]
    rw [if_pos (by omega), if_pos (by omega), if_pos (by omega), rd_nat l hi, eb]; rfl
theorem impl_bitsOf_ev {l : List Int} (hb : ∀ x ∈ l, 0 ≤ x ∧ x ≤ 255) (hn : l.length ≤ 1048576) : Ev (fun k => impl_bitsOf.f k l) (bitsL l) := by
  unfold impl_bitsOf.f
  simpa using impl_bitsOf_l0 l hb hn l.length 0 [] (by omega) (by simp; omega)

theorem eqIntS_loop (l : List Int) (hn : l.length ≤ 1048576) : ∀ (d i k : Nat), i + d = l.length → d < k → laws_eqIntS.l0 k l l (i : Int) = some true := by
  intro d
  induction d with
  | zero =>
    intro i k h hk
    obtain ⟨k, rfl⟩ : ∃ m, k = m + 1 := ⟨k - 1, by omega⟩
    simp only [laws_eqIntS.l0]
    rw [if_neg (by omega)]
  | succ d ih =>
    intro i k h hk
    obtain ⟨k, rfl⟩ : ∃ m, k = m + 1 := ⟨k - 1, by omega⟩
    simp only [laws_eqIntS.l0]
    rw [if_pos (by omega), if_pos (by omega), if_pos (by omega), if_pos trivial, wrap_succ (n := l.length) (by omega) (by omega)]
    exact ih (i + 1) k (by omega) (by omega)
theorem eqIntS_refl {k : Nat} {l : List Int} (hn : l.length ≤ 1048576) (hk : l.length < k) : laws_eqIntS.f k l l = some true := by
  unfold laws_eqIntS.f
  rw [if_pos rfl]
  exact eqIntS_loop l hn l.length 0 k (by omega) hk

/-- n numbers from m on. -/
def marks (m : Int) (n : Nat) : List Int := (List.range n).map fun (j : Nat) => m + (j : Int)
theorem marks_length (m : Int) (n : Nat) : (marks m n).length = n := by simp [marks]
theorem marks_succ (m : Int) (n : Nat) : marks m (n + 1) = marks m n ++ [m + (n : Int)] := by simp [marks, List.range_succ]
theorem markIntS_loop (l : List Int) (m : Int) (hm : 0 ≤ m) (hm2 : m ≤ 1099511627776) (hn : l.length ≤ 1048576) : ∀ (d i k : Nat), i + d = l.length → d < k →
    laws_markIntS.l0 k (marks m i ++ l.drop i) (m + (i : Int)) (i : Int) = some (m + (l.length : Int), marks m l.length) := by
  intro d
  induction d with
  | zero =>
    intro i k h hk
    obtain ⟨k, rfl⟩ : ∃ m, k = m + 1 := ⟨k - 1, by omega⟩
    obtain rfl : i = l.length := by omega
    simp only [laws_markIntS.l0]
    rw [if_neg (by simp [marks_length])]
    simp
  | succ d ih =>
    intro i k h hk
    obtain ⟨k, rfl⟩ : ∃ m, k = m + 1 := ⟨k - 1, by omega⟩
    have hi : i < l.length := by omega
    have e : (marks m i ++ l.drop i).set i (m + (i : Int)) = marks m (i + 1) ++ l.drop (i + 1) := by
      rw [List.set_append_right _ _ (by simp [marks_length]), marks_length, Nat.sub_self, List.drop_eq_getElem_cons hi, List.set_cons_zero, marks_succ, List.append_assoc]; rfl
    simp only [laws_markIntS.l0]
    rw [if_pos (by simp [marks_length]; omega), if_pos (by omega), Int.toNat_natCast, e, wrap_succ hi (by omega), show wrap64 (m + (i : Int) + 1) = m + ((i + 1 : Nat) : Int) from by rw [wrap_id] <;> omega]
    exact ih (i + 1) k (by omega) (by omega)
theorem markIntS_eq {k : Nat} {l : List Int} {m : Int} (hm : 0 ≤ m) (hm2 : m ≤ 1099511627776) (hn : l.length ≤ 1048576) (hk : l.length < k) : laws_markIntS.f k l m = some (m + (l.length : Int), marks m l.length) := by
  unfold laws_markIntS.f
  have := markIntS_loop l m hm hm2 hn l.length 0 k (by omega) hk
  simpa [marks] using this
theorem heldIntS_loop (n : Nat) (m : Int) (hm : 0 ≤ m) (hm2 : m ≤ 1099511627776) (hn : n ≤ 1048576) : ∀ (d i k : Nat), i + d = n → d < k → laws_heldIntS.l0 k (marks m n) (m + (i : Int)) (i : Int) = some (m + (n : Int)) := by
  intro d
  induction d with
  | zero =>
    intro i k h hk
    obtain ⟨k, rfl⟩ : ∃ m, k = m + 1 := ⟨k - 1, by omega⟩
    obtain rfl : i = n := by omega
    simp only [laws_heldIntS.l0]
    rw [if_neg (by simp [marks_length])]
  | succ d ih =>
    intro i k h hk
    obtain ⟨k, rfl⟩ : ∃ m, k = m + 1 := ⟨k - 1, by omega⟩
    have hi : i < n := by omega
    have e : rd (marks m n) (i : Int) = m + (i : Int) := by rw [rd_nat _ (by simpa [marks_length] using hi)]; simp [marks]
    simp only [laws_heldIntS.l0]
    rw [if_pos (by simp [marks_length]; omega), if_pos (by omega), if_pos e, wrap_succ hi (by omega), show wrap64 (m + (i : Int) + 1) = m + ((i + 1 : Nat) : Int) from by rw [wrap_id] <;> omega]
    exact ih (i + 1) k (by omega) (by omega)
theorem heldIntS_eq {k n : Nat} {m : Int} (hm : 0 ≤ m) (hm2 : m ≤ 1099511627776) (hn : n ≤ 1048576) (hk : n < k) : laws_heldIntS.f k (marks m n) m = some (m + (n : Int)) := by
  unfold laws_heldIntS.f
  simpa using heldIntS_loop n m hm hm2 hn n 0 k (by omega) hk

theorem toIntS_loop (l : List Int) (hn : l.length ≤ 1048576) : ∀ (d i k : Nat), i + d = l.length → d < k → laws_toIntS.l0 k l (l.take i ++ List.replicate d 0) (i : Int) = some l := by
  intro d
  induction d with
  | zero =>
    intro i k h hk
    obtain ⟨k, rfl⟩ : ∃ m, k = m + 1 := ⟨k - 1, by omega⟩
    simp only [laws_toIntS.l0]
    rw [if_neg (by omega)]
    simp [List.take_of_length_le (show l.length ≤ i by omega)]
  | succ d ih =>
    intro i k h hk
    obtain ⟨k, rfl⟩ : ∃ m, k = m + 1 := ⟨k - 1, by omega⟩
    have hi : i < l.length := by omega
    have e : (l.take i ++ List.replicate (d + 1) 0).set i (rd l (i : Int)) = l.take (i + 1) ++ List.replicate d 0 := by
      rw [rd_nat l hi, List.set_append_right _ _ (by simp; omega)]
      simp only [List.length_take, Nat.min_eq_left (Nat.le_of_lt hi), Nat.sub_self, List.replicate_succ, List.set_cons_zero]
      rw [List.take_succ_eq_append_getElem hi, List.append_assoc]; rfl
    simp only [laws_toIntS.l0]
    rw [if_pos (by omega), if_pos (by omega), if_pos (by simp; omega), Int.toNat_natCast, e, wrap_succ hi (by omega)]
    exact ih (i + 1) k (by omega) (by omega)
theorem toIntS_eq {k : Nat} {l : List Int} (hn : l.length ≤ 1048576) (hk : l.length < k) : laws_toIntS.f k l = some l := by
  unfold laws_toIntS.f
  rw [if_pos (by omega), if_pos (by omega), Int.toNat_natCast]
  have := toIntS_loop l hn l.length 0 k (by omega) hk
  simpa using this

theorem both (l : List Int) (hn : l.length ≤ 1048576) : ∃ v : List Int × Bool, Ev (fun k => spec_BitsOf.f k l) v ∧ Ev (fun k => impl_BitsOf.f k l) v ∧ v.1.length ≤ 400 := by
  cases hb : bytesB l with
  | false =>
    refine ⟨([], false), ⟨l.length + 1, fun k hk => ?_⟩, ⟨0, fun k hk => ?_⟩, by simp⟩
    · show spec_BitsOf.f k l = _
      unfold spec_BitsOf.f; rw [spec_frBytes_eq (k := k) hn (by omega), hb]; rfl
    · show impl_BitsOf.f k l = _
      unfold impl_BitsOf.f; rw [impl_areBytes_eq, hb]; rfl
  | true =>
    obtain ⟨K1, h1⟩ := spec_frBits_ev (bytesB_mem hb) hn
    obtain ⟨K2, h2⟩ := impl_bitsOf_ev (bytesB_mem hb) hn
    simp only at h1 h2
    refine ⟨(bitsL l, true), ⟨K1 + l.length + 1, fun k hk => ?_⟩, ⟨K2, fun k hk => ?_⟩, by have := bytesB_len hb; simp only [bitsL_length]; omega⟩
    · show spec_BitsOf.f k l = _
      unfold spec_BitsOf.f
      rw [spec_frBytes_eq (k := k) hn (by omega), hb, Option.bind_some, if_pos rfl, h1 k (by omega)]; rfl
    · show impl_BitsOf.f k l = _
      unfold impl_BitsOf.f
      rw [impl_areBytes_eq, hb, Option.bind_some, if_pos rfl, h2 k (by omega)]; rfl
theorem FnExactBitsOf : FnExactBitsOfPure := by
  intro l hm _
  by_cases hl : (l.length : Int) > 1048576
  · exact ⟨0, by unfold laws_FnExactBitsOf.f; rw [if_pos hl]⟩
  · have hn : l.length ≤ 1048576 := by omega
    obtain ⟨v, ⟨K1, h1⟩, ⟨K2, h2⟩, hv⟩ := both l hn
    have n2 : ¬ (1 + (v.1.length : Int) < 0) := by omega
    have n3 : ¬ (1 + (l.length : Int) < 0) := by omega
    have hv2 : v.1.length ≤ 1048576 := by omega
    refine ⟨K1 + K2 + l.length + v.1.length + 10, ?_⟩
    unfold laws_FnExactBitsOf.f
    simp (disch := omega) only [Option.bind_some, ↓reduceIte, bne_self_eq_false, Bool.false_eq_true, h1, h2, hl, n2, n3, toIntS_eq hn, eqIntS_refl hv2, eqIntS_refl hn, markIntS_eq, heldIntS_eq]
    rw [laws_FnExactBitsOf.j0]
    simp (disch := omega) only [Option.bind_some, ↓reduceIte, bne_self_eq_false, Bool.false_eq_true, h1, h2, hl, n2, n3, toIntS_eq hn, eqIntS_refl hv2, eqIntS_refl hn, markIntS_eq, heldIntS_eq]
    rw [laws_FnExactBitsOf.j1]
    simp (disch := omega) only [Option.bind_some, ↓reduceIte, bne_self_eq_false, Bool.false_eq_true, h1, h2, hl, n2, n3, toIntS_eq hn, eqIntS_refl hv2, eqIntS_refl hn, markIntS_eq, heldIntS_eq]
    rw [laws_FnExactBitsOf.j2]
    simp (disch := omega) only [Option.bind_some, ↓reduceIte, bne_self_eq_false, Bool.false_eq_true, h1, h2, hl, n2, n3, toIntS_eq hn, eqIntS_refl hv2, eqIntS_refl hn, markIntS_eq, heldIntS_eq]

end Go.Proofs.Ytggempkfkjjlaaa.Pure
