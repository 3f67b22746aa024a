/- FnExactFirstBlind: the program's answer is the reference's, as plain functions over numbers and lists; no condition beyond the sizes that every value has. -/
import Derived.Test.YtnhlfbnfngembaaPFnExactFirstBlindx5
namespace Go.Proofs.Ytnhlfbnfngembaa.Pure
open Go.RowKit Go.Proofs.Ytnhlfbnfngembaa.PFnExactFirstBlind Go.Proofs.YtnhlfbnfngembaaW.PrintWords Go.Proofs.YtnhlfbnfngembaaW.PrintLast Go.Proofs.YtnhlfbnfngembaaW.PrintMore

/- The statement: ∀ (a0 : Int) (a1 : Int), (Lit.int .i64 a0).wf = true → (Lit.int .i64 a1).wf = true → ∃ k, laws_FnExactFirstBlind.f k a0 a1 = some true
What it reaches (each with k first where it has rounds; `.mono`: more rounds tell the same; `.l0`, ..: its loops, with `.mono_l`): spec_l1In.f, spec_frFlips.f, spec_l1All.f, spec_frBytes.f, spec_l1Rising.f, spec_frBits.f, spec_frFrom.f, spec_FlipBits.f, spec_frCheck.f, spec_frHas.f, spec_l1Own.f, spec_frBlind.f, spec_FirstBlind.f, impl_within.f, impl_isBlind.f, slices_Clone_int_int.f, impl_FirstBlind.f, laws_eqIntS.f, laws_markIntS.f, laws_heldIntS.f, laws_FnExactFirstBlind.f -/
set_option linter.unusedSimpArgs false
set_option linter.unusedVariables false
theorem wrap_id {x : Int} (h1 : -9223372036854775808 ≤ x) (h2 : x ≤ 9223372036854775807) : wrap64 x = x := by unfold wrap64; omega
theorem wrap_succ {i n : Nat} (h : i < n) (hn : n ≤ 4611686018427387904) : wrap64 ((i : Int) + 1) = ((i + 1 : Nat) : Int) := by rw [wrap_id] <;> omega
theorem rd_nat (l : List Int) {i : Nat} (h : i < l.length) : rd l (i : Int) = l[i] := by simp [rd, h]
theorem rd_mem (l : List Int) {i : Nat} (h : i < l.length) : rd l (i : Int) ∈ l := by rw [rd_nat l h]; exact List.getElem_mem h
/-- One round, and the end. -/
theorem ev_end {α : Type} {g : Nat → Option α} {r : α} (h : ∀ k, g (k + 1) = some r) : Ev g r := Ev.step h (Ev.now r)
theorem ev_of {α : Type} {g : Nat → Option α} {r : α} (h : ∀ k, g k = some r) : Ev g r := ⟨0, fun k _ => h k⟩
theorem ev_eq {α : Type} {g : Nat → Option α} {r r' : α} (h : Ev g r) (e : r = r') : Ev g r' := e ▸ h

theorem spec_l1In_eq (a b c : Int) : spec_l1In.f a b c = some (decide (b ≤ a ∧ a ≤ c)) := by
  unfold spec_l1In.f
  by_cases h : b ≤ a <;> simp [h]

theorem l1All_loop (lo hi : Int) (l : List Int) (hn : l.length ≤ 1048576) : ∀ (d i k : Nat), i + d = l.length → d < k → spec_l1All.l0 k lo hi l (l.length : Int) (i : Int) = some ((l.drop i).all fun x => decide (lo ≤ x ∧ x ≤ hi)) := by
  intro d
  induction d with
  | zero =>
    intro i k h hk
    obtain ⟨k, rfl⟩ : ∃ m, k = m + 1 := ⟨k - 1, by omega⟩
    simp only [spec_l1All.l0]
    rw [if_neg (by omega), List.drop_of_length_le (by omega)]
    rfl
  | succ d ih =>
    intro i k h hk
    obtain ⟨k, rfl⟩ : ∃ m, k = m + 1 := ⟨k - 1, by omega⟩
    have hlt : i < l.length := by omega
    simp only [spec_l1All.l0, spec_l1In_eq, Option.bind_some]
    rw [if_pos (by omega), if_pos (by omega), if_pos (by omega), rd_nat l hlt, wrap_succ hlt (by omega), ih (i + 1) k (by omega) (by omega), List.drop_eq_getElem_cons hlt, List.all_cons]
    by_cases c : lo ≤ l[i] ∧ l[i] ≤ hi <;> simp [c]
theorem spec_l1All_eq {k : Nat} {l : List Int} {lo hi : Int} (hn : l.length ≤ 1048576) (hk : l.length < k) : spec_l1All.f k l lo hi = some (l.all fun x => decide (lo ≤ x ∧ x ≤ hi)) := by
  unfold spec_l1All.f
  simpa using l1All_loop lo hi l hn l.length 0 k (by omega) hk

/-- What both call bytes. -/
def bytesB (l : List Int) : Bool := decide (l.length ≤ 40) && l.all fun x => decide (0 ≤ x ∧ x ≤ 255)
theorem spec_frBytes_eq {k : Nat} {l : List Int} (hn : l.length ≤ 1048576) (hk : l.length < k) : spec_frBytes.f k l = some (bytesB l) := by
  unfold spec_frBytes.f bytesB
  rw [spec_l1All_eq hn hk]
  by_cases h : (l.length : Int) ≤ 40
  · simp [show l.length ≤ 40 by omega, h]
  · simp [show ¬ l.length ≤ 40 by omega, h]
theorem bytesB_len {l : List Int} (h : bytesB l = true) : l.length ≤ 40 := by simp [bytesB] at h; exact h.1
theorem bytesB_mem {l : List Int} (h : bytesB l = true) : ∀ x ∈ l, 0 ≤ x ∧ x ≤ 255 := by simp [bytesB] at h; exact h.2

theorem xor_nat {a b : Nat} (ha : a < 4294967296) (hb : b < 4294967296) : Go.bits .xor .i64 (a : Int) (b : Int) = ((a ^^^ b : Nat) : Int) := by
  have ha' : a % 2 ^ 64 = a := Nat.mod_eq_of_lt (by omega)
  have hb' : b % 2 ^ 64 = b := Nat.mod_eq_of_lt (by omega)
  have hx : a ^^^ b < 4294967296 := Nat.xor_lt_two_pow (n := 32) ha hb
  have e : Go.bits .xor .i64 (a : Int) (b : Int) = IntKind.i64.wrap (((a ^^^ b : Nat)) : Int) := by
    simp only [bits, BitVec.ofInt_natCast, BitVec.toNat_xor, BitVec.toNat_ofNat]
    rw [show IntKind.i64.bits = 64 from rfl, ha', hb']
  rw [e, IntKind.wrap_i64]
  omega
/-- One step of the check's division, on a byte. -/
def crcStep (r : Nat) : Nat := if r * 2 > 255 then (r * 2 - 256) ^^^ 7 else r * 2
theorem crcStep_lt {r : Nat} (h : r < 256) : crcStep r < 256 := by
  unfold crcStep
  split
  · exact Nat.xor_lt_two_pow (n := 8) (by omega) (by omega)
  · omega
theorem crc_263 : ∀ x : Fin 256, 128 ≤ x.val → (x.val * 2) ^^^ 263 = (x.val * 2 - 256) ^^^ 7 := by decide +kernel
def crcIter : Nat → Nat → Nat
  | 0, r => r
  | d + 1, r => crcIter d (crcStep r)
theorem crcIter_lt : ∀ (d : Nat) {r : Nat}, r < 256 → crcIter d r < 256
  | 0, _, h => h
  | d + 1, _, h => crcIter_lt d (crcStep_lt h)
/-- The check of bytes, from a rest on. -/
def crcOf (n : Nat) : Nat → List Int → Nat
  | r, [] => r
  | r, b :: t => crcOf n (crcIter n (r ^^^ b.toNat)) t
theorem crcOf_cons (n r : Nat) (b : Int) (t : List Int) : crcOf n r (b :: t) = crcOf n (crcIter n (r ^^^ b.toNat)) t := rfl
theorem byte_nat {l : List Int} (hb : ∀ x ∈ l, 0 ≤ x ∧ x ≤ 255) {i : Nat} (hi : i < l.length) : ∃ b : Nat, l[i] = (b : Int) ∧ b < 256 := by
  have := hb l[i] (List.getElem_mem hi)
  exact ⟨l[i].toNat, by omega, by omega⟩
theorem crcOf_lt : ∀ (l : List Int) {r : Nat}, r < 256 → (∀ x ∈ l, 0 ≤ x ∧ x ≤ 255) → crcOf 8 r l < 256
  | [], _, h, _ => h
  | b :: t, r, h, hb => by
    have := hb b (by simp)
    rw [crcOf_cons]
    exact crcOf_lt t (crcIter_lt 8 (Nat.xor_lt_two_pow (n := 8) h (by omega))) (fun x hx => hb x (by simp [hx]))

theorem and_nat {a b : Nat} (ha : a < 4294967296) (hb : b < 4294967296) : Go.bits .and .i64 (a : Int) (b : Int) = ((a &&& b : Nat) : Int) := by
  have ha' : a % 2 ^ 64 = a := Nat.mod_eq_of_lt (by omega)
  have hb' : b % 2 ^ 64 = b := Nat.mod_eq_of_lt (by omega)
  have hx : a &&& b < 4294967296 := Nat.lt_of_le_of_lt Nat.and_le_left ha
  have e : Go.bits .and .i64 (a : Int) (b : Int) = IntKind.i64.wrap (((a &&& b : Nat)) : Int) := by
    simp only [bits, BitVec.ofInt_natCast, BitVec.toNat_and, BitVec.toNat_ofNat]
    rw [show IntKind.i64.bits = 64 from rfl, ha', hb']
  rw [e, IntKind.wrap_i64]
  omega
theorem shr_nat (b j : Nat) (hj : j ≤ 64) : shr .i64 (b : Int) (j : Int) = ((b / 2 ^ j : Nat) : Int) := by
  unfold shr
  rw [Int.toNat_natCast, show min j IntKind.i64.bits = j from Nat.min_eq_left hj]
  rw [Int.natCast_ediv, Int.natCast_pow]; rfl
/-- The j last bits of a number, the greatest first. -/
def bitsN : Nat → Nat → List Int
  | 0, _ => []
  | j + 1, b => ((b / 2 ^ j % 2 : Nat) : Int) :: bitsN j b
theorem bitsN_length : ∀ (j b : Nat), (bitsN j b).length = j
  | 0, _ => rfl
  | j + 1, b => by rw [bitsN, List.length_cons, bitsN_length j b]
def bitsL : List Int → List Int
  | [] => []
  | b :: t => bitsN 8 b.toNat ++ bitsL t
theorem bitsL_length : ∀ l : List Int, (bitsL l).length = 8 * l.length
  | [] => rfl
  | b :: t => by rw [bitsL, List.length_append, bitsN_length, bitsL_length t, List.length_cons]; omega

theorem spec_frBits_l1 (l : List Int) (n i : Int) (v : List Int) (b : Nat) (hb : b < 256) : ∀ (j : Nat) (acc : List Int), j ≤ 8 → acc.length + j ≤ 1099511627776 → Ev (fun k => spec_frBits.l0 k (acc ++ bitsN j b) l n (wrap64 (i + 1))) v → Ev (fun k => spec_frBits.l1 k acc (b : Int) ((j : Int) - 1) l n i) v := by
  intro j
  induction j with
  | zero =>
    intro acc _ ha hv
    refine Ev.step (fun k => ?_) hv
    simp only [spec_frBits.l1]
    rw [if_neg (by omega)]; simp only [bitsN, List.append_nil]
  | succ j ih =>
    intro acc hj ha hv
    have hv2 : Ev (fun k => spec_frBits.l0 k ((acc ++ [((b / 2 ^ j % 2 : Nat) : Int)]) ++ bitsN j b) l n (wrap64 (i + 1))) v := by
      rw [List.append_assoc]; exact hv
    refine Ev.step (fun k => ?_) (ih (acc ++ [((b / 2 ^ j % 2 : Nat) : Int)]) (by omega) (by simp; omega) hv2)
    simp only [spec_frBits.l1]
    have e : ((j + 1 : Nat) : Int) - 1 = (j : Int) := by omega
    have e2 : Int.tmod (shr .i64 (b : Int) (j : Int)) 2 = ((b / 2 ^ j % 2 : Nat) : Int) := by
      rw [shr_nat b j (by omega), Int.tmod_eq_emod_of_nonneg (Int.natCast_nonneg _)]; rfl
    rw [e, if_pos (by omega), if_pos (by omega), if_pos (by omega), e2, wrap_id (by omega) (by omega)]
theorem spec_frBits_l0 (l : List Int) (hb : ∀ x ∈ l, 0 ≤ x ∧ x ≤ 255) (hn : l.length ≤ 1048576) : ∀ (d i : Nat) (acc : List Int), i + d = l.length → acc.length + 8 * d ≤ 1099511627776 → Ev (fun k => spec_frBits.l0 k acc l (l.length : Int) (i : Int)) (acc ++ bitsL (l.drop i)) := by
  intro d
  induction d with
  | zero =>
    intro i acc h _
    refine ev_end (fun k => ?_)
    simp only [spec_frBits.l0]
    rw [if_neg (by omega), List.drop_of_length_le (by omega), bitsL, List.append_nil]
  | succ d ih =>
    intro i acc h ha
    have hi : i < l.length := by omega
    obtain ⟨b, eb, hb2⟩ := byte_nat hb hi
    have next := ih (i + 1) (acc ++ bitsN 8 b) (by omega) (by rw [List.length_append, bitsN_length]; omega)
    rw [← wrap_succ hi (by omega)] at next
    have e : acc ++ bitsL (l.drop i) = acc ++ bitsN 8 b ++ bitsL (l.drop (i + 1)) := by
      rw [List.drop_eq_getElem_cons hi, bitsL, eb, Int.toNat_natCast, List.append_assoc]
    rw [e]
    refine Ev.step (fun k => ?_) (spec_frBits_l1 l (l.length : Int) (i : Int) _ b hb2 8 acc (by omega) (by omega) next)
    simp only [spec_frBits.l0]
    rw [if_pos (by omega), if_pos (by omega), if_pos (by omega), rd_nat l hi, eb]; rfl
theorem spec_frBits_ev {l : List Int} (hb : ∀ x ∈ l, 0 ≤ x ∧ x ≤ 255) (hn : l.length ≤ 1048576) : Ev (fun k => spec_frBits.f k l) (bitsL l) := by
  unfold spec_frBits.f
  simpa using spec_frBits_l0 l hb hn l.length 0 [] (by omega) (by simp; omega)

def two (b x : Int) : Int := 2 * b + x
/-- The d numbers of which each eight bits are told, the greatest first. -/
def packF : Nat → List Int → List Int
  | 0, _ => []
  | d + 1, l => (l.take 8).foldl two 0 :: packF d (l.drop 8)
theorem packF_len : ∀ (d : Nat) (l : List Int), (packF d l).length = d
  | 0, _ => rfl
  | d + 1, l => by rw [packF, List.length_cons, packF_len d]
theorem pow_le {r : Nat} (h : r ≤ 8) : (2 : Int) ^ r ≤ 256 := by
  have : r = 0 ∨ r = 1 ∨ r = 2 ∨ r = 3 ∨ r = 4 ∨ r = 5 ∨ r = 6 ∨ r = 7 ∨ r = 8 := by omega
  rcases this with rfl | rfl | rfl | rfl | rfl | rfl | rfl | rfl | rfl <;> decide
theorem bit_mem {l : List Int} (hb : ∀ x ∈ l, 0 ≤ x ∧ x ≤ 1) {i : Nat} (hi : i < l.length) : 0 ≤ l[i] ∧ l[i] ≤ 1 := hb l[i] (List.getElem_mem hi)
theorem two_lt {p b : Int} {r : Nat} (h : 0 ≤ p ∧ p < 2 ^ r) (hb : 0 ≤ b ∧ b ≤ 1) : 0 ≤ 2 * p + b ∧ 2 * p + b < 2 ^ (r + 1) := by
  rw [Int.pow_succ]; omega
theorem foldl_lt : ∀ (l : List Int) (p : Int) (r : Nat), (∀ x ∈ l, 0 ≤ x ∧ x ≤ 1) → 0 ≤ p ∧ p < 2 ^ r → 0 ≤ l.foldl two p ∧ l.foldl two p < 2 ^ (r + l.length)
  | [], p, r, _, h => by simpa using h
  | x :: t, p, r, hb, h => by
    have := foldl_lt t (two p x) (r + 1) (fun y hy => hb y (by simp [hy])) (two_lt h (hb x (by simp)))
    rw [List.foldl_cons, List.length_cons, show r + (t.length + 1) = r + 1 + t.length from by omega]
    exact this
theorem packF_mem : ∀ (d : Nat) (l : List Int), (∀ x ∈ l, 0 ≤ x ∧ x ≤ 1) → ∀ y ∈ packF d l, 0 ≤ y ∧ y ≤ 255
  | 0, _, _, y, hy => by simp [packF] at hy
  | d + 1, l, hb, y, hy => by
    rw [packF] at hy
    rcases List.mem_cons.1 hy with rfl | hy
    · have h1 := foldl_lt (l.take 8) 0 0 (fun x hx => hb x (List.mem_of_mem_take hx)) (by simp)
      have h2 := pow_le (r := 0 + (l.take 8).length) (by simp; omega)
      omega
    · exact packF_mem d _ (fun x hx => hb x (List.mem_of_mem_drop hx)) y hy

theorem spec_from_l1 (l c acc : List Int) (hb : ∀ x ∈ c, 0 ≤ x ∧ x ≤ 1) (hc : c.length ≤ 8) (ha : acc.length ≤ 1048576) (i : Int) (v : List Int × Bool) : ∀ (d j : Nat) (p : Int), j + d = c.length → 0 ≤ p ∧ p < 2 ^ j →
    Ev (fun k => spec_frFrom.l0 k l (acc ++ [(c.drop j).foldl two p]) (wrap64 (i + 8))) v → Ev (fun k => spec_frFrom.l1 k l acc i p c (c.length : Int) (j : Int)) v := by
  intro d
  induction d with
  | zero =>
    intro j p h hp hv
    rw [List.drop_of_length_le (by omega)] at hv
    refine Ev.step (fun k => ?_) hv
    simp only [spec_frFrom.l1]
    rw [if_neg (by omega), if_pos (by omega)]; rfl
  | succ d ih =>
    intro j p h hp hv
    have hj : j < c.length := by omega
    have hbj := bit_mem hb hj
    have hp2 := two_lt hp hbj
    have hpw := pow_le (r := j + 1) (by omega)
    rw [List.drop_eq_getElem_cons hj, List.foldl_cons] at hv
    refine Ev.step (fun k => ?_) (ih (j + 1) (two p c[j]) (by omega) hp2 hv)
    simp only [spec_frFrom.l1]
    rw [if_pos (by omega), if_pos (by omega), if_pos (by omega), rd_nat c hj, wrap_id (x := 2 * p) (by omega) (by omega), wrap_id (x := 2 * p + c[j]) (by omega) (by omega), wrap_succ hj (by omega)]; rfl
theorem spec_from_l0 (l : List Int) (hb : ∀ x ∈ l, 0 ≤ x ∧ x ≤ 1) (hn : l.length ≤ 524288) : ∀ (d q : Nat) (acc : List Int), 8 * q + 8 * d = l.length → acc.length + d ≤ 1048576 →
    Ev (fun k => spec_frFrom.l0 k l acc ((8 * q : Nat) : Int)) (acc ++ packF d (l.drop (8 * q)), true) := by
  intro d
  induction d with
  | zero =>
    intro q acc h _
    refine ev_end (fun k => ?_)
    simp only [spec_frFrom.l0]
    rw [if_neg (by omega)]; simp [packF]
  | succ d ih =>
    intro q acc h ha
    have hw : wrap64 (((8 * q : Nat) : Int) + 8) = ((8 * (q + 1) : Nat) : Int) := by rw [wrap_id] <;> omega
    have e : (l.take (8 * (q + 1))).drop (8 * q) = (l.drop (8 * q)).take 8 := by rw [List.drop_take]; congr 1; omega
    have next := ih (q + 1) (acc ++ [((l.drop (8 * q)).take 8).foldl two 0]) (by omega) (by simp; omega)
    rw [← hw] at next
    have e2 : acc ++ packF (d + 1) (l.drop (8 * q)) = acc ++ [((l.drop (8 * q)).take 8).foldl two 0] ++ packF d (l.drop (8 * (q + 1))) := by
      rw [packF, List.drop_drop, List.append_assoc]; rfl
    rw [e2]
    refine Ev.step (fun k => ?_) (spec_from_l1 l ((l.drop (8 * q)).take 8) acc (fun x hx => hb x (List.mem_of_mem_drop (List.mem_of_mem_take hx))) (by simp; omega) (by omega) ((8 * q : Nat) : Int) _ _ 0 0 (Nat.zero_add _) (by simp) (by rw [List.drop_zero]; exact next))
    simp only [spec_frFrom.l0]
    rw [if_pos (by omega), if_pos (by omega), hw, if_pos (by omega), if_pos (by omega), Int.toNat_natCast, Int.toNat_natCast, e]; rfl
theorem spec_frFrom_ev {l : List Int} (hb : ∀ x ∈ l, 0 ≤ x ∧ x ≤ 1) (hn : l.length ≤ 524288) : Ev (fun k => spec_frFrom.f k l) (if l.length % 8 = 0 then (packF (l.length / 8) l, true) else ([], false)) := by
  unfold spec_frFrom.f
  by_cases h8 : l.length % 8 = 0
  · rw [if_pos h8]
    obtain ⟨K, hK⟩ := spec_from_l0 l hb hn (l.length / 8) 0 [] (by omega) (by simp; omega)
    refine ⟨K, fun k hk => ?_⟩
    have := hK k hk
    simp only [Nat.mul_zero, List.drop_zero, List.nil_append] at this
    show (if ((l.length : Int) % 8) = 0 then _ else _) = _
    rw [if_pos (by omega)]; exact this
  · rw [if_neg h8]
    refine ⟨0, fun k _ => ?_⟩
    show (if ((l.length : Int) % 8) = 0 then _ else _) = _
    rw [if_neg (by omega)]

/-- Is each number less than the next one? -/
def adjB : List Int → Bool
  | a :: b :: t => decide (a < b) && adjB (b :: t)
  | _ => true
def inB (lo hi x : Int) : Bool := decide (lo ≤ x ∧ x ≤ hi)
def risingB (l : List Int) (lo hi : Int) : Bool := l.all (inB lo hi) && adjB l
theorem adjB_at (l : List Int) {i : Nat} (h0 : 0 < i) (h : i < l.length) : adjB (l.drop (i - 1)) = (decide (l[i - 1] < l[i]) && adjB (l.drop i)) := by
  rw [List.drop_eq_getElem_cons (show i - 1 < l.length by omega), show i - 1 + 1 = i from by omega, List.drop_eq_getElem_cons h, adjB]
theorem wrap_pred {i n : Nat} (h0 : 0 < i) (h : i < n) (hn : n ≤ 4611686018427387904) : wrap64 ((i : Int) - 1) = ((i - 1 : Nat) : Int) := by rw [wrap_id] <;> omega

theorem spec_l1Rising_loop (lo hi : Int) (l : List Int) (hn : l.length ≤ 1048576) : ∀ (d i k : Nat), i + d = l.length → d < k →
    spec_l1Rising.l0 k l lo hi l (l.length : Int) (i : Int) = some ((l.drop i).all (inB lo hi) && adjB (l.drop (i - 1))) := by
  intro d
  induction d with
  | zero =>
    intro i k h hk
    obtain ⟨k, rfl⟩ : ∃ m, k = m + 1 := ⟨k - 1, by omega⟩
    simp only [spec_l1Rising.l0]
    rw [if_neg (by omega), List.drop_of_length_le (l := l) (i := i) (by omega)]
    have : adjB (l.drop (i - 1)) = true := by
      rcases Nat.eq_zero_or_pos i with h0 | h0
      · rw [h0, List.drop_of_length_le (by omega)]; rfl
      · rw [List.drop_eq_getElem_cons (show i - 1 < l.length by omega), List.drop_of_length_le (by omega)]; rfl
    simp [this]
  | succ d ih =>
    intro i k h hk
    obtain ⟨k, rfl⟩ : ∃ m, k = m + 1 := ⟨k - 1, by omega⟩
    have hlt : i < l.length := by omega
    have nx := ih (i + 1) k (by omega) (by omega)
    rw [Nat.add_sub_cancel] at nx
    have e : (l.drop i).all (inB lo hi) = (inB lo hi l[i] && (l.drop (i + 1)).all (inB lo hi)) := by rw [List.drop_eq_getElem_cons hlt, List.all_cons]
    simp only [spec_l1Rising.l0, spec_l1In_eq, Option.bind_some]
    rw [if_pos (by omega), if_pos (by omega), if_pos (by omega), rd_nat l hlt, wrap_succ hlt (by omega), e]
    by_cases c : lo ≤ l[i] ∧ l[i] ≤ hi
    · rw [if_pos (by simpa using c)]
      by_cases h0 : 0 < i
      · rw [if_pos (by omega), wrap_pred h0 hlt (by omega), if_pos (by omega), if_pos (by omega), rd_nat l (show i - 1 < l.length by omega), adjB_at l h0 hlt]
        by_cases c2 : l[i - 1] < l[i]
        · rw [if_neg (by omega), nx]; simp [inB, c, c2]
        · rw [if_pos (by omega)]; simp [c2]
      · obtain rfl : i = 0 := by omega
        rw [if_neg (by omega), nx]; simp [inB, c]
    · rw [if_neg (by simpa using c)]; simp only [inB, decide_eq_false c, Bool.false_and]
theorem spec_l1Rising_eq {k : Nat} {l : List Int} {lo hi : Int} (hn : l.length ≤ 1048576) (hk : l.length < k) : spec_l1Rising.f k l lo hi = some (risingB l lo hi) := by
  unfold spec_l1Rising.f
  simpa [risingB] using spec_l1Rising_loop lo hi l hn l.length 0 k (by omega) hk

theorem flip_dec : ∀ (b : Fin 256) (r : Fin 8), bitsN 8 (b.val ^^^ (128 / 2 ^ r.val)) = (bitsN 8 b.val).set r.val (1 - (bitsN 8 b.val).getD r.val 0) ∧ b.val ^^^ (128 / 2 ^ r.val) < 256 := by decide +kernel
theorem fold_dec : ∀ b : Fin 256, (bitsN 8 b.val).foldl two 0 = (b.val : Int) := by decide +kernel
theorem bitsN_mem : ∀ (j b : Nat), ∀ x ∈ bitsN j b, 0 ≤ x ∧ x ≤ 1
  | 0, _, _, h => by simp [bitsN] at h
  | j + 1, b, x, h => by
    rw [bitsN] at h
    rcases List.mem_cons.1 h with rfl | h
    · omega
    · exact bitsN_mem j b x h
theorem bitsL_mem : ∀ (l : List Int), ∀ x ∈ bitsL l, 0 ≤ x ∧ x ≤ 1
  | [], _, h => by simp [bitsL] at h
  | b :: t, x, h => by
    rw [bitsL] at h
    rcases List.mem_append.1 h with h | h
    · exact bitsN_mem _ _ x h
    · exact bitsL_mem t x h
theorem packF_bits : ∀ (l : List Int), (∀ x ∈ l, 0 ≤ x ∧ x ≤ 255) → packF l.length (bitsL l) = l
  | [], _ => rfl
  | b :: t, h => by
    have hb := h b (by simp)
    have f := fold_dec ⟨b.toNat, by omega⟩
    simp only at f
    rw [List.length_cons, packF, bitsL, List.take_left' (bitsN_length 8 _), List.drop_left' (bitsN_length 8 _), packF_bits t (fun x hx => h x (by simp [hx])), f]
    congr 1; omega
def flipAt (y : List Int) (q r : Nat) : List Int := y.set q (((y.getD q 0).toNat ^^^ (128 / 2 ^ r) : Nat) : Int)
theorem flipAt_len (y : List Int) (q r : Nat) : (flipAt y q r).length = y.length := by simp [flipAt]
theorem flipAt_mem {y : List Int} (h : ∀ x ∈ y, 0 ≤ x ∧ x ≤ 255) {q r : Nat} (hq : q < y.length) (hr : r < 8) : ∀ x ∈ flipAt y q r, 0 ≤ x ∧ x ≤ 255 := by
  intro x hx
  unfold flipAt at hx
  rcases List.mem_or_eq_of_mem_set hx with hx | rfl
  · exact h x hx
  · have hb := h y[q] (List.getElem_mem hq)
    have e : y.getD q 0 = y[q] := by simp [List.getD, hq]
    have := (flip_dec ⟨y[q].toNat, by omega⟩ ⟨r, hr⟩).2
    simp only at this
    rw [e]; omega
theorem bitsL_flip : ∀ (y : List Int) (q r : Nat), (∀ x ∈ y, 0 ≤ x ∧ x ≤ 255) → q < y.length → r < 8 → bitsL (flipAt y q r) = (bitsL y).set (8 * q + r) (1 - (bitsL y).getD (8 * q + r) 0)
  | [], _, _, _, h, _ => by simp at h
  | b :: t, 0, r, h, _, hr => by
    have hb := h b (by simp)
    have f := (flip_dec ⟨b.toNat, by omega⟩ ⟨r, hr⟩).1
    simp only at f
    have e : flipAt (b :: t) 0 r = ((b.toNat ^^^ (128 / 2 ^ r) : Nat) : Int) :: t := rfl
    have hl : r < (bitsN 8 b.toNat).length := by rw [bitsN_length]; exact hr
    rw [e, bitsL, bitsL, Int.toNat_natCast, f, Nat.mul_zero, Nat.zero_add, List.set_append_left _ _ hl]
    congr 3
    simp [List.getD, List.getElem?_append_left hl]
  | b :: t, q + 1, r, h, hq, hr => by
    have e : flipAt (b :: t) (q + 1) r = b :: flipAt t q r := rfl
    have ih := bitsL_flip t q r (fun x hx => h x (by simp [hx])) (by simpa using hq) hr
    have hl : (bitsN 8 b.toNat).length ≤ 8 * (q + 1) + r := by rw [bitsN_length]; omega
    have e2 : 8 * (q + 1) + r - (bitsN 8 b.toNat).length = 8 * q + r := by rw [bitsN_length]; omega
    rw [e, bitsL, bitsL, ih, List.set_append_right _ _ hl, e2]
    congr 3
    simp [List.getD, List.getElem?_append_right hl, e2]
def flips (y : List Int) : List Int → List Int
  | [] => y
  | p :: ps => flips (flipAt y (p.toNat / 8) (p.toNat % 8)) ps
theorem flips_len : ∀ (ps y : List Int), (flips y ps).length = y.length
  | [], _ => rfl
  | p :: ps, y => by rw [flips, flips_len ps, flipAt_len]

theorem rd_getD (l : List Int) (p : Nat) : rd l (p : Int) = l.getD p 0 := by simp [rd]
theorem spec_flip_l0 (l : List Int) (n : Nat) (hn : n ≤ 40) (hl : l.length ≤ 1048576) (hp : ∀ p ∈ l, 0 ≤ p ∧ p < 8 * (n : Int)) : ∀ (d i : Nat) (y : List Int), i + d = l.length → y.length = n → (∀ x ∈ y, 0 ≤ x ∧ x ≤ 255) →
    Ev (fun k => spec_FlipBits.l0 k (bitsL y) l (l.length : Int) (i : Int)) (flips y (l.drop i), true) := by
  intro d
  induction d with
  | zero =>
    intro i y h hy hb
    have hf := spec_frFrom_ev (bitsL_mem y) (by rw [bitsL_length]; omega)
    rw [if_pos (by rw [bitsL_length]; omega), show (bitsL y).length / 8 = y.length by rw [bitsL_length]; omega, packF_bits y hb] at hf
    rw [List.drop_of_length_le (by omega), flips]
    obtain ⟨K, hK⟩ := hf
    simp only at hK
    refine ⟨K + 1, fun k hk => ?_⟩
    obtain ⟨k, rfl⟩ : ∃ m, k = m + 1 := ⟨k - 1, by omega⟩
    show spec_FlipBits.l0 (k + 1) _ _ _ _ = _
    simp only [spec_FlipBits.l0]
    rw [if_neg (by omega), hK k (by omega)]; rfl
  | succ d ih =>
    intro i y h hy hb
    have hi : i < l.length := by omega
    have hpi := hp l[i] (List.getElem_mem hi)
    obtain ⟨p, ep⟩ : ∃ p : Nat, l[i] = (p : Int) := ⟨l[i].toNat, by omega⟩
    have hp8 : p < 8 * n := by omega
    have hq : p / 8 < y.length := by omega
    have hr : p % 8 < 8 := by omega
    rw [List.drop_eq_getElem_cons hi, flips, ep, Int.toNat_natCast]
    have nx := ih (i + 1) (flipAt y (p / 8) (p % 8)) (by omega) (by rw [flipAt_len, hy]) (flipAt_mem hb hq hr)
    rw [bitsL_flip y _ _ hb hq hr, show 8 * (p / 8) + p % 8 = p by omega] at nx
    refine Ev.step (fun k => ?_) nx
    have hbl : p < (bitsL y).length := by rw [bitsL_length]; omega
    have hm := bitsL_mem y _ (List.getElem_mem hbl)
    have hm2 : rd (bitsL y) (p : Int) = (bitsL y)[p] := rd_nat _ hbl
    simp only [spec_FlipBits.l0]
    rw [if_pos (by omega), if_pos (by omega), if_pos (by omega), rd_nat l hi, ep, if_pos (by omega), if_pos (by omega), wrap_succ hi (by omega), wrap_id (x := 1 - rd (bitsL y) (p : Int)) (by omega) (by omega), rd_getD, Int.toNat_natCast]
theorem spec_FlipBits_ev (a b : List Int) (hn : a.length ≤ 1048576) (hm : b.length ≤ 1048576) (hb : bytesB a = true) (hr : risingB b 0 (8 * (a.length : Int) - 1) = true) : Ev (fun k => spec_FlipBits.f k a b) (flips a b, true) := by
  have la := bytesB_len hb
  have w : wrap64 (wrap64 (8 * (a.length : Int)) - 1) = 8 * (a.length : Int) - 1 := by rw [wrap_id (x := 8 * (a.length : Int)) (by omega) (by omega), wrap_id (by omega) (by omega)]
  have hp : ∀ p ∈ b, 0 ≤ p ∧ p < 8 * (a.length : Int) := by
    intro p hp
    simp only [risingB, Bool.and_eq_true, List.all_eq_true, inB, decide_eq_true_eq] at hr
    have := hr.1 p hp; omega
  obtain ⟨K0, h0⟩ := spec_frBits_ev (bytesB_mem hb) hn
  obtain ⟨K1, h1⟩ := spec_flip_l0 b a.length la hm hp b.length 0 a (by omega) rfl (bytesB_mem hb)
  simp only [List.drop_zero] at h0 h1
  refine ⟨K0 + K1 + a.length + b.length + 2, fun k hk => ?_⟩
  show spec_FlipBits.f k a b = _
  obtain ⟨k, rfl⟩ : ∃ m, k = m + 1 := ⟨k - 1, by omega⟩
  unfold spec_FlipBits.f; rw [spec_frBytes_eq (k := k + 1) hn (by omega), hb, Option.bind_some, if_pos rfl, w, spec_l1Rising_eq hm (by omega), hr, Option.bind_some]
  simp only [spec_FlipBits.j0]
  rw [if_neg (by simp), h0 k (by omega), Option.bind_some]
  exact h1 k (by omega)

theorem spec_check_l1 (l : List Int) (n i : Int) (v : Int) : ∀ (d j r : Nat), j + d = 8 → r < 256 → Ev (fun k => spec_frCheck.l0 k (crcIter d r : Int) l n (wrap64 (i + 1))) v → Ev (fun k => spec_frCheck.l1 k (r : Int) (j : Int) l n i) v := by
  intro d
  induction d with
  | zero =>
    intro j r h hr hv
    refine Ev.step (fun k => ?_) hv
    simp only [spec_frCheck.l1]
    rw [if_neg (by omega)]; simp only [crcIter]
  | succ d ih =>
    intro j r h hr hv
    refine Ev.step (fun k => ?_) (ih (j + 1) (crcStep r) (by omega) (crcStep_lt hr) (by simpa only [crcIter] using hv))
    simp only [spec_frCheck.l1]
    rw [if_pos (by omega), wrap_id (x := (r : Int) * 2) (by omega) (by omega), wrap_id (x := (j : Int) + 1) (by omega) (by omega)]
    by_cases c : r * 2 > 255
    · rw [if_pos (by omega)]
      have e : Int.tmod ((r : Int) * 2) 256 = ((r * 2 - 256 : Nat) : Int) := by
        rw [Int.tmod_eq_emod_of_nonneg (by omega)]; omega
      have e2 : Go.bits .xor .i64 (Int.tmod ((r : Int) * 2) 256) 7 = ((crcStep r : Nat) : Int) := by
        rw [e, show (7 : Int) = ((7 : Nat) : Int) from rfl, xor_nat (by omega) (by omega), crcStep, if_pos c]
      rw [e2, show ((j + 1 : Nat) : Int) = (j : Int) + 1 from by omega]
    · rw [if_neg (by omega)]
      have e2 : (r : Int) * 2 = ((crcStep r : Nat) : Int) := by rw [crcStep, if_neg c]; omega
      rw [e2, show ((j + 1 : Nat) : Int) = (j : Int) + 1 from by omega]
theorem spec_check_l0 (l : List Int) (hb : ∀ x ∈ l, 0 ≤ x ∧ x ≤ 255) (hn : l.length ≤ 1048576) : ∀ (d i r : Nat), i + d = l.length → r < 256 → Ev (fun k => spec_frCheck.l0 k (r : Int) l (l.length : Int) (i : Int)) (crcOf 8 r (l.drop i) : Int) := by
  intro d
  induction d with
  | zero =>
    intro i r h hr
    refine ev_end (fun k => ?_)
    simp only [spec_frCheck.l0]
    rw [if_neg (by omega), List.drop_of_length_le (by omega)]; rfl
  | succ d ih =>
    intro i r h hr
    have hi : i < l.length := by omega
    obtain ⟨b, eb, hb2⟩ := byte_nat hb hi
    have hx : r ^^^ b < 256 := Nat.xor_lt_two_pow (n := 8) hr hb2
    have e : crcOf 8 r (l.drop i) = crcOf 8 (crcIter 8 (r ^^^ b)) (l.drop (i + 1)) := by
      rw [List.drop_eq_getElem_cons hi, crcOf_cons, eb, Int.toNat_natCast]
    have next := ih (i + 1) (crcIter 8 (r ^^^ b)) (by omega) (crcIter_lt 8 hx)
    rw [← e, ← wrap_succ hi (by omega)] at next
    refine Ev.step (fun k => ?_) (spec_check_l1 l (l.length : Int) (i : Int) _ 8 0 (r ^^^ b) rfl hx next)
    simp only [spec_frCheck.l0]
    rw [if_pos (by omega), if_pos (by omega), if_pos (by omega), rd_nat l hi, eb, xor_nat (by omega) (by omega), show ((0 : Nat) : Int) = 0 from rfl]
theorem spec_frCheck_ev {l : List Int} (hb : ∀ x ∈ l, 0 ≤ x ∧ x ≤ 255) (hn : l.length ≤ 1048576) : Ev (fun k => spec_frCheck.f k l) (crcOf 8 0 l : Int) := by
  unfold spec_frCheck.f
  simpa using spec_check_l0 l hb hn l.length 0 0 (by omega) (by omega)

theorem crcStep_lin : ∀ x y : Fin 256, crcStep (x.val ^^^ y.val) = crcStep x.val ^^^ crcStep y.val := by decide +kernel
theorem crcStep_xor {a b : Nat} (ha : a < 256) (hb : b < 256) : crcStep (a ^^^ b) = crcStep a ^^^ crcStep b := crcStep_lin ⟨a, ha⟩ ⟨b, hb⟩
theorem crcIter_xor : ∀ (d : Nat) {a b : Nat}, a < 256 → b < 256 → crcIter d (a ^^^ b) = crcIter d a ^^^ crcIter d b
  | 0, _, _, _, _ => rfl
  | d + 1, a, b, ha, hb => by
    rw [crcIter, crcStep_xor ha hb, crcIter_xor d (crcStep_lt ha) (crcStep_lt hb)]; rfl
/-- The rest of bytes, the last one its check: 0 if it is right. -/
def restOf (n : Nat) : Nat → List Nat → Nat
  | r, [] => r
  | r, [b] => r ^^^ b
  | r, b :: c :: t => restOf n (crcIter n (r ^^^ b)) (c :: t)
theorem restOf_one (n r b : Nat) : restOf n r [b] = r ^^^ b := rfl
theorem restOf_two (n r b c : Nat) (t : List Nat) : restOf n r (b :: c :: t) = restOf n (crcIter n (r ^^^ b)) (c :: t) := rfl
theorem xor_swap4 (a b c d : Nat) : a ^^^ b ^^^ (c ^^^ d) = a ^^^ c ^^^ (b ^^^ d) := by
  rw [Nat.xor_assoc, ← Nat.xor_assoc b, Nat.xor_comm b c, Nat.xor_assoc c, ← Nat.xor_assoc]
theorem restOf_xor (n : Nat) : ∀ (l m : List Nat) (r q : Nat), l.length = m.length → r < 256 → q < 256 → (∀ x ∈ l, x < 256) → (∀ x ∈ m, x < 256) → restOf n (r ^^^ q) (List.zipWith (· ^^^ ·) l m) = restOf n r l ^^^ restOf n q m
  | [], [], r, q, _, _, _, _, _ => rfl
  | [b], [c], r, q, _, _, _, _, _ => by
    rw [List.zipWith_cons_cons, List.zipWith_nil_left, restOf_one, restOf_one, restOf_one, xor_swap4]
  | b :: b2 :: t, c :: c2 :: u, r, q, h, hr, hq, hl, hm => by
    have h1 := hl b (by simp)
    have h2 := hm c (by simp)
    have hx : r ^^^ b < 256 := Nat.xor_lt_two_pow (n := 8) hr h1
    have hy : q ^^^ c < 256 := Nat.xor_lt_two_pow (n := 8) hq h2
    have ih := restOf_xor n (b2 :: t) (c2 :: u) _ _ (by simpa using h) (crcIter_lt n hx) (crcIter_lt n hy) (fun x hx => hl x (by simp [hx])) (fun x hx => hm x (by simp [hx]))
    rw [List.zipWith_cons_cons] at ih
    rw [List.zipWith_cons_cons, List.zipWith_cons_cons, restOf_two, restOf_two, restOf_two, xor_swap4, crcIter_xor n hx hy, ih]
  | [_], _ :: _ :: _, _, _, h, _, _, _, _ => by simp at h
  | _ :: _ :: _, [_], _, _, h, _, _, _, _ => by simp at h
  | [], _ :: _, _, _, h, _, _, _, _ => by simp at h
  | _ :: _, [], _, _, h, _, _, _, _ => by simp at h
/-- Bytes with one bit set. -/
def bitAt (n p : Nat) : List Nat := (List.range n).map fun i => if i = p / 8 then 128 / 2 ^ (p % 8) else 0
/-- The rest that a bit leaves. -/
def remOf (n p : Nat) : Nat := crcIter (8 * n - 1 - p) 1
theorem rem_bits : ∀ n : Fin 7, ∀ p : Fin 48, 1 ≤ n.val → p.val < 8 * n.val → restOf 8 0 (bitAt n.val p.val) = remOf n.val p.val := by decide +kernel

def natL (y : List Int) : List Nat := y.map Int.toNat
theorem natL_lt {y : List Int} (h : ∀ x ∈ y, 0 ≤ x ∧ x ≤ 255) : ∀ x ∈ natL y, x < 256 := by
  intro x hx
  simp only [natL, List.mem_map] at hx
  obtain ⟨z, hz, rfl⟩ := hx
  have := h z hz; omega
theorem bitAt_lt (n p : Nat) : ∀ x ∈ bitAt n p, x < 256 := by
  intro x hx
  simp only [bitAt, List.mem_map] at hx
  obtain ⟨z, _, rfl⟩ := hx
  have := Nat.div_le_self 128 (2 ^ (p % 8))
  split <;> omega
theorem natL_flip (y : List Int) (n p : Nat) (hy : y.length = n) (hp : p < 8 * n) : natL (flipAt y (p / 8) (p % 8)) = List.zipWith (· ^^^ ·) (natL y) (bitAt n p) := by
  refine List.ext_getElem (by simp [natL, flipAt, bitAt, hy]) (fun i h1 h2 => ?_)
  have hi : i < y.length := by simpa [natL, flipAt] using h1
  simp only [natL, flipAt, bitAt, List.getElem_map, List.getElem_set, List.getElem_zipWith, List.getElem_range]
  by_cases e : p / 8 = i
  · subst e
    have : y.getD (p / 8) 0 = y[p / 8] := by simp [List.getD, hi]
    rw [if_pos rfl, if_pos rfl, this, Int.toNat_natCast]
  · rw [if_neg e, if_neg (fun h => e h.symm), Nat.xor_zero]
theorem rest_flip (y : List Int) (n p : Nat) (hn : 1 ≤ n ∧ n ≤ 6) (hy : y.length = n) (hb : ∀ x ∈ y, 0 ≤ x ∧ x ≤ 255) (hp : p < 8 * n) : restOf 8 0 (natL (flipAt y (p / 8) (p % 8))) = restOf 8 0 (natL y) ^^^ remOf n p := by
  have h := restOf_xor 8 (natL y) (bitAt n p) 0 0 (by simp [natL, bitAt, hy]) (by omega) (by omega) (natL_lt hb) (bitAt_lt n p)
  rw [natL_flip y n p hy hp]
  have e := rem_bits ⟨n, by omega⟩ ⟨p, by omega⟩ hn.1 hp
  simp only at e
  rw [e] at h
  exact h
/-- The rest that places leave. -/
def rN (n : Nat) (r : Nat) (ps : List Nat) : Nat := ps.foldl (fun r p => r ^^^ remOf n p) r
theorem rest_flips (n : Nat) (hn : 1 ≤ n ∧ n ≤ 6) : ∀ (ps : List Nat) (y : List Int), y.length = n → (∀ x ∈ y, 0 ≤ x ∧ x ≤ 255) → (∀ p ∈ ps, p < 8 * n) → restOf 8 0 (natL (flips y (ps.map fun (p : Nat) => (p : Int)))) = rN n (restOf 8 0 (natL y)) ps
  | [], y, _, _, _ => rfl
  | p :: ps, y, hy, hb, hp => by
    have h1 := hp p (by simp)
    rw [List.map_cons, flips, Int.toNat_natCast, rest_flips n hn ps _ (by rw [flipAt_len, hy]) (flipAt_mem hb (by omega) (by omega)) (fun q hq => hp q (by simp [hq])), rest_flip y n p hn hy hb h1]
    rfl
theorem rest_zero : ∀ n : Fin 7, restOf 8 0 (natL (List.replicate n.val 0)) = 0 := by decide +kernel
theorem rest_crc (m : Nat) (b : Int) : ∀ (l : List Int) (r : Nat), restOf m r (natL (l ++ [b])) = crcOf m r l ^^^ b.toNat
  | [], r => rfl
  | [x], r => rfl
  | x :: z :: l, r => by
    have := rest_crc m b (z :: l) (crcIter m (r ^^^ x.toNat))
    rw [crcOf_cons, ← this]
    rfl
theorem remOf_lt (n p : Nat) : remOf n p < 256 := crcIter_lt _ (by omega)
theorem crcIter_last : ∀ (d r : Nat), crcIter (d + 1) r = crcStep (crcIter d r)
  | 0, _ => rfl
  | d + 1, r => crcIter_last d (crcStep r)
theorem stepI_nat {x : Nat} (h : x < 256) : stepI (x : Int) = (crcStep x : Int) := by
  have hw : wrap64 ((x : Int) * 2) = ((x * 2 : Nat) : Int) := by rw [wrap_id (by omega) (by omega)]; omega
  unfold stepI crcStep
  rw [hw]
  by_cases c : x * 2 > 255
  · have := crc_263 ⟨x, h⟩ (by show 128 ≤ x; omega)
    simp only at this
    rw [if_pos (by omega), if_pos c, show (263 : Int) = ((263 : Nat) : Int) from rfl, xor_nat (by omega) (by omega), this]
  · rw [if_neg (by omega), if_neg c]
theorem restI_nat : ∀ k, restI k = (crcIter k 1 : Int)
  | 0 => rfl
  | k + 1 => by rw [restI, restI_nat k, stepI_nat (crcIter_lt _ (by omega)), crcIter_last]
theorem rems_at (n p : Nat) (hp : p < 8 * n) : rd (remsAt (8 * n) (8 * n)) (p : Int) = (remOf n p : Int) := by
  have : rd (remsAt (8 * n) (8 * n)) (p : Int) = restI (8 * n - 1 - p) := by simp [rd, remsAt, hp]
  rw [this, restI_nat]; rfl

/-- The lists that are found. -/
def blindL (rem : List Int) : Nat → Int → List Int → Nat → List (List Int)
  | 0, rest, xs, _ => if rest = 0 then [xs] else []
  | m + 1, rest, xs, fr => (List.range' fr (rem.length - fr)).flatMap fun (p : Nat) => blindL rem m (Go.bits .xor .i64 rest (rd rem (p : Int))) (xs ++ [(p : Int)]) (p + 1)
theorem foldl_flat {α β S : Type} (f : α → List β) (g : S → β → S) : ∀ (l : List α) (σ : S), (l.flatMap f).foldl g σ = l.foldl (fun σ a => (f a).foldl g σ) σ
  | [], _ => rfl
  | a :: l, σ => by rw [List.flatMap_cons, List.foldl_append, foldl_flat f g l, List.foldl_cons]
theorem blindF_eq {S : Type} (rem : List Int) (step : S → List Int → S) : ∀ (m : Nat) (rest : Int) (xs : List Int) (fr : Nat) (σ : S), blindF rem step m rest xs fr σ = (blindL rem m rest xs fr).foldl step σ
  | 0, rest, xs, fr, σ => by unfold blindF blindL; split <;> rfl
  | m + 1, rest, xs, fr, σ => by
    rw [blindF, blindL, foldl_flat]
    congr 1
    funext σ p
    exact blindF_eq rem step m _ _ _ σ
theorem flat_len {α β : Type} (f : α → List β) (B : Nat) (h : ∀ a, (f a).length ≤ B) : ∀ l : List α, (l.flatMap f).length ≤ l.length * B
  | [] => by simp
  | a :: l => by
    rw [List.flatMap_cons, List.length_append, List.length_cons, Nat.succ_mul]
    have := h a; have := flat_len f B h l; omega
theorem blindL_len (rem : List Int) (hN : rem.length ≤ 48) : ∀ (m : Nat) (rest : Int) (xs : List Int) (fr : Nat), (blindL rem m rest xs fr).length ≤ 48 ^ m
  | 0, rest, xs, fr => by unfold blindL; split <;> simp
  | m + 1, rest, xs, fr => by
    rw [blindL, Nat.pow_succ, Nat.mul_comm]
    refine Nat.le_trans (flat_len _ (48 ^ m) (fun p => blindL_len rem hN m _ _ _) _) ?_
    rw [List.length_range']
    exact Nat.mul_le_mul_right _ (by omega)
def natsI (ps : List Nat) : List Int := ps.map fun (p : Nat) => (p : Int)
theorem natsI_snoc (ps : List Nat) (p : Nat) : natsI (ps ++ [p]) = natsI ps ++ [(p : Int)] := by simp [natsI]
/-- The next place. -/
def nextP (ps : List Nat) : Nat := match ps.getLast? with | none => 0 | some q => q + 1
theorem adj_of_pair : ∀ ps : List Nat, ps.Pairwise (· < ·) → adjB (natsI ps) = true
  | [], _ => rfl
  | [_], _ => rfl
  | a :: b :: t, h => by
    obtain ⟨h1, h2⟩ := List.pairwise_cons.1 h
    have := h1 b (by simp)
    have ih := adj_of_pair (b :: t) h2
    simp only [natsI, List.map_cons] at ih ⊢
    rw [adjB, ih, decide_eq_true (by omega)]; rfl
theorem zeros_bytes (n : Nat) (hn : n ≤ 6) : bytesB (List.replicate n 0) = true := by
  simp only [bytesB, Bool.and_eq_true, decide_eq_true_eq, List.length_replicate, List.all_eq_true]
  refine ⟨by omega, fun x hx => ?_⟩
  rw [List.eq_of_mem_replicate hx]; omega
theorem xor_zero {a b : Nat} : a ^^^ b = 0 ↔ a = b := by
  constructor
  · intro h
    have : a ^^^ b ^^^ b = 0 ^^^ b := by rw [h]
    rwa [Nat.xor_assoc, Nat.xor_self, Nat.xor_zero, Nat.zero_xor] at this
  · rintro rfl; exact Nat.xor_self a
theorem flips_mem : ∀ (ps : List Nat) (y : List Int), (∀ x ∈ y, 0 ≤ x ∧ x ≤ 255) → (∀ p ∈ ps, p < 8 * y.length) → ∀ x ∈ flips y (natsI ps), 0 ≤ x ∧ x ≤ 255
  | [], _, h, _ => h
  | p :: ps, y, h, hp => by
    have h1 := hp p (by simp)
    rw [natsI, List.map_cons, flips, Int.toNat_natCast]
    exact flips_mem ps _ (flipAt_mem h (by omega) (by omega)) (fun q hq => by rw [flipAt_len]; exact hp q (by simp [hq]))
/-- Whether flips are not found. -/
theorem spec_has_ev (n : Nat) (hn : 1 ≤ n ∧ n ≤ 6) (ps : List Nat) (hp : ∀ p ∈ ps, p < 8 * n) : Ev (fun k => spec_frHas.f k (flips (List.replicate n 0) (natsI ps))) (decide (rN n 0 ps = 0)) := by
  have hz : ∀ x ∈ List.replicate n (0 : Int), 0 ≤ x ∧ x ≤ 255 := fun x hx => by rw [List.eq_of_mem_replicate hx]; omega
  have hr := rest_flips n hn ps (List.replicate n 0) (by simp) hz hp
  have h0 := rest_zero ⟨n, by omega⟩
  simp only at h0
  rw [h0] at hr
  have hm := flips_mem ps (List.replicate n 0) hz (by simpa using hp)
  have hl : (flips (List.replicate n 0) (natsI ps)).length = n := by rw [flips_len, List.length_replicate]
  change restOf 8 0 (natL (flips (List.replicate n 0) (natsI ps))) = _ at hr
  generalize flips (List.replicate n 0) (natsI ps) = y at hr hm hl ⊢
  obtain ⟨l, b, rfl⟩ : ∃ l b, y = l ++ [b] := ⟨y.dropLast, y.getLast (by intro e; simp [e] at hl; omega), (List.dropLast_concat_getLast _).symm⟩
  have hll : l.length + 1 = n := by simpa using hl
  have hml : ∀ x ∈ l, 0 ≤ x ∧ x ≤ 255 := fun x hx => hm x (by simp [hx])
  have hb := hm b (by simp)
  rw [rest_crc] at hr
  obtain ⟨K, hK⟩ := spec_frCheck_ev hml (by omega)
  simp only at hK
  refine ⟨K, fun k hk => ?_⟩
  show spec_frHas.f k (l ++ [b]) = _
  have hw : wrap64 (((l ++ [b]).length : Int) - 1) = (l.length : Int) := by rw [hl, wrap_id (by omega) (by omega)]; omega
  unfold spec_frHas.f
  rw [hw, if_pos (by omega), if_pos (by omega), if_pos (by rw [hl]; omega), Int.toNat_natCast, List.take_left' rfl, hK k (by omega), Option.bind_some, if_pos (by rw [hl]; omega)]
  have hrd : rd (l ++ [b]) (l.length : Int) = b := by simp [rd]
  rw [hrd, ← hr]
  congr 1
  rw [Bool.eq_iff_iff, beq_iff_eq, decide_eq_true_eq, xor_zero]
  generalize crcOf 8 0 l = z
  omega
theorem rems_len (n : Nat) : (remsAt (8 * n) (8 * n)).length = 8 * n := remsAt_len _ _
theorem rN_snoc (n r : Nat) (ps : List Nat) (p : Nat) : rN n r (ps ++ [p]) = rN n r ps ^^^ remOf n p := by simp [rN]
theorem rN_lt (n : Nat) : ∀ (ps : List Nat) (r : Nat), r < 256 → rN n r ps < 256
  | [], _, h => h
  | p :: ps, r, h => rN_lt n ps _ (Nat.xor_lt_two_pow (n := 8) h (remOf_lt n p))
theorem rest_snoc (n : Nat) (ps : List Nat) (p : Nat) (hp : p < 8 * n) : Go.bits .xor .i64 (rN n 0 ps : Int) (rd (remsAt (8 * n) (8 * n)) (p : Int)) = (rN n 0 (ps ++ [p]) : Int) := by
  have h1 := rN_lt n ps 0 (by omega)
  have h2 := remOf_lt n p
  rw [rems_at n p hp, xor_nat (by omega) (by omega), rN_snoc]
theorem nextP_snoc (ps : List Nat) (p : Nat) : nextP (ps ++ [p]) = p + 1 := by simp [nextP]
/-- What the reference tells of lists that are found. -/
def tellL (L : List (List Int)) : List Int × Int := (L.headD [], (L.length : Int))
theorem l1Own_id (l : List Int) (h : l.length ≤ 1048576) : spec_l1Own.f l = some l := by
  unfold spec_l1Own.f
  rw [Option.bind_some, if_pos (by simp; omega)]; rfl
theorem spec_blind_zero (n : Nat) (hn : 1 ≤ n ∧ n ≤ 6) (ps : List Nat) (hp : ∀ p ∈ ps, p < 8 * n) (hs : ps.Pairwise (· < ·)) (hl : ps.length ≤ 4) (fr : Nat) :
    Ev (fun k => spec_frBlind.f k (n : Int) (natsI ps) 0) (tellL (blindL (remsAt (8 * n) (8 * n)) 0 (rN n 0 ps : Int) (natsI ps) fr)) := by
  have hlen : (natsI ps).length = ps.length := by simp [natsI]
  have hri : risingB (natsI ps) 0 (8 * ((List.replicate n (0 : Int)).length : Int) - 1) = true := by
    rw [risingB, adj_of_pair ps hs, Bool.and_true, List.all_eq_true]
    intro x hx
    simp only [natsI, List.mem_map] at hx
    obtain ⟨p, h1, rfl⟩ := hx
    have := hp p h1
    rw [inB, decide_eq_true_eq, List.length_replicate]; omega
  obtain ⟨K1, h1⟩ := spec_FlipBits_ev (List.replicate n 0) (natsI ps) (by simp; omega) (by omega) (zeros_bytes n hn.2) hri
  obtain ⟨K2, h2⟩ := spec_has_ev n hn ps hp
  simp only at h1 h2
  refine ⟨K1 + K2 + 1, fun k hk => ?_⟩
  obtain ⟨k, rfl⟩ : ∃ m, k = m + 1 := ⟨k - 1, by omega⟩
  show spec_frBlind.f (k + 1) _ _ _ = _
  simp only [spec_frBlind.f]
  rw [if_pos trivial, if_pos (by omega), if_pos (by omega), Int.toNat_natCast, h1 k (by omega), Option.bind_some, h2 k (by omega), Option.bind_some]
  unfold blindL
  by_cases c : rN n 0 ps = 0
  · rw [decide_eq_true c, if_pos rfl, l1Own_id _ (by omega), Option.bind_some, if_pos (by omega)]; rfl
  · rw [decide_eq_false c, if_neg (by simp), if_neg (by omega)]; rfl
theorem spec_blind_ev (n : Nat) (hn : 1 ≤ n ∧ n ≤ 6) : ∀ (m : Nat) (ps : List Nat), (∀ p ∈ ps, p < 8 * n) → ps.Pairwise (· < ·) → ps.length + m ≤ 4 →
    Ev (fun k => spec_frBlind.f k (n : Int) (natsI ps) (m : Int)) (tellL (blindL (remsAt (8 * n) (8 * n)) m (rN n 0 ps : Int) (natsI ps) (nextP ps)))
  | 0, ps, hp, hs, hl => spec_blind_zero n hn ps hp hs (by omega) _
  | m + 1, ps, hp, hs, hl => by
    have hlen : (natsI ps).length = ps.length := by simp [natsI]
    have hbig := blindL_len (remsAt (8 * n) (8 * n)) (by rw [rems_len]; omega) (m + 1) (rN n 0 ps : Int) (natsI ps) (nextP ps)
    replace hbig := Nat.le_trans hbig (Nat.le_trans (Nat.pow_le_pow_right (show 0 < 48 by decide) (show m + 1 ≤ 4 by omega)) (show 48 ^ 4 ≤ 5308416 by decide))
    have HBIG := Aside0.mk hbig
    clear hbig
    have hnx : ∀ p ∈ ps, p < nextP ps := by
      intro p h
      obtain ⟨q, x, rfl⟩ : ∃ q x, ps = q ++ [x] := ⟨ps.dropLast, ps.getLast (by rintro rfl; simp at h), (List.dropLast_concat_getLast _).symm⟩
      rw [nextP_snoc]
      obtain ⟨_, _, h3⟩ := List.pairwise_append.1 hs
      rcases List.mem_append.1 h with h | h
      · have := h3 p h x (by simp); omega
      · simp only [List.mem_singleton] at h; omega
    have hfr : nextP ps ≤ 8 * n := by
      rcases List.eq_nil_or_concat ps with rfl | ⟨q, x, rfl⟩
      · simp [nextP]
      · rw [List.concat_eq_append] at hp ⊢
        rw [nextP_snoc]; have := hp x (by simp); omega
    have HBIG2 := HBIG.out
    rw [blindL, rems_len] at HBIG2 ⊢
    replace HBIG2 := Aside0.mk HBIG2
    have loop : ∀ (d p : Nat) (acc : List (List Int)), p + d = 8 * n → nextP ps ≤ p →
        (acc ++ (List.range' p d).flatMap fun (p : Nat) => blindL (remsAt (8 * n) (8 * n)) m (Go.bits .xor .i64 (rN n 0 ps : Int) (rd (remsAt (8 * n) (8 * n)) (p : Int))) (natsI ps ++ [(p : Int)]) (p + 1)).length ≤ 5308416 →
        Ev (fun k => spec_frBlind.l0 k (n : Int) (natsI ps) ((m + 1 : Nat) : Int) (acc.headD []) (acc.length : Int) (p : Int)) (tellL (acc ++ (List.range' p d).flatMap fun (p : Nat) => blindL (remsAt (8 * n) (8 * n)) m (Go.bits .xor .i64 (rN n 0 ps : Int) (rd (remsAt (8 * n) (8 * n)) (p : Int))) (natsI ps ++ [(p : Int)]) (p + 1))) := by
      intro d
      induction d with
      | zero =>
        intro p acc h _ _
        refine ev_end (fun k => ?_)
        have w : wrap64 (8 * (n : Int)) = 8 * (n : Int) := wrap_id (by omega) (by omega)
        simp only [spec_frBlind.l0]
        rw [w, if_neg (by omega)]
        simp [tellL]
      | succ d ih =>
        intro p acc h hpn hb
        replace hb := Aside0.mk hb
        have hpl : p < 8 * n := by omega
        have c1 : (p : Int) < 8 * (n : Int) := by omega
        have c2 : (natsI ps).length ≤ 1048576 := by omega
        have c3 : (natsI ps).length < 17592186044416 := by omega
        have w : wrap64 (8 * (n : Int)) = 8 * (n : Int) := wrap_id (by omega) (by omega)
        have w2 : wrap64 (((m + 1 : Nat) : Int) - 1) = (m : Int) := by rw [wrap_id (by omega) (by omega)]; omega
        have w4 : wrap64 ((p : Int) + 1) = ((p + 1 : Nat) : Int) := by rw [wrap_id (by omega) (by omega)]; omega
        have nx0 := fun L hb => ih (p + 1) (acc ++ L) (by omega) (by omega) hb
        have hsub := spec_blind_ev n hn m (ps ++ [p]) (fun q hq => by rcases List.mem_append.1 hq with h | h; exact hp q h; simp only [List.mem_singleton] at h; omega) (List.pairwise_append.2 ⟨hs, by simp, fun a ha b hb => by simp only [List.mem_singleton] at hb; have := hnx a ha; omega⟩) (by simp; omega)
        rw [nextP_snoc] at hsub
        have hb2 := hb.out
        rw [List.range'_succ, List.flatMap_cons, ← List.append_assoc] at hb2 ⊢
        rw [rest_snoc n ps p hpl, ← natsI_snoc] at hb2 ⊢
        generalize blindL (remsAt (8 * n) (8 * n)) m (rN n 0 (ps ++ [p]) : Int) (natsI (ps ++ [p])) (p + 1) = L at hb2 hsub ⊢
        have nx := nx0 L hb2
        have hb1 : (acc ++ L).length ≤ 5308416 := by
          refine Nat.le_trans ?_ hb2
          rw [@List.length_append _ (acc ++ L) _]
          exact Nat.le_add_right _ _
        clear hb2 nx0 hb
        generalize ((acc ++ L) ++ (List.range' (p + 1) d).flatMap fun (p : Nat) => blindL (remsAt (8 * n) (8 * n)) m (Go.bits .xor .i64 (rN n 0 ps : Int) (rd (remsAt (8 * n) (8 * n)) (p : Int))) (natsI ps ++ [(p : Int)]) (p + 1)) = R at nx ⊢
        obtain ⟨K1, h1⟩ := hsub
        obtain ⟨K2, h2⟩ := nx
        simp only [tellL] at h1
        simp only at h2
        have w3 : wrap64 ((acc.length : Int) + (L.length : Int)) = ((acc ++ L).length : Int) := by
          rw [List.length_append] at hb1 ⊢
          generalize acc.length = x at hb1 ⊢
          generalize L.length = y at hb1 ⊢
          rw [wrap_id (by omega) (by omega)]; omega
        clear hb1
        refine ⟨K1 + K2 + 1, fun k hk => ?_⟩
        obtain ⟨k, rfl⟩ : ∃ m, k = m + 1 := ⟨k - 1, by omega⟩
        show spec_frBlind.l0 (k + 1) _ _ _ _ _ _ = _
        simp only [spec_frBlind.l0]
        rw [w, if_pos c1, l1Own_id _ c2, Option.bind_some, if_pos c3, ← natsI_snoc, w2, h1 k (by omega), Option.bind_some, w3, w4]
        have e2 := h2 k (by omega)
        cases acc with
        | nil =>
          rw [if_pos (by simp)]
          cases L with
          | nil => rw [if_neg (by simp)]; exact e2
          | cons x L => rw [if_pos (by simp)]; exact e2
        | cons x acc => rw [if_neg (by simp; omega)]; exact e2
    obtain ⟨K, hK⟩ := loop (8 * n - nextP ps) (nextP ps) [] (by omega) (Nat.le_refl _) (by rw [List.nil_append]; exact HBIG2.out)
    simp only [List.nil_append] at hK
    refine ⟨K + 2, fun k hk => ?_⟩
    obtain ⟨k, rfl⟩ : ∃ m, k = m + 2 := ⟨k - 2, by omega⟩
    show spec_frBlind.f (k + 2) _ _ _ = _
    have hj : spec_frBlind.j0 (k + 1) (n : Int) (natsI ps) ((m + 1 : Nat) : Int) (nextP ps : Int) = _ := hK k (by omega)
    simp only [spec_frBlind.f]
    rw [if_neg (by omega)]
    rcases List.eq_nil_or_concat ps with rfl | ⟨q, x, rfl⟩
    · rw [if_neg (by simp [natsI])]
      exact hj
    · rw [List.concat_eq_append] at *
      have hxl := hp x (by simp)
      have hq1 : (natsI (q ++ [x])).length = q.length + 1 := by rw [hlen, List.length_append]; rfl
      have hq2 : q.length ≤ 4 := by rw [List.length_append] at hl; omega
      have w : wrap64 (((natsI (q ++ [x])).length : Int) - 1) = ((q.length : Nat) : Int) := by rw [hq1, wrap_id (by omega) (by omega)]; omega
      have hr : rd (natsI (q ++ [x])) (q.length : Int) = (x : Int) := by rw [natsI_snoc]; simp [rd, natsI]
      rw [w, hr, if_pos (by omega), if_pos (by omega), if_pos (by omega), show wrap64 ((x : Int) + 1) = ((nextP (q ++ [x]) : Nat) : Int) by rw [nextP_snoc, wrap_id (by omega) (by omega)]; omega]
      exact hj

theorem eqIntS_loop (l : List Int) (hn : l.length ≤ 1048576) : ∀ (d i k : Nat), i + d = l.length → d < k → laws_eqIntS.l0 k l l (i : Int) = some true := by
  intro d
  induction d with
  | zero =>
    intro i k h hk
    obtain ⟨k, rfl⟩ : ∃ m, k = m + 1 := ⟨k - 1, by omega⟩
    simp only [laws_eqIntS.l0]
    rw [if_neg (by omega)]
  | succ d ih =>
    intro i k h hk
    obtain ⟨k, rfl⟩ : ∃ m, k = m + 1 := ⟨k - 1, by omega⟩
    simp only [laws_eqIntS.l0]
    rw [if_pos (by omega), if_pos (by omega), if_pos (by omega), if_pos trivial, wrap_succ (n := l.length) (by omega) (by omega)]
    exact ih (i + 1) k (by omega) (by omega)
theorem eqIntS_refl {k : Nat} {l : List Int} (hn : l.length ≤ 1048576) (hk : l.length < k) : laws_eqIntS.f k l l = some true := by
  unfold laws_eqIntS.f
  rw [if_pos rfl]
  exact eqIntS_loop l hn l.length 0 k (by omega) hk

/-- n numbers from m on. -/
def marks (m : Int) (n : Nat) : List Int := (List.range n).map fun (j : Nat) => m + (j : Int)
theorem marks_length (m : Int) (n : Nat) : (marks m n).length = n := by simp [marks]
theorem marks_succ (m : Int) (n : Nat) : marks m (n + 1) = marks m n ++ [m + (n : Int)] := by simp [marks, List.range_succ]
theorem markIntS_loop (l : List Int) (m : Int) (hm : 0 ≤ m) (hm2 : m ≤ 1099511627776) (hn : l.length ≤ 1048576) : ∀ (d i k : Nat), i + d = l.length → d < k →
    laws_markIntS.l0 k (marks m i ++ l.drop i) (m + (i : Int)) (i : Int) = some (m + (l.length : Int), marks m l.length) := by
  intro d
  induction d with
  | zero =>
    intro i k h hk
    obtain ⟨k, rfl⟩ : ∃ m, k = m + 1 := ⟨k - 1, by omega⟩
    obtain rfl : i = l.length := by omega
    simp only [laws_markIntS.l0]
    rw [if_neg (by simp [marks_length])]
    simp
  | succ d ih =>
    intro i k h hk
    obtain ⟨k, rfl⟩ : ∃ m, k = m + 1 := ⟨k - 1, by omega⟩
    have hi : i < l.length := by omega
    have e : (marks m i ++ l.drop i).set i (m + (i : Int)) = marks m (i + 1) ++ l.drop (i + 1) := by
      rw [List.set_append_right _ _ (by simp [marks_length]), marks_length, Nat.sub_self, List.drop_eq_getElem_cons hi, List.set_cons_zero, marks_succ, List.append_assoc]; rfl
    simp only [laws_markIntS.l0]
    rw [if_pos (by simp [marks_length]; omega), if_pos (by omega), Int.toNat_natCast, e, wrap_succ hi (by omega), show wrap64 (m + (i : Int) + 1) = m + ((i + 1 : Nat) : Int) from by rw [wrap_id] <;> omega]
    exact ih (i + 1) k (by omega) (by omega)
theorem markIntS_eq {k : Nat} {l : List Int} {m : Int} (hm : 0 ≤ m) (hm2 : m ≤ 1099511627776) (hn : l.length ≤ 1048576) (hk : l.length < k) : laws_markIntS.f k l m = some (m + (l.length : Int), marks m l.length) := by
  unfold laws_markIntS.f
  have := markIntS_loop l m hm hm2 hn l.length 0 k (by omega) hk
  simpa [marks] using this
theorem heldIntS_loop (n : Nat) (m : Int) (hm : 0 ≤ m) (hm2 : m ≤ 1099511627776) (hn : n ≤ 1048576) : ∀ (d i k : Nat), i + d = n → d < k → laws_heldIntS.l0 k (marks m n) (m + (i : Int)) (i : Int) = some (m + (n : Int)) := by
  intro d
  induction d with
  | zero =>
    intro i k h hk
    obtain ⟨k, rfl⟩ : ∃ m, k = m + 1 := ⟨k - 1, by omega⟩
    obtain rfl : i = n := by omega
    simp only [laws_heldIntS.l0]
    rw [if_neg (by simp [marks_length])]
  | succ d ih =>
    intro i k h hk
    obtain ⟨k, rfl⟩ : ∃ m, k = m + 1 := ⟨k - 1, by omega⟩
    have hi : i < n := by omega
    have e : rd (marks m n) (i : Int) = m + (i : Int) := by rw [rd_nat _ (by simpa [marks_length] using hi)]; simp [marks]
    simp only [laws_heldIntS.l0]
    rw [if_pos (by simp [marks_length]; omega), if_pos (by omega), if_pos e, wrap_succ hi (by omega), show wrap64 (m + (i : Int) + 1) = m + ((i + 1 : Nat) : Int) from by rw [wrap_id] <;> omega]
    exact ih (i + 1) k (by omega) (by omega)
theorem heldIntS_eq {k n : Nat} {m : Int} (hm : 0 ≤ m) (hm2 : m ≤ 1099511627776) (hn : n ≤ 1048576) (hk : n < k) : laws_heldIntS.f k (marks m n) m = some (m + (n : Int)) := by
  unfold laws_heldIntS.f
  simpa using heldIntS_loop n m hm hm2 hn n 0 k (by omega) hk

theorem fst_keep : ∀ (L : List (List Int)) (σ : List Int), σ ≠ [] → L.foldl fstStep σ = σ
  | [], _, _ => rfl
  | x :: L, σ, h => by rw [List.foldl_cons, fstStep, if_neg h, fst_keep L σ h]
theorem fst_fold (L : List (List Int)) (h : ∀ x ∈ L, x ≠ []) : L.foldl fstStep [] = L.headD [] := by
  cases L with
  | nil => rfl
  | cons x L => rw [List.foldl_cons, fstStep, if_pos rfl, fst_keep L x (h x (by simp))]; rfl
theorem blindL_mem_len (rem : List Int) : ∀ (m : Nat) (rest : Int) (xs : List Int) (fr : Nat), ∀ y ∈ blindL rem m rest xs fr, y.length = xs.length + m
  | 0, rest, xs, fr, y, hy => by
    unfold blindL at hy
    split at hy
    · simp only [List.mem_singleton] at hy; rw [hy]; rfl
    · simp at hy
  | m + 1, rest, xs, fr, y, hy => by
    rw [blindL, List.mem_flatMap] at hy
    obtain ⟨p, _, hy⟩ := hy
    rw [blindL_mem_len rem m _ _ _ y hy, List.length_append, List.length_singleton]; omega
theorem impl_isBlind_eq (a b : Int) : impl_isBlind.f a b = some (decide ((1 ≤ a ∧ a ≤ 6) ∧ 1 ≤ b ∧ b ≤ 4)) := by
  unfold impl_isBlind.f impl_within.f
  by_cases h1 : 1 ≤ a <;> by_cases h2 : a ≤ 6 <;> by_cases h3 : 1 ≤ b <;> by_cases h4 : b ≤ 4 <;> simp [h1, h2, h3, h4]
theorem spec_frFlips_eq (a b : Int) : spec_frFlips.f a b = some (decide ((1 ≤ a ∧ a ≤ 6) ∧ 1 ≤ b ∧ b ≤ 4)) := by
  unfold spec_frFlips.f
  rw [spec_l1In_eq, spec_l1In_eq]
  by_cases h1 : 1 ≤ a ∧ a ≤ 6 <;> by_cases h2 : 1 ≤ b ∧ b ≤ 4 <;> simp [h1, h2]
theorem both (a b : Int) : ∃ v : List Int × Bool, Ev (fun k => spec_FirstBlind.f k a b) v ∧ impl_FirstBlind.f a b = some v ∧ v.1.length ≤ 4 := by
  by_cases hin : (1 ≤ a ∧ a ≤ 6) ∧ 1 ≤ b ∧ b ≤ 4
  · obtain ⟨n, rfl⟩ : ∃ n : Nat, a = (n : Int) := ⟨a.toNat, by omega⟩
    obtain ⟨m, rfl⟩ : ∃ m : Nat, b = (m : Int) := ⟨b.toNat, by omega⟩
    obtain ⟨K, hK⟩ := spec_blind_ev n (by omega) m [] (by simp) List.Pairwise.nil (by simp; omega)
    simp only [tellL] at hK
    have hml := blindL_mem_len (remsAt (8 * n) (8 * n)) m 0 [] 0
    have hne : ∀ x ∈ blindL (remsAt (8 * n) (8 * n)) m 0 [] 0, x ≠ [] := fun x hx e => by
      have := hml x hx
      rw [e] at this
      simp only [List.length_nil] at this
      omega
    have hF : fstOf n m = (blindL (remsAt (8 * n) (8 * n)) m 0 [] 0).headD [] := by
      unfold fstOf
      rw [blindF_eq, fst_fold _ hne]
    change ∀ k, K ≤ k → spec_frBlind.f k (n : Int) [] (m : Int) = some ((blindL (remsAt (8 * n) (8 * n)) m 0 [] 0).headD [], ((blindL (remsAt (8 * n) (8 * n)) m 0 [] 0).length : Int)) at hK
    generalize blindL (remsAt (8 * n) (8 * n)) m 0 [] 0 = L at hK hml hne hF
    have hi : impl_FirstBlind.f (n : Int) (m : Int) = some (L.headD [], !(L.headD []).isEmpty) := by
      unfold impl_FirstBlind.f
      rw [impl_isBlind_eq, decide_eq_true hin, Option.bind_some, if_pos rfl, if_pos (by omega), Int.toNat_natCast, Int.toNat_natCast, hF]
    refine ⟨_, ?_, hi, ?_⟩
    · refine ⟨K, fun k hk => ?_⟩
      show spec_FirstBlind.f k _ _ = _
      unfold spec_FirstBlind.f
      rw [spec_frFlips_eq, decide_eq_true hin, Option.bind_some, if_pos rfl, hK k hk, Option.bind_some]
      cases L with
      | nil => rfl
      | cons x L =>
        have hx := hne x (by simp)
        dsimp only [List.headD_cons]
        rw [if_neg (by simp only [List.length_cons]; omega)]
        cases x with
        | nil => exact absurd rfl hx
        | cons a t => rfl
    · cases L with
      | nil => simp
      | cons x L =>
        have := hml x (by simp)
        simp only [List.length_nil] at this
        simp only [List.headD_cons]
        omega
  · refine ⟨([], false), ⟨0, fun k hk => ?_⟩, ?_, by simp⟩
    · show spec_FirstBlind.f k a b = _
      unfold spec_FirstBlind.f
      rw [spec_frFlips_eq, decide_eq_false hin]; rfl
    · unfold impl_FirstBlind.f
      rw [impl_isBlind_eq, decide_eq_false hin]; rfl
theorem FnExactFirstBlind : laws_FnExactFirstBlind.Pure := by
  intro a b _ _
  obtain ⟨v, ⟨K1, h1⟩, h2, hv⟩ := both a b
  have n2 : ¬ (1 + (v.1.length : Int) < 0) := by omega
  have hv2 : v.1.length ≤ 1048576 := by omega
  refine ⟨K1 + v.1.length + 10, ?_⟩
  unfold laws_FnExactFirstBlind.f
  simp (disch := omega) only [Option.bind_some, ↓reduceIte, bne_self_eq_false, Bool.false_eq_true, h1, h2, n2, eqIntS_refl hv2, markIntS_eq, heldIntS_eq]
  rw [laws_FnExactFirstBlind.j0]
  simp (disch := omega) only [Option.bind_some, ↓reduceIte, bne_self_eq_false, Bool.false_eq_true, h1, h2, n2, eqIntS_refl hv2, markIntS_eq, heldIntS_eq]
  rw [laws_FnExactFirstBlind.j1]
  simp (disch := omega) only [Option.bind_some, ↓reduceIte, bne_self_eq_false, Bool.false_eq_true, h1, h2, n2, eqIntS_refl hv2, markIntS_eq, heldIntS_eq]

end Go.Proofs.Ytnhlfbnfngembaa.Pure
