/- FnExactFlipBits: the program's answer is the reference's, as plain functions over numbers and lists; no condition beyond the sizes that every value has. -/
import Derived.Test.YtggempkfkjjlaaaPFnExactFlipBitsx4
namespace Go.Proofs.Ytggempkfkjjlaaa.Pure
open Go.RowKit Go.Proofs.Ytggempkfkjjlaaa.PFnExactFlipBits Go.Proofs.YtggempkfkjjlaaaW.PrintWords Go.Proofs.YtggempkfkjjlaaaW.PrintLast Go.Proofs.YtggempkfkjjlaaaW.PrintMore

/- It reaches: laws_toIntS.f, laws_eqIntS.f, laws_markIntS.f, laws_heldIntS.f, spec_l1In.f, spec_l1All.f, spec_frBytes.f, spec_frBits.f, spec_frFrom.f, spec_l1Rising.f, spec_FlipBits.f, impl_allWithin.f, impl_areBytes.f, impl_areRising.f, slices_Clone_int_int.f, impl_FlipBits.f, laws_FnExactFlipBits.f -/
def FnExactFlipBitsPure : Prop := ∀ (l0 : List Int) (l1 : List Int), l0.length ≤ maxLen → (∀ x ∈ l0, (Lit.int .i64 x).wf = true) → l1.length ≤ maxLen → (∀ x ∈ l1, (Lit.int .i64 x).wf = true) → ∃ k, laws_FnExactFlipBits.f k l0 l1 = some true
set_option linter.unusedSimpArgs false
set_option linter.unusedVariables false
theorem wrap_id {x : Int} (h1 : -9223372036854775808 ≤ x) (h2 : x ≤ 9223372036854775807) : wrap64 x = x := by unfold wrap64; omega
theorem wrap_succ {i n : Nat} (h : i < n) (hn : n ≤ 4611686018427387904) : wrap64 ((i : Int) + 1) = ((i + 1 : Nat) : Int) := by rw [wrap_id] <;> omega
theorem rd_nat (l : List Int) {i : Nat} (h : i < l.length) : rd l (i : Int) = l[i] := by simp [rd, h]
theorem rd_mem (l : List Int) {i : Nat} (h : i < l.length) : rd l (i : Int) ∈ l := by rw [rd_nat l h]; exact List.getElem_mem h
/-- One round, and the end. -/
theorem ev_end {α : Type} {g : Nat → Option α} {r : α} (h : ∀ k, g (k + 1) = some r) : Ev g r := Ev.step h (Ev.now r)
theorem ev_of {α : Type} {g : Nat → Option α} {r : α} (h : ∀ k, g k = some r) : Ev g r := ⟨0, fun k _ => h k⟩
theorem ev_eq {α : Type} {g : Nat → Option α} {r r' : α} (h : Ev g r) (e : r = r') : Ev g r' := e ▸ h

theorem spec_l1In_eq (a b c : Int) : spec_l1In.f a b c = some (decide (b ≤ a ∧ a ≤ c)) := by
  unfold spec_l1In.f
  by_cases h : b ≤ a <;> simp [h]

theorem l1All_loop (lo hi : Int) (l : List Int) (hn : l.length ≤ 1048576) : ∀ (d i k : Nat), i + d = l.length → d < k → spec_l1All.l0 k lo hi l (l.length : Int) (i : Int) = some ((l.drop i).all fun x => decide (lo ≤ x ∧ x ≤ hi)) := by
  intro d
  induction d with
  | zero =>
    intro i k h hk
    obtain ⟨k, rfl⟩ : ∃ m, k = m + 1 := ⟨k - 1, by omega⟩
    simp only [spec_l1All.l0]
    rw [if_neg (by omega), List.drop_of_length_le (by omega)]
    rfl
  | succ d ih =>
    intro i k h hk
    obtain ⟨k, rfl⟩ : ∃ m, k = m + 1 := ⟨k - 1, by omega⟩
    have hlt : i < l.length := by omega
    simp only [spec_l1All.l0, spec_l1In_eq, Option.bind_some]
    rw [if_pos (by omega), if_pos (by omega), if_pos (by omega), rd_nat l hlt, wrap_succ hlt (by omega), ih (i + 1) k (by omega) (by omega), List.drop_eq_getElem_cons hlt, List.all_cons]
    by_cases c : lo ≤ l[i] ∧ l[i] ≤ hi <;> simp [c]
theorem spec_l1All_eq {k : Nat} {l : List Int} {lo hi : Int} (hn : l.length ≤ 1048576) (hk : l.length < k) : spec_l1All.f k l lo hi = some (l.all fun x => decide (lo ≤ x ∧ x ≤ hi)) := by
  unfold spec_l1All.f
  simpa using l1All_loop lo hi l hn l.length 0 k (by omega) hk

/-- What both call bytes. -/
def bytesB (l : List Int) : Bool := decide (l.length ≤ 40) && l.all fun x => decide (0 ≤ x ∧ x ≤ 255)
theorem spec_frBytes_eq {k : Nat} {l : List Int} (hn : l.length ≤ 1048576) (hk : l.length < k) : spec_frBytes.f k l = some (bytesB l) := by
  unfold spec_frBytes.f bytesB
  rw [spec_l1All_eq hn hk]
  by_cases h : (l.length : Int) ≤ 40
  · simp [show l.length ≤ 40 by omega, h]
  · simp [show ¬ l.length ≤ 40 by omega, h]
theorem impl_areBytes_eq (l : List Int) : impl_areBytes.f l = some (bytesB l) := by
  unfold impl_areBytes.f impl_allWithin.f bytesB
  by_cases h : (l.length : Int) ≤ 40
  · simp [show l.length ≤ 40 by omega, h]
  · simp [show ¬ l.length ≤ 40 by omega, h]
theorem bytesB_len {l : List Int} (h : bytesB l = true) : l.length ≤ 40 := by simp [bytesB] at h; exact h.1
theorem bytesB_mem {l : List Int} (h : bytesB l = true) : ∀ x ∈ l, 0 ≤ x ∧ x ≤ 255 := by simp [bytesB] at h; exact h.2

theorem xor_nat {a b : Nat} (ha : a < 4294967296) (hb : b < 4294967296) : Go.bits .xor .i64 (a : Int) (b : Int) = ((a ^^^ b : Nat) : Int) := by
  have ha' : a % 2 ^ 64 = a := Nat.mod_eq_of_lt (by omega)
  have hb' : b % 2 ^ 64 = b := Nat.mod_eq_of_lt (by omega)
  have hx : a ^^^ b < 4294967296 := Nat.xor_lt_two_pow (n := 32) ha hb
  have e : Go.bits .xor .i64 (a : Int) (b : Int) = IntKind.i64.wrap (((a ^^^ b : Nat)) : Int) := by
    simp only [bits, BitVec.ofInt_natCast, BitVec.toNat_xor, BitVec.toNat_ofNat]
    rw [show IntKind.i64.bits = 64 from rfl, ha', hb']
  rw [e, IntKind.wrap_i64]
  omega
/-- One step of the check's division, on a byte. -/
def crcStep (r : Nat) : Nat := if r * 2 > 255 then (r * 2 - 256) ^^^ 7 else r * 2
theorem crcStep_lt {r : Nat} (h : r < 256) : crcStep r < 256 := by
  unfold crcStep
  split
  · exact Nat.xor_lt_two_pow (n := 8) (by omega) (by omega)
  · omega
theorem crc_263 : ∀ x : Fin 256, 128 ≤ x.val → (x.val * 2) ^^^ 263 = (x.val * 2 - 256) ^^^ 7 := by decide +kernel
def crcIter : Nat → Nat → Nat
  | 0, r => r
  | d + 1, r => crcIter d (crcStep r)
theorem crcIter_lt : ∀ (d : Nat) {r : Nat}, r < 256 → crcIter d r < 256
  | 0, _, h => h
  | d + 1, _, h => crcIter_lt d (crcStep_lt h)
/-- The check of bytes, from a rest on. -/
def crcOf (n : Nat) : Nat → List Int → Nat
  | r, [] => r
  | r, b :: t => crcOf n (crcIter n (r ^^^ b.toNat)) t
theorem crcOf_cons (n r : Nat) (b : Int) (t : List Int) : crcOf n r (b :: t) = crcOf n (crcIter n (r ^^^ b.toNat)) t := rfl
theorem byte_nat {l : List Int} (hb : ∀ x ∈ l, 0 ≤ x ∧ x ≤ 255) {i : Nat} (hi : i < l.length) : ∃ b : Nat, l[i] = (b : Int) ∧ b < 256 := by
  have := hb l[i] (List.getElem_mem hi)
  exact ⟨l[i].toNat, by omega, by omega⟩
theorem crcOf_lt : ∀ (l : List Int) {r : Nat}, r < 256 → (∀ x ∈ l, 0 ≤ x ∧ x ≤ 255) → crcOf 8 r l < 256
  | [], _, h, _ => h
  | b :: t, r, h, hb => by
    have := hb b (by simp)
    rw [crcOf_cons]
    exact crcOf_lt t (crcIter_lt 8 (Nat.xor_lt_two_pow (n := 8) h (by omega))) (fun x hx => hb x (by simp [hx]))

theorem and_nat {a b : Nat} (ha : a < 4294967296) (hb : b < 4294967296) : Go.bits .and .i64 (a : Int) (b : Int) = ((a &&& b : Nat) : Int) := by
  have ha' : a % 2 ^ 64 = a := Nat.mod_eq_of_lt (by omega)
  have hb' : b % 2 ^ 64 = b := Nat.mod_eq_of_lt (by omega)
  have hx : a &&& b < 4294967296 := Nat.lt_of_le_of_lt Nat.and_le_left ha
  have e : Go.bits .and .i64 (a : Int) (b : Int) = IntKind.i64.wrap (((a &&& b : Nat)) : Int) := by
    simp only [bits, BitVec.ofInt_natCast, BitVec.toNat_and, BitVec.toNat_ofNat]
    rw [show IntKind.i64.bits = 64 from rfl, ha', hb']
  rw [e, IntKind.wrap_i64]
  omega
theorem shr_nat (b j : Nat) (hj : j ≤ 64) : shr .i64 (b : Int) (j : Int) = ((b / 2 ^ j : Nat) : Int) := by
  unfold shr
  rw [Int.toNat_natCast, show min j IntKind.i64.bits = j from Nat.min_eq_left hj]
  rw [Int.natCast_ediv, Int.natCast_pow]; rfl
/-- The j last bits of a number, the greatest first. -/
def bitsN : Nat → Nat → List Int
  | 0, _ => []
  | j + 1, b => ((b / 2 ^ j % 2 : Nat) : Int) :: bitsN j b
theorem bitsN_length : ∀ (j b : Nat), (bitsN j b).length = j
  | 0, _ => rfl
  | j + 1, b => by rw [bitsN, List.length_cons, bitsN_length j b]
def bitsL : List Int → List Int
  | [] => []
  | b :: t => bitsN 8 b.toNat ++ bitsL t
theorem bitsL_length : ∀ l : List Int, (bitsL l).length = 8 * l.length
  | [] => rfl
  | b :: t => by rw [bitsL, List.length_append, bitsN_length, bitsL_length t, List.length_cons]; omega

theorem spec_frBits_l1 (l : List Int) (n i : Int) (v : List Int) (b : Nat) (hb : b < 256) : ∀ (j : Nat) (acc : List Int), j ≤ 8 → acc.length + j ≤ 1099511627776 → Ev (fun k => spec_frBits.l0 k (acc ++ bitsN j b) l n (wrap64 (i + 1))) v → Ev (fun k => spec_frBits.l1 k acc (b : Int) ((j : Int) - 1) l n i) v := by
  intro j
  induction j with
  | zero =>
    intro acc _ ha hv
    refine Ev.step (fun k => ?_) hv
    simp only [spec_frBits.l1]
    rw [if_neg (by omega)]; simp only [bitsN, List.append_nil]
  | succ j ih =>
    intro acc hj ha hv
    have hv2 : Ev (fun k => spec_frBits.l0 k ((acc ++ [((b / 2 ^ j % 2 : Nat) : Int)]) ++ bitsN j b) l n (wrap64 (i + 1))) v := by
      rw [List.append_assoc]; exact hv
    refine Ev.step (fun k => ?_) (ih (acc ++ [((b / 2 ^ j % 2 : Nat) : Int)]) (by omega) (by simp; omega) hv2)
    simp only [spec_frBits.l1]
    have e : ((j + 1 : Nat) : Int) - 1 = (j : Int) := by omega
    have e2 : Int.tmod (shr .i64 (b : Int) (j : Int)) 2 = ((b / 2 ^ j % 2 : Nat) : Int) := by
      rw [shr_nat b j (by omega), Int.tmod_eq_emod_of_nonneg (Int.natCast_nonneg _)]; rfl
    rw [e, if_pos (by omega), if_pos (by omega), if_pos (by omega), e2, wrap_id (by omega) (by omega)]
theorem spec_frBits_l0 (l : List Int) (hb : ∀ x ∈ l, 0 ≤ x ∧ x ≤ 255) (hn : l.length ≤ 1048576) : ∀ (d i : Nat) (acc : List Int), i + d = l.length → acc.length + 8 * d ≤ 1099511627776 → Ev (fun k => spec_frBits.l0 k acc l (l.length : Int) (i : Int)) (acc ++ bitsL (l.drop i)) := by
  intro d
  induction d with
  | zero =>
    intro i acc h _
    refine ev_end (fun k => ?_)
    simp only [spec_frBits.l0]
    rw [if_neg (by omega), List.drop_of_length_le (by omega), bitsL, List.append_nil]
  | succ d ih =>
    intro i acc h ha
    have hi : i < l.length := by omega
    obtain ⟨b, eb, hb2⟩ := byte_nat hb hi
    have next := ih (i + 1) (acc ++ bitsN 8 b) (by omega) (by rw [List.length_append, bitsN_length]; omega)
    rw [← wrap_succ hi (by omega)] at next
    have e : acc ++ bitsL (l.drop i) = acc ++ bitsN 8 b ++ bitsL (l.drop (i + 1)) := by
      rw [List.drop_eq_getElem_cons hi, bitsL, eb, Int.toNat_natCast, List.append_assoc]
    rw [e]
    refine Ev.step (fun k => ?_) (spec_frBits_l1 l (l.length : Int) (i : Int) _ b hb2 8 acc (by omega) (by omega) next)
    simp only [spec_frBits.l0]
    rw [if_pos (by omega), if_pos (by omega), if_pos (by omega), rd_nat l hi, eb]; rfl
theorem spec_frBits_ev {l : List Int} (hb : ∀ x ∈ l, 0 ≤ x ∧ x ≤ 255) (hn : l.length ≤ 1048576) : Ev (fun k => spec_frBits.f k l) (bitsL l) := by
  unfold spec_frBits.f
  simpa using spec_frBits_l0 l hb hn l.length 0 [] (by omega) (by simp; omega)

def two (b x : Int) : Int := 2 * b + x
/-- The d numbers of which each eight bits are told, the greatest first. -/
def packF : Nat → List Int → List Int
  | 0, _ => []
  | d + 1, l => (l.take 8).foldl two 0 :: packF d (l.drop 8)
theorem packF_len : ∀ (d : Nat) (l : List Int), (packF d l).length = d
  | 0, _ => rfl
  | d + 1, l => by rw [packF, List.length_cons, packF_len d]
theorem pow_le {r : Nat} (h : r ≤ 8) : (2 : Int) ^ r ≤ 256 := by
  have : r = 0 ∨ r = 1 ∨ r = 2 ∨ r = 3 ∨ r = 4 ∨ r = 5 ∨ r = 6 ∨ r = 7 ∨ r = 8 := by omega
  rcases this with rfl | rfl | rfl | rfl | rfl | rfl | rfl | rfl | rfl <;> decide
theorem bit_mem {l : List Int} (hb : ∀ x ∈ l, 0 ≤ x ∧ x ≤ 1) {i : Nat} (hi : i < l.length) : 0 ≤ l[i] ∧ l[i] ≤ 1 := hb l[i] (List.getElem_mem hi)
theorem two_lt {p b : Int} {r : Nat} (h : 0 ≤ p ∧ p < 2 ^ r) (hb : 0 ≤ b ∧ b ≤ 1) : 0 ≤ 2 * p + b ∧ 2 * p + b < 2 ^ (r + 1) := by
  rw [Int.pow_succ]; omega
theorem foldl_lt : ∀ (l : List Int) (p : Int) (r : Nat), (∀ x ∈ l, 0 ≤ x ∧ x ≤ 1) → 0 ≤ p ∧ p < 2 ^ r → 0 ≤ l.foldl two p ∧ l.foldl two p < 2 ^ (r + l.length)
  | [], p, r, _, h => by simpa using h
  | x :: t, p, r, hb, h => by
    have := foldl_lt t (two p x) (r + 1) (fun y hy => hb y (by simp [hy])) (two_lt h (hb x (by simp)))
    rw [List.foldl_cons, List.length_cons, show r + (t.length + 1) = r + 1 + t.length from by omega]
    exact this
theorem packF_mem : ∀ (d : Nat) (l : List Int), (∀ x ∈ l, 0 ≤ x ∧ x ≤ 1) → ∀ y ∈ packF d l, 0 ≤ y ∧ y ≤ 255
  | 0, _, _, y, hy => by simp [packF] at hy
  | d + 1, l, hb, y, hy => by
    rw [packF] at hy
    rcases List.mem_cons.1 hy with rfl | hy
    · have h1 := foldl_lt (l.take 8) 0 0 (fun x hx => hb x (List.mem_of_mem_take hx)) (by simp)
      have h2 := pow_le (r := 0 + (l.take 8).length) (by simp; omega)
      omega
    · exact packF_mem d _ (fun x hx => hb x (List.mem_of_mem_drop hx)) y hy

theorem spec_from_l1 (l c acc : List Int) (hb : ∀ x ∈ c, 0 ≤ x ∧ x ≤ 1) (hc : c.length ≤ 8) (ha : acc.length ≤ 1048576) (i : Int) (v : List Int × Bool) : ∀ (d j : Nat) (p : Int), j + d = c.length → 0 ≤ p ∧ p < 2 ^ j →
    Ev (fun k => spec_frFrom.l0 k l (acc ++ [(c.drop j).foldl two p]) (wrap64 (i + 8))) v → Ev (fun k => spec_frFrom.l1 k l acc i p c (c.length : Int) (j : Int)) v := by
  intro d
  induction d with
  | zero =>
    intro j p h hp hv
    rw [List.drop_of_length_le (by omega)] at hv
    refine Ev.step (fun k => ?_) hv
    simp only [spec_frFrom.l1]
    rw [if_neg (by omega), if_pos (by omega)]; rfl
  | succ d ih =>
    intro j p h hp hv
    have hj : j < c.length := by omega
    have hbj := bit_mem hb hj
    have hp2 := two_lt hp hbj
    have hpw := pow_le (r := j + 1) (by omega)
    rw [List.drop_eq_getElem_cons hj, List.foldl_cons] at hv
    refine Ev.step (fun k => ?_) (ih (j + 1) (two p c[j]) (by omega) hp2 hv)
    simp only [spec_frFrom.l1]
    rw [if_pos (by omega), if_pos (by omega), if_pos (by omega), rd_nat c hj, wrap_id (x := 2 * p) (by omega) (by omega), wrap_id (x := 2 * p + c[j]) (by omega) (by omega), wrap_succ hj (by omega)]; rfl
theorem spec_from_l0 (l : List Int) (hb : ∀ x ∈ l, 0 ≤ x ∧ x ≤ 1) (hn : l.length ≤ 524288) : ∀ (d q : Nat) (acc : List Int), 8 * q + 8 * d = l.length → acc.length + d ≤ 1048576 →
    Ev (fun k => spec_frFrom.l0 k l acc ((8 * q : Nat) : Int)) (acc ++ packF d (l.drop (8 * q)), true) := by
  intro d
  induction d with
  | zero =>
    intro q acc h _
    refine ev_end (fun k => ?_)
    simp only [spec_frFrom.l0]
    rw [if_neg (by omega)]; simp [packF]
  | succ d ih =>
    intro q acc h ha
    have hw : wrap64 (((8 * q : Nat) : Int) + 8) = ((8 * (q + 1) : Nat) : Int) := by rw [wrap_id] <;> omega
    have e : (l.take (8 * (q + 1))).drop (8 * q) = (l.drop (8 * q)).take 8 := by rw [List.drop_take]; congr 1; omega
    have next := ih (q + 1) (acc ++ [((l.drop (8 * q)).take 8).foldl two 0]) (by omega) (by simp; omega)
    rw [← hw] at next
    have e2 : acc ++ packF (d + 1) (l.drop (8 * q)) = acc ++ [((l.drop (8 * q)).take 8).foldl two 0] ++ packF d (l.drop (8 * (q + 1))) := by
      rw [packF, List.drop_drop, List.append_assoc]; rfl
    rw [e2]
    refine Ev.step (fun k => ?_) (spec_from_l1 l ((l.drop (8 * q)).take 8) acc (fun x hx => hb x (List.mem_of_mem_drop (List.mem_of_mem_take hx))) (by simp; omega) (by omega) ((8 * q : Nat) : Int) _ _ 0 0 (Nat.zero_add _) (by simp) (by rw [List.drop_zero]; exact next))
    simp only [spec_frFrom.l0]
    rw [if_pos (by omega), if_pos (by omega), hw, if_pos (by omega), if_pos (by omega), Int.toNat_natCast, Int.toNat_natCast, e]; rfl
theorem spec_frFrom_ev {l : List Int} (hb : ∀ x ∈ l, 0 ≤ x ∧ x ≤ 1) (hn : l.length ≤ 524288) : Ev (fun k => spec_frFrom.f k l) (if l.length % 8 = 0 then (packF (l.length / 8) l, true) else ([], false)) := by
  unfold spec_frFrom.f
  by_cases h8 : l.length % 8 = 0
  · rw [if_pos h8]
    obtain ⟨K, hK⟩ := spec_from_l0 l hb hn (l.length / 8) 0 [] (by omega) (by simp; omega)
    refine ⟨K, fun k hk => ?_⟩
    have := hK k hk
    simp only [Nat.mul_zero, List.drop_zero, List.nil_append] at this
    show (if ((l.length : Int) % 8) = 0 then _ else _) = _
    rw [if_pos (by omega)]; exact this
  · rw [if_neg h8]
    refine ⟨0, fun k _ => ?_⟩
    show (if ((l.length : Int) % 8) = 0 then _ else _) = _
    rw [if_neg (by omega)]

/-- Is each number less than the next one? -/
def adjB : List Int → Bool
  | a :: b :: t => decide (a < b) && adjB (b :: t)
  | _ => true
def inB (lo hi x : Int) : Bool := decide (lo ≤ x ∧ x ≤ hi)
def risingB (l : List Int) (lo hi : Int) : Bool := l.all (inB lo hi) && adjB l
theorem adjB_at (l : List Int) {i : Nat} (h0 : 0 < i) (h : i < l.length) : adjB (l.drop (i - 1)) = (decide (l[i - 1] < l[i]) && adjB (l.drop i)) := by
  rw [List.drop_eq_getElem_cons (show i - 1 < l.length by omega), show i - 1 + 1 = i from by omega, List.drop_eq_getElem_cons h, adjB]
theorem wrap_pred {i n : Nat} (h0 : 0 < i) (h : i < n) (hn : n ≤ 4611686018427387904) : wrap64 ((i : Int) - 1) = ((i - 1 : Nat) : Int) := by rw [wrap_id] <;> omega

theorem spec_l1Rising_loop (lo hi : Int) (l : List Int) (hn : l.length ≤ 1048576) : ∀ (d i k : Nat), i + d = l.length → d < k →
    spec_l1Rising.l0 k l lo hi l (l.length : Int) (i : Int) = some ((l.drop i).all (inB lo hi) && adjB (l.drop (i - 1))) := by
  intro d
  induction d with
  | zero =>
    intro i k h hk
    obtain ⟨k, rfl⟩ : ∃ m, k = m + 1 := ⟨k - 1, by omega⟩
    simp only [spec_l1Rising.l0]
    rw [if_neg (by omega), List.drop_of_length_le (l := l) (i := i) (by omega)]
    have : adjB (l.drop (i - 1)) = true := by
      rcases Nat.eq_zero_or_pos i with h0 | h0
      · rw [h0, List.drop_of_length_le (by omega)]; rfl
      · rw [List.drop_eq_getElem_cons (show i - 1 < l.length by omega), List.drop_of_length_le (by omega)]; rfl
    simp [this]
  | succ d ih =>
    intro i k h hk
    obtain ⟨k, rfl⟩ : ∃ m, k = m + 1 := ⟨k - 1, by omega⟩
    have hlt : i < l.length := by omega
    have nx := ih (i + 1) k (by omega) (by omega)
    rw [Nat.add_sub_cancel] at nx
    have e : (l.drop i).all (inB lo hi) = (inB lo hi l[i] && (l.drop (i + 1)).all (inB lo hi)) := by rw [List.drop_eq_getElem_cons hlt, List.all_cons]
    simp only [spec_l1Rising.l0, spec_l1In_eq, Option.bind_some]
    rw [if_pos (by omega), if_pos (by omega), if_pos (by omega), rd_nat l hlt, wrap_succ hlt (by omega), e]
    by_cases c : lo ≤ l[i] ∧ l[i] ≤ hi
    · rw [if_pos (by simpa using c)]
      by_cases h0 : 0 < i
      · rw [if_pos (by omega), wrap_pred h0 hlt (by omega), if_pos (by omega), if_pos (by omega), rd_nat l (show i - 1 < l.length by omega), adjB_at l h0 hlt]
        by_cases c2 : l[i - 1] < l[i]
        · rw [if_neg (by omega), nx]; simp [inB, c, c2]
        · rw [if_pos (by omega)]; simp [c2]
      · obtain rfl : i = 0 := by omega
        rw [if_neg (by omega), nx]; simp [inB, c]
    · rw [if_neg (by simpa using c)]; simp only [inB, decide_eq_false c, Bool.false_and]
theorem spec_l1Rising_eq {k : Nat} {l : List Int} {lo hi : Int} (hn : l.length ≤ 1048576) (hk : l.length < k) : spec_l1Rising.f k l lo hi = some (risingB l lo hi) := by
  unfold spec_l1Rising.f
  simpa [risingB] using spec_l1Rising_loop lo hi l hn l.length 0 k (by omega) hk

theorem impl_areRising_loop (lo hi : Int) (l : List Int) (hn : l.length ≤ 1048576) : ∀ (d i k : Nat), i + d = l.length → d < k →
    impl_areRising.l0 k l lo hi l (l.length : Int) (i : Int) = some (adjB (l.drop (i - 1)) && l.all (inB lo hi)) := by
  intro d
  induction d with
  | zero =>
    intro i k h hk
    obtain ⟨k, rfl⟩ : ∃ m, k = m + 1 := ⟨k - 1, by omega⟩
    simp only [impl_areRising.l0]
    rw [if_neg (by omega)]
    have : adjB (l.drop (i - 1)) = true := by
      rcases Nat.eq_zero_or_pos i with h0 | h0
      · rw [h0, List.drop_of_length_le (by omega)]; rfl
      · rw [List.drop_eq_getElem_cons (show i - 1 < l.length by omega), List.drop_of_length_le (by omega)]; rfl
    rw [this, Bool.true_and]; rfl
  | succ d ih =>
    intro i k h hk
    obtain ⟨k, rfl⟩ : ∃ m, k = m + 1 := ⟨k - 1, by omega⟩
    have hlt : i < l.length := by omega
    have nx := ih (i + 1) k (by omega) (by omega)
    rw [Nat.add_sub_cancel] at nx
    simp only [impl_areRising.l0]
    rw [if_pos (by omega), if_pos (by omega), if_pos (by omega), rd_nat l hlt, wrap_succ hlt (by omega)]
    by_cases h0 : 0 < i
    · rw [if_pos (by omega), wrap_pred h0 hlt (by omega), if_pos (by omega), if_pos (by omega), rd_nat l (show i - 1 < l.length by omega), adjB_at l h0 hlt]
      by_cases c2 : l[i - 1] < l[i]
      · rw [if_neg (by omega), nx]; simp [c2]
      · rw [if_pos (by omega)]; simp [c2]
    · obtain rfl : i = 0 := by omega
      rw [if_neg (by omega), nx]
theorem impl_areRising_eq {k : Nat} {l : List Int} {lo hi : Int} (hn : l.length ≤ 1048576) (hk : l.length < k) : impl_areRising.f k l lo hi = some (risingB l lo hi) := by
  unfold impl_areRising.f
  have := impl_areRising_loop lo hi l hn l.length 0 k (by omega) hk
  rw [show ((0 : Nat) : Int) = 0 from rfl] at this
  simp [this, risingB, Bool.and_comm]

theorem flip_dec : ∀ (b : Fin 256) (r : Fin 8), bitsN 8 (b.val ^^^ (128 / 2 ^ r.val)) = (bitsN 8 b.val).set r.val (1 - (bitsN 8 b.val).getD r.val 0) ∧ b.val ^^^ (128 / 2 ^ r.val) < 256 := by decide +kernel
theorem fold_dec : ∀ b : Fin 256, (bitsN 8 b.val).foldl two 0 = (b.val : Int) := by decide +kernel
theorem bitsN_mem : ∀ (j b : Nat), ∀ x ∈ bitsN j b, 0 ≤ x ∧ x ≤ 1
  | 0, _, _, h => by simp [bitsN] at h
  | j + 1, b, x, h => by
    rw [bitsN] at h
    rcases List.mem_cons.1 h with rfl | h
    · omega
    · exact bitsN_mem j b x h
theorem bitsL_mem : ∀ (l : List Int), ∀ x ∈ bitsL l, 0 ≤ x ∧ x ≤ 1
  | [], _, h => by simp [bitsL] at h
  | b :: t, x, h => by
    rw [bitsL] at h
    rcases List.mem_append.1 h with h | h
    · exact bitsN_mem _ _ x h
    · exact bitsL_mem t x h
theorem packF_bits : ∀ (l : List Int), (∀ x ∈ l, 0 ≤ x ∧ x ≤ 255) → packF l.length (bitsL l) = l
  | [], _ => rfl
  | b :: t, h => by
    have hb := h b (by simp)
    have f := fold_dec ⟨b.toNat, by omega⟩
    simp only at f
    rw [List.length_cons, packF, bitsL, List.take_left' (bitsN_length 8 _), List.drop_left' (bitsN_length 8 _), packF_bits t (fun x hx => h x (by simp [hx])), f]
    congr 1; omega
def flipAt (y : List Int) (q r : Nat) : List Int := y.set q (((y.getD q 0).toNat ^^^ (128 / 2 ^ r) : Nat) : Int)
theorem flipAt_len (y : List Int) (q r : Nat) : (flipAt y q r).length = y.length := by simp [flipAt]
theorem flipAt_mem {y : List Int} (h : ∀ x ∈ y, 0 ≤ x ∧ x ≤ 255) {q r : Nat} (hq : q < y.length) (hr : r < 8) : ∀ x ∈ flipAt y q r, 0 ≤ x ∧ x ≤ 255 := by
  intro x hx
  unfold flipAt at hx
  rcases List.mem_or_eq_of_mem_set hx with hx | rfl
  · exact h x hx
  · have hb := h y[q] (List.getElem_mem hq)
    have e : y.getD q 0 = y[q] := by simp [List.getD, hq]
    have := (flip_dec ⟨y[q].toNat, by omega⟩ ⟨r, hr⟩).2
    simp only at this
    rw [e]; omega
theorem bitsL_flip : ∀ (y : List Int) (q r : Nat), (∀ x ∈ y, 0 ≤ x ∧ x ≤ 255) → q < y.length → r < 8 → bitsL (flipAt y q r) = (bitsL y).set (8 * q + r) (1 - (bitsL y).getD (8 * q + r) 0)
  | [], _, _, _, h, _ => by simp at h
  | b :: t, 0, r, h, _, hr => by
    have hb := h b (by simp)
    have f := (flip_dec ⟨b.toNat, by omega⟩ ⟨r, hr⟩).1
    simp only at f
    have e : flipAt (b :: t) 0 r = ((b.toNat ^^^ (128 / 2 ^ r) : Nat) : Int) :: t := rfl
    have hl : r < (bitsN 8 b.toNat).length := by rw [bitsN_length]; exact hr
    rw [e, bitsL, bitsL, Int.toNat_natCast, f, Nat.mul_zero, Nat.zero_add, List.set_append_left _ _ hl]
    congr 3
    simp [List.getD, List.getElem?_append_left hl]
  | b :: t, q + 1, r, h, hq, hr => by
    have e : flipAt (b :: t) (q + 1) r = b :: flipAt t q r := rfl
    have ih := bitsL_flip t q r (fun x hx => h x (by simp [hx])) (by simpa using hq) hr
    have hl : (bitsN 8 b.toNat).length ≤ 8 * (q + 1) + r := by rw [bitsN_length]; omega
    have e2 : 8 * (q + 1) + r - (bitsN 8 b.toNat).length = 8 * q + r := by rw [bitsN_length]; omega
    rw [e, bitsL, bitsL, ih, List.set_append_right _ _ hl, e2]
    congr 3
    simp [List.getD, List.getElem?_append_right hl, e2]
def flips (y : List Int) : List Int → List Int
  | [] => y
  | p :: ps => flips (flipAt y (p.toNat / 8) (p.toNat % 8)) ps
theorem flips_len : ∀ (ps y : List Int), (flips y ps).length = y.length
  | [], _ => rfl
  | p :: ps, y => by rw [flips, flips_len ps, flipAt_len]

theorem eqIntS_loop (l : List Int) (hn : l.length ≤ 1048576) : ∀ (d i k : Nat), i + d = l.length → d < k → laws_eqIntS.l0 k l l (i : Int) = some true := by
  intro d
  induction d with
  | zero =>
    intro i k h hk
    obtain ⟨k, rfl⟩ : ∃ m, k = m + 1 := ⟨k - 1, by omega⟩
    simp only [laws_eqIntS.l0]
    rw [if_neg (by omega)]
  | succ d ih =>
    intro i k h hk
    obtain ⟨k, rfl⟩ : ∃ m, k = m + 1 := ⟨k - 1, by omega⟩
    simp only [laws_eqIntS.l0]
    rw [if_pos (by omega), if_pos (by omega), if_pos (by omega), if_pos trivial, wrap_succ (n := l.length) (by omega) (by omega)]
    exact ih (i + 1) k (by omega) (by omega)
theorem eqIntS_refl {k : Nat} {l : List Int} (hn : l.length ≤ 1048576) (hk : l.length < k) : laws_eqIntS.f k l l = some true := by
  unfold laws_eqIntS.f
  rw [if_pos rfl]
  exact eqIntS_loop l hn l.length 0 k (by omega) hk

/-- n numbers from m on. -/
def marks (m : Int) (n : Nat) : List Int := (List.range n).map fun (j : Nat) => m + (j : Int)
theorem marks_length (m : Int) (n : Nat) : (marks m n).length = n := by simp [marks]
theorem marks_succ (m : Int) (n : Nat) : marks m (n + 1) = marks m n ++ [m + (n : Int)] := by simp [marks, List.range_succ]
theorem markIntS_loop (l : List Int) (m : Int) (hm : 0 ≤ m) (hm2 : m ≤ 1099511627776) (hn : l.length ≤ 1048576) : ∀ (d i k : Nat), i + d = l.length → d < k →
    laws_markIntS.l0 k (marks m i ++ l.drop i) (m + (i : Int)) (i : Int) = some (m + (l.length : Int), marks m l.length) := by
  intro d
  induction d with
  | zero =>
    intro i k h hk
    obtain ⟨k, rfl⟩ : ∃ m, k = m + 1 := ⟨k - 1, by omega⟩
    obtain rfl : i = l.length := by omega
    simp only [laws_markIntS.l0]
    rw [if_neg (by simp [marks_length])]
    simp
  | succ d ih =>
    intro i k h hk
    obtain ⟨k, rfl⟩ : ∃ m, k = m + 1 := ⟨k - 1, by omega⟩
    have hi : i < l.length := by omega
    have e : (marks m i ++ l.drop i).set i (m + (i : Int)) = marks m (i + 1) ++ l.drop (i + 1) := by
      rw [List.set_append_right _ _ (by simp [marks_length]), marks_length, Nat.sub_self, List.drop_eq_getElem_cons hi, List.set_cons_zero, marks_succ, List.append_assoc]; rfl
    simp only [laws_markIntS.l0]
    rw [if_pos (by simp [marks_length]; omega), if_pos (by omega), Int.toNat_natCast, e, wrap_succ hi (by omega), show wrap64 (m + (i : Int) + 1) = m + ((i + 1 : Nat) : Int) from by rw [wrap_id] <;> omega]
    exact ih (i + 1) k (by omega) (by omega)
theorem markIntS_eq {k : Nat} {l : List Int} {m : Int} (hm : 0 ≤ m) (hm2 : m ≤ 1099511627776) (hn : l.length ≤ 1048576) (hk : l.length < k) : laws_markIntS.f k l m = some (m + (l.length : Int), marks m l.length) := by
  unfold laws_markIntS.f
  have := markIntS_loop l m hm hm2 hn l.length 0 k (by omega) hk
  simpa [marks] using this
theorem heldIntS_loop (n : Nat) (m : Int) (hm : 0 ≤ m) (hm2 : m ≤ 1099511627776) (hn : n ≤ 1048576) : ∀ (d i k : Nat), i + d = n → d < k → laws_heldIntS.l0 k (marks m n) (m + (i : Int)) (i : Int) = some (m + (n : Int)) := by
  intro d
  induction d with
  | zero =>
    intro i k h hk
    obtain ⟨k, rfl⟩ : ∃ m, k = m + 1 := ⟨k - 1, by omega⟩
    obtain rfl : i = n := by omega
    simp only [laws_heldIntS.l0]
    rw [if_neg (by simp [marks_length])]
  | succ d ih =>
    intro i k h hk
    obtain ⟨k, rfl⟩ : ∃ m, k = m + 1 := ⟨k - 1, by omega⟩
    have hi : i < n := by omega
    have e : rd (marks m n) (i : Int) = m + (i : Int) := by rw [rd_nat _ (by simpa [marks_length] using hi)]; simp [marks]
    simp only [laws_heldIntS.l0]
    rw [if_pos (by simp [marks_length]; omega), if_pos (by omega), if_pos e, wrap_succ hi (by omega), show wrap64 (m + (i : Int) + 1) = m + ((i + 1 : Nat) : Int) from by rw [wrap_id] <;> omega]
    exact ih (i + 1) k (by omega) (by omega)
theorem heldIntS_eq {k n : Nat} {m : Int} (hm : 0 ≤ m) (hm2 : m ≤ 1099511627776) (hn : n ≤ 1048576) (hk : n < k) : laws_heldIntS.f k (marks m n) m = some (m + (n : Int)) := by
  unfold laws_heldIntS.f
  simpa using heldIntS_loop n m hm hm2 hn n 0 k (by omega) hk

theorem toIntS_loop (l : List Int) (hn : l.length ≤ 1048576) : ∀ (d i k : Nat), i + d = l.length → d < k → laws_toIntS.l0 k l (l.take i ++ List.replicate d 0) (i : Int) = some l := by
  intro d
  induction d with
  | zero =>
    intro i k h hk
    obtain ⟨k, rfl⟩ : ∃ m, k = m + 1 := ⟨k - 1, by omega⟩
    simp only [laws_toIntS.l0]
    rw [if_neg (by omega)]
    simp [List.take_of_length_le (show l.length ≤ i by omega)]
  | succ d ih =>
    intro i k h hk
    obtain ⟨k, rfl⟩ : ∃ m, k = m + 1 := ⟨k - 1, by omega⟩
    have hi : i < l.length := by omega
    have e : (l.take i ++ List.replicate (d + 1) 0).set i (rd l (i : Int)) = l.take (i + 1) ++ List.replicate d 0 := by
      rw [rd_nat l hi, List.set_append_right _ _ (by simp; omega)]
      simp only [List.length_take, Nat.min_eq_left (Nat.le_of_lt hi), Nat.sub_self, List.replicate_succ, List.set_cons_zero]
      rw [List.take_succ_eq_append_getElem hi, List.append_assoc]; rfl
    simp only [laws_toIntS.l0]
    rw [if_pos (by omega), if_pos (by omega), if_pos (by simp; omega), Int.toNat_natCast, e, wrap_succ hi (by omega)]
    exact ih (i + 1) k (by omega) (by omega)
theorem toIntS_eq {k : Nat} {l : List Int} (hn : l.length ≤ 1048576) (hk : l.length < k) : laws_toIntS.f k l = some l := by
  unfold laws_toIntS.f
  rw [if_pos (by omega), if_pos (by omega), Int.toNat_natCast]
  have := toIntS_loop l hn l.length 0 k (by omega) hk
  simpa using this

theorem rd_getD (l : List Int) (p : Nat) : rd l (p : Int) = l.getD p 0 := by simp [rd]
theorem spec_flip_l0 (l : List Int) (n : Nat) (hn : n ≤ 40) (hl : l.length ≤ 1048576) (hp : ∀ p ∈ l, 0 ≤ p ∧ p < 8 * (n : Int)) : ∀ (d i : Nat) (y : List Int), i + d = l.length → y.length = n → (∀ x ∈ y, 0 ≤ x ∧ x ≤ 255) →
    Ev (fun k => spec_FlipBits.l0 k (bitsL y) l (l.length : Int) (i : Int)) (flips y (l.drop i), true) := by
  intro d
  induction d with
  | zero =>
    intro i y h hy hb
    have hf := spec_frFrom_ev (bitsL_mem y) (by rw [bitsL_length]; omega)
    rw [if_pos (by rw [bitsL_length]; omega), show (bitsL y).length / 8 = y.length by rw [bitsL_length]; omega, packF_bits y hb] at hf
    rw [List.drop_of_length_le (by omega), flips]
    obtain ⟨K, hK⟩ := hf
    simp only at hK
    refine ⟨K + 1, fun k hk => ?_⟩
    obtain ⟨k, rfl⟩ : ∃ m, k = m + 1 := ⟨k - 1, by omega⟩
    show spec_FlipBits.l0 (k + 1) _ _ _ _ = _
    simp only [spec_FlipBits.l0]
    rw [if_neg (by omega), hK k (by omega)]; rfl
  | succ d ih =>
    intro i y h hy hb
    have hi : i < l.length := by omega
    have hpi := hp l[i] (List.getElem_mem hi)
    obtain ⟨p, ep⟩ : ∃ p : Nat, l[i] = (p : Int) := ⟨l[i].toNat, by omega⟩
    have hp8 : p < 8 * n := by omega
    have hq : p / 8 < y.length := by omega
    have hr : p % 8 < 8 := by omega
    rw [List.drop_eq_getElem_cons hi, flips, ep, Int.toNat_natCast]
    have nx := ih (i + 1) (flipAt y (p / 8) (p % 8)) (by omega) (by rw [flipAt_len, hy]) (flipAt_mem hb hq hr)
    rw [bitsL_flip y _ _ hb hq hr, show 8 * (p / 8) + p % 8 = p by omega] at nx
    refine Ev.step (fun k => ?_) nx
    have hbl : p < (bitsL y).length := by rw [bitsL_length]; omega
    have hm := bitsL_mem y _ (List.getElem_mem hbl)
    have hm2 : rd (bitsL y) (p : Int) = (bitsL y)[p] := rd_nat _ hbl
    simp only [spec_FlipBits.l0]
    rw [if_pos (by omega), if_pos (by omega), if_pos (by omega), rd_nat l hi, ep, if_pos (by omega), if_pos (by omega), wrap_succ hi (by omega), wrap_id (x := 1 - rd (bitsL y) (p : Int)) (by omega) (by omega), rd_getD, Int.toNat_natCast]
theorem impl_flip_l0 (l : List Int) (n : Nat) (hn : n ≤ 40) (hl : l.length ≤ 1048576) (hp : ∀ p ∈ l, 0 ≤ p ∧ p < 8 * (n : Int)) : ∀ (d i : Nat) (y : List Int), i + d = l.length → y.length = n → (∀ x ∈ y, 0 ≤ x ∧ x ≤ 255) →
    Ev (fun k => impl_FlipBits.l0 k y l (l.length : Int) (i : Int)) (flips y (l.drop i), true) := by
  intro d
  induction d with
  | zero =>
    intro i y h hy hb
    rw [List.drop_of_length_le (by omega), flips]
    refine ev_end (fun k => ?_)
    simp only [impl_FlipBits.l0]
    rw [if_neg (by omega)]
  | succ d ih =>
    intro i y h hy hb
    have hi : i < l.length := by omega
    have hpi := hp l[i] (List.getElem_mem hi)
    obtain ⟨p, ep⟩ : ∃ p : Nat, l[i] = (p : Int) := ⟨l[i].toNat, by omega⟩
    have hp8 : p < 8 * n := by omega
    have hq : p / 8 < y.length := by omega
    have hr : p % 8 < 8 := by omega
    rw [List.drop_eq_getElem_cons hi, flips, ep, Int.toNat_natCast]
    have nx := ih (i + 1) (flipAt y (p / 8) (p % 8)) (by omega) (by rw [flipAt_len, hy]) (flipAt_mem hb hq hr)
    refine Ev.step (fun k => ?_) nx
    have e1 : Int.tmod (p : Int) 8 = ((p % 8 : Nat) : Int) := by rw [Int.tmod_eq_emod_of_nonneg (by omega)]; rfl
    have e2 : Int.tdiv (p : Int) 8 = ((p / 8 : Nat) : Int) := by rw [Int.tdiv_eq_ediv_of_nonneg (by omega)]; rfl
    obtain ⟨b, eb, hb256⟩ : ∃ b : Nat, y.getD (p / 8) 0 = (b : Int) ∧ b < 256 := by
      have := hb y[p / 8] (List.getElem_mem hq)
      exact ⟨y[p / 8].toNat, by simp [List.getD, hq]; omega, by omega⟩
    have hs : 128 / 2 ^ (p % 8) ≤ 128 := Nat.div_le_self _ _
    simp only [impl_FlipBits.l0]
    rw [if_pos (by omega), if_pos (by omega), if_pos (by omega), rd_nat l hi, ep, e1, e2, wrap_id (x := ((p / 8 : Nat) : Int)) (by omega) (by omega), if_pos (by omega), if_pos (by omega), if_pos (by omega), wrap_succ hi (by omega),
      rd_getD, eb, show (128 : Int) = ((128 : Nat) : Int) from rfl, shr_nat _ _ (by omega), xor_nat (by omega) (by omega), Int.toNat_natCast, flipAt, eb, Int.toNat_natCast]
theorem both (a b : List Int) (hn : a.length ≤ 1048576) (hm : b.length ≤ 1048576) : ∃ v : List Int × Bool, Ev (fun k => spec_FlipBits.f k a b) v ∧ Ev (fun k => impl_FlipBits.f k a b) v ∧ v.1.length ≤ 40 := by
  cases hb : bytesB a with
  | false =>
    refine ⟨([], false), ⟨a.length + 2, fun k hk => ?_⟩, ⟨2, fun k hk => ?_⟩, by simp⟩
    · show spec_FlipBits.f k a b = _
      obtain ⟨k, rfl⟩ : ∃ m, k = m + 1 := ⟨k - 1, by omega⟩
      unfold spec_FlipBits.f; rw [spec_frBytes_eq (k := k + 1) hn (by omega), hb, Option.bind_some, if_neg (by simp)]; simp only [spec_FlipBits.j0, if_true]
    · show impl_FlipBits.f k a b = _
      obtain ⟨k, rfl⟩ : ∃ m, k = m + 1 := ⟨k - 1, by omega⟩
      unfold impl_FlipBits.f; rw [impl_areBytes_eq, hb, Option.bind_some, if_neg (by simp)]; simp only [impl_FlipBits.j0, if_true]
  | true =>
    have la := bytesB_len hb
    have w : wrap64 (wrap64 (8 * (a.length : Int)) - 1) = 8 * (a.length : Int) - 1 := by rw [wrap_id (x := 8 * (a.length : Int)) (by omega) (by omega), wrap_id (by omega) (by omega)]
    cases hr : risingB b 0 (8 * (a.length : Int) - 1) with
    | false =>
      refine ⟨([], false), ⟨a.length + b.length + 2, fun k hk => ?_⟩, ⟨b.length + 2, fun k hk => ?_⟩, by simp⟩
      · show spec_FlipBits.f k a b = _
        obtain ⟨k, rfl⟩ : ∃ m, k = m + 1 := ⟨k - 1, by omega⟩
        unfold spec_FlipBits.f; rw [spec_frBytes_eq (k := k + 1) hn (by omega), hb, Option.bind_some, if_pos rfl, w, spec_l1Rising_eq hm (by omega), hr, Option.bind_some]; simp [spec_FlipBits.j0]
      · show impl_FlipBits.f k a b = _
        obtain ⟨k, rfl⟩ : ∃ m, k = m + 1 := ⟨k - 1, by omega⟩
        unfold impl_FlipBits.f; rw [impl_areBytes_eq, hb, Option.bind_some, if_pos rfl, w, impl_areRising_eq hm (by omega), hr, Option.bind_some]; simp [impl_FlipBits.j0]
    | true =>
      have hp : ∀ p ∈ b, 0 ≤ p ∧ p < 8 * (a.length : Int) := by
        intro p hp
        simp only [risingB, Bool.and_eq_true, List.all_eq_true, inB, decide_eq_true_eq] at hr
        have := hr.1 p hp; omega
      obtain ⟨K0, h0⟩ := spec_frBits_ev (bytesB_mem hb) hn
      obtain ⟨K1, h1⟩ := spec_flip_l0 b a.length la hm hp b.length 0 a (by omega) rfl (bytesB_mem hb)
      obtain ⟨K2, h2⟩ := impl_flip_l0 b a.length la hm hp b.length 0 a (by omega) rfl (bytesB_mem hb)
      simp only [List.drop_zero] at h0 h1 h2
      refine ⟨(flips a b, true), ⟨K0 + K1 + a.length + b.length + 2, fun k hk => ?_⟩, ⟨K2 + b.length + 2, fun k hk => ?_⟩, by simp only [flips_len]; exact la⟩
      · show spec_FlipBits.f k a b = _
        obtain ⟨k, rfl⟩ : ∃ m, k = m + 1 := ⟨k - 1, by omega⟩
        unfold spec_FlipBits.f; rw [spec_frBytes_eq (k := k + 1) hn (by omega), hb, Option.bind_some, if_pos rfl, w, spec_l1Rising_eq hm (by omega), hr, Option.bind_some]
        simp only [spec_FlipBits.j0]
        rw [if_neg (by simp), h0 k (by omega), Option.bind_some]
        exact h1 k (by omega)
      · show impl_FlipBits.f k a b = _
        obtain ⟨k, rfl⟩ : ∃ m, k = m + 1 := ⟨k - 1, by omega⟩
        unfold impl_FlipBits.f; rw [impl_areBytes_eq, hb, Option.bind_some, if_pos rfl, w, impl_areRising_eq hm (by omega), hr, Option.bind_some]
        simp only [impl_FlipBits.j0, slices_Clone_int_int.f]
        rw [if_neg (by simp), if_pos (by omega), Option.bind_some]
        exact h2 k (by omega)
theorem FnExactFlipBits : FnExactFlipBitsPure := by
  intro a b _ _ _ _
  by_cases hl : (a.length : Int) > 1048576
  · exact ⟨0, by unfold laws_FnExactFlipBits.f; rw [if_pos hl]⟩
  by_cases hl2 : (b.length : Int) > 1048576
  · exact ⟨0, by unfold laws_FnExactFlipBits.f; rw [if_neg hl, if_pos hl2]⟩
  · have hn : a.length ≤ 1048576 := by omega
    have hm : b.length ≤ 1048576 := by omega
    obtain ⟨v, ⟨K1, h1⟩, ⟨K2, h2⟩, hv⟩ := both a b hn hm
    have n2 : ¬ (1 + (v.1.length : Int) < 0) := by omega
    have n3 : ¬ (1 + (a.length : Int) + (b.length : Int) < 0) := by omega
    have hv2 : v.1.length ≤ 1048576 := by omega
    refine ⟨K1 + K2 + a.length + b.length + v.1.length + 10, ?_⟩
    unfold laws_FnExactFlipBits.f
    simp (disch := omega) only [Option.bind_some, ↓reduceIte, bne_self_eq_false, Bool.false_eq_true, h1, h2, hl, hl2, n2, n3, toIntS_eq hn, toIntS_eq hm, eqIntS_refl hv2, eqIntS_refl hn, eqIntS_refl hm, markIntS_eq, heldIntS_eq]
    rw [laws_FnExactFlipBits.j0]
    simp (disch := omega) only [Option.bind_some, ↓reduceIte, bne_self_eq_false, Bool.false_eq_true, h1, h2, hl, hl2, n2, n3, toIntS_eq hn, toIntS_eq hm, eqIntS_refl hv2, eqIntS_refl hn, eqIntS_refl hm, markIntS_eq, heldIntS_eq]
    rw [laws_FnExactFlipBits.j1]
    simp (disch := omega) only [Option.bind_some, ↓reduceIte, bne_self_eq_false, Bool.false_eq_true, h1, h2, hl, hl2, n2, n3, toIntS_eq hn, toIntS_eq hm, eqIntS_refl hv2, eqIntS_refl hn, eqIntS_refl hm, markIntS_eq, heldIntS_eq]
    rw [laws_FnExactFlipBits.j2]
    simp (disch := omega) only [Option.bind_some, ↓reduceIte, bne_self_eq_false, Bool.false_eq_true, h1, h2, hl, hl2, n2, n3, toIntS_eq hn, toIntS_eq hm, eqIntS_refl hv2, eqIntS_refl hn, eqIntS_refl hm, markIntS_eq, heldIntS_eq]

end Go.Proofs.Ytggempkfkjjlaaa.Pure
