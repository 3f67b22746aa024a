/- FnExactDistanceOf: the program's answer is the reference's, as plain functions over numbers and lists; no condition beyond the sizes that every value has. -/
import Derived.Test.YtggempkfkjjlaaaPFnExactDistanceOfx2
namespace Go.Proofs.Ytggempkfkjjlaaa.Pure
open Go.RowKit Go.Proofs.Ytggempkfkjjlaaa.PFnExactDistanceOf Go.Proofs.YtggempkfkjjlaaaW.PrintWords Go.Proofs.YtggempkfkjjlaaaW.PrintLast Go.Proofs.YtggempkfkjjlaaaW.PrintMore

/- It reaches: spec_l1In.f, spec_l1All.f, spec_frBytes.f, spec_DistanceOf.f, laws_toIntS.f, impl_allWithin.f, impl_areBytes.f, impl_bitsOf.f, impl_DistanceOf.f, laws_eqIntS.f, laws_FnExactDistanceOf.f -/
def FnExactDistanceOfPure : Prop := ∀ (l0 : List Int) (l1 : List Int), l0.length ≤ maxLen → (∀ x ∈ l0, (Lit.int .i64 x).wf = true) → l1.length ≤ maxLen → (∀ x ∈ l1, (Lit.int .i64 x).wf = true) → ∃ k, laws_FnExactDistanceOf.f k l0 l1 = some true
set_option linter.unusedSimpArgs false
set_option linter.unusedVariables false
theorem wrap_id {x : Int} (h1 : -9223372036854775808 ≤ x) (h2 : x ≤ 9223372036854775807) : wrap64 x = x := by unfold wrap64; omega
theorem wrap_succ {i n : Nat} (h : i < n) (hn : n ≤ 4611686018427387904) : wrap64 ((i : Int) + 1) = ((i + 1 : Nat) : Int) := by rw [wrap_id] <;> omega
theorem rd_nat (l : List Int) {i : Nat} (h : i < l.length) : rd l (i : Int) = l[i] := by simp [rd, h]
theorem rd_mem (l : List Int) {i : Nat} (h : i < l.length) : rd l (i : Int) ∈ l := by rw [rd_nat l h]; exact List.getElem_mem h
/-- One round, and the end. -/
theorem ev_end {α : Type} {g : Nat → Option α} {r : α} (h : ∀ k, g (k + 1) = some r) : Ev g r := Ev.step h (Ev.now r)
theorem ev_of {α : Type} {g : Nat → Option α} {r : α} (h : ∀ k, g k = some r) : Ev g r := ⟨0, fun k _ => h k⟩
theorem ev_eq {α : Type} {g : Nat → Option α} {r r' : α} (h : Ev g r) (e : r = r') : Ev g r' := e ▸ h

theorem spec_l1In_eq (a b c : Int) : spec_l1In.f a b c = some (decide (b ≤ a ∧ a ≤ c)) := by
  unfold spec_l1In.f
  by_cases h : b ≤ a <;> simp [h]

theorem l1All_loop (lo hi : Int) (l : List Int) (hn : l.length ≤ 1048576) : ∀ (d i k : Nat), i + d = l.length → d < k → spec_l1All.l0 k lo hi l (l.length : Int) (i : Int) = some ((l.drop i).all fun x => decide (lo ≤ x ∧ x ≤ hi)) := by
  intro d
  induction d with
  | zero =>
    intro i k h hk
    obtain ⟨k, rfl⟩ : ∃ m, k = m + 1 := ⟨k - 1, by omega⟩
    simp only [spec_l1All.l0]
    rw [if_neg (by omega), List.drop_of_length_le (by omega)]
    rfl
  | succ d ih =>
    intro i k h hk
    obtain ⟨k, rfl⟩ : ∃ m, k = m + 1 := ⟨k - 1, by omega⟩
    have hlt : i < l.length := by omega
    simp only [spec_l1All.l0, spec_l1In_eq, Option.bind_some]
    rw [if_pos (by omega), if_pos (by omega), if_pos (by omega), rd_nat l hlt, wrap_succ hlt (by omega), ih (i + 1) k (by omega) (by omega), List.drop_eq_getElem_cons hlt, List.all_cons]
    by_cases c : lo ≤ l[i] ∧ l[i] ≤ hi <;> simp [c]
theorem spec_l1All_eq {k : Nat} {l : List Int} {lo hi : Int} (hn : l.length ≤ 1048576) (hk : l.length < k) : spec_l1All.f k l lo hi = some (l.all fun x => decide (lo ≤ x ∧ x ≤ hi)) := by
  unfold spec_l1All.f
  simpa using l1All_loop lo hi l hn l.length 0 k (by omega) hk

/-- What both call bytes. -/
def bytesB (l : List Int) : Bool := decide (l.length ≤ 40) && l.all fun x => decide (0 ≤ x ∧ x ≤ 255)
theorem spec_frBytes_eq {k : Nat} {l : List Int} (hn : l.length ≤ 1048576) (hk : l.length < k) : spec_frBytes.f k l = some (bytesB l) := by
  unfold spec_frBytes.f bytesB
  rw [spec_l1All_eq hn hk]
  by_cases h : (l.length : Int) ≤ 40
  · simp [show l.length ≤ 40 by omega, h]
  · simp [show ¬ l.length ≤ 40 by omega, h]
theorem impl_areBytes_eq (l : List Int) : impl_areBytes.f l = some (bytesB l) := by
  unfold impl_areBytes.f impl_allWithin.f bytesB
  by_cases h : (l.length : Int) ≤ 40
  · simp [show l.length ≤ 40 by omega, h]
  · simp [show ¬ l.length ≤ 40 by omega, h]
theorem bytesB_len {l : List Int} (h : bytesB l = true) : l.length ≤ 40 := by simp [bytesB] at h; exact h.1
theorem bytesB_mem {l : List Int} (h : bytesB l = true) : ∀ x ∈ l, 0 ≤ x ∧ x ≤ 255 := by simp [bytesB] at h; exact h.2

theorem xor_nat {a b : Nat} (ha : a < 4294967296) (hb : b < 4294967296) : Go.bits .xor .i64 (a : Int) (b : Int) = ((a ^^^ b : Nat) : Int) := by
  have ha' : a % 2 ^ 64 = a := Nat.mod_eq_of_lt (by omega)
  have hb' : b % 2 ^ 64 = b := Nat.mod_eq_of_lt (by omega)
  have hx : a ^^^ b < 4294967296 := Nat.xor_lt_two_pow (n := 32) ha hb
  have e : Go.bits .xor .i64 (a : Int) (b : Int) = IntKind.i64.wrap (((a ^^^ b : Nat)) : Int) := by
    simp only [bits, BitVec.ofInt_natCast, BitVec.toNat_xor, BitVec.toNat_ofNat]
    rw [show IntKind.i64.bits = 64 from rfl, ha', hb']
  rw [e, IntKind.wrap_i64]
  omega
/-- One step of the check's division, on a byte. -/
def crcStep (r : Nat) : Nat := if r * 2 > 255 then (r * 2 - 256) ^^^ 7 else r * 2
theorem crcStep_lt {r : Nat} (h : r < 256) : crcStep r < 256 := by
  unfold crcStep
  split
  · exact Nat.xor_lt_two_pow (n := 8) (by omega) (by omega)
  · omega
theorem crc_263 : ∀ x : Fin 256, 128 ≤ x.val → (x.val * 2) ^^^ 263 = (x.val * 2 - 256) ^^^ 7 := by decide +kernel
def crcIter : Nat → Nat → Nat
  | 0, r => r
  | d + 1, r => crcIter d (crcStep r)
theorem crcIter_lt : ∀ (d : Nat) {r : Nat}, r < 256 → crcIter d r < 256
  | 0, _, h => h
  | d + 1, _, h => crcIter_lt d (crcStep_lt h)
/-- The check of bytes, from a rest on. -/
def crcOf (n : Nat) : Nat → List Int → Nat
  | r, [] => r
  | r, b :: t => crcOf n (crcIter n (r ^^^ b.toNat)) t
theorem crcOf_cons (n r : Nat) (b : Int) (t : List Int) : crcOf n r (b :: t) = crcOf n (crcIter n (r ^^^ b.toNat)) t := rfl
theorem byte_nat {l : List Int} (hb : ∀ x ∈ l, 0 ≤ x ∧ x ≤ 255) {i : Nat} (hi : i < l.length) : ∃ b : Nat, l[i] = (b : Int) ∧ b < 256 := by
  have := hb l[i] (List.getElem_mem hi)
  exact ⟨l[i].toNat, by omega, by omega⟩
theorem crcOf_lt : ∀ (l : List Int) {r : Nat}, r < 256 → (∀ x ∈ l, 0 ≤ x ∧ x ≤ 255) → crcOf 8 r l < 256
  | [], _, h, _ => h
  | b :: t, r, h, hb => by
    have := hb b (by simp)
    rw [crcOf_cons]
    exact crcOf_lt t (crcIter_lt 8 (Nat.xor_lt_two_pow (n := 8) h (by omega))) (fun x hx => hb x (by simp [hx]))

theorem and_nat {a b : Nat} (ha : a < 4294967296) (hb : b < 4294967296) : Go.bits .and .i64 (a : Int) (b : Int) = ((a &&& b : Nat) : Int) := by
  have ha' : a % 2 ^ 64 = a := Nat.mod_eq_of_lt (by omega)
  have hb' : b % 2 ^ 64 = b := Nat.mod_eq_of_lt (by omega)
  have hx : a &&& b < 4294967296 := Nat.lt_of_le_of_lt Nat.and_le_left ha
  have e : Go.bits .and .i64 (a : Int) (b : Int) = IntKind.i64.wrap (((a &&& b : Nat)) : Int) := by
    simp only [bits, BitVec.ofInt_natCast, BitVec.toNat_and, BitVec.toNat_ofNat]
    rw [show IntKind.i64.bits = 64 from rfl, ha', hb']
  rw [e, IntKind.wrap_i64]
  omega
theorem shr_nat (b j : Nat) (hj : j ≤ 64) : shr .i64 (b : Int) (j : Int) = ((b / 2 ^ j : Nat) : Int) := by
  unfold shr
  rw [Int.toNat_natCast, show min j IntKind.i64.bits = j from Nat.min_eq_left hj]
  rw [Int.natCast_ediv, Int.natCast_pow]; rfl
/-- The j last bits of a number, the greatest first. -/
def bitsN : Nat → Nat → List Int
  | 0, _ => []
  | j + 1, b => ((b / 2 ^ j % 2 : Nat) : Int) :: bitsN j b
theorem bitsN_length : ∀ (j b : Nat), (bitsN j b).length = j
  | 0, _ => rfl
  | j + 1, b => by rw [bitsN, List.length_cons, bitsN_length j b]
def bitsL : List Int → List Int
  | [] => []
  | b :: t => bitsN 8 b.toNat ++ bitsL t
theorem bitsL_length : ∀ l : List Int, (bitsL l).length = 8 * l.length
  | [] => rfl
  | b :: t => by rw [bitsL, List.length_append, bitsN_length, bitsL_length t, List.length_cons]; omega

theorem impl_bitsOf_l1 (l : List Int) (n i : Int) (v : List Int) (b : Nat) (hb : b < 256) : ∀ (j : Nat) (acc : List Int), j ≤ 8 → acc.length + j ≤ 1099511627776 → Ev (fun k => impl_bitsOf.l0 k (acc ++ bitsN j b) l n (wrap64 (i + 1))) v → Ev (fun k => impl_bitsOf.l1 k acc (b : Int) ((j : Int) - 1) l n i) v := by
  intro j
  induction j with
  | zero =>
    intro acc _ ha hv
    refine Ev.step (fun k => ?_) hv
    simp only [impl_bitsOf.l1]
    rw [if_neg (by omega)]; simp only [bitsN, List.append_nil]
  | succ j ih =>
    intro acc hj ha hv
    have hv2 : Ev (fun k => impl_bitsOf.l0 k ((acc ++ [((b / 2 ^ j % 2 : Nat) : Int)]) ++ bitsN j b) l n (wrap64 (i + 1))) v := by
      rw [List.append_assoc]; exact hv
    refine Ev.step (fun k => ?_) (ih (acc ++ [((b / 2 ^ j % 2 : Nat) : Int)]) (by omega) (by simp; omega) hv2)
    simp only [impl_bitsOf.l1]
    have e : ((j + 1 : Nat) : Int) - 1 = (j : Int) := by omega
    have e2 : Go.bits .and .i64 (shr .i64 (b : Int) (j : Int)) 1 = ((b / 2 ^ j % 2 : Nat) : Int) := by
      have h2 : b / 2 ^ j < 4294967296 := Nat.lt_of_le_of_lt (Nat.div_le_self _ _) (by omega)
      rw [shr_nat b j (by omega), show (1 : Int) = ((1 : Nat) : Int) from rfl, and_nat h2 (by omega), Nat.and_one_is_mod]
    rw [e, if_pos (by omega), if_pos (by omega), if_pos (by omega), e2, wrap_id (by omega) (by omega)]
theorem impl_bitsOf_l0 (l : List Int) (hb : ∀ x ∈ l, 0 ≤ x ∧ x ≤ 255) (hn : l.length ≤ 1048576) : ∀ (d i : Nat) (acc : List Int), i + d = l.length → acc.length + 8 * d ≤ 1099511627776 → Ev (fun k => impl_bitsOf.l0 k acc l (l.length : Int) (i : Int)) (acc ++ bitsL (l.drop i)) := by
  intro d
  induction d with
  | zero =>
    intro i acc h _
    refine ev_end (fun k => ?_)
    simp only [impl_bitsOf.l0]
    rw [if_neg (by omega), List.drop_of_length_le (by omega), bitsL, List.append_nil]
  | succ d ih =>
    intro i acc h ha
    have hi : i < l.length := by omega
    obtain ⟨b, eb, hb2⟩ := byte_nat hb hi
    have next := ih (i + 1) (acc ++ bitsN 8 b) (by omega) (by rw [List.length_append, bitsN_length]; omega)
    rw [← wrap_succ hi (by omega)] at next
    have e : acc ++ bitsL (l.drop i) = acc ++ bitsN 8 b ++ bitsL (l.drop (i + 1)) := by
      rw [List.drop_eq_getElem_cons hi, bitsL, eb, Int.toNat_natCast, List.append_assoc]
    rw [e]
    refine Ev.step (fun k => ?_) (impl_bitsOf_l1 l (l.length : Int) (i : Int) _ b hb2 8 acc (by omega) (by omega) next)
    simp only [impl_bitsOf.l0]
    rw [if_pos (by omega), if_pos (by omega), if_pos (by omega), rd_nat l hi, eb]; rfl
theorem impl_bitsOf_ev {l : List Int} (hb : ∀ x ∈ l, 0 ≤ x ∧ x ≤ 255) (hn : l.length ≤ 1048576) : Ev (fun k => impl_bitsOf.f k l) (bitsL l) := by
  unfold impl_bitsOf.f
  simpa using impl_bitsOf_l0 l hb hn l.length 0 [] (by omega) (by simp; omega)

theorem toIntS_loop (l : List Int) (hn : l.length ≤ 1048576) : ∀ (d i k : Nat), i + d = l.length → d < k → laws_toIntS.l0 k l (l.take i ++ List.replicate d 0) (i : Int) = some l := by
  intro d
  induction d with
  | zero =>
    intro i k h hk
    obtain ⟨k, rfl⟩ : ∃ m, k = m + 1 := ⟨k - 1, by omega⟩
    simp only [laws_toIntS.l0]
    rw [if_neg (by omega)]
    simp [List.take_of_length_le (show l.length ≤ i by omega)]
  | succ d ih =>
    intro i k h hk
    obtain ⟨k, rfl⟩ : ∃ m, k = m + 1 := ⟨k - 1, by omega⟩
    have hi : i < l.length := by omega
    have e : (l.take i ++ List.replicate (d + 1) 0).set i (rd l (i : Int)) = l.take (i + 1) ++ List.replicate d 0 := by
      rw [rd_nat l hi, List.set_append_right _ _ (by simp; omega)]
      simp only [List.length_take, Nat.min_eq_left (Nat.le_of_lt hi), Nat.sub_self, List.replicate_succ, List.set_cons_zero]
      rw [List.take_succ_eq_append_getElem hi, List.append_assoc]; rfl
    simp only [laws_toIntS.l0]
    rw [if_pos (by omega), if_pos (by omega), if_pos (by simp; omega), Int.toNat_natCast, e, wrap_succ hi (by omega)]
    exact ih (i + 1) k (by omega) (by omega)
theorem toIntS_eq {k : Nat} {l : List Int} (hn : l.length ≤ 1048576) (hk : l.length < k) : laws_toIntS.f k l = some l := by
  unfold laws_toIntS.f
  rw [if_pos (by omega), if_pos (by omega), Int.toNat_natCast]
  have := toIntS_loop l hn l.length 0 k (by omega) hk
  simpa using this

theorem eqIntS_loop (l : List Int) (hn : l.length ≤ 1048576) : ∀ (d i k : Nat), i + d = l.length → d < k → laws_eqIntS.l0 k l l (i : Int) = some true := by
  intro d
  induction d with
  | zero =>
    intro i k h hk
    obtain ⟨k, rfl⟩ : ∃ m, k = m + 1 := ⟨k - 1, by omega⟩
    simp only [laws_eqIntS.l0]
    rw [if_neg (by omega)]
  | succ d ih =>
    intro i k h hk
    obtain ⟨k, rfl⟩ : ∃ m, k = m + 1 := ⟨k - 1, by omega⟩
    simp only [laws_eqIntS.l0]
    rw [if_pos (by omega), if_pos (by omega), if_pos (by omega), if_pos trivial, wrap_succ (n := l.length) (by omega) (by omega)]
    exact ih (i + 1) k (by omega) (by omega)
theorem eqIntS_refl {k : Nat} {l : List Int} (hn : l.length ≤ 1048576) (hk : l.length < k) : laws_eqIntS.f k l l = some true := by
  unfold laws_eqIntS.f
  rw [if_pos rfl]
  exact eqIntS_loop l hn l.length 0 k (by omega) hk

def hamL : List Int → List Int → Nat
  | x :: xs, y :: ys => (if x = y then 0 else 1) + hamL xs ys
  | _, _ => 0
def popN : Nat → Nat → Nat
  | 0, _ => 0
  | d + 1, y => y % 2 + popN d (y / 2)
def popU : Nat → Nat → Nat
  | 0, _ => 0
  | j + 1, y => y / 2 ^ j % 2 + popU j y
theorem popU_half : ∀ (d y : Nat), popU (d + 1) y = y % 2 + popU d (y / 2)
  | 0, y => by simp [popU]
  | d + 1, y => by
    have e : y / 2 ^ (d + 1) = y / 2 / 2 ^ d := by rw [Nat.pow_succ, Nat.mul_comm, Nat.div_div_eq_div_mul]
    rw [popU, popU_half d y, e, popU]; omega
theorem popN_U : ∀ (d y : Nat), popN d y = popU d y
  | 0, _ => rfl
  | d + 1, y => by rw [popU_half, ← popN_U d (y / 2)]; rfl
theorem xor_bit (a b j : Nat) : (a ^^^ b) / 2 ^ j % 2 = if ((a / 2 ^ j % 2 : Nat) : Int) = ((b / 2 ^ j % 2 : Nat) : Int) then 0 else 1 := by
  have h := Nat.testBit_xor a b j
  rw [Nat.testBit_eq_decide_div_mod_eq, Nat.testBit_eq_decide_div_mod_eq, Nat.testBit_eq_decide_div_mod_eq] at h
  have h1 : a / 2 ^ j % 2 < 2 := Nat.mod_lt _ (by omega)
  have h2 : b / 2 ^ j % 2 < 2 := Nat.mod_lt _ (by omega)
  have h3 : (a ^^^ b) / 2 ^ j % 2 < 2 := Nat.mod_lt _ (by omega)
  generalize a / 2 ^ j % 2 = p at *
  generalize b / 2 ^ j % 2 = q at *
  generalize (a ^^^ b) / 2 ^ j % 2 = r at *
  have hp : p = 0 ∨ p = 1 := by omega
  have hq : q = 0 ∨ q = 1 := by omega
  have hr : r = 0 ∨ r = 1 := by omega
  rcases hp with rfl | rfl <;> rcases hq with rfl | rfl <;> rcases hr with rfl | rfl <;> simp at h ⊢
theorem popU_ham (a b : Nat) : ∀ j : Nat, popU j (a ^^^ b) = hamL (bitsN j a) (bitsN j b)
  | 0 => rfl
  | j + 1 => by rw [popU, bitsN, bitsN, hamL, popU_ham a b j, xor_bit]
theorem pop_ham (a b : Nat) : popN 8 (a ^^^ b) = hamL (bitsN 8 a) (bitsN 8 b) := by rw [popN_U, popU_ham]
theorem hamL_append : ∀ (xs ys xs' ys' : List Int), xs.length = ys.length → hamL (xs ++ xs') (ys ++ ys') = hamL xs ys + hamL xs' ys'
  | [], [], _, _, _ => by simp [hamL]
  | x :: xs, y :: ys, xs', ys', h => by
    simp only [List.cons_append, hamL]
    rw [hamL_append xs ys xs' ys' (by simpa using h)]; omega
  | [], _ :: _, _, _, h => by simp at h
  | _ :: _, [], _, _, h => by simp at h
/-- At how many places the bits of two lists of bytes part. -/
def hamB : List Int → List Int → Nat
  | x :: xs, y :: ys => popN 8 (x.toNat ^^^ y.toNat) + hamB xs ys
  | _, _ => 0
theorem popN_le : ∀ (d y : Nat), popN d y ≤ d
  | 0, _ => Nat.le_refl _
  | d + 1, y => by have := popN_le d (y / 2); unfold popN; omega
theorem hamB_le : ∀ (xs ys : List Int), hamB xs ys ≤ 8 * xs.length
  | [], _ => by simp [hamB]
  | _ :: _, [] => by simp [hamB]
  | x :: xs, y :: ys => by
    have h1 := popN_le 8 (x.toNat ^^^ y.toNat)
    have h2 := hamB_le xs ys
    simp only [hamB, List.length_cons]; omega
theorem hamB_bits : ∀ (xs ys : List Int), xs.length = ys.length → (∀ x ∈ xs, 0 ≤ x ∧ x ≤ 255) → (∀ x ∈ ys, 0 ≤ x ∧ x ≤ 255) → hamL (bitsL xs) (bitsL ys) = hamB xs ys
  | [], [], _, _, _ => rfl
  | x :: xs, y :: ys, h, hx, hy => by
    have h1 := hx x (by simp)
    have h2 := hy y (by simp)
    simp only [bitsL, hamB]
    rw [hamL_append _ _ _ _ (by rw [bitsN_length, bitsN_length]), hamB_bits xs ys (by simpa using h) (fun z hz => hx z (by simp [hz])) (fun z hz => hy z (by simp [hz]))]
    rw [pop_ham]
  | [], _ :: _, h, _, _ => by simp at h
  | _ :: _, [], h, _, _ => by simp at h
theorem spec_dist_l1 (a b : List Int) (n i : Int) (v : Int × Bool) : ∀ (d y c : Nat), y < 2 ^ d → d ≤ 8 → c + d ≤ 1048576 → Ev (fun k => spec_DistanceOf.l0 k b ((c + popN d y : Nat) : Int) a n (wrap64 (i + 1))) v → Ev (fun k => spec_DistanceOf.l1 k b (c : Int) (y : Int) a n i) v := by
  intro d
  induction d with
  | zero =>
    intro y c hy _ _ hv
    refine Ev.step (fun k => ?_) hv
    simp only [spec_DistanceOf.l1]
    rw [if_neg (by simp at hy; omega)]; rfl
  | succ d ih =>
    intro y c hy hd hc hv
    by_cases h0 : 0 < y
    · have e1 : Int.tmod (y : Int) 2 = ((y % 2 : Nat) : Int) := by rw [Int.tmod_eq_emod_of_nonneg (by omega)]; rfl
      have e2 : Int.tdiv (y : Int) 2 = ((y / 2 : Nat) : Int) := by rw [Int.tdiv_eq_ediv_of_nonneg (by omega)]; rfl
      have hv2 : Ev (fun k => spec_DistanceOf.l0 k b (((c + y % 2) + popN d (y / 2) : Nat) : Int) a n (wrap64 (i + 1))) v := by
        rw [Nat.add_assoc]; exact hv
      have hm2 : y % 2 < 2 := Nat.mod_lt _ (by omega)
      have hy8 : y < 256 := Nat.lt_of_lt_of_le hy (Nat.pow_le_pow_right (n := 2) (by omega) (by omega : d + 1 ≤ 8))
      refine Ev.step (fun k => ?_) (ih (y / 2) (c + y % 2) (by rw [Nat.pow_succ] at hy; omega) (by omega) (by omega) hv2)
      simp only [spec_DistanceOf.l1]
      rw [if_pos (by omega), e1, e2, wrap_id (by omega) (by omega), wrap_id (by omega) (by omega)]; rfl
    · have hy0 : y = 0 := by omega
      have hz : ∀ d, popN d 0 = 0 := by
        intro d; induction d with
        | zero => rfl
        | succ d ih => unfold popN; simpa using ih
      rw [hy0, hz, Nat.add_zero] at hv
      refine Ev.step (fun k => ?_) hv
      simp only [spec_DistanceOf.l1]
      rw [hy0, if_neg (by omega)]
theorem spec_dist_l0 (a b : List Int) (he : a.length = b.length) (ha : ∀ x ∈ a, 0 ≤ x ∧ x ≤ 255) (hb : ∀ x ∈ b, 0 ≤ x ∧ x ≤ 255) (hn : a.length ≤ 1024) : ∀ (d i c : Nat), i + d = a.length → c + 8 * d ≤ 8192 →
    Ev (fun k => spec_DistanceOf.l0 k b (c : Int) a (a.length : Int) (i : Int)) (((c + hamB (a.drop i) (b.drop i) : Nat) : Int), true) := by
  intro d
  induction d with
  | zero =>
    intro i c h _
    refine ev_end (fun k => ?_)
    simp only [spec_DistanceOf.l0]
    rw [if_neg (by omega), List.drop_of_length_le (by omega)]; simp [hamB]
  | succ d ih =>
    intro i c h hc
    have hi : i < a.length := by omega
    have hi' : i < b.length := by omega
    obtain ⟨x, ex, hx⟩ := byte_nat ha hi
    obtain ⟨y, ey, hy⟩ := byte_nat hb hi'
    have hxy : x ^^^ y < 2 ^ 8 := Nat.xor_lt_two_pow (by omega) (by omega)
    have hp := popN_le 8 (x ^^^ y)
    have e : c + hamB (a.drop i) (b.drop i) = (c + popN 8 (x ^^^ y)) + hamB (a.drop (i + 1)) (b.drop (i + 1)) := by
      rw [List.drop_eq_getElem_cons hi, List.drop_eq_getElem_cons hi', hamB, ex, ey, Int.toNat_natCast, Int.toNat_natCast, Nat.add_assoc]
    rw [e]
    have next := ih (i + 1) (c + popN 8 (x ^^^ y)) (by omega) (by omega)
    rw [← wrap_succ hi (by omega)] at next
    refine Ev.step (fun k => ?_) (spec_dist_l1 a b (a.length : Int) (i : Int) _ 8 (x ^^^ y) c hxy (by omega) (by omega) next)
    simp only [spec_DistanceOf.l0]
    rw [if_pos (by omega), if_pos (by omega), if_pos (by omega), if_pos (by omega), rd_nat a hi, rd_nat b hi', ex, ey, xor_nat (by omega) (by omega)]
theorem impl_dist_l0 (xs ys : List Int) (he : xs.length = ys.length) (hn : xs.length ≤ 8192) : ∀ (d i c : Nat), i + d = xs.length → c + d ≤ 8192 →
    Ev (fun k => impl_DistanceOf.l0 k xs ys (c : Int) (xs.length : Int) (i : Int)) (((c + hamL (xs.drop i) (ys.drop i) : Nat) : Int), true) := by
  intro d
  induction d with
  | zero =>
    intro i c h _
    refine ev_end (fun k => ?_)
    simp only [impl_DistanceOf.l0]
    rw [if_neg (by omega), List.drop_of_length_le (by omega)]; simp [hamL]
  | succ d ih =>
    intro i c h hc
    have hi : i < xs.length := by omega
    have hi' : i < ys.length := by omega
    have e : c + hamL (xs.drop i) (ys.drop i) = (c + (if xs[i] = ys[i] then 0 else 1)) + hamL (xs.drop (i + 1)) (ys.drop (i + 1)) := by
      rw [List.drop_eq_getElem_cons hi, List.drop_eq_getElem_cons hi', hamL, Nat.add_assoc]
    rw [e]
    refine Ev.step (fun k => ?_) (ih (i + 1) (c + (if xs[i] = ys[i] then 0 else 1)) (by omega) (by split <;> omega))
    simp only [impl_DistanceOf.l0]
    rw [if_pos (by omega), if_pos (by omega), if_pos (by omega), if_pos (by omega), rd_nat xs hi, rd_nat ys hi', wrap_succ hi (by omega)]
    by_cases cc : xs[i] = ys[i]
    · rw [if_pos cc, if_pos cc]; rfl
    · rw [if_neg cc, if_neg cc, wrap_id (by omega) (by omega)]; rfl
theorem both (a b : List Int) (hn : a.length ≤ 1048576) (hm : b.length ≤ 1048576) : ∃ v, Ev (fun k => spec_DistanceOf.f k a b) v ∧ Ev (fun k => impl_DistanceOf.f k a b) v := by
  by_cases hall : bytesB a = true ∧ bytesB b = true ∧ a.length = b.length
  · obtain ⟨ha, hb, he⟩ := hall
    have la := bytesB_len ha
    obtain ⟨K1, h1⟩ := spec_dist_l0 a b he (bytesB_mem ha) (bytesB_mem hb) (by omega) a.length 0 0 (by omega) (by omega)
    obtain ⟨K2, h2⟩ := impl_bitsOf_ev (bytesB_mem ha) hn
    obtain ⟨K3, h3⟩ := impl_bitsOf_ev (bytesB_mem hb) hm
    have hl : (bitsL a).length = (bitsL b).length := by rw [bitsL_length, bitsL_length, he]
    obtain ⟨K4, h4⟩ := impl_dist_l0 (bitsL a) (bitsL b) hl (by rw [bitsL_length]; omega) (bitsL a).length 0 0 (by omega) (by rw [bitsL_length]; omega)
    simp only [List.drop_zero, Nat.zero_add] at h1 h2 h3 h4
    rw [hamB_bits a b he (bytesB_mem ha) (bytesB_mem hb)] at h4
    refine ⟨((hamB a b : Int), true), ⟨K1 + a.length + b.length + 2, fun k hk => ?_⟩, ⟨K2 + K3 + K4 + 2, fun k hk => ?_⟩⟩
    · show spec_DistanceOf.f k a b = _
      obtain ⟨k, rfl⟩ : ∃ m, k = m + 1 := ⟨k - 1, by omega⟩
      unfold spec_DistanceOf.f
      rw [spec_frBytes_eq (k := k + 1) hn (by omega), ha, Option.bind_some, if_pos rfl, spec_frBytes_eq (k := k + 1) hm (by omega), hb, Option.bind_some, if_pos rfl]
      simp only [spec_DistanceOf.j0]
      rw [if_neg (by rw [bne_iff_ne]; omega)]
      exact h1 k (by omega)
    · show impl_DistanceOf.f k a b = _
      obtain ⟨k, rfl⟩ : ∃ m, k = m + 1 := ⟨k - 1, by omega⟩
      unfold impl_DistanceOf.f
      rw [impl_areBytes_eq, ha, Option.bind_some, if_pos rfl, impl_areBytes_eq, hb, Option.bind_some, if_pos rfl]
      simp only [impl_DistanceOf.j0]
      rw [if_neg (by rw [bne_iff_ne]; omega), h2 k (by omega), Option.bind_some, h3 k (by omega), Option.bind_some]
      exact h4 k (by omega)
  · refine ⟨(0, false), ⟨a.length + b.length + 2, fun k hk => ?_⟩, ⟨2, fun k hk => ?_⟩⟩
    · show spec_DistanceOf.f k a b = _
      obtain ⟨k, rfl⟩ : ∃ m, k = m + 1 := ⟨k - 1, by omega⟩
      unfold spec_DistanceOf.f
      rw [spec_frBytes_eq (k := k + 1) hn (by omega), Option.bind_some]
      cases ha : bytesB a with
      | false => rw [if_neg (by simp)]; simp only [spec_DistanceOf.j0, if_true]
      | true =>
        rw [if_pos rfl, spec_frBytes_eq (k := k + 1) hm (by omega), Option.bind_some]
        cases hb : bytesB b with
        | false => rw [if_neg (by simp)]; simp only [spec_DistanceOf.j0, if_true]
        | true =>
          have hne : ¬ a.length = b.length := fun h => hall ⟨ha, hb, h⟩
          rw [if_pos rfl]; simp only [spec_DistanceOf.j0]; rw [if_pos (by rw [bne_iff_ne]; omega)]
    · show impl_DistanceOf.f k a b = _
      obtain ⟨k, rfl⟩ : ∃ m, k = m + 1 := ⟨k - 1, by omega⟩
      unfold impl_DistanceOf.f
      rw [impl_areBytes_eq, Option.bind_some]
      cases ha : bytesB a with
      | false => rw [if_neg (by simp)]; simp only [impl_DistanceOf.j0, if_true]
      | true =>
        rw [if_pos rfl, impl_areBytes_eq, Option.bind_some]
        cases hb : bytesB b with
        | false => rw [if_neg (by simp)]; simp only [impl_DistanceOf.j0, if_true]
        | true =>
          have hne : ¬ a.length = b.length := fun h => hall ⟨ha, hb, h⟩
          rw [if_pos rfl]; simp only [impl_DistanceOf.j0]; rw [if_pos (by rw [bne_iff_ne]; omega)]
theorem FnExactDistanceOf : FnExactDistanceOfPure := by
  intro a b _ _ _ _
  by_cases hl : (a.length : Int) > 1048576
  · exact ⟨0, by unfold laws_FnExactDistanceOf.f; rw [if_pos hl]⟩
  by_cases hl2 : (b.length : Int) > 1048576
  · exact ⟨0, by unfold laws_FnExactDistanceOf.f; rw [if_neg hl, if_pos hl2]⟩
  · have hn : a.length ≤ 1048576 := by omega
    have hm : b.length ≤ 1048576 := by omega
    obtain ⟨v, ⟨K1, h1⟩, ⟨K2, h2⟩⟩ := both a b hn hm
    refine ⟨K1 + K2 + a.length + b.length + 10, ?_⟩
    unfold laws_FnExactDistanceOf.f
    simp (disch := omega) only [Option.bind_some, ↓reduceIte, bne_self_eq_false, Bool.false_eq_true, h1, h2, hl, hl2, toIntS_eq hn, toIntS_eq hm, eqIntS_refl hn, eqIntS_refl hm]
    rw [laws_FnExactDistanceOf.j0]
    simp (disch := omega) only [Option.bind_some, ↓reduceIte, bne_self_eq_false, Bool.false_eq_true, h1, h2, hl, hl2, toIntS_eq hn, toIntS_eq hm, eqIntS_refl hn, eqIntS_refl hm]

end Go.Proofs.Ytggempkfkjjlaaa.Pure
