/- FnExactFromBits: the program's answer is the reference's, as plain functions over numbers and lists; no condition beyond the sizes that every value has. -/
import Derived.Test.YtggempkfkjjlaaaPFnExactFromBitsx3
namespace Go.Proofs.Ytggempkfkjjlaaa.Pure
open Go.RowKit Go.Proofs.Ytggempkfkjjlaaa.PFnExactFromBits Go.Proofs.YtggempkfkjjlaaaW.PrintWords Go.Proofs.YtggempkfkjjlaaaW.PrintLast Go.Proofs.YtggempkfkjjlaaaW.PrintMore

/- It reaches: laws_toIntS.f, laws_eqIntS.f, laws_markIntS.f, laws_heldIntS.f, spec_l1In.f, spec_l1All.f, spec_frAre.f, spec_frFrom.f, spec_FromBits.f, impl_allWithin.f, impl_areBits.f, impl_fromBits.f, impl_FromBits.f, laws_FnExactFromBits.f -/
def FnExactFromBitsPure : Prop := ∀ (l0 : List Int), l0.length ≤ maxLen → (∀ x ∈ l0, (Lit.int .i64 x).wf = true) → ∃ k, laws_FnExactFromBits.f k l0 = some true
set_option linter.unusedSimpArgs false
set_option linter.unusedVariables false
theorem wrap_id {x : Int} (h1 : -9223372036854775808 ≤ x) (h2 : x ≤ 9223372036854775807) : wrap64 x = x := by unfold wrap64; omega
theorem wrap_succ {i n : Nat} (h : i < n) (hn : n ≤ 4611686018427387904) : wrap64 ((i : Int) + 1) = ((i + 1 : Nat) : Int) := by rw [wrap_id] <;> omega
theorem rd_nat (l : List Int) {i : Nat} (h : i < l.length) : rd l (i : Int) = l[i] := by simp [rd, h]
theorem rd_mem (l : List Int) {i : Nat} (h : i < l.length) : rd l (i : Int) ∈ l := by rw [rd_nat l h]; exact List.getElem_mem h
/-- One round, and the end. -/
theorem ev_end {α : Type} {g : Nat → Option α} {r : α} (h : ∀ k, g (k + 1) = some r) : Ev g r := Ev.step h (Ev.now r)
theorem ev_of {α : Type} {g : Nat → Option α} {r : α} (h : ∀ k, g k = some r) : Ev g r := ⟨0, fun k _ => h k⟩
theorem ev_eq {α : Type} {g : Nat → Option α} {r r' : α} (h : Ev g r) (e : r = r') : Ev g r' := e ▸ h

theorem spec_l1In_eq (a b c : Int) : spec_l1In.f a b c = some (decide (b ≤ a ∧ a ≤ c)) := by
  unfold spec_l1In.f
  by_cases h : b ≤ a <;> simp [h]

theorem l1All_loop (lo hi : Int) (l : List Int) (hn : l.length ≤ 1048576) : ∀ (d i k : Nat), i + d = l.length → d < k → spec_l1All.l0 k lo hi l (l.length : Int) (i : Int) = some ((l.drop i).all fun x => decide (lo ≤ x ∧ x ≤ hi)) := by
  intro d
  induction d with
  | zero =>
    intro i k h hk
    obtain ⟨k, rfl⟩ : ∃ m, k = m + 1 := ⟨k - 1, by omega⟩
    simp only [spec_l1All.l0]
    rw [if_neg (by omega), List.drop_of_length_le (by omega)]
    rfl
  | succ d ih =>
    intro i k h hk
    obtain ⟨k, rfl⟩ : ∃ m, k = m + 1 := ⟨k - 1, by omega⟩
    have hlt : i < l.length := by omega
    simp only [spec_l1All.l0, spec_l1In_eq, Option.bind_some]
    rw [if_pos (by omega), if_pos (by omega), if_pos (by omega), rd_nat l hlt, wrap_succ hlt (by omega), ih (i + 1) k (by omega) (by omega), List.drop_eq_getElem_cons hlt, List.all_cons]
    by_cases c : lo ≤ l[i] ∧ l[i] ≤ hi <;> simp [c]
theorem spec_l1All_eq {k : Nat} {l : List Int} {lo hi : Int} (hn : l.length ≤ 1048576) (hk : l.length < k) : spec_l1All.f k l lo hi = some (l.all fun x => decide (lo ≤ x ∧ x ≤ hi)) := by
  unfold spec_l1All.f
  simpa using l1All_loop lo hi l hn l.length 0 k (by omega) hk

/-- What both call bits. -/
def bitsB (l : List Int) : Bool := decide (l.length ≤ 400) && l.all fun x => decide (0 ≤ x ∧ x ≤ 1)
theorem spec_frAre_eq {k : Nat} {l : List Int} (hn : l.length ≤ 1048576) (hk : l.length < k) : spec_frAre.f k l = some (bitsB l) := by
  unfold spec_frAre.f bitsB
  rw [spec_l1All_eq hn hk]
  by_cases h : (l.length : Int) ≤ 400
  · simp [show l.length ≤ 400 by omega, h]
  · simp [show ¬ l.length ≤ 400 by omega, h]
theorem impl_areBits_eq (l : List Int) : impl_areBits.f l = some (bitsB l) := by
  unfold impl_areBits.f impl_allWithin.f bitsB
  by_cases h : (l.length : Int) ≤ 400
  · simp [show l.length ≤ 400 by omega, h]
  · simp [show ¬ l.length ≤ 400 by omega, h]
theorem bitsB_len {l : List Int} (h : bitsB l = true) : l.length ≤ 400 := by simp [bitsB] at h; exact h.1
theorem bitsB_mem {l : List Int} (h : bitsB l = true) : ∀ x ∈ l, 0 ≤ x ∧ x ≤ 1 := by simp [bitsB] at h; exact h.2

def two (b x : Int) : Int := 2 * b + x
/-- The d numbers of which each eight bits are told, the greatest first. -/
def packF : Nat → List Int → List Int
  | 0, _ => []
  | d + 1, l => (l.take 8).foldl two 0 :: packF d (l.drop 8)
theorem packF_len : ∀ (d : Nat) (l : List Int), (packF d l).length = d
  | 0, _ => rfl
  | d + 1, l => by rw [packF, List.length_cons, packF_len d]
theorem pow_le {r : Nat} (h : r ≤ 8) : (2 : Int) ^ r ≤ 256 := by
  have : r = 0 ∨ r = 1 ∨ r = 2 ∨ r = 3 ∨ r = 4 ∨ r = 5 ∨ r = 6 ∨ r = 7 ∨ r = 8 := by omega
  rcases this with rfl | rfl | rfl | rfl | rfl | rfl | rfl | rfl | rfl <;> decide
theorem bit_mem {l : List Int} (hb : ∀ x ∈ l, 0 ≤ x ∧ x ≤ 1) {i : Nat} (hi : i < l.length) : 0 ≤ l[i] ∧ l[i] ≤ 1 := hb l[i] (List.getElem_mem hi)
theorem two_lt {p b : Int} {r : Nat} (h : 0 ≤ p ∧ p < 2 ^ r) (hb : 0 ≤ b ∧ b ≤ 1) : 0 ≤ 2 * p + b ∧ 2 * p + b < 2 ^ (r + 1) := by
  rw [Int.pow_succ]; omega
theorem foldl_lt : ∀ (l : List Int) (p : Int) (r : Nat), (∀ x ∈ l, 0 ≤ x ∧ x ≤ 1) → 0 ≤ p ∧ p < 2 ^ r → 0 ≤ l.foldl two p ∧ l.foldl two p < 2 ^ (r + l.length)
  | [], p, r, _, h => by simpa using h
  | x :: t, p, r, hb, h => by
    have := foldl_lt t (two p x) (r + 1) (fun y hy => hb y (by simp [hy])) (two_lt h (hb x (by simp)))
    rw [List.foldl_cons, List.length_cons, show r + (t.length + 1) = r + 1 + t.length from by omega]
    exact this
theorem packF_mem : ∀ (d : Nat) (l : List Int), (∀ x ∈ l, 0 ≤ x ∧ x ≤ 1) → ∀ y ∈ packF d l, 0 ≤ y ∧ y ≤ 255
  | 0, _, _, y, hy => by simp [packF] at hy
  | d + 1, l, hb, y, hy => by
    rw [packF] at hy
    rcases List.mem_cons.1 hy with rfl | hy
    · have h1 := foldl_lt (l.take 8) 0 0 (fun x hx => hb x (List.mem_of_mem_take hx)) (by simp)
      have h2 := pow_le (r := 0 + (l.take 8).length) (by simp; omega)
      omega
    · exact packF_mem d _ (fun x hx => hb x (List.mem_of_mem_drop hx)) y hy

theorem spec_from_l1 (l c acc : List Int) (hb : ∀ x ∈ c, 0 ≤ x ∧ x ≤ 1) (hc : c.length ≤ 8) (ha : acc.length ≤ 1048576) (i : Int) (v : List Int × Bool) : ∀ (d j : Nat) (p : Int), j + d = c.length → 0 ≤ p ∧ p < 2 ^ j →
    Ev (fun k => spec_frFrom.l0 k l (acc ++ [(c.drop j).foldl two p]) (wrap64 (i + 8))) v → Ev (fun k => spec_frFrom.l1 k l acc i p c (c.length : Int) (j : Int)) v := by
  intro d
  induction d with
  | zero =>
    intro j p h hp hv
    rw [List.drop_of_length_le (by omega)] at hv
    refine Ev.step (fun k => ?_) hv
    simp only [spec_frFrom.l1]
    rw [if_neg (by omega), if_pos (by omega)]; rfl
  | succ d ih =>
    intro j p h hp hv
    have hj : j < c.length := by omega
    have hbj := bit_mem hb hj
    have hp2 := two_lt hp hbj
    have hpw := pow_le (r := j + 1) (by omega)
    rw [List.drop_eq_getElem_cons hj, List.foldl_cons] at hv
    refine Ev.step (fun k => ?_) (ih (j + 1) (two p c[j]) (by omega) hp2 hv)
    simp only [spec_frFrom.l1]
    rw [if_pos (by omega), if_pos (by omega), if_pos (by omega), rd_nat c hj, wrap_id (x := 2 * p) (by omega) (by omega), wrap_id (x := 2 * p + c[j]) (by omega) (by omega), wrap_succ hj (by omega)]; rfl
theorem spec_from_l0 (l : List Int) (hb : ∀ x ∈ l, 0 ≤ x ∧ x ≤ 1) (hn : l.length ≤ 524288) : ∀ (d q : Nat) (acc : List Int), 8 * q + 8 * d = l.length → acc.length + d ≤ 1048576 →
    Ev (fun k => spec_frFrom.l0 k l acc ((8 * q : Nat) : Int)) (acc ++ packF d (l.drop (8 * q)), true) := by
  intro d
  induction d with
  | zero =>
    intro q acc h _
    refine ev_end (fun k => ?_)
    simp only [spec_frFrom.l0]
    rw [if_neg (by omega)]; simp [packF]
  | succ d ih =>
    intro q acc h ha
    have hw : wrap64 (((8 * q : Nat) : Int) + 8) = ((8 * (q + 1) : Nat) : Int) := by rw [wrap_id] <;> omega
    have e : (l.take (8 * (q + 1))).drop (8 * q) = (l.drop (8 * q)).take 8 := by rw [List.drop_take]; congr 1; omega
    have next := ih (q + 1) (acc ++ [((l.drop (8 * q)).take 8).foldl two 0]) (by omega) (by simp; omega)
    rw [← hw] at next
    have e2 : acc ++ packF (d + 1) (l.drop (8 * q)) = acc ++ [((l.drop (8 * q)).take 8).foldl two 0] ++ packF d (l.drop (8 * (q + 1))) := by
      rw [packF, List.drop_drop, List.append_assoc]; rfl
    rw [e2]
    refine Ev.step (fun k => ?_) (spec_from_l1 l ((l.drop (8 * q)).take 8) acc (fun x hx => hb x (List.mem_of_mem_drop (List.mem_of_mem_take hx))) (by simp; omega) (by omega) ((8 * q : Nat) : Int) _ _ 0 0 (Nat.zero_add _) (by simp) (by rw [List.drop_zero]; exact next))
    simp only [spec_frFrom.l0]
    rw [if_pos (by omega), if_pos (by omega), hw, if_pos (by omega), if_pos (by omega), Int.toNat_natCast, Int.toNat_natCast, e]; rfl
theorem spec_frFrom_ev {l : List Int} (hb : ∀ x ∈ l, 0 ≤ x ∧ x ≤ 1) (hn : l.length ≤ 524288) : Ev (fun k => spec_frFrom.f k l) (if l.length % 8 = 0 then (packF (l.length / 8) l, true) else ([], false)) := by
  unfold spec_frFrom.f
  by_cases h8 : l.length % 8 = 0
  · rw [if_pos h8]
    obtain ⟨K, hK⟩ := spec_from_l0 l hb hn (l.length / 8) 0 [] (by omega) (by simp; omega)
    refine ⟨K, fun k hk => ?_⟩
    have := hK k hk
    simp only [Nat.mul_zero, List.drop_zero, List.nil_append] at this
    show (if ((l.length : Int) % 8) = 0 then _ else _) = _
    rw [if_pos (by omega)]; exact this
  · rw [if_neg h8]
    refine ⟨0, fun k _ => ?_⟩
    show (if ((l.length : Int) % 8) = 0 then _ else _) = _
    rw [if_neg (by omega)]

theorem impl_from_l0 (l : List Int) (hb : ∀ x ∈ l, 0 ≤ x ∧ x ≤ 1) (hn : l.length ≤ 524288) : ∀ (m i r d : Nat) (acc : List Int) (p : Int), i + m = l.length → m + r = 8 * (d + 1) → r < 8 → i = 8 * acc.length + r → 0 ≤ p ∧ p < 2 ^ r →
    Ev (fun k => impl_fromBits.l0 k (acc ++ p :: List.replicate d 0) l (l.length : Int) (i : Int)) (acc ++ ((l.drop i).take (8 - r)).foldl two p :: packF d ((l.drop i).drop (8 - r)), true) := by
  intro m
  induction m with
  | zero => intro i r d acc p h hm hr; omega
  | succ m ih =>
    intro i r d acc p h hm hr hi hp
    have hlt : i < l.length := by omega
    have hbi := bit_mem hb hlt
    have hp2 := two_lt hp hbi
    have hpw := pow_le (r := r + 1) (by omega)
    have hdiv : wrap64 (Int.tdiv (i : Int) 8) = (acc.length : Int) := by
      rw [Int.tdiv_eq_ediv_of_nonneg (by omega), wrap_id] <;> omega
    have hrd : rd (acc ++ p :: List.replicate d 0) (acc.length : Int) = p := by
      rw [rd_nat _ (by simp)]; simp
    have hset : (acc ++ p :: List.replicate d 0).set acc.length (2 * p + l[i]) = acc ++ (2 * p + l[i]) :: List.replicate d 0 := by
      rw [List.set_append_right _ _ (by omega), Nat.sub_self, List.set_cons_zero]
    have step : ∀ k, impl_fromBits.l0 (k + 1) (acc ++ p :: List.replicate d 0) l (l.length : Int) (i : Int) = impl_fromBits.l0 k (acc ++ (2 * p + l[i]) :: List.replicate d 0) l (l.length : Int) ((i + 1 : Nat) : Int) := by
      intro k
      simp only [impl_fromBits.l0]
      rw [if_pos (by omega), if_pos (by omega), if_pos (by omega), hdiv, if_pos (by omega), if_pos (by simp; omega), hrd, rd_nat l hlt, Int.toNat_natCast, wrap_id (x := 2 * p) (by omega) (by omega), wrap_id (x := 2 * p + l[i]) (by omega) (by omega), hset, wrap_succ hlt (by omega)]
    have et : (l.drop i).take (8 - r) = l[i] :: (l.drop (i + 1)).take (8 - r - 1) := by
      rw [List.drop_eq_getElem_cons hlt, show 8 - r = (8 - r - 1) + 1 from by omega, List.take_succ_cons]; rfl
    have ed : (l.drop i).drop (8 - r) = (l.drop (i + 1)).drop (8 - r - 1) := by
      rw [List.drop_eq_getElem_cons hlt, show 8 - r = (8 - r - 1) + 1 from by omega, List.drop_succ_cons]; rfl
    rw [et, ed, List.foldl_cons]
    by_cases h8 : r + 1 = 8
    · have e0 : 8 - r - 1 = 0 := by omega
      rw [e0, List.take_zero, List.foldl_nil, List.drop_zero]
      cases d with
      | zero =>
        refine Ev.step step ?_
        refine ev_end (fun k => ?_)
        simp only [impl_fromBits.l0]
        rw [if_neg (by omega)]; rfl
      | succ d =>
        have next := ih (i + 1) 0 d (acc ++ [2 * p + l[i]]) 0 (by omega) (by omega) (by omega) (by simp; omega) (by simp)
        rw [List.append_assoc, List.append_assoc] at next
        exact Ev.step step next
    · have next := ih (i + 1) (r + 1) d acc (2 * p + l[i]) (by omega) (by omega) (by omega) (by omega) hp2
      rw [show 8 - (r + 1) = 8 - r - 1 from by omega] at next
      exact Ev.step step next
theorem impl_fromBits_ev {l : List Int} (hb : ∀ x ∈ l, 0 ≤ x ∧ x ≤ 1) (hn : l.length ≤ 524288) : Ev (fun k => impl_fromBits.f k l) (if l.length % 8 = 0 ∧ l.length ≤ 320 then (packF (l.length / 8) l, true) else ([], false)) := by
  by_cases h8 : l.length % 8 = 0
  · by_cases h320 : l.length ≤ 320
    · have hw : wrap64 ((l.length : Int) / 8) = ((l.length / 8 : Nat) : Int) := by rw [wrap_id] <;> omega
      rw [if_pos ⟨h8, h320⟩]
      have loop : Ev (fun k => impl_fromBits.l0 k (List.replicate (l.length / 8) 0) l (l.length : Int) 0) (packF (l.length / 8) l, true) := by
        cases hd : l.length / 8 with
        | zero =>
          refine ev_end (fun k => ?_)
          simp only [impl_fromBits.l0]
          rw [if_neg (by omega)]; rfl
        | succ d =>
          have := impl_from_l0 l hb hn l.length 0 0 d [] 0 (by omega) (by omega) (by omega) (by simp) (by simp)
          simpa [List.replicate_succ, packF] using this
      obtain ⟨K, hK⟩ := loop
      refine ⟨K + 1, fun k hk => ?_⟩
      obtain ⟨k, rfl⟩ : ∃ q, k = q + 1 := ⟨k - 1, by omega⟩
      show impl_fromBits.f (k + 1) l = _
      unfold impl_fromBits.f
      rw [if_pos (by omega), decide_eq_false (by omega)]
      simp only [impl_fromBits.j0, if_neg (show ¬ (false = true) by decide)]
      rw [hw, if_pos (by omega), Int.toNat_natCast, if_pos (by omega)]
      exact hK k (by omega)
    · rw [if_neg (fun h => h320 h.2)]
      refine ⟨1, fun k hk => ?_⟩
      obtain ⟨k, rfl⟩ : ∃ q, k = q + 1 := ⟨k - 1, by omega⟩
      show impl_fromBits.f (k + 1) l = _
      unfold impl_fromBits.f
      rw [if_pos (by omega), decide_eq_true (by omega)]
      simp only [impl_fromBits.j0, if_true]
  · rw [if_neg (fun h => h8 h.1)]
    refine ⟨1, fun k hk => ?_⟩
    obtain ⟨k, rfl⟩ : ∃ q, k = q + 1 := ⟨k - 1, by omega⟩
    show impl_fromBits.f (k + 1) l = _
    unfold impl_fromBits.f
    rw [if_neg (by omega)]
    simp only [impl_fromBits.j0, if_true]

theorem eqIntS_loop (l : List Int) (hn : l.length ≤ 1048576) : ∀ (d i k : Nat), i + d = l.length → d < k → laws_eqIntS.l0 k l l (i : Int) = some true := by
  intro d
  induction d with
  | zero =>
    intro i k h hk
    obtain ⟨k, rfl⟩ : ∃ m, k = m + 1 := ⟨k - 1, by omega⟩
    simp only [laws_eqIntS.l0]
    rw [if_neg (by omega)]
  | succ d ih =>
    intro i k h hk
    obtain ⟨k, rfl⟩ : ∃ m, k = m + 1 := ⟨k - 1, by omega⟩
    simp only [laws_eqIntS.l0]
    rw [if_pos (by omega), if_pos (by omega), if_pos (by omega), if_pos trivial, wrap_succ (n := l.length) (by omega) (by omega)]
    exact ih (i + 1) k (by omega) (by omega)
theorem eqIntS_refl {k : Nat} {l : List Int} (hn : l.length ≤ 1048576) (hk : l.length < k) : laws_eqIntS.f k l l = some true := by
  unfold laws_eqIntS.f
  rw [if_pos rfl]
  exact eqIntS_loop l hn l.length 0 k (by omega) hk

/-- n numbers from m on. -/
def marks (m : Int) (n : Nat) : List Int := (List.range n).map fun (j : Nat) => m + (j : Int)
theorem marks_length (m : Int) (n : Nat) : (marks m n).length = n := by simp [marks]
theorem marks_succ (m : Int) (n : Nat) : marks m (n + 1) = marks m n ++ [m + (n : Int)] := by simp [marks, List.range_succ]
theorem markIntS_loop (l : List Int) (m : Int) (hm : 0 ≤ m) (hm2 : m ≤ 1099511627776) (hn : l.length ≤ 1048576) : ∀ (d i k : Nat), i + d = l.length → d < k →
    laws_markIntS.l0 k (marks m i ++ l.drop i) (m + (i : Int)) (i : Int) = some (m + (l.length : Int), marks m l.length) := by
  intro d
  induction d with
  | zero =>
    intro i k h hk
    obtain ⟨k, rfl⟩ : ∃ m, k = m + 1 := ⟨k - 1, by omega⟩
    obtain rfl : i = l.length := by omega
    simp only [laws_markIntS.l0]
    rw [if_neg (by simp [marks_length])]
    simp
  | succ d ih =>
    intro i k h hk
    obtain ⟨k, rfl⟩ : ∃ m, k = m + 1 := ⟨k - 1, by omega⟩
    have hi : i < l.length := by omega
    have e : (marks m i ++ l.drop i).set i (m + (i : Int)) = marks m (i + 1) ++ l.drop (i + 1) := by
      rw [List.set_append_right _ _ (by simp [marks_length]), marks_length, Nat.sub_self, List.drop_eq_getElem_cons hi, List.set_cons_zero, marks_succ, List.append_assoc]; rfl
    simp only [laws_markIntS.l0]
    rw [if_pos (by simp [marks_length]; omega), if_pos (by omega), Int.toNat_natCast, e, wrap_succ hi (by omega), show wrap64 (m + (i : Int) + 1) = m + ((i + 1 : Nat) : Int) from by rw [wrap_id] <;> omega]
    exact ih (i + 1) k (by omega) (by omega)
theorem markIntS_eq {k : Nat} {l : List Int} {m : Int} (hm : 0 ≤ m) (hm2 : m ≤ 1099511627776) (hn : l.length ≤ 1048576) (hk : l.length < k) : laws_markIntS.f k l m = some (m + (l.length : Int), marks m l.length) := by
  unfold laws_markIntS.f
  have := markIntS_loop l m hm hm2 hn l.length 0 k (by omega) hk
  simpa [marks] using this
theorem heldIntS_loop (n : Nat) (m : Int) (hm : 0 ≤ m) (hm2 : m ≤ 1099511627776) (hn : n ≤ 1048576) : ∀ (d i k : Nat), i + d = n → d < k → laws_heldIntS.l0 k (marks m n) (m + (i : Int)) (i : Int) = some (m + (n : Int)) := by
  intro d
  induction d with
  | zero =>
    intro i k h hk
    obtain ⟨k, rfl⟩ : ∃ m, k = m + 1 := ⟨k - 1, by omega⟩
    obtain rfl : i = n := by omega
    simp only [laws_heldIntS.l0]
    rw [if_neg (by simp [marks_length])]
  | succ d ih =>
    intro i k h hk
    obtain ⟨k, rfl⟩ : ∃ m, k = m + 1 := ⟨k - 1, by omega⟩
    have hi : i < n := by omega
    have e : rd (marks m n) (i : Int) = m + (i : Int) := by rw [rd_nat _ (by simpa [marks_length] using hi)]; simp [marks]
    simp only [laws_heldIntS.l0]
    rw [if_pos (by simp [marks_length]; omega), if_pos (by omega), if_pos e, wrap_succ hi (by omega), show wrap64 (m + (i : Int) + 1) = m + ((i + 1 : Nat) : Int) from by rw [wrap_id] <;> omega]
    exact ih (i + 1) k (by omega) (by omega)
theorem heldIntS_eq {k n : Nat} {m : Int} (hm : 0 ≤ m) (hm2 : m ≤ 1099511627776) (hn : n ≤ 1048576) (hk : n < k) : laws_heldIntS.f k (marks m n) m = some (m + (n : Int)) := by
  unfold laws_heldIntS.f
  simpa using heldIntS_loop n m hm hm2 hn n 0 k (by omega) hk

theorem toIntS_loop (l : List Int) (hn : l.length ≤ 1048576) : ∀ (d i k : Nat), i + d = l.length → d < k → laws_toIntS.l0 k l (l.take i ++ List.replicate d 0) (i : Int) = some l := by
  intro d
  induction d with
  | zero =>
    intro i k h hk
    obtain ⟨k, rfl⟩ : ∃ m, k = m + 1 := ⟨k - 1, by omega⟩
    simp only [laws_toIntS.l0]
    rw [if_neg (by omega)]
    simp [List.take_of_length_le (show l.length ≤ i by omega)]
  | succ d ih =>
    intro i k h hk
    obtain ⟨k, rfl⟩ : ∃ m, k = m + 1 := ⟨k - 1, by omega⟩
    have hi : i < l.length := by omega
    have e : (l.take i ++ List.replicate (d + 1) 0).set i (rd l (i : Int)) = l.take (i + 1) ++ List.replicate d 0 := by
      rw [rd_nat l hi, List.set_append_right _ _ (by simp; omega)]
      simp only [List.length_take, Nat.min_eq_left (Nat.le_of_lt hi), Nat.sub_self, List.replicate_succ, List.set_cons_zero]
      rw [List.take_succ_eq_append_getElem hi, List.append_assoc]; rfl
    simp only [laws_toIntS.l0]
    rw [if_pos (by omega), if_pos (by omega), if_pos (by simp; omega), Int.toNat_natCast, e, wrap_succ hi (by omega)]
    exact ih (i + 1) k (by omega) (by omega)
theorem toIntS_eq {k : Nat} {l : List Int} (hn : l.length ≤ 1048576) (hk : l.length < k) : laws_toIntS.f k l = some l := by
  unfold laws_toIntS.f
  rw [if_pos (by omega), if_pos (by omega), Int.toNat_natCast]
  have := toIntS_loop l hn l.length 0 k (by omega) hk
  simpa using this

theorem both (l : List Int) (hn : l.length ≤ 1048576) : ∃ v : List Int × Bool, Ev (fun k => spec_FromBits.f k l) v ∧ Ev (fun k => impl_FromBits.f k l) v ∧ v.1.length ≤ 400 := by
  cases hb : bitsB l with
  | false =>
    refine ⟨([], false), ⟨l.length + 1, fun k hk => ?_⟩, ⟨0, fun k hk => ?_⟩, by simp⟩
    · show spec_FromBits.f k l = _
      unfold spec_FromBits.f; rw [spec_frAre_eq (k := k) hn (by omega), hb]; rfl
    · show impl_FromBits.f k l = _
      unfold impl_FromBits.f; rw [impl_areBits_eq, hb]; rfl
  | true =>
    have hl := bitsB_len hb
    obtain ⟨K1, h1⟩ := spec_frFrom_ev (bitsB_mem hb) (by omega)
    obtain ⟨K2, h2⟩ := impl_fromBits_ev (bitsB_mem hb) (by omega)
    simp only at h1 h2
    refine ⟨if l.length % 8 = 0 ∧ l.length ≤ 320 then (packF (l.length / 8) l, true) else ([], false), ⟨K1 + l.length + 1, fun k hk => ?_⟩, ⟨K2, fun k hk => ?_⟩, ?_⟩
    · show spec_FromBits.f k l = _
      unfold spec_FromBits.f
      rw [spec_frAre_eq (k := k) hn (by omega), hb, Option.bind_some, if_pos rfl]
      by_cases h320 : l.length ≤ 320
      · rw [if_neg (by omega), h1 k (by omega), Option.bind_some]
        by_cases h8 : l.length % 8 = 0
        · rw [if_pos h8, if_pos ⟨h8, h320⟩]
        · rw [if_neg h8, if_neg (fun h => h8 h.1)]
      · rw [if_pos (by omega), if_neg (fun h => h320 h.2)]
    · show impl_FromBits.f k l = _
      unfold impl_FromBits.f
      rw [impl_areBits_eq, hb, Option.bind_some, if_pos rfl, h2 k (by omega)]; rfl
    · split
      · rw [packF_len]; omega
      · simp
theorem FnExactFromBits : FnExactFromBitsPure := by
  intro l hm _
  by_cases hl : (l.length : Int) > 1048576
  · exact ⟨0, by unfold laws_FnExactFromBits.f; rw [if_pos hl]⟩
  · have hn : l.length ≤ 1048576 := by omega
    obtain ⟨v, ⟨K1, h1⟩, ⟨K2, h2⟩, hv⟩ := both l hn
    have n2 : ¬ (1 + (v.1.length : Int) < 0) := by omega
    have n3 : ¬ (1 + (l.length : Int) < 0) := by omega
    have hv2 : v.1.length ≤ 1048576 := by omega
    refine ⟨K1 + K2 + l.length + v.1.length + 10, ?_⟩
    unfold laws_FnExactFromBits.f
    simp (disch := omega) only [Option.bind_some, ↓reduceIte, bne_self_eq_false, Bool.false_eq_true, h1, h2, hl, n2, n3, toIntS_eq hn, eqIntS_refl hv2, eqIntS_refl hn, markIntS_eq, heldIntS_eq]
    rw [laws_FnExactFromBits.j0]
    simp (disch := omega) only [Option.bind_some, ↓reduceIte, bne_self_eq_false, Bool.false_eq_true, h1, h2, hl, n2, n3, toIntS_eq hn, eqIntS_refl hv2, eqIntS_refl hn, markIntS_eq, heldIntS_eq]
    rw [laws_FnExactFromBits.j1]
    simp (disch := omega) only [Option.bind_some, ↓reduceIte, bne_self_eq_false, Bool.false_eq_true, h1, h2, hl, n2, n3, toIntS_eq hn, eqIntS_refl hv2, eqIntS_refl hn, markIntS_eq, heldIntS_eq]
    rw [laws_FnExactFromBits.j2]
    simp (disch := omega) only [Option.bind_some, ↓reduceIte, bne_self_eq_false, Bool.false_eq_true, h1, h2, hl, n2, n3, toIntS_eq hn, eqIntS_refl hv2, eqIntS_refl hn, markIntS_eq, heldIntS_eq]

end Go.Proofs.Ytggempkfkjjlaaa.Pure
