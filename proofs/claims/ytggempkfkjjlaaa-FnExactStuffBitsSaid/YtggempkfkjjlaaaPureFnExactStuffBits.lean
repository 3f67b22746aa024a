/- FnExactStuffBits: the program's answer is the reference's, as plain functions over numbers and lists; no condition beyond the sizes that every value has. -/
import Derived.Test.YtggempkfkjjlaaaPFnExactStuffBitsx3
namespace Go.Proofs.Ytggempkfkjjlaaa.Pure
open Go.RowKit Go.Proofs.Ytggempkfkjjlaaa.PFnExactStuffBits Go.Proofs.YtggempkfkjjlaaaW.PrintWords Go.Proofs.YtggempkfkjjlaaaW.PrintLast Go.Proofs.YtggempkfkjjlaaaW.PrintMore

/- It reaches: laws_toIntS.f, laws_eqIntS.f, laws_markIntS.f, laws_heldIntS.f, spec_l1In.f, spec_l1All.f, spec_frAre.f, spec_frStuff.f, spec_StuffBits.f, impl_allWithin.f, impl_areBits.f, impl_stuffed.f, impl_StuffBits.f, laws_FnExactStuffBits.f -/
def FnExactStuffBitsPure : Prop := ∀ (l0 : List Int), l0.length ≤ maxLen → (∀ x ∈ l0, (Lit.int .i64 x).wf = true) → ∃ k, laws_FnExactStuffBits.f k l0 = some true
set_option linter.unusedSimpArgs false
set_option linter.unusedVariables false
theorem wrap_id {x : Int} (h1 : -9223372036854775808 ≤ x) (h2 : x ≤ 9223372036854775807) : wrap64 x = x := by unfold wrap64; omega
theorem wrap_succ {i n : Nat} (h : i < n) (hn : n ≤ 4611686018427387904) : wrap64 ((i : Int) + 1) = ((i + 1 : Nat) : Int) := by rw [wrap_id] <;> omega
theorem rd_nat (l : List Int) {i : Nat} (h : i < l.length) : rd l (i : Int) = l[i] := by simp [rd, h]
theorem rd_mem (l : List Int) {i : Nat} (h : i < l.length) : rd l (i : Int) ∈ l := by rw [rd_nat l h]; exact List.getElem_mem h
/-- One round, and the end. -/
theorem ev_end {α : Type} {g : Nat → Option α} {r : α} (h : ∀ k, g (k + 1) = some r) : Ev g r := Ev.step h (Ev.now r)
theorem ev_of {α : Type} {g : Nat → Option α} {r : α} (h : ∀ k, g k = some r) : Ev g r := ⟨0, fun k _ => h k⟩
theorem ev_eq {α : Type} {g : Nat → Option α} {r r' : α} (h : Ev g r) (e : r = r') : Ev g r' := e ▸ h

theorem spec_l1In_eq (a b c : Int) : spec_l1In.f a b c = some (decide (b ≤ a ∧ a ≤ c)) := by
  unfold spec_l1In.f
  by_cases h : b ≤ a <;> simp [h]

theorem l1All_loop (lo hi : Int) (l : List Int) (hn : l.length ≤ 1048576) : ∀ (d i k : Nat), i + d = l.length → d < k → spec_l1All.l0 k lo hi l (l.length : Int) (i : Int) = some ((l.drop i).all fun x => decide (lo ≤ x ∧ x ≤ hi)) := by
  intro d
  induction d with
  | zero =>
    intro i k h hk
    obtain ⟨k, rfl⟩ : ∃ m, k = m + 1 := ⟨k - 1, by omega⟩
    simp only [spec_l1All.l0]
    rw [if_neg (by omega), List.drop_of_length_le (by omega)]
    rfl
  | succ d ih =>
    intro i k h hk
    obtain ⟨k, rfl⟩ : ∃ m, k = m + 1 := ⟨k - 1, by omega⟩
    have hlt : i < l.length := by omega
    simp only [spec_l1All.l0, spec_l1In_eq, Option.bind_some]
    rw [if_pos (by omega), if_pos (by omega), if_pos (by omega), rd_nat l hlt, wrap_succ hlt (by omega), ih (i + 1) k (by omega) (by omega), List.drop_eq_getElem_cons hlt, List.all_cons]
    by_cases c : lo ≤ l[i] ∧ l[i] ≤ hi <;> simp [c]
theorem spec_l1All_eq {k : Nat} {l : List Int} {lo hi : Int} (hn : l.length ≤ 1048576) (hk : l.length < k) : spec_l1All.f k l lo hi = some (l.all fun x => decide (lo ≤ x ∧ x ≤ hi)) := by
  unfold spec_l1All.f
  simpa using l1All_loop lo hi l hn l.length 0 k (by omega) hk

/-- What both call bits. -/
def bitsB (l : List Int) : Bool := decide (l.length ≤ 400) && l.all fun x => decide (0 ≤ x ∧ x ≤ 1)
theorem spec_frAre_eq {k : Nat} {l : List Int} (hn : l.length ≤ 1048576) (hk : l.length < k) : spec_frAre.f k l = some (bitsB l) := by
  unfold spec_frAre.f bitsB
  rw [spec_l1All_eq hn hk]
  by_cases h : (l.length : Int) ≤ 400
  · simp [show l.length ≤ 400 by omega, h]
  · simp [show ¬ l.length ≤ 400 by omega, h]
theorem impl_areBits_eq (l : List Int) : impl_areBits.f l = some (bitsB l) := by
  unfold impl_areBits.f impl_allWithin.f bitsB
  by_cases h : (l.length : Int) ≤ 400
  · simp [show l.length ≤ 400 by omega, h]
  · simp [show ¬ l.length ≤ 400 by omega, h]
theorem bitsB_len {l : List Int} (h : bitsB l = true) : l.length ≤ 400 := by simp [bitsB] at h; exact h.1
theorem bitsB_mem {l : List Int} (h : bitsB l = true) : ∀ x ∈ l, 0 ≤ x ∧ x ≤ 1 := by simp [bitsB] at h; exact h.2

/-- Stuffed bits, o ones being behind. -/
def stuffF : Nat → List Int → List Int
  | _, [] => []
  | o, x :: t => if x = 0 then x :: stuffF 0 t else if o + 1 = 5 then x :: 0 :: stuffF 0 t else x :: stuffF (o + 1) t
theorem stuffF_len : ∀ (l : List Int) (o : Nat), (stuffF o l).length ≤ 2 * l.length
  | [], _ => by simp [stuffF]
  | x :: t, o => by
    have h0 := stuffF_len t 0
    have h1 := stuffF_len t (o + 1)
    unfold stuffF
    split
    · simp only [List.length_cons]; omega
    · split <;> simp only [List.length_cons] <;> omega
theorem bit_at {l : List Int} (hb : ∀ x ∈ l, 0 ≤ x ∧ x ≤ 1) {i : Nat} (hi : i < l.length) : l[i] = 0 ∨ l[i] = 1 := by
  have := hb l[i] (List.getElem_mem hi); omega

theorem spec_frStuff_l0 (l : List Int) (hb : ∀ x ∈ l, 0 ≤ x ∧ x ≤ 1) (hn : l.length ≤ 1048576) : ∀ (d i o : Nat) (acc : List Int), i + d = l.length → o ≤ 4 → acc.length + 2 * d ≤ 1099511627776 → Ev (fun k => spec_frStuff.l0 k acc (o : Int) l (l.length : Int) (i : Int)) (acc ++ stuffF o (l.drop i)) := by
  intro d
  induction d with
  | zero =>
    intro i o acc h _ _
    refine ev_end (fun k => ?_)
    simp only [spec_frStuff.l0]
    rw [if_neg (by omega), List.drop_of_length_le (by omega), stuffF, List.append_nil]
  | succ d ih =>
    intro i o acc h ho ha
    have hi : i < l.length := by omega
    rw [List.drop_eq_getElem_cons hi, stuffF]
    rcases bit_at hb hi with e | e
    · rw [if_pos e, show acc ++ l[i] :: stuffF 0 (l.drop (i + 1)) = (acc ++ [l[i]]) ++ stuffF 0 (l.drop (i + 1)) from by rw [List.append_assoc]; rfl]
      refine Ev.step (fun k => ?_) (ih (i + 1) 0 (acc ++ [l[i]]) (by omega) (by omega) (by simp; omega))
      simp only [spec_frStuff.l0]
      rw [if_pos (by omega), if_pos (by omega), if_pos (by omega), if_pos (by omega), Option.bind_some, rd_nat l hi, e, wrap_id (x := (o : Int) + 1) (by omega) (by omega), wrap_id (by omega) (by omega), if_neg (by omega), wrap_succ hi (by omega)]; rfl
    · rw [if_neg (by omega)]
      by_cases h5 : o + 1 = 5
      · rw [if_pos h5, show acc ++ l[i] :: 0 :: stuffF 0 (l.drop (i + 1)) = ((acc ++ [l[i]]) ++ [0]) ++ stuffF 0 (l.drop (i + 1)) from by rw [List.append_assoc, List.append_assoc]; rfl]
        refine Ev.step (fun k => ?_) (ih (i + 1) 0 ((acc ++ [l[i]]) ++ [0]) (by omega) (by omega) (by simp; omega))
        simp only [spec_frStuff.l0]
        rw [if_pos (by omega), if_pos (by omega), if_pos (by omega), if_pos (by omega), Option.bind_some, rd_nat l hi, e, wrap_id (x := (o : Int) + 1) (by omega) (by omega), wrap_id (by omega) (by omega), if_pos (by omega), if_pos (by simp; omega), wrap_succ hi (by omega)]; rfl
      · rw [if_neg h5, show acc ++ l[i] :: stuffF (o + 1) (l.drop (i + 1)) = (acc ++ [l[i]]) ++ stuffF (o + 1) (l.drop (i + 1)) from by rw [List.append_assoc]; rfl]
        refine Ev.step (fun k => ?_) (ih (i + 1) (o + 1) (acc ++ [l[i]]) (by omega) (by omega) (by simp; omega))
        simp only [spec_frStuff.l0]
        rw [if_pos (by omega), if_pos (by omega), if_pos (by omega), if_pos (by omega), Option.bind_some, rd_nat l hi, e, wrap_id (x := (o : Int) + 1) (by omega) (by omega), wrap_id (by omega) (by omega), if_neg (by omega), wrap_succ hi (by omega), show ((o : Int) + 1) * 1 = ((o + 1 : Nat) : Int) from by omega]
theorem spec_frStuff_ev {l : List Int} (hb : ∀ x ∈ l, 0 ≤ x ∧ x ≤ 1) (hn : l.length ≤ 1048576) : Ev (fun k => spec_frStuff.f k l) (stuffF 0 l) := by
  unfold spec_frStuff.f
  simpa using spec_frStuff_l0 l hb hn l.length 0 0 [] (by omega) (by omega) (by simp; omega)

theorem impl_stuffed_l0 (l : List Int) (hb : ∀ x ∈ l, 0 ≤ x ∧ x ≤ 1) (hn : l.length ≤ 1048576) : ∀ (d i o : Nat) (acc : List Int), i + d = l.length → o ≤ 4 → acc.length + 2 * d ≤ 1099511627776 → Ev (fun k => impl_stuffed.l0 k acc (o : Int) l (l.length : Int) (i : Int)) (acc ++ stuffF o (l.drop i)) := by
  intro d
  induction d with
  | zero =>
    intro i o acc h _ _
    refine ev_end (fun k => ?_)
    simp only [impl_stuffed.l0]
    rw [if_neg (by omega), List.drop_of_length_le (by omega), stuffF, List.append_nil]
  | succ d ih =>
    intro i o acc h ho ha
    have hi : i < l.length := by omega
    rw [List.drop_eq_getElem_cons hi, stuffF]
    rcases bit_at hb hi with e | e
    · rw [if_pos e, show acc ++ l[i] :: stuffF 0 (l.drop (i + 1)) = (acc ++ [l[i]]) ++ stuffF 0 (l.drop (i + 1)) from by rw [List.append_assoc]; rfl]
      refine Ev.step (fun k => ?_) (ih (i + 1) 0 (acc ++ [l[i]]) (by omega) (by omega) (by simp; omega))
      simp only [impl_stuffed.l0]
      rw [if_pos (by omega), if_pos (by omega), if_pos (by omega), if_pos (by omega), Option.bind_some, rd_nat l hi, if_pos e, wrap_succ hi (by omega)]; rfl
    · rw [if_neg (by omega)]
      by_cases h5 : o + 1 = 5
      · rw [if_pos h5, show acc ++ l[i] :: 0 :: stuffF 0 (l.drop (i + 1)) = ((acc ++ [l[i]]) ++ [0]) ++ stuffF 0 (l.drop (i + 1)) from by rw [List.append_assoc, List.append_assoc]; rfl]
        refine Ev.step (fun k => ?_) (ih (i + 1) 0 ((acc ++ [l[i]]) ++ [0]) (by omega) (by omega) (by simp; omega))
        simp only [impl_stuffed.l0]
        rw [if_pos (by omega), if_pos (by omega), if_pos (by omega), if_pos (by omega), Option.bind_some, rd_nat l hi, if_neg (by omega), wrap_id (x := (o : Int) + 1) (by omega) (by omega), if_pos (by omega), if_pos (by simp; omega), wrap_succ hi (by omega)]; rfl
      · rw [if_neg h5, show acc ++ l[i] :: stuffF (o + 1) (l.drop (i + 1)) = (acc ++ [l[i]]) ++ stuffF (o + 1) (l.drop (i + 1)) from by rw [List.append_assoc]; rfl]
        refine Ev.step (fun k => ?_) (ih (i + 1) (o + 1) (acc ++ [l[i]]) (by omega) (by omega) (by simp; omega))
        simp only [impl_stuffed.l0]
        rw [if_pos (by omega), if_pos (by omega), if_pos (by omega), if_pos (by omega), Option.bind_some, rd_nat l hi, if_neg (by omega), wrap_id (x := (o : Int) + 1) (by omega) (by omega), if_neg (by omega), wrap_succ hi (by omega), show (o : Int) + 1 = ((o + 1 : Nat) : Int) from by omega]
theorem impl_stuffed_ev {l : List Int} (hb : ∀ x ∈ l, 0 ≤ x ∧ x ≤ 1) (hn : l.length ≤ 1048576) : Ev (fun k => impl_stuffed.f k l) (stuffF 0 l) := by
  unfold impl_stuffed.f
  simpa using impl_stuffed_l0 l hb hn l.length 0 0 [] (by omega) (by omega) (by simp; omega)

theorem eqIntS_loop (l : List Int) (hn : l.length ≤ 1048576) : ∀ (d i k : Nat), i + d = l.length → d < k → laws_eqIntS.l0 k l l (i : Int) = some true := by
  intro d
  induction d with
  | zero =>
    intro i k h hk
    obtain ⟨k, rfl⟩ : ∃ m, k = m + 1 := ⟨k - 1, by omega⟩
    simp only [laws_eqIntS.l0]
    rw [if_neg (by omega)]
  | succ d ih =>
    intro i k h hk
    obtain ⟨k, rfl⟩ : ∃ m, k = m + 1 := ⟨k - 1, by omega⟩
    simp only [laws_eqIntS.l0]
    rw [if_pos (by omega), if_pos (by omega), if_pos (by omega), if_pos trivial, wrap_succ (n := l.length) (by omega) (by omega)]
    exact ih (i + 1) k (by omega) (by omega)
theorem eqIntS_refl {k : Nat} {l : List Int} (hn : l.length ≤ 1048576) (hk : l.length < k) : laws_eqIntS.f k l l = some true := by
  unfold laws_eqIntS.f
  rw [if_pos rfl]
  exact eqIntS_loop l hn l.length 0 k (by omega) hk

/-- n numbers from m on. -/
def marks (m : Int) (n : Nat) : List Int := (List.range n).map fun (j : Nat) => m + (j : Int)
theorem marks_length (m : Int) (n : Nat) : (marks m n).length = n := by simp [marks]
theorem marks_succ (m : Int) (n : Nat) : marks m (n + 1) = marks m n ++ [m + (n : Int)] := by simp [marks, List.range_succ]
theorem markIntS_loop (l : List Int) (m : Int) (hm : 0 ≤ m) (hm2 : m ≤ 1099511627776) (hn : l.length ≤ 1048576) : ∀ (d i k : Nat), i + d = l.length → d < k →
    laws_markIntS.l0 k (marks m i ++ l.drop i) (m + (i : Int)) (i : Int) = some (m + (l.length : Int), marks m l.length) := by
  intro d
  induction d with
  | zero =>
    intro i k h hk
    obtain ⟨k, rfl⟩ : ∃ m, k = m + 1 := ⟨k - 1, by omega⟩
    obtain rfl : i = l.length := by omega
    simp only [laws_markIntS.l0]
    rw [if_neg (by simp [marks_length])]
    simp
  | succ d ih =>
    intro i k h hk
    obtain ⟨k, rfl⟩ : ∃ m, k = m + 1 := ⟨k - 1, by omega⟩
    have hi : i < l.length := by omega
    have e : (marks m i ++ l.drop i).set i (m + (i : Int)) = marks m (i + 1) ++ l.drop (i + 1) := by
      rw [List.set_append_right _ _ (by simp [marks_length]), marks_length, Nat.sub_self, List.drop_eq_getElem_cons hi, List.set_cons_zero, marks_succ, List.append_assoc]; rfl
    simp only [laws_markIntS.l0]
    rw [if_pos (by simp [marks_length]; omega), if_pos (by omega), Int.toNat_natCast, e, wrap_succ hi (by omega), show wrap64 (m + (i : Int) + 1) = m + ((i + 1 : Nat) : Int) from by rw [wrap_id] <;> omega]
    exact ih (i + 1) k (by omega) (by omega)
theorem markIntS_eq {k : Nat} {l : List Int} {m : Int} (hm : 0 ≤ m) (hm2 : m ≤ 1099511627776) (hn : l.length ≤ 1048576) (hk : l.length < k) : laws_markIntS.f k l m = some (m + (l.length : Int), marks m l.length) := by
  unfold laws_markIntS.f
  have := markIntS_loop l m hm hm2 hn l.length 0 k (by omega) hk
  simpa [marks] using this
theorem heldIntS_loop (n : Nat) (m : Int) (hm : 0 ≤ m) (hm2 : m ≤ 1099511627776) (hn : n ≤ 1048576) : ∀ (d i k : Nat), i + d = n → d < k → laws_heldIntS.l0 k (marks m n) (m + (i : Int)) (i : Int) = some (m + (n : Int)) := by
  intro d
  induction d with
  | zero =>
    intro i k h hk
    obtain ⟨k, rfl⟩ : ∃ m, k = m + 1 := ⟨k - 1, by omega⟩
    obtain rfl : i = n := by omega
    simp only [laws_heldIntS.l0]
    rw [if_neg (by simp [marks_length])]
  | succ d ih =>
    intro i k h hk
    obtain ⟨k, rfl⟩ : ∃ m, k = m + 1 := ⟨k - 1, by omega⟩
    have hi : i < n := by omega
    have e : rd (marks m n) (i : Int) = m + (i : Int) := by rw [rd_nat _ (by simpa [marks_length] using hi)]; simp [marks]
    simp only [laws_heldIntS.l0]
    rw [if_pos (by simp [marks_length]; omega), if_pos (by omega), if_pos e, wrap_succ hi (by omega), show wrap64 (m + (i : Int) + 1) = m + ((i + 1 : Nat) : Int) from by rw [wrap_id] <;> omega]
    exact ih (i + 1) k (by omega) (by omega)
theorem heldIntS_eq {k n : Nat} {m : Int} (hm : 0 ≤ m) (hm2 : m ≤ 1099511627776) (hn : n ≤ 1048576) (hk : n < k) : laws_heldIntS.f k (marks m n) m = some (m + (n : Int)) := by
  unfold laws_heldIntS.f
  simpa using heldIntS_loop n m hm hm2 hn n 0 k (by omega) hk

theorem toIntS_loop (l : List Int) (hn : l.length ≤ 1048576) : ∀ (d i k : Nat), i + d = l.length → d < k → laws_toIntS.l0 k l (l.take i ++ List.replicate d 0) (i : Int) = some l := by
  intro d
  induction d with
  | zero =>
    intro i k h hk
    obtain ⟨k, rfl⟩ : ∃ m, k = m + 1 := ⟨k - 1, by omega⟩
    simp only [laws_toIntS.l0]
    rw [if_neg (by omega)]
    simp [List.take_of_length_le (show l.length ≤ i by omega)]
  | succ d ih =>
    intro i k h hk
    obtain ⟨k, rfl⟩ : ∃ m, k = m + 1 := ⟨k - 1, by omega⟩
    have hi : i < l.length := by omega
    have e : (l.take i ++ List.replicate (d + 1) 0).set i (rd l (i : Int)) = l.take (i + 1) ++ List.replicate d 0 := by
      rw [rd_nat l hi, List.set_append_right _ _ (by simp; omega)]
      simp only [List.length_take, Nat.min_eq_left (Nat.le_of_lt hi), Nat.sub_self, List.replicate_succ, List.set_cons_zero]
      rw [List.take_succ_eq_append_getElem hi, List.append_assoc]; rfl
    simp only [laws_toIntS.l0]
    rw [if_pos (by omega), if_pos (by omega), if_pos (by simp; omega), Int.toNat_natCast, e, wrap_succ hi (by omega)]
    exact ih (i + 1) k (by omega) (by omega)
theorem toIntS_eq {k : Nat} {l : List Int} (hn : l.length ≤ 1048576) (hk : l.length < k) : laws_toIntS.f k l = some l := by
  unfold laws_toIntS.f
  rw [if_pos (by omega), if_pos (by omega), Int.toNat_natCast]
  have := toIntS_loop l hn l.length 0 k (by omega) hk
  simpa using this

theorem both (l : List Int) (hn : l.length ≤ 1048576) : ∃ v : List Int × Bool, Ev (fun k => spec_StuffBits.f k l) v ∧ Ev (fun k => impl_StuffBits.f k l) v ∧ v.1.length ≤ 400 := by
  cases hb : bitsB l with
  | false =>
    refine ⟨([], false), ⟨l.length + 1, fun k hk => ?_⟩, ⟨0, fun k hk => ?_⟩, by simp⟩
    · show spec_StuffBits.f k l = _
      unfold spec_StuffBits.f; rw [spec_frAre_eq (k := k) hn (by omega), hb]; rfl
    · show impl_StuffBits.f k l = _
      unfold impl_StuffBits.f; rw [impl_areBits_eq, hb]; rfl
  | true =>
    obtain ⟨K1, h1⟩ := spec_frStuff_ev (bitsB_mem hb) hn
    obtain ⟨K2, h2⟩ := impl_stuffed_ev (bitsB_mem hb) hn
    simp only at h1 h2
    by_cases hs : (stuffF 0 l).length ≤ 400
    · refine ⟨(stuffF 0 l, true), ⟨K1 + l.length + 1, fun k hk => ?_⟩, ⟨K2, fun k hk => ?_⟩, hs⟩
      · show spec_StuffBits.f k l = _
        unfold spec_StuffBits.f
        rw [spec_frAre_eq (k := k) hn (by omega), hb, Option.bind_some, if_pos rfl, h1 k (by omega), Option.bind_some, if_neg (by omega)]
      · show impl_StuffBits.f k l = _
        unfold impl_StuffBits.f
        rw [impl_areBits_eq, hb, Option.bind_some, if_pos rfl, h2 k (by omega), Option.bind_some, if_neg (by omega)]
    · refine ⟨([], false), ⟨K1 + l.length + 1, fun k hk => ?_⟩, ⟨K2, fun k hk => ?_⟩, by simp⟩
      · show spec_StuffBits.f k l = _
        unfold spec_StuffBits.f
        rw [spec_frAre_eq (k := k) hn (by omega), hb, Option.bind_some, if_pos rfl, h1 k (by omega), Option.bind_some, if_pos (by omega)]
      · show impl_StuffBits.f k l = _
        unfold impl_StuffBits.f
        rw [impl_areBits_eq, hb, Option.bind_some, if_pos rfl, h2 k (by omega), Option.bind_some, if_pos (by omega)]
theorem FnExactStuffBits : FnExactStuffBitsPure := by
  intro l hm _
  by_cases hl : (l.length : Int) > 1048576
  · exact ⟨0, by unfold laws_FnExactStuffBits.f; rw [if_pos hl]⟩
  · have hn : l.length ≤ 1048576 := by omega
    obtain ⟨v, ⟨K1, h1⟩, ⟨K2, h2⟩, hv⟩ := both l hn
    have n2 : ¬ (1 + (v.1.length : Int) < 0) := by omega
    have n3 : ¬ (1 + (l.length : Int) < 0) := by omega
    have hv2 : v.1.length ≤ 1048576 := by omega
    refine ⟨K1 + K2 + l.length + v.1.length + 10, ?_⟩
    unfold laws_FnExactStuffBits.f
    simp (disch := omega) only [Option.bind_some, ↓reduceIte, bne_self_eq_false, Bool.false_eq_true, h1, h2, hl, n2, n3, toIntS_eq hn, eqIntS_refl hv2, eqIntS_refl hn, markIntS_eq, heldIntS_eq]
    rw [laws_FnExactStuffBits.j0]
    simp (disch := omega) only [Option.bind_some, ↓reduceIte, bne_self_eq_false, Bool.false_eq_true, h1, h2, hl, n2, n3, toIntS_eq hn, eqIntS_refl hv2, eqIntS_refl hn, markIntS_eq, heldIntS_eq]
    rw [laws_FnExactStuffBits.j1]
    simp (disch := omega) only [Option.bind_some, ↓reduceIte, bne_self_eq_false, Bool.false_eq_true, h1, h2, hl, n2, n3, toIntS_eq hn, eqIntS_refl hv2, eqIntS_refl hn, markIntS_eq, heldIntS_eq]
    rw [laws_FnExactStuffBits.j2]
    simp (disch := omega) only [Option.bind_some, ↓reduceIte, bne_self_eq_false, Bool.false_eq_true, h1, h2, hl, n2, n3, toIntS_eq hn, eqIntS_refl hv2, eqIntS_refl hn, markIntS_eq, heldIntS_eq]

end Go.Proofs.Ytggempkfkjjlaaa.Pure
