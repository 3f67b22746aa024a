/- FnExactUnstuffBits: the program's answer is the reference's, as plain functions over numbers and lists; no condition beyond the sizes that every value has. -/
import Derived.Test.YtggempkfkjjlaaaPFnExactUnstuffBitsx3
namespace Go.Proofs.Ytggempkfkjjlaaa.Pure
open Go.RowKit Go.Proofs.Ytggempkfkjjlaaa.PFnExactUnstuffBits Go.Proofs.YtggempkfkjjlaaaW.PrintWords Go.Proofs.YtggempkfkjjlaaaW.PrintLast Go.Proofs.YtggempkfkjjlaaaW.PrintMore

/- It reaches: laws_toIntS.f, laws_eqIntS.f, laws_markIntS.f, laws_heldIntS.f, spec_l1In.f, spec_l1All.f, spec_frAre.f, spec_frPlain.f, spec_UnstuffBits.f, impl_allWithin.f, impl_areBits.f, impl_stuffed.f, slices_Equal_int_int.f, impl_unstuffed.f, impl_UnstuffBits.f, laws_FnExactUnstuffBits.f -/
def FnExactUnstuffBitsPure : Prop := ∀ (l0 : List Int), l0.length ≤ maxLen → (∀ x ∈ l0, (Lit.int .i64 x).wf = true) → ∃ k, laws_FnExactUnstuffBits.f k l0 = some true
set_option linter.unusedSimpArgs false
set_option linter.unusedVariables false
theorem wrap_id {x : Int} (h1 : -9223372036854775808 ≤ x) (h2 : x ≤ 9223372036854775807) : wrap64 x = x := by unfold wrap64; omega
theorem wrap_succ {i n : Nat} (h : i < n) (hn : n ≤ 4611686018427387904) : wrap64 ((i : Int) + 1) = ((i + 1 : Nat) : Int) := by rw [wrap_id] <;> omega
theorem rd_nat (l : List Int) {i : Nat} (h : i < l.length) : rd l (i : Int) = l[i] := by simp [rd, h]
theorem rd_mem (l : List Int) {i : Nat} (h : i < l.length) : rd l (i : Int) ∈ l := by rw [rd_nat l h]; exact List.getElem_mem h
/-- One round, and the end. -/
theorem ev_end {α : Type} {g : Nat → Option α} {r : α} (h : ∀ k, g (k + 1) = some r) : Ev g r := Ev.step h (Ev.now r)
theorem ev_of {α : Type} {g : Nat → Option α} {r : α} (h : ∀ k, g k = some r) : Ev g r := ⟨0, fun k _ => h k⟩
theorem ev_eq {α : Type} {g : Nat → Option α} {r r' : α} (h : Ev g r) (e : r = r') : Ev g r' := e ▸ h

theorem spec_l1In_eq (a b c : Int) : spec_l1In.f a b c = some (decide (b ≤ a ∧ a ≤ c)) := by
  unfold spec_l1In.f
  by_cases h : b ≤ a <;> simp [h]

theorem l1All_loop (lo hi : Int) (l : List Int) (hn : l.length ≤ 1048576) : ∀ (d i k : Nat), i + d = l.length → d < k → spec_l1All.l0 k lo hi l (l.length : Int) (i : Int) = some ((l.drop i).all fun x => decide (lo ≤ x ∧ x ≤ hi)) := by
  intro d
  induction d with
  | zero =>
    intro i k h hk
    obtain ⟨k, rfl⟩ : ∃ m, k = m + 1 := ⟨k - 1, by omega⟩
    simp only [spec_l1All.l0]
    rw [if_neg (by omega), List.drop_of_length_le (by omega)]
    rfl
  | succ d ih =>
    intro i k h hk
    obtain ⟨k, rfl⟩ : ∃ m, k = m + 1 := ⟨k - 1, by omega⟩
    have hlt : i < l.length := by omega
    simp only [spec_l1All.l0, spec_l1In_eq, Option.bind_some]
    rw [if_pos (by omega), if_pos (by omega), if_pos (by omega), rd_nat l hlt, wrap_succ hlt (by omega), ih (i + 1) k (by omega) (by omega), List.drop_eq_getElem_cons hlt, List.all_cons]
    by_cases c : lo ≤ l[i] ∧ l[i] ≤ hi <;> simp [c]
theorem spec_l1All_eq {k : Nat} {l : List Int} {lo hi : Int} (hn : l.length ≤ 1048576) (hk : l.length < k) : spec_l1All.f k l lo hi = some (l.all fun x => decide (lo ≤ x ∧ x ≤ hi)) := by
  unfold spec_l1All.f
  simpa using l1All_loop lo hi l hn l.length 0 k (by omega) hk

/-- What both call bits. -/
def bitsB (l : List Int) : Bool := decide (l.length ≤ 400) && l.all fun x => decide (0 ≤ x ∧ x ≤ 1)
theorem spec_frAre_eq {k : Nat} {l : List Int} (hn : l.length ≤ 1048576) (hk : l.length < k) : spec_frAre.f k l = some (bitsB l) := by
  unfold spec_frAre.f bitsB
  rw [spec_l1All_eq hn hk]
  by_cases h : (l.length : Int) ≤ 400
  · simp [show l.length ≤ 400 by omega, h]
  · simp [show ¬ l.length ≤ 400 by omega, h]
theorem impl_areBits_eq (l : List Int) : impl_areBits.f l = some (bitsB l) := by
  unfold impl_areBits.f impl_allWithin.f bitsB
  by_cases h : (l.length : Int) ≤ 400
  · simp [show l.length ≤ 400 by omega, h]
  · simp [show ¬ l.length ≤ 400 by omega, h]
theorem bitsB_len {l : List Int} (h : bitsB l = true) : l.length ≤ 400 := by simp [bitsB] at h; exact h.1
theorem bitsB_mem {l : List Int} (h : bitsB l = true) : ∀ x ∈ l, 0 ≤ x ∧ x ≤ 1 := by simp [bitsB] at h; exact h.2

/-- Stuffed bits, o ones being behind. -/
def stuffF : Nat → List Int → List Int
  | _, [] => []
  | o, x :: t => if x = 0 then x :: stuffF 0 t else if o + 1 = 5 then x :: 0 :: stuffF 0 t else x :: stuffF (o + 1) t
theorem stuffF_len : ∀ (l : List Int) (o : Nat), (stuffF o l).length ≤ 2 * l.length
  | [], _ => by simp [stuffF]
  | x :: t, o => by
    have h0 := stuffF_len t 0
    have h1 := stuffF_len t (o + 1)
    unfold stuffF
    split
    · simp only [List.length_cons]; omega
    · split <;> simp only [List.length_cons] <;> omega
theorem bit_at {l : List Int} (hb : ∀ x ∈ l, 0 ≤ x ∧ x ≤ 1) {i : Nat} (hi : i < l.length) : l[i] = 0 ∨ l[i] = 1 := by
  have := hb l[i] (List.getElem_mem hi); omega

/-- What is left if each bit behind five ones is struck. -/
def unF : Nat → List Int → List Int
  | _, [] => []
  | o, x :: t => if o = 5 then unF 0 t else x :: unF (if x = 0 then 0 else o + 1) t
/-- The same, if each struck bit is a 0, and none is awaited at the end. -/
def plF : Nat → List Int → Option (List Int)
  | o, [] => if o = 5 then none else some []
  | o, x :: t => if o = 5 then (if x = 1 then none else plF 0 t) else (plF (if x = 0 then 0 else o + 1) t).map (x :: ·)
/-- What stuffing makes, o ones being behind: 5 of them await a 0. -/
def stF (o : Nat) (out : List Int) : List Int := if o = 5 then 0 :: stuffF 0 out else stuffF o out
theorem plF_un : ∀ (l : List Int), (∀ x ∈ l, 0 ≤ x ∧ x ≤ 1) → ∀ o, o ≤ 5 → (∃ out, plF o l = some out ∧ out = unF o l ∧ stF o out = l) ∨ (plF o l = none ∧ stF o (unF o l) ≠ l)
  | [], _, o, ho => by
    by_cases h5 : o = 5
    · right; subst h5; exact ⟨rfl, by simp [stF]⟩
    · left; exact ⟨[], by simp [plF, h5], rfl, by simp [stF, h5, stuffF]⟩
  | x :: t, hb, o, ho => by
    have hx := hb x (by simp)
    have ht : ∀ y ∈ t, 0 ≤ y ∧ y ≤ 1 := fun y hy => hb y (by simp [hy])
    by_cases h5 : o = 5
    · subst h5
      by_cases h1 : x = 1
      · right
        refine ⟨by simp [plF, h1], ?_⟩
        simp only [stF, if_true, h1]
        intro h
        injection h with h _
        cases h
      · have h0 : x = 0 := by omega
        have e : unF 5 (x :: t) = unF 0 t := by simp [unF]
        have e2 : plF 5 (x :: t) = plF 0 t := by simp [plF, h1]
        rw [e, e2]
        rcases plF_un t ht 0 (by omega) with ⟨out, a, b, c⟩ | ⟨a, b⟩
        · left; refine ⟨out, a, b, ?_⟩
          simp only [stF, if_true, h0]
          have : stuffF 0 out = t := by simpa [stF] using c
          rw [this]
        · right; refine ⟨a, ?_⟩
          simp only [stF, if_true, h0]
          intro h
          injection h with _ h
          exact b (by simpa [stF] using h)
    · have e : unF o (x :: t) = x :: unF (if x = 0 then 0 else o + 1) t := by simp [unF, h5]
      have e2 : plF o (x :: t) = (plF (if x = 0 then 0 else o + 1) t).map (x :: ·) := by simp [plF, h5]
      have key : ∀ out, stF o (x :: out) = x :: stF (if x = 0 then 0 else o + 1) out := by
        intro out
        by_cases h0 : x = 0
        · simp [stF, h5, stuffF, h0]
        · by_cases h4 : o + 1 = 5
          · simp [stF, h5, stuffF, h0, h4]
          · simp [stF, h5, stuffF, h0, h4]
      rw [e, e2]
      rcases plF_un t ht (if x = 0 then 0 else o + 1) (by split <;> omega) with ⟨out, a, b, c⟩ | ⟨a, b⟩
      · left; refine ⟨x :: out, by rw [a]; rfl, by rw [b], ?_⟩
        rw [key, c]
      · right; refine ⟨by rw [a]; rfl, ?_⟩
        rw [key]
        intro h
        injection h with _ h
        exact b h
theorem unF_len : ∀ (l : List Int) (o : Nat), (unF o l).length ≤ l.length
  | [], _ => by simp [unF]
  | x :: t, o => by
    unfold unF
    split
    · have := unF_len t 0; simp only [List.length_cons]; omega
    · have := unF_len t (if x = 0 then 0 else o + 1); simp only [List.length_cons]; omega
theorem unF_mem : ∀ (l : List Int) (o : Nat), (∀ x ∈ l, 0 ≤ x ∧ x ≤ 1) → ∀ y ∈ unF o l, 0 ≤ y ∧ y ≤ 1
  | [], _, _, y, hy => by simp [unF] at hy
  | x :: t, o, hb, y, hy => by
    unfold unF at hy
    have ht : ∀ y ∈ t, 0 ≤ y ∧ y ≤ 1 := fun y hy => hb y (by simp [hy])
    split at hy
    · exact unF_mem t 0 ht y hy
    · rcases List.mem_cons.1 hy with rfl | hy
      · exact hb _ (by simp)
      · exact unF_mem t _ ht y hy
/-- What both answer. -/
def plainV (l : List Int) : List Int × Bool := match plF 0 l with | some out => (out, true) | none => ([], false)

def plTo (acc : List Int) : Option (List Int) → List Int × Bool
  | some out => (acc ++ out, true)
  | none => ([], false)
theorem spec_frPlain_l0 (l : List Int) (hb : ∀ x ∈ l, 0 ≤ x ∧ x ≤ 1) (hn : l.length ≤ 1048576) : ∀ (d i o : Nat) (acc : List Int), i + d = l.length → o ≤ 5 → acc.length + d ≤ 1099511627776 → Ev (fun k => spec_frPlain.l0 k acc (o : Int) l (l.length : Int) (i : Int)) (plTo acc (plF o (l.drop i))) := by
  intro d
  induction d with
  | zero =>
    intro i o acc h _ _
    refine ev_end (fun k => ?_)
    simp only [spec_frPlain.l0]
    rw [if_neg (by omega), List.drop_of_length_le (by omega), plF]
    by_cases h5 : o = 5
    · rw [if_pos (by omega), if_pos h5]; rfl
    · rw [if_neg (by omega), if_neg h5]; simp [plTo]
  | succ d ih =>
    intro i o acc h ho ha
    have hi : i < l.length := by omega
    rw [List.drop_eq_getElem_cons hi, plF]
    by_cases h5 : o = 5
    · rw [if_pos h5]
      rcases bit_at hb hi with e | e
      · rw [if_neg (by omega)]
        refine Ev.step (fun k => ?_) (ih (i + 1) 0 acc (by omega) (by omega) (by omega))
        simp only [spec_frPlain.l0]
        rw [if_pos (by omega), if_pos (by omega), if_pos (by omega), if_pos (by omega), rd_nat l hi, if_neg (by omega), wrap_succ hi (by omega)]; rfl
      · rw [if_pos e]
        refine ev_end (fun k => ?_)
        simp only [spec_frPlain.l0]
        rw [if_pos (by omega), if_pos (by omega), if_pos (by omega), if_pos (by omega), rd_nat l hi, if_pos e]; rfl
    · rw [if_neg h5]
      have e3 : plTo acc ((plF (if l[i] = 0 then 0 else o + 1) (l.drop (i + 1))).map (l[i] :: ·)) = plTo (acc ++ [l[i]]) (plF (if l[i] = 0 then 0 else o + 1) (l.drop (i + 1))) := by
        cases plF (if l[i] = 0 then 0 else o + 1) (l.drop (i + 1)) <;> simp [plTo]
      rw [e3]
      refine Ev.step (fun k => ?_) (ih (i + 1) (if l[i] = 0 then 0 else o + 1) (acc ++ [l[i]]) (by omega) (by split <;> omega) (by simp; omega))
      simp only [spec_frPlain.l0]
      have e4 : wrap64 (wrap64 ((o : Int) + 1) * l[i]) = (((if l[i] = 0 then 0 else o + 1) : Nat) : Int) := by
        rcases bit_at hb hi with e | e
        · rw [if_pos e, e, wrap_id (x := (o : Int) + 1) (by omega) (by omega), wrap_id (by omega) (by omega)]; omega
        · rw [if_neg (by omega), e, wrap_id (x := (o : Int) + 1) (by omega) (by omega), wrap_id (by omega) (by omega)]; omega
      rw [if_pos (by omega), if_pos (by omega), if_pos (by omega), if_neg (by omega), if_pos (by omega), rd_nat l hi, e4, wrap_succ hi (by omega)]
theorem spec_frPlain_ev {l : List Int} (hb : ∀ x ∈ l, 0 ≤ x ∧ x ≤ 1) (hn : l.length ≤ 1048576) : Ev (fun k => spec_frPlain.f k l) (plainV l) := by
  unfold spec_frPlain.f
  have := spec_frPlain_l0 l hb hn l.length 0 0 [] (by omega) (by omega) (by simp; omega)
  have e : plTo [] (plF 0 (l.drop 0)) = plainV l := by
    unfold plainV; rw [List.drop_zero]; cases plF 0 l <;> simp [plTo]
  rw [e] at this
  exact this

theorem impl_stuffed_l0 (l : List Int) (hb : ∀ x ∈ l, 0 ≤ x ∧ x ≤ 1) (hn : l.length ≤ 1048576) : ∀ (d i o : Nat) (acc : List Int), i + d = l.length → o ≤ 4 → acc.length + 2 * d ≤ 1099511627776 → Ev (fun k => impl_stuffed.l0 k acc (o : Int) l (l.length : Int) (i : Int)) (acc ++ stuffF o (l.drop i)) := by
  intro d
  induction d with
  | zero =>
    intro i o acc h _ _
    refine ev_end (fun k => ?_)
    simp only [impl_stuffed.l0]
    rw [if_neg (by omega), List.drop_of_length_le (by omega), stuffF, List.append_nil]
  | succ d ih =>
    intro i o acc h ho ha
    have hi : i < l.length := by omega
    rw [List.drop_eq_getElem_cons hi, stuffF]
    rcases bit_at hb hi with e | e
    · rw [if_pos e, show acc ++ l[i] :: stuffF 0 (l.drop (i + 1)) = (acc ++ [l[i]]) ++ stuffF 0 (l.drop (i + 1)) from by rw [List.append_assoc]; rfl]
      refine Ev.step (fun k => ?_) (ih (i + 1) 0 (acc ++ [l[i]]) (by omega) (by omega) (by simp; omega))
      simp only [impl_stuffed.l0]
      rw [if_pos (by omega), if_pos (by omega), if_pos (by omega), if_pos (by omega), Option.bind_some, rd_nat l hi, if_pos e, wrap_succ hi (by omega)]; rfl
    · rw [if_neg (by omega)]
      by_cases h5 : o + 1 = 5
      · rw [if_pos h5, show acc ++ l[i] :: 0 :: stuffF 0 (l.drop (i + 1)) = ((acc ++ [l[i]]) ++ [0]) ++ stuffF 0 (l.drop (i + 1)) from by rw [List.append_assoc, List.append_assoc]; rfl]
        refine Ev.step (fun k => ?_) (ih (i + 1) 0 ((acc ++ [l[i]]) ++ [0]) (by omega) (by omega) (by simp; omega))
        simp only [impl_stuffed.l0]
        rw [if_pos (by omega), if_pos (by omega), if_pos (by omega), if_pos (by omega), Option.bind_some, rd_nat l hi, if_neg (by omega), wrap_id (x := (o : Int) + 1) (by omega) (by omega), if_pos (by omega), if_pos (by simp; omega), wrap_succ hi (by omega)]; rfl
      · rw [if_neg h5, show acc ++ l[i] :: stuffF (o + 1) (l.drop (i + 1)) = (acc ++ [l[i]]) ++ stuffF (o + 1) (l.drop (i + 1)) from by rw [List.append_assoc]; rfl]
        refine Ev.step (fun k => ?_) (ih (i + 1) (o + 1) (acc ++ [l[i]]) (by omega) (by omega) (by simp; omega))
        simp only [impl_stuffed.l0]
        rw [if_pos (by omega), if_pos (by omega), if_pos (by omega), if_pos (by omega), Option.bind_some, rd_nat l hi, if_neg (by omega), wrap_id (x := (o : Int) + 1) (by omega) (by omega), if_neg (by omega), wrap_succ hi (by omega), show (o : Int) + 1 = ((o + 1 : Nat) : Int) from by omega]
theorem impl_stuffed_ev {l : List Int} (hb : ∀ x ∈ l, 0 ≤ x ∧ x ≤ 1) (hn : l.length ≤ 1048576) : Ev (fun k => impl_stuffed.f k l) (stuffF 0 l) := by
  unfold impl_stuffed.f
  simpa using impl_stuffed_l0 l hb hn l.length 0 0 [] (by omega) (by omega) (by simp; omega)

theorem slicesEq_loop (l l' : List Int) (he : l.length = l'.length) (hn : l.length ≤ 1048576) : ∀ (d i k : Nat), i + d = l.length → d < k → slices_Equal_int_int.l0 k l l' (l.length : Int) (i : Int) = some (decide (l.drop i = l'.drop i)) := by
  intro d
  induction d with
  | zero =>
    intro i k h hk
    obtain ⟨k, rfl⟩ : ∃ m, k = m + 1 := ⟨k - 1, by omega⟩
    simp only [slices_Equal_int_int.l0]
    rw [if_neg (by omega), List.drop_of_length_le (l := l) (by omega), List.drop_of_length_le (l := l') (by omega)]; rfl
  | succ d ih =>
    intro i k h hk
    obtain ⟨k, rfl⟩ : ∃ m, k = m + 1 := ⟨k - 1, by omega⟩
    have hi : i < l.length := by omega
    have hi' : i < l'.length := by omega
    simp only [slices_Equal_int_int.l0]
    rw [if_pos (by omega), if_pos (by omega), if_pos (by omega), if_pos (by omega), rd_nat l hi, rd_nat l' hi', wrap_succ hi (by omega), ih (i + 1) k (by omega) (by omega), List.drop_eq_getElem_cons hi, List.drop_eq_getElem_cons hi']
    by_cases c : l[i] = l'[i]
    · rw [if_pos c, c]; exact congrArg some (decide_eq_decide.mpr ⟨fun h => by rw [h], fun h => by injection h⟩)
    · rw [if_neg c, decide_eq_false (fun h => c (by injection h))]
theorem slicesEq_eq {k : Nat} {l l' : List Int} (hn : l.length ≤ 1048576) (hk : l.length < k) : slices_Equal_int_int.f k l l' = some (decide (l = l')) := by
  unfold slices_Equal_int_int.f
  by_cases he : l.length = l'.length
  · rw [if_pos (by omega)]
    have := slicesEq_loop l l' he hn l.length 0 k (by omega) hk
    simpa using this
  · rw [if_neg (by omega), decide_eq_false (fun h => he (by rw [h]))]

theorem impl_unstuffed_l0 (l0 l : List Int) (v : List Int × Bool) (hb : ∀ x ∈ l, 0 ≤ x ∧ x ≤ 1) (hn : l.length ≤ 1048576) : ∀ (d i o : Nat) (acc : List Int), i + d = l.length → o ≤ 5 → acc.length + d ≤ 1099511627776 →
    Ev (fun k => impl_unstuffed.l0 k l0 (acc ++ unF o (l.drop i)) 0 l (l.length : Int) (l.length : Int)) v → Ev (fun k => impl_unstuffed.l0 k l0 acc (o : Int) l (l.length : Int) (i : Int)) v := by
  intro d
  induction d with
  | zero =>
    intro i o acc h _ _ hv
    rw [List.drop_of_length_le (by omega), unF, List.append_nil] at hv
    obtain rfl : i = l.length := by omega
    obtain ⟨K, hK⟩ := hv
    refine ⟨K + 1, fun k hk => ?_⟩
    obtain ⟨k, rfl⟩ : ∃ m, k = m + 1 := ⟨k - 1, by omega⟩
    have := hK (k + 1) (by omega)
    simp only [impl_unstuffed.l0] at this ⊢
    rw [if_neg (by omega)] at this ⊢
    exact this
  | succ d ih =>
    intro i o acc h ho ha hv
    have hi : i < l.length := by omega
    rw [List.drop_eq_getElem_cons hi, unF] at hv
    by_cases h5 : o = 5
    · rw [if_pos h5] at hv
      refine Ev.step (fun k => ?_) (ih (i + 1) 0 acc (by omega) (by omega) (by omega) hv)
      simp only [impl_unstuffed.l0]
      rw [if_pos (by omega), if_pos (by omega), if_pos (by omega), if_pos (by omega), wrap_succ hi (by omega)]; rfl
    · rw [if_neg h5, show acc ++ l[i] :: unF (if l[i] = 0 then 0 else o + 1) (l.drop (i + 1)) = (acc ++ [l[i]]) ++ unF (if l[i] = 0 then 0 else o + 1) (l.drop (i + 1)) from by rw [List.append_assoc]; rfl] at hv
      refine Ev.step (fun k => ?_) (ih (i + 1) (if l[i] = 0 then 0 else o + 1) (acc ++ [l[i]]) (by omega) (by split <;> omega) (by simp; omega) hv)
      simp only [impl_unstuffed.l0]
      rw [if_pos (by omega), if_pos (by omega), if_pos (by omega), if_neg (by omega), if_pos (by omega), Option.bind_some, rd_nat l hi, wrap_succ hi (by omega)]
      by_cases c : l[i] = 0
      · rw [if_pos c, if_pos c]; rfl
      · rw [if_neg c, if_neg c, wrap_id (by omega) (by omega)]; rfl
theorem impl_unstuffed_ev {l : List Int} (hb : ∀ x ∈ l, 0 ≤ x ∧ x ≤ 1) (hn : l.length ≤ 524288) : Ev (fun k => impl_unstuffed.f k l) (plainV l) := by
  unfold impl_unstuffed.f
  refine impl_unstuffed_l0 l l (plainV l) hb (by omega) l.length 0 0 [] (by omega) (by omega) (by simp; omega) ?_
  have hu := unF_len l 0
  have hm := unF_mem l 0 hb
  have hs := stuffF_len (unF 0 l) 0
  obtain ⟨K, hK⟩ := impl_stuffed_ev hm (by omega)
  simp only at hK
  refine ⟨K + (stuffF 0 (unF 0 l)).length + 2, fun k hk => ?_⟩
  obtain ⟨k, rfl⟩ : ∃ m, k = m + 1 := ⟨k - 1, by omega⟩
  simp only [impl_unstuffed.l0]
  rw [if_neg (by omega), List.drop_zero, List.nil_append, hK k (by omega), Option.bind_some, slicesEq_eq (by omega) (by omega), Option.bind_some]
  rcases plF_un l hb 0 (by omega) with ⟨out, a, b, c⟩ | ⟨a, b⟩
  · have c2 : stuffF 0 (unF 0 l) = l := by rw [← b]; simpa [stF] using c
    rw [if_pos (by simpa using c2)]
    simp only [plainV, a, b]
  · have b2 : stuffF 0 (unF 0 l) ≠ l := by simpa [stF] using b
    rw [if_neg (by simpa using b2)]
    simp only [plainV, a]
theorem plainV_len (l : List Int) (hb : ∀ x ∈ l, 0 ≤ x ∧ x ≤ 1) : (plainV l).1.length ≤ l.length := by
  have hu := unF_len l 0
  rcases plF_un l hb 0 (by omega) with ⟨out, a, b, _⟩ | ⟨a, _⟩
  · simp only [plainV, a, b]; exact hu
  · simp [plainV, a]

theorem eqIntS_loop (l : List Int) (hn : l.length ≤ 1048576) : ∀ (d i k : Nat), i + d = l.length → d < k → laws_eqIntS.l0 k l l (i : Int) = some true := by
  intro d
  induction d with
  | zero =>
    intro i k h hk
    obtain ⟨k, rfl⟩ : ∃ m, k = m + 1 := ⟨k - 1, by omega⟩
    simp only [laws_eqIntS.l0]
    rw [if_neg (by omega)]
  | succ d ih =>
    intro i k h hk
    obtain ⟨k, rfl⟩ : ∃ m, k = m + 1 := ⟨k - 1, by omega⟩
    simp only [laws_eqIntS.l0]
    rw [if_pos (by omega), if_pos (by omega), if_pos (by omega), if_pos trivial, wrap_succ (n := l.length) (by omega) (by omega)]
    exact ih (i + 1) k (by omega) (by omega)
theorem eqIntS_refl {k : Nat} {l : List Int} (hn : l.length ≤ 1048576) (hk : l.length < k) : laws_eqIntS.f k l l = some true := by
  unfold laws_eqIntS.f
  rw [if_pos rfl]
  exact eqIntS_loop l hn l.length 0 k (by omega) hk

/-- n numbers from m on. -/
def marks (m : Int) (n : Nat) : List Int := (List.range n).map fun (j : Nat) => m + (j : Int)
theorem marks_length (m : Int) (n : Nat) : (marks m n).length = n := by simp [marks]
theorem marks_succ (m : Int) (n : Nat) : marks m (n + 1) = marks m n ++ [m + (n : Int)] := by simp [marks, List.range_succ]
theorem markIntS_loop (l : List Int) (m : Int) (hm : 0 ≤ m) (hm2 : m ≤ 1099511627776) (hn : l.length ≤ 1048576) : ∀ (d i k : Nat), i + d = l.length → d < k →
    laws_markIntS.l0 k (marks m i ++ l.drop i) (m + (i : Int)) (i : Int) = some (m + (l.length : Int), marks m l.length) := by
  intro d
  induction d with
  | zero =>
    intro i k h hk
    obtain ⟨k, rfl⟩ : ∃ m, k = m + 1 := ⟨k - 1, by omega⟩
    obtain rfl : i = l.length := by omega
    simp only [laws_markIntS.l0]
    rw [if_neg (by simp [marks_length])]
    simp
  | succ d ih =>
    intro i k h hk
    obtain ⟨k, rfl⟩ : ∃ m, k = m + 1 := ⟨k - 1, by omega⟩
    have hi : i < l.length := by omega
    have e : (marks m i ++ l.drop i).set i (m + (i : Int)) = marks m (i + 1) ++ l.drop (i + 1) := by
      rw [List.set_append_right _ _ (by simp [marks_length]), marks_length, Nat.sub_self, List.drop_eq_getElem_cons hi, List.set_cons_zero, marks_succ, List.append_assoc]; rfl
    simp only [laws_markIntS.l0]
    rw [if_pos (by simp [marks_length]; omega), if_pos (by omega), Int.toNat_natCast, e, wrap_succ hi (by omega), show wrap64 (m + (i : Int) + 1) = m + ((i + 1 : Nat) : Int) from by rw [wrap_id] <;> omega]
    exact ih (i + 1) k (by omega) (by omega)
theorem markIntS_eq {k : Nat} {l : List Int} {m : Int} (hm : 0 ≤ m) (hm2 : m ≤ 1099511627776) (hn : l.length ≤ 1048576) (hk : l.length < k) : laws_markIntS.f k l m = some (m + (l.length : Int), marks m l.length) := by
  unfold laws_markIntS.f
  have := markIntS_loop l m hm hm2 hn l.length 0 k (by omega) hk
  simpa [marks] using this
theorem heldIntS_loop (n : Nat) (m : Int) (hm : 0 ≤ m) (hm2 : m ≤ 1099511627776) (hn : n ≤ 1048576) : ∀ (d i k : Nat), i + d = n → d < k → laws_heldIntS.l0 k (marks m n) (m + (i : Int)) (i : Int) = some (m + (n : Int)) := by
  intro d
  induction d with
  | zero =>
    intro i k h hk
    obtain ⟨k, rfl⟩ : ∃ m, k = m + 1 := ⟨k - 1, by omega⟩
    obtain rfl : i = n := by omega
    simp only [laws_heldIntS.l0]
    rw [if_neg (by simp [marks_length])]
  | succ d ih =>
    intro i k h hk
    obtain ⟨k, rfl⟩ : ∃ m, k = m + 1 := ⟨k - 1, by omega⟩
    have hi : i < n := by omega
    have e : rd (marks m n) (i : Int) = m + (i : Int) := by rw [rd_nat _ (by simpa [marks_length] using hi)]; simp [marks]
    simp only [laws_heldIntS.l0]
    rw [if_pos (by simp [marks_length]; omega), if_pos (by omega), if_pos e, wrap_succ hi (by omega), show wrap64 (m + (i : Int) + 1) = m + ((i + 1 : Nat) : Int) from by rw [wrap_id] <;> omega]
    exact ih (i + 1) k (by omega) (by omega)
theorem heldIntS_eq {k n : Nat} {m : Int} (hm : 0 ≤ m) (hm2 : m ≤ 1099511627776) (hn : n ≤ 1048576) (hk : n < k) : laws_heldIntS.f k (marks m n) m = some (m + (n : Int)) := by
  unfold laws_heldIntS.f
  simpa using heldIntS_loop n m hm hm2 hn n 0 k (by omega) hk

theorem toIntS_loop (l : List Int) (hn : l.length ≤ 1048576) : ∀ (d i k : Nat), i + d = l.length → d < k → laws_toIntS.l0 k l (l.take i ++ List.replicate d 0) (i : Int) = some l := by
  intro d
  induction d with
  | zero =>
    intro i k h hk
    obtain ⟨k, rfl⟩ : ∃ m, k = m + 1 := ⟨k - 1, by omega⟩
    simp only [laws_toIntS.l0]
    rw [if_neg (by omega)]
    simp [List.take_of_length_le (show l.length ≤ i by omega)]
  | succ d ih =>
    intro i k h hk
    obtain ⟨k, rfl⟩ : ∃ m, k = m + 1 := ⟨k - 1, by omega⟩
    have hi : i < l.length := by omega
    have e : (l.take i ++ List.replicate (d + 1) 0).set i (rd l (i : Int)) = l.take (i + 1) ++ List.replicate d 0 := by
      rw [rd_nat l hi, List.set_append_right _ _ (by simp; omega)]
      simp only [List.length_take, Nat.min_eq_left (Nat.le_of_lt hi), Nat.sub_self, List.replicate_succ, List.set_cons_zero]
      rw [List.take_succ_eq_append_getElem hi, List.append_assoc]; rfl
    simp only [laws_toIntS.l0]
    rw [if_pos (by omega), if_pos (by omega), if_pos (by simp; omega), Int.toNat_natCast, e, wrap_succ hi (by omega)]
    exact ih (i + 1) k (by omega) (by omega)
theorem toIntS_eq {k : Nat} {l : List Int} (hn : l.length ≤ 1048576) (hk : l.length < k) : laws_toIntS.f k l = some l := by
  unfold laws_toIntS.f
  rw [if_pos (by omega), if_pos (by omega), Int.toNat_natCast]
  have := toIntS_loop l hn l.length 0 k (by omega) hk
  simpa using this

theorem both (l : List Int) (hn : l.length ≤ 1048576) : ∃ v : List Int × Bool, Ev (fun k => spec_UnstuffBits.f k l) v ∧ Ev (fun k => impl_UnstuffBits.f k l) v ∧ v.1.length ≤ 400 := by
  cases hb : bitsB l with
  | false =>
    refine ⟨([], false), ⟨l.length + 1, fun k hk => ?_⟩, ⟨0, fun k hk => ?_⟩, by simp⟩
    · show spec_UnstuffBits.f k l = _
      unfold spec_UnstuffBits.f; rw [spec_frAre_eq (k := k) hn (by omega), hb]; rfl
    · show impl_UnstuffBits.f k l = _
      unfold impl_UnstuffBits.f; rw [impl_areBits_eq, hb]; rfl
  | true =>
    have hl := bitsB_len hb
    obtain ⟨K1, h1⟩ := spec_frPlain_ev (bitsB_mem hb) hn
    obtain ⟨K2, h2⟩ := impl_unstuffed_ev (bitsB_mem hb) (by omega)
    simp only at h1 h2
    have hv := plainV_len l (bitsB_mem hb)
    refine ⟨plainV l, ⟨K1 + l.length + 1, fun k hk => ?_⟩, ⟨K2, fun k hk => ?_⟩, by omega⟩
    · show spec_UnstuffBits.f k l = _
      unfold spec_UnstuffBits.f
      rw [spec_frAre_eq (k := k) hn (by omega), hb, Option.bind_some, if_pos rfl, h1 k (by omega)]; rfl
    · show impl_UnstuffBits.f k l = _
      unfold impl_UnstuffBits.f
      rw [impl_areBits_eq, hb, Option.bind_some, if_pos rfl, h2 k (by omega)]; rfl
theorem FnExactUnstuffBits : FnExactUnstuffBitsPure := by
  intro l hm _
  by_cases hl : (l.length : Int) > 1048576
  · exact ⟨0, by unfold laws_FnExactUnstuffBits.f; rw [if_pos hl]⟩
  · have hn : l.length ≤ 1048576 := by omega
    obtain ⟨v, ⟨K1, h1⟩, ⟨K2, h2⟩, hv⟩ := both l hn
    have n2 : ¬ (1 + (v.1.length : Int) < 0) := by omega
    have n3 : ¬ (1 + (l.length : Int) < 0) := by omega
    have hv2 : v.1.length ≤ 1048576 := by omega
    refine ⟨K1 + K2 + l.length + v.1.length + 10, ?_⟩
    unfold laws_FnExactUnstuffBits.f
    simp (disch := omega) only [Option.bind_some, ↓reduceIte, bne_self_eq_false, Bool.false_eq_true, h1, h2, hl, n2, n3, toIntS_eq hn, eqIntS_refl hv2, eqIntS_refl hn, markIntS_eq, heldIntS_eq]
    rw [laws_FnExactUnstuffBits.j0]
    simp (disch := omega) only [Option.bind_some, ↓reduceIte, bne_self_eq_false, Bool.false_eq_true, h1, h2, hl, n2, n3, toIntS_eq hn, eqIntS_refl hv2, eqIntS_refl hn, markIntS_eq, heldIntS_eq]
    rw [laws_FnExactUnstuffBits.j1]
    simp (disch := omega) only [Option.bind_some, ↓reduceIte, bne_self_eq_false, Bool.false_eq_true, h1, h2, hl, n2, n3, toIntS_eq hn, eqIntS_refl hv2, eqIntS_refl hn, markIntS_eq, heldIntS_eq]
    rw [laws_FnExactUnstuffBits.j2]
    simp (disch := omega) only [Option.bind_some, ↓reduceIte, bne_self_eq_false, Bool.false_eq_true, h1, h2, hl, n2, n3, toIntS_eq hn, eqIntS_refl hv2, eqIntS_refl hn, markIntS_eq, heldIntS_eq]

end Go.Proofs.Ytggempkfkjjlaaa.Pure
