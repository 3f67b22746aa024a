/- FnExactFramesOnWire: the program's answer is the reference's, as plain functions over numbers and lists; no condition beyond the sizes that every value has. -/
import Derived.Test.YtggempkfkjjlaaaPFnExactFramesOnWirex10
namespace Go.Proofs.Ytggempkfkjjlaaa.Pure
open Go.RowKit Go.Proofs.Ytggempkfkjjlaaa.PFnExactFramesOnWire Go.Proofs.YtggempkfkjjlaaaW.PrintWords Go.Proofs.YtggempkfkjjlaaaW.PrintLast Go.Proofs.YtggempkfkjjlaaaW.PrintMore

/- It reaches: laws_toIntS.f, spec_l1In.f, spec_l1All.f, spec_frAre.f, spec_frFrom.f, spec_frPlain.f, spec_frCheck.f, spec_frHas.f, spec_frStation.f, spec_frGood.f, spec_l1Own.f, spec_frOf.f, spec_frFlag.f, spec_l1Same.f, spec_frWire.f, spec_FramesOnWire.f, impl_allWithin.f, impl_areBits.f, impl_flag.f, slices_Equal_int_int.f, impl_fromBits.f, impl_stuffed.f, impl_unstuffed.f, impl_within.f, impl_isStation.f, impl_IsFrame.f, slices_Clone_int_int.f, impl_check.f, impl_bytesOf.f, impl_frameOf.f, impl_frameBetween.f, impl_FramesOnWire.f, laws_eqIntS.f, laws_eqFrame.f, laws_eqFrameS.f, laws_markIntS.f, laws_markFrameS.f, laws_heldIntS.f, laws_heldFrameS.f, laws_FnExactFramesOnWire.f -/
def FnExactFramesOnWirePure : Prop := ∀ (l0 : List Int), l0.length ≤ maxLen → (∀ x ∈ l0, (Lit.int .i64 x).wf = true) → ∃ k, laws_FnExactFramesOnWire.f k l0 = some true
set_option linter.unusedSimpArgs false
set_option linter.unusedVariables false
theorem wrap_id {x : Int} (h1 : -9223372036854775808 ≤ x) (h2 : x ≤ 9223372036854775807) : wrap64 x = x := by unfold wrap64; omega
theorem wrap_succ {i n : Nat} (h : i < n) (hn : n ≤ 4611686018427387904) : wrap64 ((i : Int) + 1) = ((i + 1 : Nat) : Int) := by rw [wrap_id] <;> omega
theorem rd_nat (l : List Int) {i : Nat} (h : i < l.length) : rd l (i : Int) = l[i] := by simp [rd, h]
theorem rd_mem (l : List Int) {i : Nat} (h : i < l.length) : rd l (i : Int) ∈ l := by rw [rd_nat l h]; exact List.getElem_mem h
/-- One round, and the end. -/
theorem ev_end {α : Type} {g : Nat → Option α} {r : α} (h : ∀ k, g (k + 1) = some r) : Ev g r := Ev.step h (Ev.now r)
theorem ev_of {α : Type} {g : Nat → Option α} {r : α} (h : ∀ k, g k = some r) : Ev g r := ⟨0, fun k _ => h k⟩
theorem ev_eq {α : Type} {g : Nat → Option α} {r r' : α} (h : Ev g r) (e : r = r') : Ev g r' := e ▸ h

theorem spec_l1In_eq (a b c : Int) : spec_l1In.f a b c = some (decide (b ≤ a ∧ a ≤ c)) := by
  unfold spec_l1In.f
  by_cases h : b ≤ a <;> simp [h]

theorem l1All_loop (lo hi : Int) (l : List Int) (hn : l.length ≤ 1048576) : ∀ (d i k : Nat), i + d = l.length → d < k → spec_l1All.l0 k lo hi l (l.length : Int) (i : Int) = some ((l.drop i).all fun x => decide (lo ≤ x ∧ x ≤ hi)) := by
  intro d
  induction d with
  | zero =>
    intro i k h hk
    obtain ⟨k, rfl⟩ : ∃ m, k = m + 1 := ⟨k - 1, by omega⟩
    simp only [spec_l1All.l0]
    rw [if_neg (by omega), List.drop_of_length_le (by omega)]
    rfl
  | succ d ih =>
    intro i k h hk
    obtain ⟨k, rfl⟩ : ∃ m, k = m + 1 := ⟨k - 1, by omega⟩
    have hlt : i < l.length := by omega
    simp only [spec_l1All.l0, spec_l1In_eq, Option.bind_some]
    rw [if_pos (by omega), if_pos (by omega), if_pos (by omega), rd_nat l hlt, wrap_succ hlt (by omega), ih (i + 1) k (by omega) (by omega), List.drop_eq_getElem_cons hlt, List.all_cons]
    by_cases c : lo ≤ l[i] ∧ l[i] ≤ hi <;> simp [c]
theorem spec_l1All_eq {k : Nat} {l : List Int} {lo hi : Int} (hn : l.length ≤ 1048576) (hk : l.length < k) : spec_l1All.f k l lo hi = some (l.all fun x => decide (lo ≤ x ∧ x ≤ hi)) := by
  unfold spec_l1All.f
  simpa using l1All_loop lo hi l hn l.length 0 k (by omega) hk

/-- What both call bits. -/
def bitsB (l : List Int) : Bool := decide (l.length ≤ 400) && l.all fun x => decide (0 ≤ x ∧ x ≤ 1)
theorem spec_frAre_eq {k : Nat} {l : List Int} (hn : l.length ≤ 1048576) (hk : l.length < k) : spec_frAre.f k l = some (bitsB l) := by
  unfold spec_frAre.f bitsB
  rw [spec_l1All_eq hn hk]
  by_cases h : (l.length : Int) ≤ 400
  · simp [show l.length ≤ 400 by omega, h]
  · simp [show ¬ l.length ≤ 400 by omega, h]
theorem impl_areBits_eq (l : List Int) : impl_areBits.f l = some (bitsB l) := by
  unfold impl_areBits.f impl_allWithin.f bitsB
  by_cases h : (l.length : Int) ≤ 400
  · simp [show l.length ≤ 400 by omega, h]
  · simp [show ¬ l.length ≤ 400 by omega, h]
theorem bitsB_len {l : List Int} (h : bitsB l = true) : l.length ≤ 400 := by simp [bitsB] at h; exact h.1
theorem bitsB_mem {l : List Int} (h : bitsB l = true) : ∀ x ∈ l, 0 ≤ x ∧ x ≤ 1 := by simp [bitsB] at h; exact h.2

/-- Stuffed bits, o ones being behind. -/
def stuffF : Nat → List Int → List Int
  | _, [] => []
  | o, x :: t => if x = 0 then x :: stuffF 0 t else if o + 1 = 5 then x :: 0 :: stuffF 0 t else x :: stuffF (o + 1) t
theorem stuffF_len : ∀ (l : List Int) (o : Nat), (stuffF o l).length ≤ 2 * l.length
  | [], _ => by simp [stuffF]
  | x :: t, o => by
    have h0 := stuffF_len t 0
    have h1 := stuffF_len t (o + 1)
    unfold stuffF
    split
    · simp only [List.length_cons]; omega
    · split <;> simp only [List.length_cons] <;> omega
theorem bit_at {l : List Int} (hb : ∀ x ∈ l, 0 ≤ x ∧ x ≤ 1) {i : Nat} (hi : i < l.length) : l[i] = 0 ∨ l[i] = 1 := by
  have := hb l[i] (List.getElem_mem hi); omega

/-- What is left if each bit behind five ones is struck. -/
def unF : Nat → List Int → List Int
  | _, [] => []
  | o, x :: t => if o = 5 then unF 0 t else x :: unF (if x = 0 then 0 else o + 1) t
/-- The same, if each struck bit is a 0, and none is awaited at the end. -/
def plF : Nat → List Int → Option (List Int)
  | o, [] => if o = 5 then none else some []
  | o, x :: t => if o = 5 then (if x = 1 then none else plF 0 t) else (plF (if x = 0 then 0 else o + 1) t).map (x :: ·)
/-- What stuffing makes, o ones being behind: 5 of them await a 0. -/
def stF (o : Nat) (out : List Int) : List Int := if o = 5 then 0 :: stuffF 0 out else stuffF o out
theorem plF_un : ∀ (l : List Int), (∀ x ∈ l, 0 ≤ x ∧ x ≤ 1) → ∀ o, o ≤ 5 → (∃ out, plF o l = some out ∧ out = unF o l ∧ stF o out = l) ∨ (plF o l = none ∧ stF o (unF o l) ≠ l)
  | [], _, o, ho => by
    by_cases h5 : o = 5
    · right; subst h5; exact ⟨rfl, by simp [stF]⟩
    · left; exact ⟨[], by simp [plF, h5], rfl, by simp [stF, h5, stuffF]⟩
  | x :: t, hb, o, ho => by
    have hx := hb x (by simp)
    have ht : ∀ y ∈ t, 0 ≤ y ∧ y ≤ 1 := fun y hy => hb y (by simp [hy])
    by_cases h5 : o = 5
    · subst h5
      by_cases h1 : x = 1
      · right
        refine ⟨by simp [plF, h1], ?_⟩
        simp only [stF, if_true, h1]
        intro h
        injection h with h _
        cases h
      · have h0 : x = 0 := by omega
        have e : unF 5 (x :: t) = unF 0 t := by simp [unF]
        have e2 : plF 5 (x :: t) = plF 0 t := by simp [plF, h1]
        rw [e, e2]
        rcases plF_un t ht 0 (by omega) with ⟨out, a, b, c⟩ | ⟨a, b⟩
        · left; refine ⟨out, a, b, ?_⟩
          simp only [stF, if_true, h0]
          have : stuffF 0 out = t := by simpa [stF] using c
          rw [this]
        · right; refine ⟨a, ?_⟩
          simp only [stF, if_true, h0]
          intro h
          injection h with _ h
          exact b (by simpa [stF] using h)
    · have e : unF o (x :: t) = x :: unF (if x = 0 then 0 else o + 1) t := by simp [unF, h5]
      have e2 : plF o (x :: t) = (plF (if x = 0 then 0 else o + 1) t).map (x :: ·) := by simp [plF, h5]
      have key : ∀ out, stF o (x :: out) = x :: stF (if x = 0 then 0 else o + 1) out := by
        intro out
        by_cases h0 : x = 0
        · simp [stF, h5, stuffF, h0]
        · by_cases h4 : o + 1 = 5
          · simp [stF, h5, stuffF, h0, h4]
          · simp [stF, h5, stuffF, h0, h4]
      rw [e, e2]
      rcases plF_un t ht (if x = 0 then 0 else o + 1) (by split <;> omega) with ⟨out, a, b, c⟩ | ⟨a, b⟩
      · left; refine ⟨x :: out, by rw [a]; rfl, by rw [b], ?_⟩
        rw [key, c]
      · right; refine ⟨by rw [a]; rfl, ?_⟩
        rw [key]
        intro h
        injection h with _ h
        exact b h
theorem unF_len : ∀ (l : List Int) (o : Nat), (unF o l).length ≤ l.length
  | [], _ => by simp [unF]
  | x :: t, o => by
    unfold unF
    split
    · have := unF_len t 0; simp only [List.length_cons]; omega
    · have := unF_len t (if x = 0 then 0 else o + 1); simp only [List.length_cons]; omega
theorem unF_mem : ∀ (l : List Int) (o : Nat), (∀ x ∈ l, 0 ≤ x ∧ x ≤ 1) → ∀ y ∈ unF o l, 0 ≤ y ∧ y ≤ 1
  | [], _, _, y, hy => by simp [unF] at hy
  | x :: t, o, hb, y, hy => by
    unfold unF at hy
    have ht : ∀ y ∈ t, 0 ≤ y ∧ y ≤ 1 := fun y hy => hb y (by simp [hy])
    split at hy
    · exact unF_mem t 0 ht y hy
    · rcases List.mem_cons.1 hy with rfl | hy
      · exact hb _ (by simp)
      · exact unF_mem t _ ht y hy
/-- What both answer. -/
def plainV (l : List Int) : List Int × Bool := match plF 0 l with | some out => (out, true) | none => ([], false)

def plTo (acc : List Int) : Option (List Int) → List Int × Bool
  | some out => (acc ++ out, true)
  | none => ([], false)
theorem spec_frPlain_l0 (l : List Int) (hb : ∀ x ∈ l, 0 ≤ x ∧ x ≤ 1) (hn : l.length ≤ 1048576) : ∀ (d i o : Nat) (acc : List Int), i + d = l.length → o ≤ 5 → acc.length + d ≤ 1099511627776 → Ev (fun k => spec_frPlain.l0 k acc (o : Int) l (l.length : Int) (i : Int)) (plTo acc (plF o (l.drop i))) := by
  intro d
  induction d with
  | zero =>
    intro i o acc h _ _
    refine ev_end (fun k => ?_)
    simp only [spec_frPlain.l0]
    rw [if_neg (by omega), List.drop_of_length_le (by omega), plF]
    by_cases h5 : o = 5
    · rw [if_pos (by omega), if_pos h5]; rfl
    · rw [if_neg (by omega), if_neg h5]; simp [plTo]
  | succ d ih =>
    intro i o acc h ho ha
    have hi : i < l.length := by omega
    rw [List.drop_eq_getElem_cons hi, plF]
    by_cases h5 : o = 5
    · rw [if_pos h5]
      rcases bit_at hb hi with e | e
      · rw [if_neg (by omega)]
        refine Ev.step (fun k => ?_) (ih (i + 1) 0 acc (by omega) (by omega) (by omega))
        simp only [spec_frPlain.l0]
        rw [if_pos (by omega), if_pos (by omega), if_pos (by omega), if_pos (by omega), rd_nat l hi, if_neg (by omega), wrap_succ hi (by omega)]; rfl
      · rw [if_pos e]
        refine ev_end (fun k => ?_)
        simp only [spec_frPlain.l0]
        rw [if_pos (by omega), if_pos (by omega), if_pos (by omega), if_pos (by omega), rd_nat l hi, if_pos e]; rfl
    · rw [if_neg h5]
      have e3 : plTo acc ((plF (if l[i] = 0 then 0 else o + 1) (l.drop (i + 1))).map (l[i] :: ·)) = plTo (acc ++ [l[i]]) (plF (if l[i] = 0 then 0 else o + 1) (l.drop (i + 1))) := by
        cases plF (if l[i] = 0 then 0 else o + 1) (l.drop (i + 1)) <;> simp [plTo]
      rw [e3]
      refine Ev.step (fun k => ?_) (ih (i + 1) (if l[i] = 0 then 0 else o + 1) (acc ++ [l[i]]) (by omega) (by split <;> omega) (by simp; omega))
      simp only [spec_frPlain.l0]
      have e4 : wrap64 (wrap64 ((o : Int) + 1) * l[i]) = (((if l[i] = 0 then 0 else o + 1) : Nat) : Int) := by
        rcases bit_at hb hi with e | e
        · rw [if_pos e, e, wrap_id (x := (o : Int) + 1) (by omega) (by omega), wrap_id (by omega) (by omega)]; omega
        · rw [if_neg (by omega), e, wrap_id (x := (o : Int) + 1) (by omega) (by omega), wrap_id (by omega) (by omega)]; omega
      rw [if_pos (by omega), if_pos (by omega), if_pos (by omega), if_neg (by omega), if_pos (by omega), rd_nat l hi, e4, wrap_succ hi (by omega)]
theorem spec_frPlain_ev {l : List Int} (hb : ∀ x ∈ l, 0 ≤ x ∧ x ≤ 1) (hn : l.length ≤ 1048576) : Ev (fun k => spec_frPlain.f k l) (plainV l) := by
  unfold spec_frPlain.f
  have := spec_frPlain_l0 l hb hn l.length 0 0 [] (by omega) (by omega) (by simp; omega)
  have e : plTo [] (plF 0 (l.drop 0)) = plainV l := by
    unfold plainV; rw [List.drop_zero]; cases plF 0 l <;> simp [plTo]
  rw [e] at this
  exact this

theorem impl_stuffed_l0 (l : List Int) (hb : ∀ x ∈ l, 0 ≤ x ∧ x ≤ 1) (hn : l.length ≤ 1048576) : ∀ (d i o : Nat) (acc : List Int), i + d = l.length → o ≤ 4 → acc.length + 2 * d ≤ 1099511627776 → Ev (fun k => impl_stuffed.l0 k acc (o : Int) l (l.length : Int) (i : Int)) (acc ++ stuffF o (l.drop i)) := by
  intro d
  induction d with
  | zero =>
    intro i o acc h _ _
    refine ev_end (fun k => ?_)
    simp only [impl_stuffed.l0]
    rw [if_neg (by omega), List.drop_of_length_le (by omega), stuffF, List.append_nil]
  | succ d ih =>
    intro i o acc h ho ha
    have hi : i < l.length := by omega
    rw [List.drop_eq_getElem_cons hi, stuffF]
    rcases bit_at hb hi with e | e
    · rw [if_pos e, show acc ++ l[i] :: stuffF 0 (l.drop (i + 1)) = (acc ++ [l[i]]) ++ stuffF 0 (l.drop (i + 1)) from by rw [List.append_assoc]; rfl]
      refine Ev.step (fun k => ?_) (ih (i + 1) 0 (acc ++ [l[i]]) (by omega) (by omega) (by simp; omega))
      simp only [impl_stuffed.l0]
      rw [if_pos (by omega), if_pos (by omega), if_pos (by omega), if_pos (by omega), Option.bind_some, rd_nat l hi, if_pos e, wrap_succ hi (by omega)]; rfl
    · rw [if_neg (by omega)]
      by_cases h5 : o + 1 = 5
      · rw [if_pos h5, show acc ++ l[i] :: 0 :: stuffF 0 (l.drop (i + 1)) = ((acc ++ [l[i]]) ++ [0]) ++ stuffF 0 (l.drop (i + 1)) from by rw [List.append_assoc, List.append_assoc]; rfl]
        refine Ev.step (fun k => ?_) (ih (i + 1) 0 ((acc ++ [l[i]]) ++ [0]) (by omega) (by omega) (by simp; omega))
        simp only [impl_stuffed.l0]
        rw [if_pos (by omega), if_pos (by omega), if_pos (by omega), if_pos (by omega), Option.bind_some, rd_nat l hi, if_neg (by omega), wrap_id (x := (o : Int) + 1) (by omega) (by omega), if_pos (by omega), if_pos (by simp; omega), wrap_succ hi (by omega)]; rfl
      · rw [if_neg h5, show acc ++ l[i] :: stuffF (o + 1) (l.drop (i + 1)) = (acc ++ [l[i]]) ++ stuffF (o + 1) (l.drop (i + 1)) from by rw [List.append_assoc]; rfl]
        refine Ev.step (fun k => ?_) (ih (i + 1) (o + 1) (acc ++ [l[i]]) (by omega) (by omega) (by simp; omega))
        simp only [impl_stuffed.l0]
        rw [if_pos (by omega), if_pos (by omega), if_pos (by omega), if_pos (by omega), Option.bind_some, rd_nat l hi, if_neg (by omega), wrap_id (x := (o : Int) + 1) (by omega) (by omega), if_neg (by omega), wrap_succ hi (by omega), show (o : Int) + 1 = ((o + 1 : Nat) : Int) from by omega]
theorem impl_stuffed_ev {l : List Int} (hb : ∀ x ∈ l, 0 ≤ x ∧ x ≤ 1) (hn : l.length ≤ 1048576) : Ev (fun k => impl_stuffed.f k l) (stuffF 0 l) := by
  unfold impl_stuffed.f
  simpa using impl_stuffed_l0 l hb hn l.length 0 0 [] (by omega) (by omega) (by simp; omega)

theorem slicesEq_loop (l l' : List Int) (he : l.length = l'.length) (hn : l.length ≤ 1048576) : ∀ (d i k : Nat), i + d = l.length → d < k → slices_Equal_int_int.l0 k l l' (l.length : Int) (i : Int) = some (decide (l.drop i = l'.drop i)) := by
  intro d
  induction d with
  | zero =>
    intro i k h hk
    obtain ⟨k, rfl⟩ : ∃ m, k = m + 1 := ⟨k - 1, by omega⟩
    simp only [slices_Equal_int_int.l0]
    rw [if_neg (by omega), List.drop_of_length_le (l := l) (by omega), List.drop_of_length_le (l := l') (by omega)]; rfl
  | succ d ih =>
    intro i k h hk
    obtain ⟨k, rfl⟩ : ∃ m, k = m + 1 := ⟨k - 1, by omega⟩
    have hi : i < l.length := by omega
    have hi' : i < l'.length := by omega
    simp only [slices_Equal_int_int.l0]
    rw [if_pos (by omega), if_pos (by omega), if_pos (by omega), if_pos (by omega), rd_nat l hi, rd_nat l' hi', wrap_succ hi (by omega), ih (i + 1) k (by omega) (by omega), List.drop_eq_getElem_cons hi, List.drop_eq_getElem_cons hi']
    by_cases c : l[i] = l'[i]
    · rw [if_pos c, c]; exact congrArg some (decide_eq_decide.mpr ⟨fun h => by rw [h], fun h => by injection h⟩)
    · rw [if_neg c, decide_eq_false (fun h => c (by injection h))]
theorem slicesEq_eq {k : Nat} {l l' : List Int} (hn : l.length ≤ 1048576) (hk : l.length < k) : slices_Equal_int_int.f k l l' = some (decide (l = l')) := by
  unfold slices_Equal_int_int.f
  by_cases he : l.length = l'.length
  · rw [if_pos (by omega)]
    have := slicesEq_loop l l' he hn l.length 0 k (by omega) hk
    simpa using this
  · rw [if_neg (by omega), decide_eq_false (fun h => he (by rw [h]))]

theorem impl_unstuffed_l0 (l0 l : List Int) (v : List Int × Bool) (hb : ∀ x ∈ l, 0 ≤ x ∧ x ≤ 1) (hn : l.length ≤ 1048576) : ∀ (d i o : Nat) (acc : List Int), i + d = l.length → o ≤ 5 → acc.length + d ≤ 1099511627776 →
    Ev (fun k => impl_unstuffed.l0 k l0 (acc ++ unF o (l.drop i)) 0 l (l.length : Int) (l.length : Int)) v → Ev (fun k => impl_unstuffed.l0 k l0 acc (o : Int) l (l.length : Int) (i : Int)) v := by
  intro d
  induction d with
  | zero =>
    intro i o acc h _ _ hv
    rw [List.drop_of_length_le (by omega), unF, List.append_nil] at hv
    obtain rfl : i = l.length := by omega
    obtain ⟨K, hK⟩ := hv
    refine ⟨K + 1, fun k hk => ?_⟩
    obtain ⟨k, rfl⟩ : ∃ m, k = m + 1 := ⟨k - 1, by omega⟩
    have := hK (k + 1) (by omega)
    simp only [impl_unstuffed.l0] at this ⊢
    rw [if_neg (by omega)] at this ⊢
    exact this
  | succ d ih =>
    intro i o acc h ho ha hv
    have hi : i < l.length := by omega
    rw [List.drop_eq_getElem_cons hi, unF] at hv
    by_cases h5 : o = 5
    · rw [if_pos h5] at hv
      refine Ev.step (fun k => ?_) (ih (i + 1) 0 acc (by omega) (by omega) (by omega) hv)
      simp only [impl_unstuffed.l0]
      rw [if_pos (by omega), if_pos (by omega), if_pos (by omega), if_pos (by omega), wrap_succ hi (by omega)]; rfl
    · rw [if_neg h5, show acc ++ l[i] :: unF (if l[i] = 0 then 0 else o + 1) (l.drop (i + 1)) = (acc ++ [l[i]]) ++ unF (if l[i] = 0 then 0 else o + 1) (l.drop (i + 1)) from by rw [List.append_assoc]; rfl] at hv
      refine Ev.step (fun k => ?_) (ih (i + 1) (if l[i] = 0 then 0 else o + 1) (acc ++ [l[i]]) (by omega) (by split <;> omega) (by simp; omega) hv)
      simp only [impl_unstuffed.l0]
      rw [if_pos (by omega), if_pos (by omega), if_pos (by omega), if_neg (by omega), if_pos (by omega), Option.bind_some, rd_nat l hi, wrap_succ hi (by omega)]
      by_cases c : l[i] = 0
      · rw [if_pos c, if_pos c]; rfl
      · rw [if_neg c, if_neg c, wrap_id (by omega) (by omega)]; rfl
theorem impl_unstuffed_ev {l : List Int} (hb : ∀ x ∈ l, 0 ≤ x ∧ x ≤ 1) (hn : l.length ≤ 524288) : Ev (fun k => impl_unstuffed.f k l) (plainV l) := by
  unfold impl_unstuffed.f
  refine impl_unstuffed_l0 l l (plainV l) hb (by omega) l.length 0 0 [] (by omega) (by omega) (by simp; omega) ?_
  have hu := unF_len l 0
  have hm := unF_mem l 0 hb
  have hs := stuffF_len (unF 0 l) 0
  obtain ⟨K, hK⟩ := impl_stuffed_ev hm (by omega)
  simp only at hK
  refine ⟨K + (stuffF 0 (unF 0 l)).length + 2, fun k hk => ?_⟩
  obtain ⟨k, rfl⟩ : ∃ m, k = m + 1 := ⟨k - 1, by omega⟩
  simp only [impl_unstuffed.l0]
  rw [if_neg (by omega), List.drop_zero, List.nil_append, hK k (by omega), Option.bind_some, slicesEq_eq (by omega) (by omega), Option.bind_some]
  rcases plF_un l hb 0 (by omega) with ⟨out, a, b, c⟩ | ⟨a, b⟩
  · have c2 : stuffF 0 (unF 0 l) = l := by rw [← b]; simpa [stF] using c
    rw [if_pos (by simpa using c2)]
    simp only [plainV, a, b]
  · have b2 : stuffF 0 (unF 0 l) ≠ l := by simpa [stF] using b
    rw [if_neg (by simpa using b2)]
    simp only [plainV, a]
theorem plainV_len (l : List Int) (hb : ∀ x ∈ l, 0 ≤ x ∧ x ≤ 1) : (plainV l).1.length ≤ l.length := by
  have hu := unF_len l 0
  rcases plF_un l hb 0 (by omega) with ⟨out, a, b, _⟩ | ⟨a, _⟩
  · simp only [plainV, a, b]; exact hu
  · simp [plainV, a]

def two (b x : Int) : Int := 2 * b + x
/-- The d numbers of which each eight bits are told, the greatest first. -/
def packF : Nat → List Int → List Int
  | 0, _ => []
  | d + 1, l => (l.take 8).foldl two 0 :: packF d (l.drop 8)
theorem packF_len : ∀ (d : Nat) (l : List Int), (packF d l).length = d
  | 0, _ => rfl
  | d + 1, l => by rw [packF, List.length_cons, packF_len d]
theorem pow_le {r : Nat} (h : r ≤ 8) : (2 : Int) ^ r ≤ 256 := by
  have : r = 0 ∨ r = 1 ∨ r = 2 ∨ r = 3 ∨ r = 4 ∨ r = 5 ∨ r = 6 ∨ r = 7 ∨ r = 8 := by omega
  rcases this with rfl | rfl | rfl | rfl | rfl | rfl | rfl | rfl | rfl <;> decide
theorem bit_mem {l : List Int} (hb : ∀ x ∈ l, 0 ≤ x ∧ x ≤ 1) {i : Nat} (hi : i < l.length) : 0 ≤ l[i] ∧ l[i] ≤ 1 := hb l[i] (List.getElem_mem hi)
theorem two_lt {p b : Int} {r : Nat} (h : 0 ≤ p ∧ p < 2 ^ r) (hb : 0 ≤ b ∧ b ≤ 1) : 0 ≤ 2 * p + b ∧ 2 * p + b < 2 ^ (r + 1) := by
  rw [Int.pow_succ]; omega
theorem foldl_lt : ∀ (l : List Int) (p : Int) (r : Nat), (∀ x ∈ l, 0 ≤ x ∧ x ≤ 1) → 0 ≤ p ∧ p < 2 ^ r → 0 ≤ l.foldl two p ∧ l.foldl two p < 2 ^ (r + l.length)
  | [], p, r, _, h => by simpa using h
  | x :: t, p, r, hb, h => by
    have := foldl_lt t (two p x) (r + 1) (fun y hy => hb y (by simp [hy])) (two_lt h (hb x (by simp)))
    rw [List.foldl_cons, List.length_cons, show r + (t.length + 1) = r + 1 + t.length from by omega]
    exact this
theorem packF_mem : ∀ (d : Nat) (l : List Int), (∀ x ∈ l, 0 ≤ x ∧ x ≤ 1) → ∀ y ∈ packF d l, 0 ≤ y ∧ y ≤ 255
  | 0, _, _, y, hy => by simp [packF] at hy
  | d + 1, l, hb, y, hy => by
    rw [packF] at hy
    rcases List.mem_cons.1 hy with rfl | hy
    · have h1 := foldl_lt (l.take 8) 0 0 (fun x hx => hb x (List.mem_of_mem_take hx)) (by simp)
      have h2 := pow_le (r := 0 + (l.take 8).length) (by simp; omega)
      omega
    · exact packF_mem d _ (fun x hx => hb x (List.mem_of_mem_drop hx)) y hy

theorem spec_from_l1 (l c acc : List Int) (hb : ∀ x ∈ c, 0 ≤ x ∧ x ≤ 1) (hc : c.length ≤ 8) (ha : acc.length ≤ 1048576) (i : Int) (v : List Int × Bool) : ∀ (d j : Nat) (p : Int), j + d = c.length → 0 ≤ p ∧ p < 2 ^ j →
    Ev (fun k => spec_frFrom.l0 k l (acc ++ [(c.drop j).foldl two p]) (wrap64 (i + 8))) v → Ev (fun k => spec_frFrom.l1 k l acc i p c (c.length : Int) (j : Int)) v := by
  intro d
  induction d with
  | zero =>
    intro j p h hp hv
    rw [List.drop_of_length_le (by omega)] at hv
    refine Ev.step (fun k => ?_) hv
    simp only [spec_frFrom.l1]
    rw [if_neg (by omega), if_pos (by omega)]; rfl
  | succ d ih =>
    intro j p h hp hv
    have hj : j < c.length := by omega
    have hbj := bit_mem hb hj
    have hp2 := two_lt hp hbj
    have hpw := pow_le (r := j + 1) (by omega)
    rw [List.drop_eq_getElem_cons hj, List.foldl_cons] at hv
    refine Ev.step (fun k => ?_) (ih (j + 1) (two p c[j]) (by omega) hp2 hv)
    simp only [spec_frFrom.l1]
    rw [if_pos (by omega), if_pos (by omega), if_pos (by omega), rd_nat c hj, wrap_id (x := 2 * p) (by omega) (by omega), wrap_id (x := 2 * p + c[j]) (by omega) (by omega), wrap_succ hj (by omega)]; rfl
theorem spec_from_l0 (l : List Int) (hb : ∀ x ∈ l, 0 ≤ x ∧ x ≤ 1) (hn : l.length ≤ 524288) : ∀ (d q : Nat) (acc : List Int), 8 * q + 8 * d = l.length → acc.length + d ≤ 1048576 →
    Ev (fun k => spec_frFrom.l0 k l acc ((8 * q : Nat) : Int)) (acc ++ packF d (l.drop (8 * q)), true) := by
  intro d
  induction d with
  | zero =>
    intro q acc h _
    refine ev_end (fun k => ?_)
    simp only [spec_frFrom.l0]
    rw [if_neg (by omega)]; simp [packF]
  | succ d ih =>
    intro q acc h ha
    have hw : wrap64 (((8 * q : Nat) : Int) + 8) = ((8 * (q + 1) : Nat) : Int) := by rw [wrap_id] <;> omega
    have e : (l.take (8 * (q + 1))).drop (8 * q) = (l.drop (8 * q)).take 8 := by rw [List.drop_take]; congr 1; omega
    have next := ih (q + 1) (acc ++ [((l.drop (8 * q)).take 8).foldl two 0]) (by omega) (by simp; omega)
    rw [← hw] at next
    have e2 : acc ++ packF (d + 1) (l.drop (8 * q)) = acc ++ [((l.drop (8 * q)).take 8).foldl two 0] ++ packF d (l.drop (8 * (q + 1))) := by
      rw [packF, List.drop_drop, List.append_assoc]; rfl
    rw [e2]
    refine Ev.step (fun k => ?_) (spec_from_l1 l ((l.drop (8 * q)).take 8) acc (fun x hx => hb x (List.mem_of_mem_drop (List.mem_of_mem_take hx))) (by simp; omega) (by omega) ((8 * q : Nat) : Int) _ _ 0 0 (Nat.zero_add _) (by simp) (by rw [List.drop_zero]; exact next))
    simp only [spec_frFrom.l0]
    rw [if_pos (by omega), if_pos (by omega), hw, if_pos (by omega), if_pos (by omega), Int.toNat_natCast, Int.toNat_natCast, e]; rfl
theorem spec_frFrom_ev {l : List Int} (hb : ∀ x ∈ l, 0 ≤ x ∧ x ≤ 1) (hn : l.length ≤ 524288) : Ev (fun k => spec_frFrom.f k l) (if l.length % 8 = 0 then (packF (l.length / 8) l, true) else ([], false)) := by
  unfold spec_frFrom.f
  by_cases h8 : l.length % 8 = 0
  · rw [if_pos h8]
    obtain ⟨K, hK⟩ := spec_from_l0 l hb hn (l.length / 8) 0 [] (by omega) (by simp; omega)
    refine ⟨K, fun k hk => ?_⟩
    have := hK k hk
    simp only [Nat.mul_zero, List.drop_zero, List.nil_append] at this
    show (if ((l.length : Int) % 8) = 0 then _ else _) = _
    rw [if_pos (by omega)]; exact this
  · rw [if_neg h8]
    refine ⟨0, fun k _ => ?_⟩
    show (if ((l.length : Int) % 8) = 0 then _ else _) = _
    rw [if_neg (by omega)]

theorem impl_from_l0 (l : List Int) (hb : ∀ x ∈ l, 0 ≤ x ∧ x ≤ 1) (hn : l.length ≤ 524288) : ∀ (m i r d : Nat) (acc : List Int) (p : Int), i + m = l.length → m + r = 8 * (d + 1) → r < 8 → i = 8 * acc.length + r → 0 ≤ p ∧ p < 2 ^ r →
    Ev (fun k => impl_fromBits.l0 k (acc ++ p :: List.replicate d 0) l (l.length : Int) (i : Int)) (acc ++ ((l.drop i).take (8 - r)).foldl two p :: packF d ((l.drop i).drop (8 - r)), true) := by
  intro m
  induction m with
  | zero => intro i r d acc p h hm hr; omega
  | succ m ih =>
    intro i r d acc p h hm hr hi hp
    have hlt : i < l.length := by omega
    have hbi := bit_mem hb hlt
    have hp2 := two_lt hp hbi
    have hpw := pow_le (r := r + 1) (by omega)
    have hdiv : wrap64 (Int.tdiv (i : Int) 8) = (acc.length : Int) := by
      rw [Int.tdiv_eq_ediv_of_nonneg (by omega), wrap_id] <;> omega
    have hrd : rd (acc ++ p :: List.replicate d 0) (acc.length : Int) = p := by
      rw [rd_nat _ (by simp)]; simp
    have hset : (acc ++ p :: List.replicate d 0).set acc.length (2 * p + l[i]) = acc ++ (2 * p + l[i]) :: List.replicate d 0 := by
      rw [List.set_append_right _ _ (by omega), Nat.sub_self, List.set_cons_zero]
    have step : ∀ k, impl_fromBits.l0 (k + 1) (acc ++ p :: List.replicate d 0) l (l.length : Int) (i : Int) = impl_fromBits.l0 k (acc ++ (2 * p + l[i]) :: List.replicate d 0) l (l.length : Int) ((i + 1 : Nat) : Int) := by
      intro k
      simp only [impl_fromBits.l0]
      rw [if_pos (by omega), if_pos (by omega), if_pos (by omega), hdiv, if_pos (by omega), if_pos (by simp; omega), hrd, rd_nat l hlt, Int.toNat_natCast, wrap_id (x := 2 * p) (by omega) (by omega), wrap_id (x := 2 * p + l[i]) (by omega) (by omega), hset, wrap_succ hlt (by omega)]
    have et : (l.drop i).take (8 - r) = l[i] :: (l.drop (i + 1)).take (8 - r - 1) := by
      rw [List.drop_eq_getElem_cons hlt, show 8 - r = (8 - r - 1) + 1 from by omega, List.take_succ_cons]; rfl
    have ed : (l.drop i).drop (8 - r) = (l.drop (i + 1)).drop (8 - r - 1) := by
      rw [List.drop_eq_getElem_cons hlt, show 8 - r = (8 - r - 1) + 1 from by omega, List.drop_succ_cons]; rfl
    rw [et, ed, List.foldl_cons]
    by_cases h8 : r + 1 = 8
    · have e0 : 8 - r - 1 = 0 := by omega
      rw [e0, List.take_zero, List.foldl_nil, List.drop_zero]
      cases d with
      | zero =>
        refine Ev.step step ?_
        refine ev_end (fun k => ?_)
        simp only [impl_fromBits.l0]
        rw [if_neg (by omega)]; rfl
      | succ d =>
        have next := ih (i + 1) 0 d (acc ++ [2 * p + l[i]]) 0 (by omega) (by omega) (by omega) (by simp; omega) (by simp)
        rw [List.append_assoc, List.append_assoc] at next
        exact Ev.step step next
    · have next := ih (i + 1) (r + 1) d acc (2 * p + l[i]) (by omega) (by omega) (by omega) (by omega) hp2
      rw [show 8 - (r + 1) = 8 - r - 1 from by omega] at next
      exact Ev.step step next
theorem impl_fromBits_ev {l : List Int} (hb : ∀ x ∈ l, 0 ≤ x ∧ x ≤ 1) (hn : l.length ≤ 524288) : Ev (fun k => impl_fromBits.f k l) (if l.length % 8 = 0 ∧ l.length ≤ 320 then (packF (l.length / 8) l, true) else ([], false)) := by
  by_cases h8 : l.length % 8 = 0
  · by_cases h320 : l.length ≤ 320
    · have hw : wrap64 ((l.length : Int) / 8) = ((l.length / 8 : Nat) : Int) := by rw [wrap_id] <;> omega
      rw [if_pos ⟨h8, h320⟩]
      have loop : Ev (fun k => impl_fromBits.l0 k (List.replicate (l.length / 8) 0) l (l.length : Int) 0) (packF (l.length / 8) l, true) := by
        cases hd : l.length / 8 with
        | zero =>
          refine ev_end (fun k => ?_)
          simp only [impl_fromBits.l0]
          rw [if_neg (by omega)]; rfl
        | succ d =>
          have := impl_from_l0 l hb hn l.length 0 0 d [] 0 (by omega) (by omega) (by omega) (by simp) (by simp)
          simpa [List.replicate_succ, packF] using this
      obtain ⟨K, hK⟩ := loop
      refine ⟨K + 1, fun k hk => ?_⟩
      obtain ⟨k, rfl⟩ : ∃ q, k = q + 1 := ⟨k - 1, by omega⟩
      show impl_fromBits.f (k + 1) l = _
      unfold impl_fromBits.f
      rw [if_pos (by omega), decide_eq_false (by omega)]
      simp only [impl_fromBits.j0, if_neg (show ¬ (false = true) by decide)]
      rw [hw, if_pos (by omega), Int.toNat_natCast, if_pos (by omega)]
      exact hK k (by omega)
    · rw [if_neg (fun h => h320 h.2)]
      refine ⟨1, fun k hk => ?_⟩
      obtain ⟨k, rfl⟩ : ∃ q, k = q + 1 := ⟨k - 1, by omega⟩
      show impl_fromBits.f (k + 1) l = _
      unfold impl_fromBits.f
      rw [if_pos (by omega), decide_eq_true (by omega)]
      simp only [impl_fromBits.j0, if_true]
  · rw [if_neg (fun h => h8 h.1)]
    refine ⟨1, fun k hk => ?_⟩
    obtain ⟨k, rfl⟩ : ∃ q, k = q + 1 := ⟨k - 1, by omega⟩
    show impl_fromBits.f (k + 1) l = _
    unfold impl_fromBits.f
    rw [if_neg (by omega)]
    simp only [impl_fromBits.j0, if_true]

theorem impl_within_eq (a b c : Int) : impl_within.f a b c = some (decide (b ≤ a ∧ a ≤ c)) := by
  unfold impl_within.f
  by_cases h : b ≤ a <;> simp [h]

theorem eqIntS_loop (l : List Int) (hn : l.length ≤ 1048576) : ∀ (d i k : Nat), i + d = l.length → d < k → laws_eqIntS.l0 k l l (i : Int) = some true := by
  intro d
  induction d with
  | zero =>
    intro i k h hk
    obtain ⟨k, rfl⟩ : ∃ m, k = m + 1 := ⟨k - 1, by omega⟩
    simp only [laws_eqIntS.l0]
    rw [if_neg (by omega)]
  | succ d ih =>
    intro i k h hk
    obtain ⟨k, rfl⟩ : ∃ m, k = m + 1 := ⟨k - 1, by omega⟩
    simp only [laws_eqIntS.l0]
    rw [if_pos (by omega), if_pos (by omega), if_pos (by omega), if_pos trivial, wrap_succ (n := l.length) (by omega) (by omega)]
    exact ih (i + 1) k (by omega) (by omega)
theorem eqIntS_refl {k : Nat} {l : List Int} (hn : l.length ≤ 1048576) (hk : l.length < k) : laws_eqIntS.f k l l = some true := by
  unfold laws_eqIntS.f
  rw [if_pos rfl]
  exact eqIntS_loop l hn l.length 0 k (by omega) hk

/-- What both call a frame. -/
def frameB (a b p : Int) (l : List Int) : Bool := decide ((0 ≤ a ∧ a ≤ 11) ∧ (0 ≤ b ∧ b ≤ 11) ∧ (0 ≤ p ∧ p ≤ 7)) && (decide (l.length ≤ 16) && l.all fun x => decide (0 ≤ x ∧ x ≤ 255))
theorem frameB_head {a b p : Int} {l : List Int} (h : frameB a b p l = true) : (0 ≤ a ∧ a ≤ 11) ∧ (0 ≤ b ∧ b ≤ 11) ∧ (0 ≤ p ∧ p ≤ 7) := by simp only [frameB, Bool.and_eq_true, decide_eq_true_eq] at h; exact h.1
theorem frameB_len {a b p : Int} {l : List Int} (h : frameB a b p l = true) : l.length ≤ 16 := by simp only [frameB, Bool.and_eq_true, decide_eq_true_eq] at h; exact h.2.1
theorem frameB_mem {a b p : Int} {l : List Int} (h : frameB a b p l = true) : ∀ x ∈ l, 0 ≤ x ∧ x ≤ 255 := by simp only [frameB, Bool.and_eq_true, decide_eq_true_eq, List.all_eq_true] at h; exact h.2.2
theorem spec_frGood_eq {k : Nat} {a b p : Int} {l : List Int} (hn : l.length ≤ 1048576) (hk : l.length < k) : spec_frGood.f k a b p l = some (frameB a b p l) := by
  unfold spec_frGood.f spec_frStation.f frameB
  simp only [spec_l1In_eq, Option.bind_some, spec_l1All_eq hn hk]
  by_cases h0 : 0 ≤ a ∧ a ≤ 11 <;> by_cases h1 : 0 ≤ b ∧ b ≤ 11 <;> by_cases h2 : 0 ≤ p ∧ p ≤ 7 <;> by_cases h3 : l.length ≤ 16 <;>
    simp only [h0, h1, h2, h3, decide_true, decide_false, if_true, and_true, true_and, and_false, false_and, Bool.true_and, Bool.false_and, if_neg (show ¬ (false = true) by decide), show ((l.length : Int) ≤ 16) = (l.length ≤ 16) from propext ⟨fun h => by omega, fun h => by omega⟩, if_false]
theorem impl_IsFrame_eq (a b p : Int) (l : List Int) : impl_IsFrame.f a b p l = some (frameB a b p l) := by
  unfold impl_IsFrame.f impl_isStation.f impl_allWithin.f frameB
  simp only [impl_within_eq, Option.bind_some]
  by_cases h0 : 0 ≤ a ∧ a ≤ 11 <;> by_cases h1 : 0 ≤ b ∧ b ≤ 11 <;> by_cases h2 : 0 ≤ p ∧ p ≤ 7 <;> by_cases h3 : l.length ≤ 16 <;>
    simp only [h0, h1, h2, h3, decide_true, decide_false, if_true, and_true, true_and, and_false, false_and, Bool.true_and, Bool.false_and, if_neg (show ¬ (false = true) by decide), show ((l.length : Int) ≤ 16) = (l.length ≤ 16) from propext ⟨fun h => by omega, fun h => by omega⟩, if_false]
theorem eqFrame_refl {k : Nat} {a b p : Int} {l : List Int} (hn : l.length ≤ 1048576) (hk : l.length < k) : laws_eqFrame.f k a b p l a b p l = some true := by
  unfold laws_eqFrame.f
  simp only [if_true, eqIntS_refl hn hk, Option.bind_some]

theorem xor_nat {a b : Nat} (ha : a < 4294967296) (hb : b < 4294967296) : Go.bits .xor .i64 (a : Int) (b : Int) = ((a ^^^ b : Nat) : Int) := by
  have ha' : a % 2 ^ 64 = a := Nat.mod_eq_of_lt (by omega)
  have hb' : b % 2 ^ 64 = b := Nat.mod_eq_of_lt (by omega)
  have hx : a ^^^ b < 4294967296 := Nat.xor_lt_two_pow (n := 32) ha hb
  have e : Go.bits .xor .i64 (a : Int) (b : Int) = IntKind.i64.wrap (((a ^^^ b : Nat)) : Int) := by
    simp only [bits, BitVec.ofInt_natCast, BitVec.toNat_xor, BitVec.toNat_ofNat]
    rw [show IntKind.i64.bits = 64 from rfl, ha', hb']
  rw [e, IntKind.wrap_i64]
  omega
/-- One step of the check's division, on a byte. -/
def crcStep (r : Nat) : Nat := if r * 2 > 255 then (r * 2 - 256) ^^^ 7 else r * 2
theorem crcStep_lt {r : Nat} (h : r < 256) : crcStep r < 256 := by
  unfold crcStep
  split
  · exact Nat.xor_lt_two_pow (n := 8) (by omega) (by omega)
  · omega
theorem crc_263 : ∀ x : Fin 256, 128 ≤ x.val → (x.val * 2) ^^^ 263 = (x.val * 2 - 256) ^^^ 7 := by decide +kernel
def crcIter : Nat → Nat → Nat
  | 0, r => r
  | d + 1, r => crcIter d (crcStep r)
theorem crcIter_lt : ∀ (d : Nat) {r : Nat}, r < 256 → crcIter d r < 256
  | 0, _, h => h
  | d + 1, _, h => crcIter_lt d (crcStep_lt h)
/-- The check of bytes, from a rest on. -/
def crcOf (n : Nat) : Nat → List Int → Nat
  | r, [] => r
  | r, b :: t => crcOf n (crcIter n (r ^^^ b.toNat)) t
theorem crcOf_cons (n r : Nat) (b : Int) (t : List Int) : crcOf n r (b :: t) = crcOf n (crcIter n (r ^^^ b.toNat)) t := rfl
theorem byte_nat {l : List Int} (hb : ∀ x ∈ l, 0 ≤ x ∧ x ≤ 255) {i : Nat} (hi : i < l.length) : ∃ b : Nat, l[i] = (b : Int) ∧ b < 256 := by
  have := hb l[i] (List.getElem_mem hi)
  exact ⟨l[i].toNat, by omega, by omega⟩
theorem crcOf_lt : ∀ (l : List Int) {r : Nat}, r < 256 → (∀ x ∈ l, 0 ≤ x ∧ x ≤ 255) → crcOf 8 r l < 256
  | [], _, h, _ => h
  | b :: t, r, h, hb => by
    have := hb b (by simp)
    rw [crcOf_cons]
    exact crcOf_lt t (crcIter_lt 8 (Nat.xor_lt_two_pow (n := 8) h (by omega))) (fun x hx => hb x (by simp [hx]))

theorem spec_check_l1 (l : List Int) (n i : Int) (v : Int) : ∀ (d j r : Nat), j + d = 8 → r < 256 → Ev (fun k => spec_frCheck.l0 k (crcIter d r : Int) l n (wrap64 (i + 1))) v → Ev (fun k => spec_frCheck.l1 k (r : Int) (j : Int) l n i) v := by
  intro d
  induction d with
  | zero =>
    intro j r h hr hv
    refine Ev.step (fun k => ?_) hv
    simp only [spec_frCheck.l1]
    rw [if_neg (by omega)]; simp only [crcIter]
  | succ d ih =>
    intro j r h hr hv
    refine Ev.step (fun k => ?_) (ih (j + 1) (crcStep r) (by omega) (crcStep_lt hr) (by simpa only [crcIter] using hv))
    simp only [spec_frCheck.l1]
    rw [if_pos (by omega), wrap_id (x := (r : Int) * 2) (by omega) (by omega), wrap_id (x := (j : Int) + 1) (by omega) (by omega)]
    by_cases c : r * 2 > 255
    · rw [if_pos (by omega)]
      have e : Int.tmod ((r : Int) * 2) 256 = ((r * 2 - 256 : Nat) : Int) := by
        rw [Int.tmod_eq_emod_of_nonneg (by omega)]; omega
      have e2 : Go.bits .xor .i64 (Int.tmod ((r : Int) * 2) 256) 7 = ((crcStep r : Nat) : Int) := by
        rw [e, show (7 : Int) = ((7 : Nat) : Int) from rfl, xor_nat (by omega) (by omega), crcStep, if_pos c]
      rw [e2, show ((j + 1 : Nat) : Int) = (j : Int) + 1 from by omega]
    · rw [if_neg (by omega)]
      have e2 : (r : Int) * 2 = ((crcStep r : Nat) : Int) := by rw [crcStep, if_neg c]; omega
      rw [e2, show ((j + 1 : Nat) : Int) = (j : Int) + 1 from by omega]
theorem spec_check_l0 (l : List Int) (hb : ∀ x ∈ l, 0 ≤ x ∧ x ≤ 255) (hn : l.length ≤ 1048576) : ∀ (d i r : Nat), i + d = l.length → r < 256 → Ev (fun k => spec_frCheck.l0 k (r : Int) l (l.length : Int) (i : Int)) (crcOf 8 r (l.drop i) : Int) := by
  intro d
  induction d with
  | zero =>
    intro i r h hr
    refine ev_end (fun k => ?_)
    simp only [spec_frCheck.l0]
    rw [if_neg (by omega), List.drop_of_length_le (by omega)]; rfl
  | succ d ih =>
    intro i r h hr
    have hi : i < l.length := by omega
    obtain ⟨b, eb, hb2⟩ := byte_nat hb hi
    have hx : r ^^^ b < 256 := Nat.xor_lt_two_pow (n := 8) hr hb2
    have e : crcOf 8 r (l.drop i) = crcOf 8 (crcIter 8 (r ^^^ b)) (l.drop (i + 1)) := by
      rw [List.drop_eq_getElem_cons hi, crcOf_cons, eb, Int.toNat_natCast]
    have next := ih (i + 1) (crcIter 8 (r ^^^ b)) (by omega) (crcIter_lt 8 hx)
    rw [← e, ← wrap_succ hi (by omega)] at next
    refine Ev.step (fun k => ?_) (spec_check_l1 l (l.length : Int) (i : Int) _ 8 0 (r ^^^ b) rfl hx next)
    simp only [spec_frCheck.l0]
    rw [if_pos (by omega), if_pos (by omega), if_pos (by omega), rd_nat l hi, eb, xor_nat (by omega) (by omega), show ((0 : Nat) : Int) = 0 from rfl]
theorem spec_frCheck_ev {l : List Int} (hb : ∀ x ∈ l, 0 ≤ x ∧ x ≤ 255) (hn : l.length ≤ 1048576) : Ev (fun k => spec_frCheck.f k l) (crcOf 8 0 l : Int) := by
  unfold spec_frCheck.f
  simpa using spec_check_l0 l hb hn l.length 0 0 (by omega) (by omega)

theorem impl_check_l1 (l : List Int) (n i : Int) (v : Int) : ∀ (d j r : Nat), j + d = 8 → r < 256 → Ev (fun k => impl_check.l0 k (crcIter d r : Int) l n (wrap64 (i + 1))) v → Ev (fun k => impl_check.l1 k (r : Int) l n i (j : Int)) v := by
  intro d
  induction d with
  | zero =>
    intro j r h hr hv
    refine Ev.step (fun k => ?_) hv
    simp only [impl_check.l1]
    rw [if_neg (by omega)]; simp only [crcIter]
  | succ d ih =>
    intro j r h hr hv
    refine Ev.step (fun k => ?_) (ih (j + 1) (crcStep r) (by omega) (crcStep_lt hr) (by simpa only [crcIter] using hv))
    simp only [impl_check.l1]
    rw [if_pos (by omega), wrap_id (x := (r : Int) * 2) (by omega) (by omega), wrap_id (x := (j : Int) + 1) (by omega) (by omega)]
    by_cases c : r * 2 > 255
    · rw [if_pos (by omega)]
      have e2 : Go.bits .xor .i64 ((r : Int) * 2) 263 = ((crcStep r : Nat) : Int) := by
        rw [show (263 : Int) = ((263 : Nat) : Int) from rfl, show (r : Int) * 2 = ((r * 2 : Nat) : Int) from by omega, xor_nat (by omega) (by omega), crcStep, if_pos c]
        exact congrArg (Nat.cast : Nat → Int) (crc_263 ⟨r, hr⟩ (by show 128 ≤ r; omega))
      rw [e2, show ((j + 1 : Nat) : Int) = (j : Int) + 1 from by omega]
    · rw [if_neg (by omega)]
      have e2 : (r : Int) * 2 = ((crcStep r : Nat) : Int) := by rw [crcStep, if_neg c]; omega
      rw [e2, show ((j + 1 : Nat) : Int) = (j : Int) + 1 from by omega]
theorem impl_check_l0 (l : List Int) (hb : ∀ x ∈ l, 0 ≤ x ∧ x ≤ 255) (hn : l.length ≤ 1048576) : ∀ (d i r : Nat), i + d = l.length → r < 256 → Ev (fun k => impl_check.l0 k (r : Int) l (l.length : Int) (i : Int)) (crcOf 8 r (l.drop i) : Int) := by
  intro d
  induction d with
  | zero =>
    intro i r h hr
    refine ev_end (fun k => ?_)
    simp only [impl_check.l0]
    rw [if_neg (by omega), List.drop_of_length_le (by omega)]; rfl
  | succ d ih =>
    intro i r h hr
    have hi : i < l.length := by omega
    obtain ⟨b, eb, hb2⟩ := byte_nat hb hi
    have hx : r ^^^ b < 256 := Nat.xor_lt_two_pow (n := 8) hr hb2
    have e : crcOf 8 r (l.drop i) = crcOf 8 (crcIter 8 (r ^^^ b)) (l.drop (i + 1)) := by
      rw [List.drop_eq_getElem_cons hi, crcOf_cons, eb, Int.toNat_natCast]
    have next := ih (i + 1) (crcIter 8 (r ^^^ b)) (by omega) (crcIter_lt 8 hx)
    rw [← e, ← wrap_succ hi (by omega)] at next
    refine Ev.step (fun k => ?_) (impl_check_l1 l (l.length : Int) (i : Int) _ 8 0 (r ^^^ b) rfl hx next)
    simp only [impl_check.l0]
    rw [if_pos (by omega), if_pos (by omega), if_pos (by omega), rd_nat l hi, eb, xor_nat (by omega) (by omega), show ((0 : Nat) : Int) = 0 from rfl]
theorem impl_check_ev {l : List Int} (hb : ∀ x ∈ l, 0 ≤ x ∧ x ≤ 255) (hn : l.length ≤ 1048576) : Ev (fun k => impl_check.f k l) (crcOf 8 0 l : Int) := by
  unfold impl_check.f
  simpa using impl_check_l0 l hb hn l.length 0 0 (by omega) (by omega)

def bodyF (l : List Int) : List Int := (l.take (l.length - 1)).drop 2
/-- Do these bytes hold a frame: the check, the length and the parts fit? -/
def okF (l : List Int) : Prop := 3 ≤ l.length ∧ (crcOf 8 0 (l.take (l.length - 1)) : Int) = rd l ((l.length - 1 : Nat) : Int) ∧ rd l 1 % 32 = (l.length : Int) - 3 ∧ frameB (rd l 0 / 16) (rd l 0 % 16) (rd l 1 / 32) (bodyF l) = true
instance okFDec (l : List Int) : Decidable (okF l) := by unfold okF; infer_instance
def unFr (l : List Int) : Int × Int × Int × List Int × Bool := if okF l then (rd l 0 / 16, rd l 0 % 16, rd l 1 / 32, bodyF l, true) else (0, 0, 0, [], false)
theorem bodyF_len (l : List Int) : (bodyF l).length = l.length - 3 := by simp [bodyF]; omega
theorem unFr_len {l : List Int} (h : l.length ≤ 40) : (unFr l).2.2.2.1.length ≤ 40 := by
  unfold unFr; split
  · simp only [bodyF_len]; omega
  · simp
theorem split3 (l : List Int) (h : 3 ≤ l.length) : l.take (l.length - 1) = rd l 0 :: rd l 1 :: bodyF l ∧ l = (rd l 0 :: rd l 1 :: bodyF l) ++ [rd l ((l.length - 1 : Nat) : Int)] := by
  match l, h with
  | a :: b :: t, h =>
    have e : (a :: b :: t).take ((a :: b :: t).length - 1) = a :: b :: t.take (t.length - 1) := by
      simp only [List.length_cons] at *
      rw [show t.length + 1 + 1 - 1 = t.length - 1 + 1 + 1 by omega]; rfl
    have eb : bodyF (a :: b :: t) = t.take (t.length - 1) := by rw [bodyF, e]; rfl
    have r0 : rd (a :: b :: t) 0 = a := by simp [rd]
    have r1 : rd (a :: b :: t) 1 = b := by simp [rd]
    refine ⟨by rw [e, eb, r0, r1], ?_⟩
    have r2 := rd_nat (a :: b :: t) (i := (a :: b :: t).length - 1) (by omega)
    rw [eb, r0, r1, r2, ← e]
    have := List.take_append_getElem (l := a :: b :: t) (i := (a :: b :: t).length - 1) (by omega)
    rw [this, Nat.sub_add_cancel (by omega), List.take_length]
theorem byte_rd {l : List Int} (hb : ∀ x ∈ l, 0 ≤ x ∧ x ≤ 255) {i : Nat} (hi : i < l.length) : 0 ≤ rd l (i : Int) ∧ rd l (i : Int) ≤ 255 := hb _ (rd_mem l hi)
theorem spec_frHas_ev {l : List Int} (hb : ∀ x ∈ l, 0 ≤ x ∧ x ≤ 255) (hn : l.length ≤ 1048576) (h0 : 1 ≤ l.length) : Ev (fun k => spec_frHas.f k l) ((crcOf 8 0 (l.take (l.length - 1)) : Int) == rd l ((l.length - 1 : Nat) : Int)) := by
  have ht : ∀ x ∈ l.take (l.length - 1), 0 ≤ x ∧ x ≤ 255 := fun x hx => hb x (List.mem_of_mem_take hx)
  have htl : (l.take (l.length - 1)).length ≤ 1048576 := by simp; omega
  obtain ⟨K1, h1⟩ := spec_frCheck_ev ht htl
  simp only at h1
  have e : wrap64 ((l.length : Int) - 1) = ((l.length - 1 : Nat) : Int) := by rw [wrap_id] <;> omega
  refine ⟨K1, fun k hk => ?_⟩
  show spec_frHas.f k l = _
  unfold spec_frHas.f
  rw [e, if_pos (by omega), if_pos (by omega), if_pos (by omega), Int.toNat_natCast, h1 k (by omega), Option.bind_some, if_pos (by omega)]
theorem spec_frOf_ev {l : List Int} (hb : ∀ x ∈ l, 0 ≤ x ∧ x ≤ 255) (hn : l.length ≤ 1048576) : Ev (fun k => spec_frOf.f k l) (unFr l) := by
  by_cases h3 : 3 ≤ l.length
  · obtain ⟨K1, h1⟩ := spec_frHas_ev hb hn (by omega)
    have b0 := byte_rd hb (i := 0) (by omega)
    have b1 := byte_rd hb (i := 1) (by omega)
    simp only [Int.natCast_zero, Int.natCast_one, show ((0 : Nat) : Int) = 0 from rfl, show ((1 : Nat) : Int) = 1 from rfl] at h1 b0 b1
    have e : wrap64 ((l.length : Int) - 1) = ((l.length - 1 : Nat) : Int) := by rw [wrap_id] <;> omega
    have e3 : wrap64 ((l.length : Int) - 3) = (l.length : Int) - 3 := by rw [wrap_id] <;> omega
    have t0 : Int.tdiv (rd l 0) 16 = rd l 0 / 16 := Int.tdiv_eq_ediv_of_nonneg (by omega)
    have t1 : Int.tmod (rd l 0) 16 = rd l 0 % 16 := Int.tmod_eq_emod_of_nonneg (by omega)
    have t2 : Int.tdiv (rd l 1) 32 = rd l 1 / 32 := Int.tdiv_eq_ediv_of_nonneg (by omega)
    have t3 : Int.tmod (rd l 1) 32 = rd l 1 % 32 := Int.tmod_eq_emod_of_nonneg (by omega)
    have hbl : (bodyF l).length ≤ 1048576 := by rw [bodyF_len]; omega
    refine ⟨K1 + l.length + 2, fun k hk => ?_⟩
    obtain ⟨k, rfl⟩ : ∃ m, k = m + 1 := ⟨k - 1, by omega⟩
    show spec_frOf.f (k + 1) l = _
    unfold spec_frOf.f unFr
    rw [if_neg (by omega), h1 (k + 1) (by omega), Option.bind_some]
    by_cases hc : (crcOf 8 0 (l.take (l.length - 1)) : Int) = rd l ((l.length - 1 : Nat) : Int)
    · rw [if_pos (by simpa using hc), if_pos (by omega), t3, e3]
      by_cases hm : rd l 1 % 32 = (l.length : Int) - 3
      · simp only [spec_frOf.j0]
        rw [if_neg (by simp [hm]), if_pos (by omega), if_pos (by omega), e, if_pos (by omega), if_pos (by omega), Int.toNat_natCast]
        have own : spec_l1Own.f (bodyF l) = some (bodyF l) := by
          unfold spec_l1Own.f; rw [Option.bind_some, if_pos (by simp; omega)]; rfl
        rw [show List.drop 2 (List.take (l.length - 1) l) = bodyF l from rfl, own, Option.bind_some, t0, t1, t2, wrap_id (x := rd l 0 / 16) (by omega) (by omega), wrap_id (x := rd l 1 / 32) (by omega) (by omega),
          spec_frGood_eq hbl (by rw [bodyF_len]; omega), Option.bind_some]
        by_cases hg : frameB (rd l 0 / 16) (rd l 0 % 16) (rd l 1 / 32) (bodyF l) = true
        · rw [if_pos hg, if_pos ⟨h3, hc, hm, hg⟩]
        · rw [if_neg hg, if_neg (fun h => hg h.2.2.2)]
      · simp only [spec_frOf.j0]
        rw [if_pos (by simpa using hm), if_neg (fun h => hm h.2.2.1)]
    · rw [if_neg (by simpa using hc), if_neg (fun h => hc h.2.1)]
      simp only [spec_frOf.j0, if_true]
  · refine ⟨1, fun k hk => ?_⟩
    obtain ⟨k, rfl⟩ : ∃ m, k = m + 1 := ⟨k - 1, by omega⟩
    show spec_frOf.f (k + 1) l = _
    unfold spec_frOf.f unFr
    rw [if_pos (by omega), if_neg (fun h => h3 h.1)]; rfl
theorem impl_bytesOf_ev {a b p : Int} {l : List Int} (h : frameB a b p l = true) : Ev (fun k => impl_bytesOf.f k a b p l) ([a * 16 + b, p * 32 + (l.length : Int)] ++ l ++ [(crcOf 8 0 ([a * 16 + b, p * 32 + (l.length : Int)] ++ l) : Int)]) := by
  obtain ⟨⟨h1, h2⟩, ⟨h3, h4⟩, h5, h6⟩ := frameB_head h
  have hl := frameB_len h
  have w1 : wrap64 (wrap64 (a * 16) + b) = a * 16 + b := by rw [wrap_id (x := a * 16) (by omega) (by omega), wrap_id (by omega) (by omega)]
  have w2 : wrap64 (wrap64 (p * 32) + (l.length : Int)) = p * 32 + (l.length : Int) := by rw [wrap_id (x := p * 32) (by omega) (by omega), wrap_id (by omega) (by omega)]
  have hm : ∀ x ∈ [a * 16 + b, p * 32 + (l.length : Int)] ++ l, 0 ≤ x ∧ x ≤ 255 := by
    intro x hx
    simp only [List.cons_append, List.nil_append, List.mem_cons] at hx
    rcases hx with rfl | rfl | hx
    · omega
    · omega
    · exact frameB_mem h x hx
  obtain ⟨K2, g2⟩ := impl_check_ev hm (by simp; omega)
  simp only at g2
  refine ⟨K2, fun k hk => ?_⟩
  show impl_bytesOf.f k a b p l = _
  unfold impl_bytesOf.f
  simp (disch := omega) only [Option.bind_some, if_true, w1, w2]
  rw [if_pos (by simp; omega), g2 k (by omega), Option.bind_some, if_pos (by simp; omega)]
theorem impl_frameOf_ev {l : List Int} (hb : ∀ x ∈ l, 0 ≤ x ∧ x ≤ 255) (hn : l.length ≤ 1048576) : Ev (fun k => impl_frameOf.f k l) (unFr l) := by
  by_cases h3 : 3 ≤ l.length
  · have b0 := byte_rd hb (i := 0) (by omega)
    have b1 := byte_rd hb (i := 1) (by omega)
    simp only [show ((0 : Nat) : Int) = 0 from rfl, show ((1 : Nat) : Int) = 1 from rfl] at b0 b1
    have e : wrap64 ((l.length : Int) - 1) = ((l.length - 1 : Nat) : Int) := by rw [wrap_id] <;> omega
    have t0 : Int.tdiv (rd l 0) 16 = rd l 0 / 16 := Int.tdiv_eq_ediv_of_nonneg (by omega)
    have t1 : Int.tmod (rd l 0) 16 = rd l 0 % 16 := Int.tmod_eq_emod_of_nonneg (by omega)
    have t2 : Int.tdiv (rd l 1) 32 = rd l 1 / 32 := Int.tdiv_eq_ediv_of_nonneg (by omega)
    have hbl : (bodyF l).length ≤ 1048576 := by rw [bodyF_len]; omega
    have hbody := bodyF_len l
    have own : slices_Clone_int_int.f (bodyF l) = some (bodyF l) := by unfold slices_Clone_int_int.f; rw [if_pos (by omega)]
    obtain ⟨s1, s2⟩ := split3 l h3
    by_cases hg : frameB (rd l 0 / 16) (rd l 0 % 16) (rd l 1 / 32) (bodyF l) = true
    · obtain ⟨K1, h1⟩ := impl_bytesOf_ev hg
      simp only at h1
      have a1 : rd l 0 / 16 * 16 + rd l 0 % 16 = rd l 0 := by omega
      rw [a1] at h1
      have key : decide ([rd l 0, rd l 1 / 32 * 32 + ((bodyF l).length : Int)] ++ bodyF l ++ [(crcOf 8 0 ([rd l 0, rd l 1 / 32 * 32 + ((bodyF l).length : Int)] ++ bodyF l) : Int)] = l) = decide (okF l) := by
        refine decide_eq_decide.mpr ⟨fun h => ?_, fun h => ?_⟩
        · have h' := h.trans s2
          simp only [List.cons_append, List.nil_append, List.cons.injEq, true_and] at h'
          obtain ⟨m1, m2⟩ := h'
          have m3 := (List.append_inj m2 rfl).2
          simp only [List.cons.injEq, and_true] at m3
          rw [m1] at m3
          refine ⟨h3, ?_, by omega, hg⟩
          rw [s1]; exact m3
        · obtain ⟨_, m2, m3, _⟩ := h
          have m1 : rd l 1 / 32 * 32 + ((bodyF l).length : Int) = rd l 1 := by omega
          rw [m1]
          rw [s1] at m2
          exact (congrArg (fun z => rd l 0 :: rd l 1 :: bodyF l ++ [z]) m2).trans s2.symm
      refine ⟨K1 + l.length + 60, fun k hk => ?_⟩
      show impl_frameOf.f k l = _
      unfold impl_frameOf.f unFr
      rw [if_neg (by omega), if_pos (by omega), if_pos (by omega), e, if_pos (by omega), if_pos (by omega), Int.toNat_natCast, show List.drop 2 (List.take (l.length - 1) l) = bodyF l from rfl, own, Option.bind_some, t0, t1, t2,
        wrap_id (x := rd l 0 / 16) (by omega) (by omega), wrap_id (x := rd l 1 / 32) (by omega) (by omega), impl_IsFrame_eq, Option.bind_some, if_pos hg, h1 k (by omega), Option.bind_some, slicesEq_eq (by simp; omega) (by simp; omega), key, Option.bind_some]
      by_cases ho : okF l
      · rw [if_pos ho, if_pos (decide_eq_true ho)]
      · rw [if_neg ho, if_neg (by simpa using ho)]
    · refine ⟨0, fun k hk => ?_⟩
      show impl_frameOf.f k l = _
      unfold impl_frameOf.f unFr
      rw [if_neg (by omega), if_pos (by omega), if_pos (by omega), e, if_pos (by omega), if_pos (by omega), Int.toNat_natCast, show List.drop 2 (List.take (l.length - 1) l) = bodyF l from rfl, own, Option.bind_some, t0, t1, t2,
        wrap_id (x := rd l 0 / 16) (by omega) (by omega), wrap_id (x := rd l 1 / 32) (by omega) (by omega), impl_IsFrame_eq, Option.bind_some, if_neg hg, if_neg (fun h => hg h.2.2.2)]
  · refine ⟨0, fun k hk => ?_⟩
    show impl_frameOf.f k l = _
    unfold impl_frameOf.f unFr
    rw [if_pos (by omega), if_neg (fun h => h3 h.1)]

/-- n numbers from m on. -/
def marks (m : Int) (n : Nat) : List Int := (List.range n).map fun (j : Nat) => m + (j : Int)
theorem marks_length (m : Int) (n : Nat) : (marks m n).length = n := by simp [marks]
theorem marks_succ (m : Int) (n : Nat) : marks m (n + 1) = marks m n ++ [m + (n : Int)] := by simp [marks, List.range_succ]
theorem markIntS_loop (l : List Int) (m : Int) (hm : 0 ≤ m) (hm2 : m ≤ 1099511627776) (hn : l.length ≤ 1048576) : ∀ (d i k : Nat), i + d = l.length → d < k →
    laws_markIntS.l0 k (marks m i ++ l.drop i) (m + (i : Int)) (i : Int) = some (m + (l.length : Int), marks m l.length) := by
  intro d
  induction d with
  | zero =>
    intro i k h hk
    obtain ⟨k, rfl⟩ : ∃ m, k = m + 1 := ⟨k - 1, by omega⟩
    obtain rfl : i = l.length := by omega
    simp only [laws_markIntS.l0]
    rw [if_neg (by simp [marks_length])]
    simp
  | succ d ih =>
    intro i k h hk
    obtain ⟨k, rfl⟩ : ∃ m, k = m + 1 := ⟨k - 1, by omega⟩
    have hi : i < l.length := by omega
    have e : (marks m i ++ l.drop i).set i (m + (i : Int)) = marks m (i + 1) ++ l.drop (i + 1) := by
      rw [List.set_append_right _ _ (by simp [marks_length]), marks_length, Nat.sub_self, List.drop_eq_getElem_cons hi, List.set_cons_zero, marks_succ, List.append_assoc]; rfl
    simp only [laws_markIntS.l0]
    rw [if_pos (by simp [marks_length]; omega), if_pos (by omega), Int.toNat_natCast, e, wrap_succ hi (by omega), show wrap64 (m + (i : Int) + 1) = m + ((i + 1 : Nat) : Int) from by rw [wrap_id] <;> omega]
    exact ih (i + 1) k (by omega) (by omega)
theorem markIntS_eq {k : Nat} {l : List Int} {m : Int} (hm : 0 ≤ m) (hm2 : m ≤ 1099511627776) (hn : l.length ≤ 1048576) (hk : l.length < k) : laws_markIntS.f k l m = some (m + (l.length : Int), marks m l.length) := by
  unfold laws_markIntS.f
  have := markIntS_loop l m hm hm2 hn l.length 0 k (by omega) hk
  simpa [marks] using this
theorem heldIntS_loop (n : Nat) (m : Int) (hm : 0 ≤ m) (hm2 : m ≤ 1099511627776) (hn : n ≤ 1048576) : ∀ (d i k : Nat), i + d = n → d < k → laws_heldIntS.l0 k (marks m n) (m + (i : Int)) (i : Int) = some (m + (n : Int)) := by
  intro d
  induction d with
  | zero =>
    intro i k h hk
    obtain ⟨k, rfl⟩ : ∃ m, k = m + 1 := ⟨k - 1, by omega⟩
    obtain rfl : i = n := by omega
    simp only [laws_heldIntS.l0]
    rw [if_neg (by simp [marks_length])]
  | succ d ih =>
    intro i k h hk
    obtain ⟨k, rfl⟩ : ∃ m, k = m + 1 := ⟨k - 1, by omega⟩
    have hi : i < n := by omega
    have e : rd (marks m n) (i : Int) = m + (i : Int) := by rw [rd_nat _ (by simpa [marks_length] using hi)]; simp [marks]
    simp only [laws_heldIntS.l0]
    rw [if_pos (by simp [marks_length]; omega), if_pos (by omega), if_pos e, wrap_succ hi (by omega), show wrap64 (m + (i : Int) + 1) = m + ((i + 1 : Nat) : Int) from by rw [wrap_id] <;> omega]
    exact ih (i + 1) k (by omega) (by omega)
theorem heldIntS_eq {k n : Nat} {m : Int} (hm : 0 ≤ m) (hm2 : m ≤ 1099511627776) (hn : n ≤ 1048576) (hk : n < k) : laws_heldIntS.f k (marks m n) m = some (m + (n : Int)) := by
  unfold laws_heldIntS.f
  simpa using heldIntS_loop n m hm hm2 hn n 0 k (by omega) hk

theorem toIntS_loop (l : List Int) (hn : l.length ≤ 1048576) : ∀ (d i k : Nat), i + d = l.length → d < k → laws_toIntS.l0 k l (l.take i ++ List.replicate d 0) (i : Int) = some l := by
  intro d
  induction d with
  | zero =>
    intro i k h hk
    obtain ⟨k, rfl⟩ : ∃ m, k = m + 1 := ⟨k - 1, by omega⟩
    simp only [laws_toIntS.l0]
    rw [if_neg (by omega)]
    simp [List.take_of_length_le (show l.length ≤ i by omega)]
  | succ d ih =>
    intro i k h hk
    obtain ⟨k, rfl⟩ : ∃ m, k = m + 1 := ⟨k - 1, by omega⟩
    have hi : i < l.length := by omega
    have e : (l.take i ++ List.replicate (d + 1) 0).set i (rd l (i : Int)) = l.take (i + 1) ++ List.replicate d 0 := by
      rw [rd_nat l hi, List.set_append_right _ _ (by simp; omega)]
      simp only [List.length_take, Nat.min_eq_left (Nat.le_of_lt hi), Nat.sub_self, List.replicate_succ, List.set_cons_zero]
      rw [List.take_succ_eq_append_getElem hi, List.append_assoc]; rfl
    simp only [laws_toIntS.l0]
    rw [if_pos (by omega), if_pos (by omega), if_pos (by simp; omega), Int.toNat_natCast, e, wrap_succ hi (by omega)]
    exact ih (i + 1) k (by omega) (by omega)
theorem toIntS_eq {k : Nat} {l : List Int} (hn : l.length ≤ 1048576) (hk : l.length < k) : laws_toIntS.f k l = some l := by
  unfold laws_toIntS.f
  rw [if_pos (by omega), if_pos (by omega), Int.toNat_natCast]
  have := toIntS_loop l hn l.length 0 k (by omega) hk
  simpa using this

def flagL : List Int := [0, 1, 1, 1, 1, 1, 1, 0]
theorem l1Same_loop (l l' : List Int) (he : l.length = l'.length) (hn : l.length ≤ 1048576) : ∀ (d i k : Nat), i + d = l.length → d < k → spec_l1Same.l0 k l l' (l.length : Int) (i : Int) = some (decide (l.drop i = l'.drop i)) := by
  intro d
  induction d with
  | zero =>
    intro i k h hk
    obtain ⟨k, rfl⟩ : ∃ m, k = m + 1 := ⟨k - 1, by omega⟩
    simp only [spec_l1Same.l0]
    rw [if_neg (by omega), List.drop_of_length_le (l := l) (by omega), List.drop_of_length_le (l := l') (by omega)]; rfl
  | succ d ih =>
    intro i k h hk
    obtain ⟨k, rfl⟩ : ∃ m, k = m + 1 := ⟨k - 1, by omega⟩
    have hi : i < l.length := by omega
    have hi' : i < l'.length := by omega
    simp only [spec_l1Same.l0]
    rw [if_pos (by omega), if_pos (by omega), if_pos (by omega), if_pos (by omega), rd_nat l hi, rd_nat l' hi', wrap_succ hi (by omega), ih (i + 1) k (by omega) (by omega), List.drop_eq_getElem_cons hi, List.drop_eq_getElem_cons hi']
    by_cases c : l[i] = l'[i]
    · rw [if_pos c, c]; exact congrArg some (decide_eq_decide.mpr ⟨fun h => by rw [h], fun h => by injection h⟩)
    · rw [if_neg c, decide_eq_false (fun h => c (by injection h))]
theorem l1Same_eq {k : Nat} {l l' : List Int} (hn : l.length ≤ 1048576) (hk : l.length < k) : spec_l1Same.f k l l' = some (decide (l = l')) := by
  unfold spec_l1Same.f
  by_cases he : l.length = l'.length
  · rw [if_pos (by omega)]
    have := l1Same_loop l l' he hn l.length 0 k (by omega) hk
    simpa using this
  · rw [if_neg (by omega), decide_eq_false (fun h => he (by rw [h]))]
/-- No frame. -/
def noFr : Int × Int × Int × List Int × Bool := (0, 0, 0, [], false)
/-- What stands between two flags. -/
def btw (c : List Int) : Int × Int × Int × List Int × Bool := if (plainV c).2 = true then (if (plainV c).1.length % 8 = 0 ∧ (plainV c).1.length ≤ 320 then unFr (packF ((plainV c).1.length / 8) (plainV c).1) else noFr) else noFr
theorem btw_len (c : List Int) : (btw c).2.2.2.1.length ≤ 40 := by
  unfold btw
  split
  · split
    · rename_i h
      exact unFr_len (by rw [packF_len]; omega)
    · simp [noFr]
  · simp [noFr]
theorem plain_mem {c : List Int} (hb : ∀ x ∈ c, 0 ≤ x ∧ x ≤ 1) : ∀ y ∈ (plainV c).1, 0 ≤ y ∧ y ≤ 1 := by
  rcases plF_un c hb 0 (by omega) with ⟨out, a, b, _⟩ | ⟨a, _⟩
  · simp only [plainV, a, b]; exact unF_mem c 0 hb
  · simp [plainV, a]
theorem unFr_long {l : List Int} (h : 40 < l.length) : (unFr l).2.2.2.2 = false := by
  unfold unFr
  rw [if_neg]
  intro ho
  have h3 := ho.2.2.1
  have := Int.emod_lt_of_pos (rd l 1) (show (0 : Int) < 32 by decide)
  omega
theorem spec_chunk {γ : Type} {c : List Int} (hb : ∀ x ∈ c, 0 ≤ x ∧ x ≤ 1) (hc : c.length ≤ 400) : ∃ K, ∀ k, K ≤ k → ∀ (good : Int × Int × Int × List Int × Bool → Option γ) (bad : Option γ),
    ((spec_frPlain.f k c).bind fun a => if a.2 = true then ((spec_frFrom.f k a.1).bind fun b => if b.2 = true then ((spec_frOf.f k b.1).bind fun d => if d.2.2.2.2 = true then good d else bad) else bad) else bad) = if (btw c).2.2.2.2 = true then good (btw c) else bad := by
  obtain ⟨K1, h1⟩ := spec_frPlain_ev hb (by omega)
  have hm := plain_mem hb
  have hl := plainV_len c hb
  obtain ⟨K2, h2⟩ := spec_frFrom_ev hm (by omega)
  have hpm := packF_mem ((plainV c).1.length / 8) (plainV c).1 hm
  obtain ⟨K3, h3⟩ := spec_frOf_ev hpm (by rw [packF_len]; omega)
  simp only at h1 h2 h3
  refine ⟨K1 + K2 + K3, fun k hk good bad => ?_⟩
  rw [h1 k (by omega), Option.bind_some]
  have bad_ : btw c = noFr → bad = if (btw c).2.2.2.2 = true then good (btw c) else bad := fun e => by rw [e, if_neg (show ¬ noFr.2.2.2.2 = true by decide)]
  by_cases hp : (plainV c).2 = true
  · rw [if_pos hp, h2 k (by omega), Option.bind_some]
    by_cases h8 : (plainV c).1.length % 8 = 0
    · rw [if_pos h8, if_pos (show (packF ((plainV c).1.length / 8) (plainV c).1, true).2 = true from rfl)]
      show ((spec_frOf.f k (packF ((plainV c).1.length / 8) (plainV c).1)).bind _) = _
      rw [h3 k (by omega), Option.bind_some]
      by_cases h320 : (plainV c).1.length ≤ 320
      · have e : btw c = unFr (packF ((plainV c).1.length / 8) (plainV c).1) := by unfold btw; rw [if_pos hp, if_pos ⟨h8, h320⟩]
        rw [e]
      · have e : btw c = noFr := by unfold btw; rw [if_pos hp, if_neg (fun h => h320 h.2)]
        rw [unFr_long (by rw [packF_len]; omega), if_neg (by decide)]
        exact bad_ e
    · rw [if_neg h8, if_neg (by decide)]
      exact bad_ (by unfold btw; rw [if_pos hp, if_neg (fun h => h8 h.1)])
  · rw [if_neg hp]
    exact bad_ (by unfold btw; rw [if_neg hp])
theorem impl_chunk {c : List Int} (hb : ∀ x ∈ c, 0 ≤ x ∧ x ≤ 1) (hc : c.length ≤ 400) : ∃ K, ∀ k, K ≤ k → impl_frameBetween.f k c = some (btw c) := by
  obtain ⟨K1, h1⟩ := impl_unstuffed_ev hb (by omega)
  have hm := plain_mem hb
  have hl := plainV_len c hb
  obtain ⟨K2, h2⟩ := impl_fromBits_ev hm (by omega)
  have hpm := packF_mem ((plainV c).1.length / 8) (plainV c).1 hm
  obtain ⟨K3, h3⟩ := impl_frameOf_ev hpm (by rw [packF_len]; omega)
  simp only at h1 h2 h3
  refine ⟨K1 + K2 + K3, fun k hk => ?_⟩
  unfold impl_frameBetween.f
  rw [h1 k (by omega), Option.bind_some]
  unfold btw
  by_cases hp : (plainV c).2 = true
  · rw [if_pos hp, if_pos hp, h2 k (by omega), Option.bind_some]
    by_cases h8 : (plainV c).1.length % 8 = 0 ∧ (plainV c).1.length ≤ 320
    · rw [if_pos h8, if_pos h8]
      rw [if_pos rfl]
      show ((impl_frameOf.f k (packF ((plainV c).1.length / 8) (plainV c).1)).bind _) = _
      rw [h3 k (by omega), Option.bind_some]
    · rw [if_neg h8, if_neg h8]; rfl
  · rw [if_neg hp, if_neg hp]; rfl
/-- One more frame, if there is one. -/
def addF (acc : List S34) (c : List Int) : List S34 := if (btw c).2.2.2.2 = true then acc ++ [⟨(btw c).1, (btw c).2.1, (btw c).2.2.1, (btw c).2.2.2.1⟩] else acc
theorem addF_len (acc : List S34) (c : List Int) : (addF acc c).length ≤ acc.length + 1 := by
  unfold addF; split
  · simp
  · omega
theorem addF_mem {acc : List S34} {c : List Int} (h : ∀ x ∈ acc, x.f3.length ≤ 40) : ∀ x ∈ addF acc c, x.f3.length ≤ 40 := by
  intro x hx
  unfold addF at hx
  split at hx
  · rcases List.mem_append.1 hx with hx | hx
    · exact h x hx
    · rw [List.mem_singleton.1 hx]; exact btw_len c
  · exact h x hx
theorem spec_flag : spec_frFlag.f = some flagL := rfl
theorem impl_flag_eq : impl_flag.f = some flagL := rfl
theorem wires (l : List Int) (hb : ∀ x ∈ l, 0 ≤ x ∧ x ≤ 1) (hn : l.length ≤ 400) : ∀ (d i : Nat) (s t : Int) (acc : List S34), i + d = l.length → (s = -1 ∧ t = -1 ∨ ∃ p : Nat, s = (p : Int) ∧ t = ((p + 8 : Nat) : Int) ∧ p < i) → acc.length ≤ i → (∀ x ∈ acc, x.f3.length ≤ 40) →
    ∃ v : List S34, v.length ≤ 400 ∧ (∀ x ∈ v, x.f3.length ≤ 40) ∧ Ev (fun k => spec_frWire.l0 k l acc s (i : Int)) v ∧ Ev (fun k => impl_FramesOnWire.l0 k l acc t (i : Int)) (v, true) := by
  intro d
  induction d with
  | zero =>
    intro i s t acc h _ ha hm
    have hw : wrap64 ((i : Int) + 8) = ((i + 8 : Nat) : Int) := by rw [wrap_id] <;> omega
    refine ⟨acc, by omega, hm, ev_end (fun k => ?_), ev_end (fun k => ?_)⟩
    · simp only [spec_frWire.l0]
      rw [hw, if_neg (by omega)]
    · simp only [impl_FramesOnWire.l0]
      rw [hw, if_neg (by omega)]
  | succ d ih =>
    intro i s t acc h hst ha hm
    have hw : wrap64 ((i : Int) + 8) = ((i + 8 : Nat) : Int) := by rw [wrap_id] <;> omega
    have hw1 : wrap64 ((i : Int) + 1) = ((i + 1 : Nat) : Int) := by rw [wrap_id] <;> omega
    by_cases hi : i + 8 ≤ l.length
    · have hcl : ((l.take (i + 8)).drop i).length ≤ 400 := by simp; omega
      by_cases hf : (l.take (i + 8)).drop i = flagL
      · -- a flag
        have hif : ∀ q : List S34, q.length ≤ i + 1 → (∀ x ∈ q, x.f3.length ≤ 40) → ∃ v : List S34, v.length ≤ 400 ∧ (∀ x ∈ v, x.f3.length ≤ 40) ∧ Ev (fun k => spec_frWire.l0 k l q (i : Int) ((i + 1 : Nat) : Int)) v ∧ Ev (fun k => impl_FramesOnWire.l0 k l q ((i + 8 : Nat) : Int) ((i + 1 : Nat) : Int)) (v, true) :=
          fun q hq hqm => ih (i + 1) (i : Int) ((i + 8 : Nat) : Int) q (by omega) (.inr ⟨i, rfl, rfl, by omega⟩) hq hqm
        by_cases hlong : ∃ p : Nat, s = (p : Int) ∧ t = ((p + 8 : Nat) : Int) ∧ p + 8 < i
        · obtain ⟨p, rfl, rfl, hp⟩ := hlong
          have hcb : ∀ x ∈ (l.take i).drop (p + 8), 0 ≤ x ∧ x ≤ 1 := fun x hx => hb x (List.mem_of_mem_take (List.mem_of_mem_drop hx))
          have hcc : ((l.take i).drop (p + 8)).length ≤ 400 := by simp; omega
          have hwp : wrap64 ((p : Int) + 8) = ((p + 8 : Nat) : Int) := by rw [wrap_id] <;> omega
          obtain ⟨v, v1, v2, ⟨K1, g1⟩, ⟨K2, g2⟩⟩ := hif (addF acc ((l.take i).drop (p + 8))) (by have := addF_len acc ((l.take i).drop (p + 8)); omega) (addF_mem hm)
          obtain ⟨K3, g3⟩ := spec_chunk (γ := List S34) hcb hcc
          obtain ⟨K4, g4⟩ := impl_chunk hcb hcc
          simp only at g1 g2
          refine ⟨v, v1, v2, ⟨K1 + K3 + 402, fun k hk => ?_⟩, ⟨K2 + K4 + 402, fun k hk => ?_⟩⟩
          · obtain ⟨k, rfl⟩ : ∃ m, k = m + 2 := ⟨k - 2, by omega⟩
            show spec_frWire.l0 (k + 1 + 1) l acc (p : Int) (i : Int) = some v
            simp only [spec_frWire.l0, spec_frWire.j1]
            rw [hw, hwp, if_pos (by omega), if_pos (by omega), if_pos (by omega), spec_flag, Option.bind_some, Int.toNat_natCast, Int.toNat_natCast, l1Same_eq (by omega) (by omega), decide_eq_true hf, Option.bind_some, if_pos rfl, if_pos (by omega), decide_eq_true (by omega), if_pos rfl, if_pos (by omega), if_pos (by omega), if_pos (by omega), Int.toNat_natCast]
            refine (g3 k (by omega) (fun b => if acc.length < 2932031007402 then (spec_frWire.l0 k l (acc ++ [(⟨b.1, b.2.1, b.2.2.1, b.2.2.2.1⟩ : S34)]) (i : Int) (wrap64 ((i : Int) + 1))) else none) (spec_frWire.l0 k l acc (i : Int) (wrap64 ((i : Int) + 1)))).trans ?_
            have := g1 k (by omega)
            unfold addF at this
            rw [hw1]
            by_cases hg : (btw ((l.take i).drop (p + 8))).2.2.2.2 = true
            · rw [if_pos hg] at this ⊢
              show (if acc.length < 2932031007402 then _ else _) = _
              rw [if_pos (by omega)]; exact this
            · rw [if_neg hg] at this ⊢
              exact this
          · obtain ⟨k, rfl⟩ : ∃ m, k = m + 2 := ⟨k - 2, by omega⟩
            show impl_FramesOnWire.l0 (k + 1 + 1) l acc ((p + 8 : Nat) : Int) (i : Int) = some (v, true)
            simp only [impl_FramesOnWire.l0, impl_FramesOnWire.j1]
            rw [hw, if_pos (by omega), if_pos (by omega), if_pos (by omega), impl_flag_eq, Option.bind_some, Int.toNat_natCast, Int.toNat_natCast, slicesEq_eq (by omega) (by omega), decide_eq_true hf, Option.bind_some, if_pos rfl, if_pos (by omega), decide_eq_true (by omega), if_pos rfl, if_pos (by omega), if_pos (by omega), if_pos (by omega), Int.toNat_natCast, g4 k (by omega), Option.bind_some]
            have := g2 k (by omega)
            unfold addF at this
            rw [hw1]
            by_cases hg : (btw ((l.take i).drop (p + 8))).2.2.2.2 = true
            · rw [if_pos hg] at this ⊢
              rw [if_pos (by omega)]; exact this
            · rw [if_neg hg] at this ⊢
              exact this
        · -- nothing lies between
          obtain ⟨v, v1, v2, ⟨K1, g1⟩, ⟨K2, g2⟩⟩ := hif acc (by omega) hm
          simp only at g1 g2
          refine ⟨v, v1, v2, ⟨K1 + 402, fun k hk => ?_⟩, ⟨K2 + 402, fun k hk => ?_⟩⟩
          · obtain ⟨k, rfl⟩ : ∃ m, k = m + 2 := ⟨k - 2, by omega⟩
            show spec_frWire.l0 (k + 1 + 1) l acc s (i : Int) = some v
            have fin : spec_frWire.j1 (k + 1) l acc s (i : Int) false = some v := by
              simp only [spec_frWire.j1]
              rw [if_neg (by decide), hw1]; exact g1 k (by omega)
            simp only [spec_frWire.l0]
            rw [hw, if_pos (by omega), if_pos (by omega), if_pos (by omega), spec_flag, Option.bind_some, Int.toNat_natCast, Int.toNat_natCast, l1Same_eq (by omega) (by omega), decide_eq_true hf, Option.bind_some, if_pos rfl]
            rcases hst with ⟨rfl, rfl⟩ | ⟨p, rfl, rfl, hp⟩
            · rw [if_neg (by decide)]; exact fin
            · have h8 : ¬ p + 8 < i := fun h8 => hlong ⟨p, rfl, rfl, h8⟩
              have c1 : (p : Int) ≥ 0 := Int.natCast_nonneg p
              have c2 : ¬ ((i : Int) > ((p + 8 : Nat) : Int)) := fun h => h8 (Int.ofNat_lt.mp h)
              have hwp : wrap64 ((p : Int) + 8) = ((p + 8 : Nat) : Int) := by rw [wrap_id] <;> omega
              rw [if_pos c1, hwp, decide_eq_false c2]; exact fin
          · obtain ⟨k, rfl⟩ : ∃ m, k = m + 2 := ⟨k - 2, by omega⟩
            show impl_FramesOnWire.l0 (k + 1 + 1) l acc t (i : Int) = some (v, true)
            have fin : impl_FramesOnWire.j1 (k + 1) l acc t (i : Int) false = some (v, true) := by
              simp only [impl_FramesOnWire.j1]
              rw [if_neg (by decide), hw, hw1]; exact g2 k (by omega)
            simp only [impl_FramesOnWire.l0]
            rw [hw, if_pos (by omega), if_pos (by omega), if_pos (by omega), impl_flag_eq, Option.bind_some, Int.toNat_natCast, Int.toNat_natCast, slicesEq_eq (by omega) (by omega), decide_eq_true hf, Option.bind_some, if_pos rfl]
            rcases hst with ⟨rfl, rfl⟩ | ⟨p, rfl, rfl, hp⟩
            · rw [if_neg (by decide)]; exact fin
            · have : ¬ p + 8 < i := fun h8 => hlong ⟨p, rfl, rfl, h8⟩
              rw [if_pos (by omega), decide_eq_false (by omega)]; exact fin
      · -- no flag
        obtain ⟨v, v1, v2, ⟨K1, g1⟩, ⟨K2, g2⟩⟩ := ih (i + 1) s t acc (by omega) (hst.imp id (fun ⟨p, a, b, c⟩ => ⟨p, a, b, by omega⟩)) (by omega) hm
        simp only at g1 g2
        refine ⟨v, v1, v2, ⟨K1 + 402, fun k hk => ?_⟩, ⟨K2 + 402, fun k hk => ?_⟩⟩
        · obtain ⟨k, rfl⟩ : ∃ m, k = m + 1 := ⟨k - 1, by omega⟩
          show spec_frWire.l0 (k + 1) l acc s (i : Int) = some v
          simp only [spec_frWire.l0]
          rw [hw, if_pos (by omega), if_pos (by omega), if_pos (by omega), spec_flag, Option.bind_some, Int.toNat_natCast, Int.toNat_natCast, l1Same_eq (by omega) (by omega), decide_eq_false hf, Option.bind_some, if_neg (by decide), hw1]
          exact g1 k (by omega)
        · obtain ⟨k, rfl⟩ : ∃ m, k = m + 1 := ⟨k - 1, by omega⟩
          show impl_FramesOnWire.l0 (k + 1) l acc t (i : Int) = some (v, true)
          simp only [impl_FramesOnWire.l0]
          rw [hw, if_pos (by omega), if_pos (by omega), if_pos (by omega), impl_flag_eq, Option.bind_some, Int.toNat_natCast, Int.toNat_natCast, slicesEq_eq (by omega) (by omega), decide_eq_false hf, Option.bind_some, if_neg (by decide), hw1]
          exact g2 k (by omega)
    · refine ⟨acc, by omega, hm, ev_end (fun k => ?_), ev_end (fun k => ?_)⟩
      · simp only [spec_frWire.l0]
        rw [hw, if_neg (by omega)]
      · simp only [impl_FramesOnWire.l0]
        rw [hw, if_neg (by omega)]
theorem both (l : List Int) (hn : l.length ≤ 1048576) : ∃ v : List S34 × Bool, v.1.length ≤ 400 ∧ (∀ x ∈ v.1, x.f3.length ≤ 40) ∧ Ev (fun k => spec_FramesOnWire.f k l) v ∧ Ev (fun k => impl_FramesOnWire.f k l) v := by
  cases hb : bitsB l with
  | false =>
    refine ⟨([], false), by simp, by simp, ⟨l.length + 1, fun k hk => ?_⟩, ⟨0, fun k hk => ?_⟩⟩
    · show spec_FramesOnWire.f k l = _
      unfold spec_FramesOnWire.f; rw [spec_frAre_eq (k := k) hn (by omega), hb]; rfl
    · show impl_FramesOnWire.f k l = _
      unfold impl_FramesOnWire.f; rw [impl_areBits_eq, hb]; rfl
  | true =>
    obtain ⟨v, v1, v2, ⟨K1, g1⟩, ⟨K2, g2⟩⟩ := wires l (bitsB_mem hb) (bitsB_len hb) l.length 0 (-1) (-1) [] (by omega) (.inl ⟨rfl, rfl⟩) (by simp) (by simp)
    simp only at g1 g2
    refine ⟨(v, true), v1, v2, ⟨K1 + l.length + 1, fun k hk => ?_⟩, ⟨K2, fun k hk => ?_⟩⟩
    · show spec_FramesOnWire.f k l = _
      unfold spec_FramesOnWire.f spec_frWire.f
      rw [spec_frAre_eq (k := k) hn (by omega), hb, Option.bind_some, if_pos rfl]
      have := g1 k (by omega)
      rw [show ((0 : Nat) : Int) = 0 from rfl] at this
      rw [this]; rfl
    · show impl_FramesOnWire.f k l = _
      unfold impl_FramesOnWire.f
      rw [impl_areBits_eq, hb, Option.bind_some, if_pos rfl]
      exact g2 k (by omega)
theorem rdF_nat (l : List S34) {i : Nat} (h : i < l.length) : rd_T34 l (i : Int) = l[i] := by simp [rd_T34, h]
theorem eqFrameS_loop (l : List S34) (hn : l.length ≤ 1048576) (hr : ∀ x ∈ l, x.f3.length ≤ 40) : ∀ (d i k : Nat), i + d = l.length → d + 60 < k → laws_eqFrameS.l0 k l l (i : Int) = some true := by
  intro d
  induction d with
  | zero =>
    intro i k h hk
    obtain ⟨k, rfl⟩ : ∃ m, k = m + 1 := ⟨k - 1, by omega⟩
    simp only [laws_eqFrameS.l0]
    rw [if_neg (by omega)]
  | succ d ih =>
    intro i k h hk
    obtain ⟨k, rfl⟩ : ∃ m, k = m + 1 := ⟨k - 1, by omega⟩
    have hi : i < l.length := by omega
    have hx := hr l[i] (List.getElem_mem hi)
    simp only [laws_eqFrameS.l0]
    rw [if_pos (by omega), if_pos (by omega), if_pos (by omega), rdF_nat l hi, eqFrame_refl (by omega) (by omega), Option.bind_some, if_pos rfl, wrap_succ hi (by omega)]
    exact ih (i + 1) k (by omega) (by omega)
theorem eqFrameS_refl {k : Nat} {l : List S34} (hn : l.length ≤ 1048576) (hr : ∀ x ∈ l, x.f3.length ≤ 40) (hk : l.length + 60 < k) : laws_eqFrameS.f k l l = some true := by
  unfold laws_eqFrameS.f
  rw [if_pos rfl]
  exact eqFrameS_loop l hn hr l.length 0 k (by omega) hk
theorem fr_sum (l : List S34) (hr : ∀ x ∈ l, x.f3.length ≤ 40) : 0 ≤ laws_markFrameS.sum l ∧ laws_markFrameS.sum l ≤ 43 * (l.length : Int) := by
  induction l with
  | nil => simp [laws_markFrameS.sum]
  | cons x l ih =>
    have := ih (fun y hy => hr y (by simp [hy]))
    have h0 := hr x (by simp)
    rw [laws_markFrameS.sum, List.length_cons]; omega
theorem heldFrameS_loop : ∀ (rest pre : List S34) (m : Int) (k : Nat), (∀ x ∈ rest, x.f3.length ≤ 40) → 0 ≤ m → m + 43 * (rest.length : Int) ≤ 1000000000 → pre.length + rest.length ≤ 4096 → rest.length + 60 < k →
    laws_heldFrameS.l0 k (pre ++ laws_markFrameS.rows m rest) m (pre.length : Int) = some (m + laws_markFrameS.sum rest) := by
  intro rest
  induction rest with
  | nil =>
    intro pre m k _ _ _ _ hk
    obtain ⟨k, rfl⟩ : ∃ q, k = q + 1 := ⟨k - 1, by omega⟩
    simp only [laws_heldFrameS.l0]
    rw [if_neg (by simp [laws_markFrameS.rows]), laws_markFrameS.sum, Int.add_zero]
  | cons x rest ih =>
    intro pre m k hr h0 hm hn hk
    obtain ⟨k, rfl⟩ : ∃ q, k = q + 1 := ⟨k - 1, by omega⟩
    have hb := hr x (by simp)
    rw [List.length_cons] at hm hn hk
    have w1 : wrap64 (m + 1) = m + 1 := wrap_id (by omega) (by omega)
    have w2 : wrap64 (m + 1 + 1) = m + 1 + 1 := wrap_id (by omega) (by omega)
    have w3 : wrap64 (m + 1 + 1 + 1) = m + 1 + 1 + 1 := wrap_id (by omega) (by omega)
    have e : rd_T34 (pre ++ laws_markFrameS.fr m x :: laws_markFrameS.rows (m + 1 + 1 + 1 + (x.f3.length : Int)) rest) (pre.length : Int) = laws_markFrameS.fr m x := by
      simp [rd_T34]
    rw [laws_markFrameS.rows]
    simp only [laws_heldFrameS.l0]
    rw [if_pos (by simp only [List.length_append, List.length_cons]; omega), if_pos (by omega), e, w1, w2, w3, if_pos (show (laws_markFrameS.fr m x).f0 = m from rfl), if_pos (show (laws_markFrameS.fr m x).f1 = m + 1 from rfl), if_pos (show (laws_markFrameS.fr m x).f2 = m + 1 + 1 from rfl)]
    have hh : laws_heldIntS.f k (laws_markFrameS.fr m x).f3 (m + 1 + 1 + 1) = some (m + 1 + 1 + 1 + (x.f3.length : Int)) := heldIntS_eq (n := x.f3.length) (by omega) (by omega) (by omega) (by omega)
    rw [hh, Option.bind_some, if_neg (by omega), show wrap64 ((pre.length : Int) + 1) = ((pre.length + 1 : Nat) : Int) from by rw [wrap_id] <;> omega]
    have := ih (pre ++ [laws_markFrameS.fr m x]) (m + 1 + 1 + 1 + (x.f3.length : Int)) k (fun y hy => hr y (by simp [hy])) (by omega) (by omega) (by simp; omega) (by omega)
    rw [List.append_assoc, List.length_append] at this
    rw [laws_markFrameS.sum, show m + (3 + (x.f3.length : Int) + laws_markFrameS.sum rest) = m + 1 + 1 + 1 + (x.f3.length : Int) + laws_markFrameS.sum rest from by omega]
    exact this
theorem heldFrameS_eq {k : Nat} {l : List S34} (hn : l.length ≤ 4096) (hr : ∀ x ∈ l, x.f3.length ≤ 40) (hk : l.length + 60 < k) : laws_heldFrameS.f k (laws_markFrameS.rows 1 l) 1 = some (1 + laws_markFrameS.sum l) := by
  unfold laws_heldFrameS.f
  exact heldFrameS_loop l [] 1 k hr (by omega) (by omega) (by simpa using hn) hk
theorem markFrameS_eq {l : List S34} (hn : l.length ≤ 4096) (hr : ∀ x ∈ l, x.f3.length ≤ 40) : laws_markFrameS.f l 1 = some (1 + laws_markFrameS.sum l, laws_markFrameS.rows 1 l) := by
  unfold laws_markFrameS.f
  rw [if_pos ⟨by omega, List.all_eq_true.2 (fun x h => by have := hr x h; simp; omega), by omega, by omega⟩]
theorem FnExactFramesOnWire : FnExactFramesOnWirePure := by
  intro l _ _
  by_cases hl : (l.length : Int) > 1048576
  · exact ⟨0, by unfold laws_FnExactFramesOnWire.f; rw [if_pos hl]⟩
  · have hn : l.length ≤ 1048576 := by omega
    obtain ⟨⟨v, ok⟩, hv, hr, ⟨K1, h1⟩, ⟨K2, h2⟩⟩ := both l hn
    simp only at h1 h2 hv hr
    have hs := fr_sum v hr
    refine ⟨K1 + K2 + l.length + v.length + 100, ?_⟩
    unfold laws_FnExactFramesOnWire.f
    rw [if_neg hl, toIntS_eq hn (by omega), Option.bind_some, h1 _ (by omega), Option.bind_some, h2 _ (by omega), Option.bind_some]
    dsimp only
    rw [eqFrameS_refl (by omega) hr (by omega), Option.bind_some, eqIntS_refl hn (by omega), Option.bind_some, markIntS_eq (by omega) (by omega) hn (by omega), Option.bind_some, markFrameS_eq (by omega) hr, Option.bind_some]
    dsimp only
    rw [heldFrameS_eq (by omega) hr (by omega), Option.bind_some]
    exact if_pos ⟨rfl, rfl, rfl, by omega, by omega, rfl⟩

end Go.Proofs.Ytggempkfkjjlaaa.Pure
