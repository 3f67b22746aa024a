/- FnExactHasCheck: the program's answer is the reference's, as plain functions over numbers and lists; no condition beyond the sizes that every value has. -/
import Derived.Test.YtggempkfkjjlaaaPFnExactHasCheckx2
namespace Go.Proofs.Ytggempkfkjjlaaa.Pure
open Go.RowKit Go.Proofs.Ytggempkfkjjlaaa.PFnExactHasCheck Go.Proofs.YtggempkfkjjlaaaW.PrintWords Go.Proofs.YtggempkfkjjlaaaW.PrintLast

/- It reaches: laws_toIntS.f, laws_eqIntS.f, spec_l1In.f, spec_l1All.f, spec_frBytes.f, spec_frCheck.f, spec_frHas.f, spec_HasCheck.f, impl_allWithin.f, impl_areBytes.f, impl_check.f, impl_HasCheck.f, laws_FnExactHasCheck.f -/
def FnExactHasCheckPure : Prop := ∀ (l0 : List Int), l0.length ≤ maxLen → (∀ x ∈ l0, (Lit.int .i64 x).wf = true) → ∃ k, laws_FnExactHasCheck.f k l0 = some true
set_option linter.unusedSimpArgs false
set_option linter.unusedVariables false
theorem wrap_id {x : Int} (h1 : -9223372036854775808 ≤ x) (h2 : x ≤ 9223372036854775807) : wrap64 x = x := by unfold wrap64; omega
theorem wrap_succ {i n : Nat} (h : i < n) (hn : n ≤ 4611686018427387904) : wrap64 ((i : Int) + 1) = ((i + 1 : Nat) : Int) := by rw [wrap_id] <;> omega
theorem rd_nat (l : List Int) {i : Nat} (h : i < l.length) : rd l (i : Int) = l[i] := by simp [rd, h]
theorem rd_mem (l : List Int) {i : Nat} (h : i < l.length) : rd l (i : Int) ∈ l := by rw [rd_nat l h]; exact List.getElem_mem h
/-- One round, and the end. -/
theorem ev_end {α : Type} {g : Nat → Option α} {r : α} (h : ∀ k, g (k + 1) = some r) : Ev g r := Ev.step h (Ev.now r)
theorem ev_of {α : Type} {g : Nat → Option α} {r : α} (h : ∀ k, g k = some r) : Ev g r := ⟨0, fun k _ => h k⟩
theorem ev_eq {α : Type} {g : Nat → Option α} {r r' : α} (h : Ev g r) (e : r = r') : Ev g r' := e ▸ h

theorem spec_l1In_eq (a b c : Int) : spec_l1In.f a b c = some (decide (b ≤ a ∧ a ≤ c)) := by
  unfold spec_l1In.f
  by_cases h : b ≤ a <;> simp [h]

theorem l1All_loop (lo hi : Int) (l : List Int) (hn : l.length ≤ 1048576) : ∀ (d i k : Nat), i + d = l.length → d < k → spec_l1All.l0 k lo hi l (l.length : Int) (i : Int) = some ((l.drop i).all fun x => decide (lo ≤ x ∧ x ≤ hi)) := by
  intro d
  induction d with
  | zero =>
    intro i k h hk
    obtain ⟨k, rfl⟩ : ∃ m, k = m + 1 := ⟨k - 1, by omega⟩
    simp only [spec_l1All.l0]
    rw [if_neg (by omega), List.drop_of_length_le (by omega)]
    rfl
  | succ d ih =>
    intro i k h hk
    obtain ⟨k, rfl⟩ : ∃ m, k = m + 1 := ⟨k - 1, by omega⟩
    have hlt : i < l.length := by omega
    simp only [spec_l1All.l0, spec_l1In_eq, Option.bind_some]
    rw [if_pos (by omega), if_pos (by omega), if_pos (by omega), rd_nat l hlt, wrap_succ hlt (by omega), ih (i + 1) k (by omega) (by omega), List.drop_eq_getElem_cons hlt, List.all_cons]
    by_cases c : lo ≤ l[i] ∧ l[i] ≤ hi <;> simp [c]
theorem spec_l1All_eq {k : Nat} {l : List Int} {lo hi : Int} (hn : l.length ≤ 1048576) (hk : l.length < k) : spec_l1All.f k l lo hi = some (l.all fun x => decide (lo ≤ x ∧ x ≤ hi)) := by
  unfold spec_l1All.f
  simpa using l1All_loop lo hi l hn l.length 0 k (by omega) hk

/-- What both call bytes. -/
def bytesB (l : List Int) : Bool := decide (l.length ≤ 40) && l.all fun x => decide (0 ≤ x ∧ x ≤ 255)
theorem spec_frBytes_eq {k : Nat} {l : List Int} (hn : l.length ≤ 1048576) (hk : l.length < k) : spec_frBytes.f k l = some (bytesB l) := by
  unfold spec_frBytes.f bytesB
  rw [spec_l1All_eq hn hk]
  by_cases h : (l.length : Int) ≤ 40
  · simp [show l.length ≤ 40 by omega, h]
  · simp [show ¬ l.length ≤ 40 by omega, h]
theorem impl_areBytes_eq (l : List Int) : impl_areBytes.f l = some (bytesB l) := by
  unfold impl_areBytes.f impl_allWithin.f bytesB
  by_cases h : (l.length : Int) ≤ 40
  · simp [show l.length ≤ 40 by omega, h]
  · simp [show ¬ l.length ≤ 40 by omega, h]
theorem bytesB_len {l : List Int} (h : bytesB l = true) : l.length ≤ 40 := by simp [bytesB] at h; exact h.1
theorem bytesB_mem {l : List Int} (h : bytesB l = true) : ∀ x ∈ l, 0 ≤ x ∧ x ≤ 255 := by simp [bytesB] at h; exact h.2

theorem xor_nat {a b : Nat} (ha : a < 4294967296) (hb : b < 4294967296) : Go.bits .xor .i64 (a : Int) (b : Int) = ((a ^^^ b : Nat) : Int) := by
  have ha' : a % 2 ^ 64 = a := Nat.mod_eq_of_lt (by omega)
  have hb' : b % 2 ^ 64 = b := Nat.mod_eq_of_lt (by omega)
  have hx : a ^^^ b < 4294967296 := Nat.xor_lt_two_pow (n := 32) ha hb
  have e : Go.bits .xor .i64 (a : Int) (b : Int) = IntKind.i64.wrap (((a ^^^ b : Nat)) : Int) := by
    simp only [bits, BitVec.ofInt_natCast, BitVec.toNat_xor, BitVec.toNat_ofNat]
    rw [show IntKind.i64.bits = 64 from rfl, ha', hb']
  rw [e, IntKind.wrap_i64]
  omega
/-- One step of the check's division, on a byte. -/
def crcStep (r : Nat) : Nat := if r * 2 > 255 then (r * 2 - 256) ^^^ 7 else r * 2
theorem crcStep_lt {r : Nat} (h : r < 256) : crcStep r < 256 := by
  unfold crcStep
  split
  · exact Nat.xor_lt_two_pow (n := 8) (by omega) (by omega)
  · omega
theorem crc_263 : ∀ x : Fin 256, 128 ≤ x.val → (x.val * 2) ^^^ 263 = (x.val * 2 - 256) ^^^ 7 := by decide +kernel
def crcIter : Nat → Nat → Nat
  | 0, r => r
  | d + 1, r => crcIter d (crcStep r)
theorem crcIter_lt : ∀ (d : Nat) {r : Nat}, r < 256 → crcIter d r < 256
  | 0, _, h => h
  | d + 1, _, h => crcIter_lt d (crcStep_lt h)
/-- The check of bytes, from a rest on. -/
def crcOf (n : Nat) : Nat → List Int → Nat
  | r, [] => r
  | r, b :: t => crcOf n (crcIter n (r ^^^ b.toNat)) t
theorem crcOf_cons (n r : Nat) (b : Int) (t : List Int) : crcOf n r (b :: t) = crcOf n (crcIter n (r ^^^ b.toNat)) t := rfl
theorem byte_nat {l : List Int} (hb : ∀ x ∈ l, 0 ≤ x ∧ x ≤ 255) {i : Nat} (hi : i < l.length) : ∃ b : Nat, l[i] = (b : Int) ∧ b < 256 := by
  have := hb l[i] (List.getElem_mem hi)
  exact ⟨l[i].toNat, by omega, by omega⟩
theorem crcOf_lt : ∀ (l : List Int) {r : Nat}, r < 256 → (∀ x ∈ l, 0 ≤ x ∧ x ≤ 255) → crcOf 8 r l < 256
  | [], _, h, _ => h
  | b :: t, r, h, hb => by
    have := hb b (by simp)
    rw [crcOf_cons]
    exact crcOf_lt t (crcIter_lt 8 (Nat.xor_lt_two_pow (n := 8) h (by omega))) (fun x hx => hb x (by simp [hx]))

theorem spec_check_l1 (l : List Int) (n i : Int) (v : Int) : ∀ (d j r : Nat), j + d = 8 → r < 256 → Ev (fun k => spec_frCheck.l0 k (crcIter d r : Int) l n (wrap64 (i + 1))) v → Ev (fun k => spec_frCheck.l1 k (r : Int) (j : Int) l n i) v := by
  intro d
  induction d with
  | zero =>
    intro j r h hr hv
    refine Ev.step (fun k => ?_) hv
    simp only [spec_frCheck.l1]
    rw [if_neg (by omega)]; simp only [crcIter]
  | succ d ih =>
    intro j r h hr hv
    refine Ev.step (fun k => ?_) (ih (j + 1) (crcStep r) (by omega) (crcStep_lt hr) (by simpa only [crcIter] using hv))
    simp only [spec_frCheck.l1]
    rw [if_pos (by omega), wrap_id (x := (r : Int) * 2) (by omega) (by omega), wrap_id (x := (j : Int) + 1) (by omega) (by omega)]
    by_cases c : r * 2 > 255
    · rw [if_pos (by omega)]
      have e : Int.tmod ((r : Int) * 2) 256 = ((r * 2 - 256 : Nat) : Int) := by
        rw [Int.tmod_eq_emod_of_nonneg (by omega)]; omega
      have e2 : Go.bits .xor .i64 (Int.tmod ((r : Int) * 2) 256) 7 = ((crcStep r : Nat) : Int) := by
        rw [e, show (7 : Int) = ((7 : Nat) : Int) from rfl, xor_nat (by omega) (by omega), crcStep, if_pos c]
      rw [e2, show ((j + 1 : Nat) : Int) = (j : Int) + 1 from by omega]
    · rw [if_neg (by omega)]
      have e2 : (r : Int) * 2 = ((crcStep r : Nat) : Int) := by rw [crcStep, if_neg c]; omega
      rw [e2, show ((j + 1 : Nat) : Int) = (j : Int) + 1 from by omega]
theorem spec_check_l0 (l : List Int) (hb : ∀ x ∈ l, 0 ≤ x ∧ x ≤ 255) (hn : l.length ≤ 1048576) : ∀ (d i r : Nat), i + d = l.length → r < 256 → Ev (fun k => spec_frCheck.l0 k (r : Int) l (l.length : Int) (i : Int)) (crcOf 8 r (l.drop i) : Int) := by
  intro d
  induction d with
  | zero =>
    intro i r h hr
    refine ev_end (fun k => ?_)
    simp only [spec_frCheck.l0]
    rw [if_neg (by omega), List.drop_of_length_le (by omega)]; rfl
  | succ d ih =>
    intro i r h hr
    have hi : i < l.length := by omega
    obtain ⟨b, eb, hb2⟩ := byte_nat hb hi
    have hx : r ^^^ b < 256 := Nat.xor_lt_two_pow (n := 8) hr hb2
    have e : crcOf 8 r (l.drop i) = crcOf 8 (crcIter 8 (r ^^^ b)) (l.drop (i + 1)) := by
      rw [List.drop_eq_getElem_cons hi, crcOf_cons, eb, Int.toNat_natCast]
    have next := ih (i + 1) (crcIter 8 (r ^^^ b)) (by omega) (crcIter_lt 8 hx)
    rw [← e, ← wrap_succ hi (by omega)] at next
    refine Ev.step (fun k => ?_) (spec_check_l1 l (l.length : Int) (i : Int) _ 8 0 (r ^^^ b) rfl hx next)
    simp only [spec_frCheck.l0]
    rw [if_pos (by omega), if_pos (by omega), if_pos (by omega), rd_nat l hi, eb, xor_nat (by omega) (by omega), show ((0 : Nat) : Int) = 0 from rfl]
theorem spec_frCheck_ev {l : List Int} (hb : ∀ x ∈ l, 0 ≤ x ∧ x ≤ 255) (hn : l.length ≤ 1048576) : Ev (fun k => spec_frCheck.f k l) (crcOf 8 0 l : Int) := by
  unfold spec_frCheck.f
  simpa using spec_check_l0 l hb hn l.length 0 0 (by omega) (by omega)

theorem impl_check_l1 (l : List Int) (n i : Int) (v : Int) : ∀ (d j r : Nat), j + d = 8 → r < 256 → Ev (fun k => impl_check.l0 k (crcIter d r : Int) l n (wrap64 (i + 1))) v → Ev (fun k => impl_check.l1 k (r : Int) l n i (j : Int)) v := by
  intro d
  induction d with
  | zero =>
    intro j r h hr hv
    refine Ev.step (fun k => ?_) hv
    simp only [impl_check.l1]
    rw [if_neg (by omega)]; simp only [crcIter]
  | succ d ih =>
    intro j r h hr hv
    refine Ev.step (fun k => ?_) (ih (j + 1) (crcStep r) (by omega) (crcStep_lt hr) (by simpa only [crcIter] using hv))
    simp only [impl_check.l1]
    rw [if_pos (by omega), wrap_id (x := (r : Int) * 2) (by omega) (by omega), wrap_id (x := (j : Int) + 1) (by omega) (by omega)]
    by_cases c : r * 2 > 255
    · rw [if_pos (by omega)]
      have e2 : Go.bits .xor .i64 ((r : Int) * 2) 263 = ((crcStep r : Nat) : Int) := by
        rw [show (263 : Int) = ((263 : Nat) : Int) from rfl, show (r : Int) * 2 = ((r * 2 : Nat) : Int) from by omega, xor_nat (by omega) (by omega), crcStep, if_pos c]
        exact congrArg (Nat.cast : Nat → Int) (crc_263 ⟨r, hr⟩ (by show 128 ≤ r; omega))
      rw [e2, show ((j + 1 : Nat) : Int) = (j : Int) + 1 from by omega]
    · rw [if_neg (by omega)]
      have e2 : (r : Int) * 2 = ((crcStep r : Nat) : Int) := by rw [crcStep, if_neg c]; omega
      rw [e2, show ((j + 1 : Nat) : Int) = (j : Int) + 1 from by omega]
theorem impl_check_l0 (l : List Int) (hb : ∀ x ∈ l, 0 ≤ x ∧ x ≤ 255) (hn : l.length ≤ 1048576) : ∀ (d i r : Nat), i + d = l.length → r < 256 → Ev (fun k => impl_check.l0 k (r : Int) l (l.length : Int) (i : Int)) (crcOf 8 r (l.drop i) : Int) := by
  intro d
  induction d with
  | zero =>
    intro i r h hr
    refine ev_end (fun k => ?_)
    simp only [impl_check.l0]
    rw [if_neg (by omega), List.drop_of_length_le (by omega)]; rfl
  | succ d ih =>
    intro i r h hr
    have hi : i < l.length := by omega
    obtain ⟨b, eb, hb2⟩ := byte_nat hb hi
    have hx : r ^^^ b < 256 := Nat.xor_lt_two_pow (n := 8) hr hb2
    have e : crcOf 8 r (l.drop i) = crcOf 8 (crcIter 8 (r ^^^ b)) (l.drop (i + 1)) := by
      rw [List.drop_eq_getElem_cons hi, crcOf_cons, eb, Int.toNat_natCast]
    have next := ih (i + 1) (crcIter 8 (r ^^^ b)) (by omega) (crcIter_lt 8 hx)
    rw [← e, ← wrap_succ hi (by omega)] at next
    refine Ev.step (fun k => ?_) (impl_check_l1 l (l.length : Int) (i : Int) _ 8 0 (r ^^^ b) rfl hx next)
    simp only [impl_check.l0]
    rw [if_pos (by omega), if_pos (by omega), if_pos (by omega), rd_nat l hi, eb, xor_nat (by omega) (by omega), show ((0 : Nat) : Int) = 0 from rfl]
theorem impl_check_ev {l : List Int} (hb : ∀ x ∈ l, 0 ≤ x ∧ x ≤ 255) (hn : l.length ≤ 1048576) : Ev (fun k => impl_check.f k l) (crcOf 8 0 l : Int) := by
  unfold impl_check.f
  simpa using impl_check_l0 l hb hn l.length 0 0 (by omega) (by omega)

theorem toIntS_loop (l : List Int) (hn : l.length ≤ 1048576) : ∀ (d i k : Nat), i + d = l.length → d < k → laws_toIntS.l0 k l (l.take i ++ List.replicate d 0) (i : Int) = some l := by
  intro d
  induction d with
  | zero =>
    intro i k h hk
    obtain ⟨k, rfl⟩ : ∃ m, k = m + 1 := ⟨k - 1, by omega⟩
    simp only [laws_toIntS.l0]
    rw [if_neg (by omega)]
    simp [List.take_of_length_le (show l.length ≤ i by omega)]
  | succ d ih =>
    intro i k h hk
    obtain ⟨k, rfl⟩ : ∃ m, k = m + 1 := ⟨k - 1, by omega⟩
    have hi : i < l.length := by omega
    have e : (l.take i ++ List.replicate (d + 1) 0).set i (rd l (i : Int)) = l.take (i + 1) ++ List.replicate d 0 := by
      rw [rd_nat l hi, List.set_append_right _ _ (by simp; omega)]
      simp only [List.length_take, Nat.min_eq_left (Nat.le_of_lt hi), Nat.sub_self, List.replicate_succ, List.set_cons_zero]
      rw [List.take_succ_eq_append_getElem hi, List.append_assoc]; rfl
    simp only [laws_toIntS.l0]
    rw [if_pos (by omega), if_pos (by omega), if_pos (by simp; omega), Int.toNat_natCast, e, wrap_succ hi (by omega)]
    exact ih (i + 1) k (by omega) (by omega)
theorem toIntS_eq {k : Nat} {l : List Int} (hn : l.length ≤ 1048576) (hk : l.length < k) : laws_toIntS.f k l = some l := by
  unfold laws_toIntS.f
  rw [if_pos (by omega), if_pos (by omega), Int.toNat_natCast]
  have := toIntS_loop l hn l.length 0 k (by omega) hk
  simpa using this

theorem eqIntS_loop (l : List Int) (hn : l.length ≤ 1048576) : ∀ (d i k : Nat), i + d = l.length → d < k → laws_eqIntS.l0 k l l (i : Int) = some true := by
  intro d
  induction d with
  | zero =>
    intro i k h hk
    obtain ⟨k, rfl⟩ : ∃ m, k = m + 1 := ⟨k - 1, by omega⟩
    simp only [laws_eqIntS.l0]
    rw [if_neg (by omega)]
  | succ d ih =>
    intro i k h hk
    obtain ⟨k, rfl⟩ : ∃ m, k = m + 1 := ⟨k - 1, by omega⟩
    simp only [laws_eqIntS.l0]
    rw [if_pos (by omega), if_pos (by omega), if_pos (by omega), if_pos trivial, wrap_succ (n := l.length) (by omega) (by omega)]
    exact ih (i + 1) k (by omega) (by omega)
theorem eqIntS_refl {k : Nat} {l : List Int} (hn : l.length ≤ 1048576) (hk : l.length < k) : laws_eqIntS.f k l l = some true := by
  unfold laws_eqIntS.f
  rw [if_pos rfl]
  exact eqIntS_loop l hn l.length 0 k (by omega) hk

theorem both (l : List Int) (hn : l.length ≤ 1048576) : ∃ v, Ev (fun k => spec_HasCheck.f k l) v ∧ Ev (fun k => impl_HasCheck.f k l) v := by
  cases hb : bytesB l with
  | false =>
    refine ⟨(false, false), ⟨l.length + 1, fun k hk => ?_⟩, ⟨0, fun k hk => ?_⟩⟩
    · show spec_HasCheck.f k l = _
      unfold spec_HasCheck.f; rw [spec_frBytes_eq (k := k) hn (by omega), hb]; rfl
    · show impl_HasCheck.f k l = _
      unfold impl_HasCheck.f; rw [impl_areBytes_eq, hb]; rfl
  | true =>
    by_cases h0 : l.length = 0
    · refine ⟨(false, false), ⟨l.length + 1, fun k hk => ?_⟩, ⟨0, fun k hk => ?_⟩⟩
      · show spec_HasCheck.f k l = _
        unfold spec_HasCheck.f
        rw [spec_frBytes_eq (k := k) hn (by omega), hb, Option.bind_some, if_pos rfl, if_pos (by omega)]
      · show impl_HasCheck.f k l = _
        unfold impl_HasCheck.f
        rw [impl_areBytes_eq, hb, Option.bind_some, if_pos rfl, if_pos (by rw [wrap_id] <;> omega)]
    · have ht : ∀ x ∈ l.take (l.length - 1), 0 ≤ x ∧ x ≤ 255 := fun x hx => bytesB_mem hb x (List.mem_of_mem_take hx)
      have htl : (l.take (l.length - 1)).length ≤ 1048576 := by simp; omega
      obtain ⟨K1, h1⟩ := spec_frCheck_ev ht htl
      obtain ⟨K2, h2⟩ := impl_check_ev ht htl
      simp only at h1 h2
      have e : wrap64 ((l.length : Int) - 1) = ((l.length - 1 : Nat) : Int) := by rw [wrap_id] <;> omega
      refine ⟨((crcOf 8 0 (l.take (l.length - 1)) : Int) == rd l ((l.length - 1 : Nat) : Int), true), ⟨K1 + l.length + 1, fun k hk => ?_⟩, ⟨K2, fun k hk => ?_⟩⟩
      · show spec_HasCheck.f k l = _
        unfold spec_HasCheck.f spec_frHas.f
        rw [spec_frBytes_eq (k := k) hn (by omega), hb, Option.bind_some, if_pos rfl, if_neg (by omega), e, if_pos (by omega), if_pos (by omega), if_pos (by omega), Int.toNat_natCast, h1 k (by omega), Option.bind_some, if_pos (by omega)]; rfl
      · show impl_HasCheck.f k l = _
        unfold impl_HasCheck.f
        rw [impl_areBytes_eq, hb, Option.bind_some, if_pos rfl, e, if_neg (by omega), if_pos (by omega), if_pos (by omega), Int.toNat_natCast, h2 k (by omega), Option.bind_some, if_pos (by omega)]
theorem FnExactHasCheck : FnExactHasCheckPure := by
  intro l _ _
  by_cases hl : (l.length : Int) > 1048576
  · exact ⟨0, by unfold laws_FnExactHasCheck.f; rw [if_pos hl]⟩
  · have hn : l.length ≤ 1048576 := by omega
    obtain ⟨v, ⟨K1, h1⟩, ⟨K2, h2⟩⟩ := both l hn
    refine ⟨K1 + K2 + l.length + 10, ?_⟩
    simp (disch := omega) [laws_FnExactHasCheck.f, laws_FnExactHasCheck.j0, toIntS_eq hn, eqIntS_refl hn, h1, h2]

end Go.Proofs.Ytggempkfkjjlaaa.Pure
