/- Printed by wip/tools/pr.py: the walks of the functions that a law reaches; not trusted, Lean checks it. No condition. -/
import Derived.Test.YtgminjippechkaaPFnExactOrderOfArrivalx0
import Derived.Test.YtgminjippechkaaPFnExactOrderOfArrivalx1
namespace Go.Proofs.Ytgminjippechkaa.PFnExactOrderOfArrival
open Go.RowKit Go.Proofs.YtgminjippechkaaW.PrintWords Go.Proofs.YtgminjippechkaaW.PrintLast Go.Proofs.YtgminjippechkaaW.PrintMore
attribute [local go_sem] max2_int min2_int max_two min_two max_three min_three max_four min_four   -- for this text's walks alone
set_option linter.unusedVariables false
set_option linter.unusedSimpArgs false

/-! ### spec_tkSent: function 49 -/
/-- What a visit makes of the first calls: the list, and how many frames are sent. -/
def tkPass (hold st tick : Int) (cs : List S58) (s : List Int) : Nat → List Int × Int
  | 0 => (s, 0)
  | i + 1 => if (((rd_T58 cs (i : Int)).f1 = st ∧ (rd_T58 cs (i : Int)).f0 ≤ tick) ∧ rd (tkPass hold st tick cs s i).1 (i : Int) < 0) ∧ (tkPass hold st tick cs s i).2 < hold
      then ((tkPass hold st tick cs s i).1.set i (tick + (tkPass hold st tick cs s i).2), (tkPass hold st tick cs s i).2 + 1) else tkPass hold st tick cs s i
/-- The tick and the list behind so many visits. -/
def tkVis (n hold walk : Int) (cs : List S58) : Nat → Int × List Int
  | 0 => (0, List.replicate cs.length (-1))
  | v + 1 => ((tkVis n hold walk cs v).1 + (tkPass hold ((v : Int) % n) (tkVis n hold walk cs v).1 cs (tkVis n hold walk cs v).2 cs.length).2 + walk, (tkPass hold ((v : Int) % n) (tkVis n hold walk cs v).1 cs (tkVis n hold walk cs v).2 cs.length).1)
/-- How many frames a visit sends. -/
def tkCnt (n hold walk : Int) (cs : List S58) (v : Nat) : Int := (tkPass hold ((v : Int) % n) (tkVis n hold walk cs v).1 cs (tkVis n hold walk cs v).2 cs.length).2
/-- When the frames begin. -/
def tkAll (n hold walk : Int) (cs : List S58) : List Int := (tkVis n hold walk cs 1300).2
def tkNeg (s : List Int) : Nat := s.countP (fun x => decide (x < 0))
theorem tk_rd_set (s : List Int) (i : Nat) (x : Int) (j : Nat) (hi : i < s.length) : rd (s.set i x) (j : Int) = if j = i then x else rd s (j : Int) := by
  simp only [rd, Int.toNat_natCast, List.getD_eq_getElem?_getD, List.getElem?_set]
  by_cases c : i = j
  · subst c; simp [hi]
  · rw [if_neg c, if_neg (fun h => c h.symm)]
theorem tkPass_len (hold st tick : Int) (cs : List S58) (s : List Int) : ∀ i, (tkPass hold st tick cs s i).1.length = s.length
  | 0 => rfl
  | i + 1 => by
    rw [tkPass]; split
    · rw [List.length_set]; exact tkPass_len hold st tick cs s i
    · exact tkPass_len hold st tick cs s i
theorem tkPass_cnt (hold st tick : Int) (cs : List S58) (s : List Int) (h : 0 ≤ hold) : ∀ i, 0 ≤ (tkPass hold st tick cs s i).2 ∧ (tkPass hold st tick cs s i).2 ≤ hold
  | 0 => ⟨Int.le_refl _, h⟩
  | i + 1 => by
    have := tkPass_cnt hold st tick cs s h i
    rw [tkPass]; split
    · rename_i c; exact ⟨by show 0 ≤ _ + 1; omega, by have := c.2; show _ + 1 ≤ hold; omega⟩
    · exact this
theorem tkPass_mono (hold st tick : Int) (cs : List S58) (s : List Int) (i : Nat) : (tkPass hold st tick cs s i).2 ≤ (tkPass hold st tick cs s (i + 1)).2 := by
  rw [tkPass]; split
  · show _ ≤ _ + 1; omega
  · exact Int.le_refl _
theorem tkPass_at (hold st tick : Int) (cs : List S58) (s : List Int) (h : 0 ≤ hold) (ht : 0 ≤ tick) : ∀ (i j : Nat), i ≤ s.length → rd (tkPass hold st tick cs s i).1 (j : Int) = rd s (j : Int) ∨ (rd s (j : Int) < 0 ∧ tick ≤ rd (tkPass hold st tick cs s i).1 (j : Int) ∧ rd (tkPass hold st tick cs s i).1 (j : Int) ≤ tick + hold)
  | 0, _, _ => .inl rfl
  | i + 1, j, hi => by
    have ih := tkPass_at hold st tick cs s h ht i j (by omega)
    have hc := tkPass_cnt hold st tick cs s h i
    rw [tkPass]; split
    · rename_i c
      rw [tk_rd_set _ _ _ _ (by rw [tkPass_len]; omega)]
      by_cases e : j = i
      · subst e
        rw [if_pos rfl]
        have c1 := c.1.2
        rcases ih with ih | ih
        · rw [ih] at c1; exact .inr ⟨c1, by omega, by omega⟩
        · omega
      · rw [if_neg e]; exact ih
    · exact ih
theorem tkNeg_set (s : List Int) (i : Nat) (x : Int) (hi : i < s.length) (h0 : rd s (i : Int) < 0) (hx : 0 ≤ x) : tkNeg (s.set i x) + 1 = tkNeg s := by
  induction s generalizing i with
  | nil => simp at hi
  | cons a t ih =>
    match i with
    | 0 =>
      simp only [rd, Int.toNat_natCast, List.getD_cons_zero] at h0
      simp only [tkNeg, List.set_cons_zero, List.countP_cons]
      rw [if_neg (by simp; omega), if_pos (by simpa using h0)]
    | i + 1 =>
      have := ih i (by simpa using hi) (by simpa [rd] using h0)
      simp only [tkNeg, List.set_cons_succ, List.countP_cons] at this ⊢
      omega
theorem tkPass_neg (hold st tick : Int) (cs : List S58) (s : List Int) (h : 0 ≤ hold) (ht : 0 ≤ tick) : ∀ i, i ≤ s.length → (tkNeg (tkPass hold st tick cs s i).1 : Int) + (tkPass hold st tick cs s i).2 = tkNeg s
  | 0, _ => by simp [tkPass]
  | i + 1, hi => by
    have ih := tkPass_neg hold st tick cs s h ht i (by omega)
    have hc := tkPass_cnt hold st tick cs s h i
    rw [tkPass]; split
    · rename_i c
      have := tkNeg_set (tkPass hold st tick cs s i).1 i (tick + (tkPass hold st tick cs s i).2) (by rw [tkPass_len]; omega) c.1.2 (by omega)
      dsimp only
      omega
    · exact ih
theorem tkPass_zero (hold st tick : Int) (cs : List S58) (s : List Int) (h : 0 ≤ hold) : ∀ i, (tkPass hold st tick cs s i).2 = 0 → (tkPass hold st tick cs s i).1 = s
  | 0, _ => rfl
  | i + 1, h0 => by
    have hc := tkPass_cnt hold st tick cs s h i
    rw [tkPass] at h0 ⊢
    split
    · rename_i c; rw [if_pos c] at h0; simp only at h0; omega
    · rename_i c; rw [if_neg c] at h0; exact tkPass_zero hold st tick cs s h i h0
theorem tkPass_fires (hold st tick : Int) (cs : List S58) (s : List Int) (h : 0 < hold) (j : Nat) (h1 : (rd_T58 cs (j : Int)).f1 = st) (h2 : (rd_T58 cs (j : Int)).f0 ≤ tick) (h3 : rd s (j : Int) < 0) : ∀ i, j < i → 0 < (tkPass hold st tick cs s i).2
  | 0, hj => by omega
  | i + 1, hj => by
    have hm := tkPass_mono hold st tick cs s i
    have hc := tkPass_cnt hold st tick cs s (by omega) i
    by_cases e : (tkPass hold st tick cs s i).2 = 0
    · have hs := tkPass_zero hold st tick cs s (by omega) i e
      rcases Nat.lt_or_ge j i with c | c
      · have := tkPass_fires hold st tick cs s h j h1 h2 h3 i c; omega
      · obtain rfl : j = i := by omega
        rw [tkPass, if_pos ⟨⟨⟨h1, h2⟩, by rw [hs]; exact h3⟩, by omega⟩]
        show 0 < _ + 1; omega
    · omega
theorem tkVis_len (n hold walk : Int) (cs : List S58) : ∀ v, (tkVis n hold walk cs v).2.length = cs.length
  | 0 => by simp [tkVis]
  | v + 1 => by rw [tkVis]; show (tkPass _ _ _ _ _ _).1.length = _; rw [tkPass_len]; exact tkVis_len n hold walk cs v
theorem tkCnt_le (n hold walk : Int) (cs : List S58) (h : 1 ≤ hold ∧ hold ≤ 10) (v : Nat) : 0 ≤ tkCnt n hold walk cs v ∧ tkCnt n hold walk cs v ≤ 10 := by
  have := tkPass_cnt hold ((v : Int) % n) (tkVis n hold walk cs v).1 cs (tkVis n hold walk cs v).2 (by omega) cs.length
  unfold tkCnt; omega
theorem tkVis_tick (n hold walk : Int) (cs : List S58) (v : Nat) : (tkVis n hold walk cs (v + 1)).1 = (tkVis n hold walk cs v).1 + tkCnt n hold walk cs v + walk := rfl
theorem tkVis_list (n hold walk : Int) (cs : List S58) (v : Nat) : (tkVis n hold walk cs (v + 1)).2 = (tkPass hold ((v : Int) % n) (tkVis n hold walk cs v).1 cs (tkVis n hold walk cs v).2 cs.length).1 := rfl
theorem tkVis_le (n hold walk : Int) (cs : List S58) (h : 1 ≤ hold ∧ hold ≤ 10) (hw : 1 ≤ walk ∧ walk ≤ 10) : ∀ v : Nat, (v : Int) ≤ (tkVis n hold walk cs v).1 ∧ (tkVis n hold walk cs v).1 ≤ 20 * (v : Int)
  | 0 => by simp [tkVis]
  | v + 1 => by
    have := tkVis_le n hold walk cs h hw v
    have hc := tkCnt_le n hold walk cs h v
    rw [tkVis_tick]; omega
theorem tkVis_at (n hold walk : Int) (cs : List S58) (h : 1 ≤ hold ∧ hold ≤ 10) (hw : 1 ≤ walk ∧ walk ≤ 10) (v j : Nat) : rd (tkVis n hold walk cs (v + 1)).2 (j : Int) = rd (tkVis n hold walk cs v).2 (j : Int) ∨ (rd (tkVis n hold walk cs v).2 (j : Int) < 0 ∧ 0 ≤ rd (tkVis n hold walk cs (v + 1)).2 (j : Int) ∧ rd (tkVis n hold walk cs (v + 1)).2 (j : Int) ≤ 20 * (v : Int) + 10) := by
  have ht := tkVis_le n hold walk cs h hw v
  rw [tkVis_list]
  rcases tkPass_at hold ((v : Int) % n) (tkVis n hold walk cs v).1 cs (tkVis n hold walk cs v).2 (by omega) (by omega) cs.length j (by rw [tkVis_len]; exact Nat.le_refl _) with c | c
  · exact .inl c
  · exact .inr ⟨c.1, by omega, by omega⟩
theorem tkVis_val (n hold walk : Int) (cs : List S58) (h : 1 ≤ hold ∧ hold ≤ 10) (hw : 1 ≤ walk ∧ walk ≤ 10) : ∀ (v j : Nat), j < cs.length → rd (tkVis n hold walk cs v).2 (j : Int) = -1 ∨ (0 ≤ rd (tkVis n hold walk cs v).2 (j : Int) ∧ rd (tkVis n hold walk cs v).2 (j : Int) ≤ 20 * (v : Int) + 10)
  | 0, j, hj => .inl (by simp [tkVis, rd, hj])
  | v + 1, j, hj => by
    have ih := tkVis_val n hold walk cs h hw v j hj
    rcases tkVis_at n hold walk cs h hw v j with c | c
    · rw [c]; omega
    · omega
theorem tkVis_neg (n hold walk : Int) (cs : List S58) (h : 1 ≤ hold ∧ hold ≤ 10) (hw : 1 ≤ walk ∧ walk ≤ 10) (v : Nat) : (tkNeg (tkVis n hold walk cs (v + 1)).2 : Int) + tkCnt n hold walk cs v = tkNeg (tkVis n hold walk cs v).2 := by
  have ht := tkVis_le n hold walk cs h hw v
  exact tkPass_neg hold ((v : Int) % n) (tkVis n hold walk cs v).1 cs (tkVis n hold walk cs v).2 (by omega) (by omega) cs.length (by rw [tkVis_len]; exact Nat.le_refl _)
theorem tkVis_fall (n hold walk : Int) (cs : List S58) (h : 1 ≤ hold ∧ hold ≤ 10) (hw : 1 ≤ walk ∧ walk ≤ 10) (v : Nat) : ∀ d, tkNeg (tkVis n hold walk cs (v + d)).2 ≤ tkNeg (tkVis n hold walk cs v).2
  | 0 => Nat.le_refl _
  | d + 1 => by
    have := tkVis_fall n hold walk cs h hw v d
    have h1 := tkVis_neg n hold walk cs h hw (v + d)
    have h2 := tkCnt_le n hold walk cs h (v + d)
    rw [show v + (d + 1) = v + d + 1 from rfl]; omega
theorem tkVis_stays (n hold walk : Int) (cs : List S58) (h : 1 ≤ hold ∧ hold ≤ 10) (hw : 1 ≤ walk ∧ walk ≤ 10) (v j : Nat) : ∀ d, rd (tkVis n hold walk cs (v + d)).2 (j : Int) < 0 → rd (tkVis n hold walk cs v).2 (j : Int) < 0
  | 0, h0 => h0
  | d + 1, h0 => by
    apply tkVis_stays n hold walk cs h hw v j d
    rcases tkVis_at n hold walk cs h hw (v + d) j with c | c
    · rw [show v + (d + 1) = v + d + 1 from rfl, c] at h0; exact h0
    · exact c.1
theorem tkNeg_some (s : List Int) (h : 0 < tkNeg s) : ∃ j, j < s.length ∧ rd s (j : Int) < 0 := by
  obtain ⟨x, hx, h0⟩ := List.countP_pos_iff.1 h
  obtain ⟨j, hj, rfl⟩ := List.getElem_of_mem hx
  exact ⟨j, hj, by simpa [rd, hj] using h0⟩
theorem tkNeg_none (s : List Int) (h : tkNeg s = 0) (j : Nat) (hj : j < s.length) : 0 ≤ rd s (j : Int) := by
  have := List.countP_eq_zero.1 h s[j] (List.getElem_mem hj)
  simpa [rd, hj] using this
/-- All calls are ones of the ring. -/
def tkOk (n : Int) (cs : List S58) : Prop := cs.length ≤ 20 ∧ ∀ j : Nat, j < cs.length → (0 ≤ (rd_T58 cs (j : Int)).f0 ∧ (rd_T58 cs (j : Int)).f0 ≤ 1000) ∧ 0 ≤ (rd_T58 cs (j : Int)).f1 ∧ (rd_T58 cs (j : Int)).f1 < n
theorem tk_turn (n st : Int) (hn : 1 ≤ n) (h0 : 0 ≤ st) (h1 : st < n) (v : Nat) : ∃ d : Nat, (d : Int) < n ∧ ((v + d : Nat) : Int) % n = st := by
  refine ⟨((st - v) % n).toNat, ?_, ?_⟩
  · have a := Int.emod_lt_of_pos (st - v) (show 0 < n by omega)
    have b := Int.emod_nonneg (st - v) (show n ≠ 0 by omega)
    omega
  · have b := Int.emod_nonneg (st - v) (show n ≠ 0 by omega)
    rw [Int.natCast_add, Int.toNat_of_nonneg b, Int.add_emod, Int.emod_emod_of_dvd _ (Int.dvd_refl n), ← Int.add_emod, show (v : Int) + (st - v) = st by omega]
    exact Int.emod_eq_of_lt h0 h1
theorem tkVis_next (n hold walk : Int) (cs : List S58) (hn : 2 ≤ n ∧ n ≤ 12) (h : 1 ≤ hold ∧ hold ≤ 10) (hw : 1 ≤ walk ∧ walk ≤ 10) (hc : tkOk n cs) (v : Nat) (hv : 1001 ≤ v) (h0 : 0 < tkNeg (tkVis n hold walk cs (v + 12)).2) : tkNeg (tkVis n hold walk cs (v + 12)).2 + 1 ≤ tkNeg (tkVis n hold walk cs v).2 := by
  obtain ⟨j, hj, hneg⟩ := tkNeg_some _ h0
  rw [tkVis_len] at hj
  obtain ⟨q1, q2, q3⟩ := hc.2 j hj
  obtain ⟨d, hd, hst⟩ := tk_turn n _ (by omega) q2 q3 v
  have e : v + 12 = (v + d) + (12 - d) := by omega
  have hn2 := tkVis_stays n hold walk cs h hw (v + d) j (12 - d) (by rw [← e]; exact hneg)
  have ht := tkVis_le n hold walk cs h hw (v + d)
  have hf := tkPass_fires hold (((v + d : Nat) : Int) % n) (tkVis n hold walk cs (v + d)).1 cs (tkVis n hold walk cs (v + d)).2 (by omega) j hst.symm (by omega) hn2 cs.length hj
  have h1 := tkVis_neg n hold walk cs h hw (v + d)
  have h2 := tkVis_fall n hold walk cs h hw v d
  have h3 := tkVis_fall n hold walk cs h hw (v + d + 1) (12 - d - 1)
  rw [show v + d + 1 + (12 - d - 1) = v + 12 by omega] at h3
  have h4 : 0 < tkCnt n hold walk cs (v + d) := hf
  omega
theorem tkVis_done (n hold walk : Int) (cs : List S58) (hn : 2 ≤ n ∧ n ≤ 12) (h : 1 ≤ hold ∧ hold ≤ 10) (hw : 1 ≤ walk ∧ walk ≤ 10) (hc : tkOk n cs) (v : Nat) (hv : 1300 ≤ v) : tkNeg (tkVis n hold walk cs v).2 = 0 := by
  have key : ∀ q : Nat, tkNeg (tkVis n hold walk cs (1001 + 12 * q)).2 = 0 ∨ tkNeg (tkVis n hold walk cs (1001 + 12 * q)).2 + q ≤ 20 := by
    intro q
    induction q with
    | zero =>
      right
      have : tkNeg (tkVis n hold walk cs (1001 + 12 * 0)).2 ≤ (tkVis n hold walk cs (1001 + 12 * 0)).2.length := List.countP_le_length
      rw [tkVis_len] at this; have := hc.1; omega
    | succ q ih =>
      rcases Nat.eq_zero_or_pos (tkNeg (tkVis n hold walk cs (1001 + 12 * (q + 1))).2) with c | c
      · exact .inl c
      · have := tkVis_next n hold walk cs hn h hw hc (1001 + 12 * q) (by omega) c
        have e : 1001 + 12 * (q + 1) = 1001 + 12 * q + 12 := by omega
        rw [← e] at this
        right; omega
  have k20 := key 20
  have hf := tkVis_fall n hold walk cs h hw (1001 + 12 * 20) (v - (1001 + 12 * 20))
  rw [show 1001 + 12 * 20 + (v - (1001 + 12 * 20)) = v by omega] at hf
  omega
theorem tkVis_same (n hold walk : Int) (cs : List S58) (h : 1 ≤ hold ∧ hold ≤ 10) (hw : 1 ≤ walk ∧ walk ≤ 10) (v : Nat) (h0 : tkNeg (tkVis n hold walk cs v).2 = 0) : ∀ d, (tkVis n hold walk cs (v + d)).2 = (tkVis n hold walk cs v).2
  | 0 => rfl
  | d + 1 => by
    have ih := tkVis_same n hold walk cs h hw v h0 d
    have h1 := tkVis_neg n hold walk cs h hw (v + d)
    have h2 := tkCnt_le n hold walk cs h (v + d)
    rw [ih, h0] at h1
    rw [show v + (d + 1) = v + d + 1 from rfl, tkVis_list, tkPass_zero hold _ _ cs _ (by omega) cs.length (by show tkCnt n hold walk cs (v + d) = 0; omega), ih]
theorem tk_end (n hold walk : Int) (cs : List S58) (hn : 2 ≤ n ∧ n ≤ 12) (h : 1 ≤ hold ∧ hold ≤ 10) (hw : 1 ≤ walk ∧ walk ≤ 10) (hc : tkOk n cs) (v : Nat) (h0 : -1 ∉ (tkVis n hold walk cs v).2) : (tkVis n hold walk cs v).2 = tkAll n hold walk cs := by
  have hz : tkNeg (tkVis n hold walk cs v).2 = 0 := by
    rcases Nat.eq_zero_or_pos (tkNeg (tkVis n hold walk cs v).2) with c | c
    · exact c
    · obtain ⟨j, hj, hneg⟩ := tkNeg_some _ c
      have hv := tkVis_val n hold walk cs h hw v j (by rwa [tkVis_len] at hj)
      exfalso; apply h0
      have e : rd (tkVis n hold walk cs v).2 (j : Int) = (tkVis n hold walk cs v).2[j] := by simp [rd, hj]
      have : (tkVis n hold walk cs v).2[j] = -1 := by rw [← e]; omega
      rw [← this]; exact List.getElem_mem hj
  unfold tkAll
  rcases Nat.le_total v 1300 with c | c
  · have := tkVis_same n hold walk cs h hw v hz (1300 - v)
    rw [show v + (1300 - v) = 1300 by omega] at this; exact this.symm
  · have := tkVis_same n hold walk cs h hw 1300 (tkVis_done n hold walk cs hn h hw hc 1300 (by omega)) (v - 1300)
    rw [show 1300 + (v - 1300) = v by omega] at this; exact this
theorem tk_some (n hold walk : Int) (cs : List S58) (hn : 2 ≤ n ∧ n ≤ 12) (h : 1 ≤ hold ∧ hold ≤ 10) (hw : 1 ≤ walk ∧ walk ≤ 10) (hc : tkOk n cs) (v : Nat) (h0 : -1 ∈ (tkVis n hold walk cs v).2) : v < 1300 := by
  rcases Nat.lt_or_ge v 1300 with c | c
  · exact c
  · have hz := tkVis_done n hold walk cs hn h hw hc v c
    obtain ⟨j, hj, e⟩ := List.getElem_of_mem h0
    have := tkNeg_none _ hz j hj
    have e2 : rd (tkVis n hold walk cs v).2 (j : Int) = (tkVis n hold walk cs v).2[j] := by simp [rd, hj]
    omega
theorem tkAll_len (n hold walk : Int) (cs : List S58) : (tkAll n hold walk cs).length = cs.length := tkVis_len n hold walk cs 1300
theorem tkAll_val (n hold walk : Int) (cs : List S58) (hn : 2 ≤ n ∧ n ≤ 12) (h : 1 ≤ hold ∧ hold ≤ 10) (hw : 1 ≤ walk ∧ walk ≤ 10) (hc : tkOk n cs) : ∀ x ∈ tkAll n hold walk cs, 0 ≤ x ∧ x ≤ 30000 := by
  intro x hx
  obtain ⟨j, hj, e⟩ := List.getElem_of_mem hx
  have h1 := tkNeg_none _ (tkVis_done n hold walk cs hn h hw hc 1300 (by omega)) j hj
  have h2 := tkVis_val n hold walk cs h hw 1300 j (by rw [tkAll_len] at hj; exact hj)
  have e2 : rd (tkVis n hold walk cs 1300).2 (j : Int) = x := by rw [← e]; simp [rd, tkAll, show j < (tkVis n hold walk cs 1300).2.length from hj]
  omega
theorem tk_below_set {B : Nat} {w W : World} (h : Below B w W) {p : Addr} (hp : B ≤ p.block) (u : Value) : Below B w (W.setCell p u) := h.setCell hp u
theorem tk_var {W w1 : World} {gb t : Nat} {z0 z1 z2 x0 x1 x2 : Value} (hgb : gb = W.heap.size) (hbox : w1.heap[gb]? = some (.cells #[z0, z1, z2] t (0, 0))) (hb : Below W.heap.size W w1) {w2 : World}
    (hw : w2 = ((w1.setCell ⟨gb, 0, none⟩ x0).setCell ⟨gb, 1, none⟩ x1).setCell ⟨gb, 2, none⟩ x2) :
    Below W.heap.size W w2 ∧ w2.cell? ⟨gb, 0, none⟩ = some x0 ∧ w2.cell? ⟨gb, 1, none⟩ = some x1 ∧ w2.cell? ⟨gb, 2, none⟩ = some x2 := by
  have b1 := blk_set hbox 0 x0
  have b2 := blk_set b1 1 x1
  have b3 := blk_set b2 2 x2
  rw [← hw] at b3
  refine ⟨?_, (blk_cell b3 0).trans rfl, (blk_cell b3 1).trans rfl, (blk_cell b3 2).trans rfl⟩
  rw [hw]
  exact tk_below_set (tk_below_set (tk_below_set hb (by show _ ≤ gb; omega) _) (by show _ ≤ gb; omega) _) (by show _ ≤ gb; omega) _
/-- The memory of a run of the reference. -/
def RunAt (g : Nat) (n hold walk : Int) (A : Option Addr) (c : Nat) (cs : List S58) (sv : Value) (w0 : World) (tick : Int) (s : List Int) (vs : List (List Int)) (w : World) : Prop :=
  ∃ vv, w.heap[g]? = some (.cells #[.int .i64 n, .int .i64 hold, .int .i64 walk, .slice A cs.length c, sv, vv, .int .i64 tick] 69 (0, 0)) ∧ (Kd.int .i64).R 3 w w0.heap.size (fun _ => True) sv s ∧ Kd.S (Kd.slice 3 (Kd.int .i64)) 26 w w0.heap.size (fun k => some k ≠ sv.ownBlock) vv vs ∧ Below w0.heap.size w0 w
theorem RunAt.below {g : Nat} {n hold walk : Int} {A : Option Addr} {c : Nat} {cs : List S58} {sv : Value} {w0 : World} {tick : Int} {s : List Int} {vs : List (List Int)} {w w1 : World} (h : RunAt g n hold walk A c cs sv w0 tick s vs w) (hb : Below w.heap.size w w1) : RunAt g n hold walk A c cs sv w0 tick s vs w1 := by
  obtain ⟨vv, h1, h2, h3, h4⟩ := h
  exact ⟨vv, blk_below h1 hb, Kd.R_below h2 hb, Kd.S_below h3 hb, below_then h4 h4.size hb⟩
theorem RunAt.put {g : Nat} {n hold walk : Int} {A : Option Addr} {c : Nat} {cs : List S58} {gs m cap : Nat} {w0 : World} {tick : Int} {s : List Int} {vs : List (List Int)} {w : World} (h : RunAt g n hold walk A c cs (.slice (some ⟨gs, 0, none⟩) m cap) w0 tick s vs w) (i : Nat) (x : Int) :
    RunAt g n hold walk A c cs (.slice (some ⟨gs, 0, none⟩) m cap) w0 tick (s.set i x) vs (w.setCell ⟨gs, i, none⟩ (.int .i64 x)) := by
  obtain ⟨vv, h1, h2, h3, h4⟩ := h
  have hne := Kd.R_ne h2 h1 (by decide)
  have hp := Kd.R_putn h2 (i : Int) x
  have hbs := Kd.R_base h2 gs rfl
  rw [Int.toNat_natCast] at hp
  refine ⟨vv, blk_far h1 (fun e => hne (by rw [e]; rfl)) _, hp, Kd.S_far h3 (fun k hk e => hk (by rw [e]; rfl)) _, tk_below_set h4 hbs _⟩
theorem RunAt.end_ {g : Nat} {n hold walk : Int} {A : Option Addr} {c : Nat} {cs : List S58} {sv vv v1 : Value} {w0 : World} {tick t1 : Int} {s : List Int} {vs vs1 : List (List Int)} {w w1 w3 : World} (hg : w0.heap.size ≤ g)
    (hblk : w3.heap[g]? = some (.cells #[.int .i64 n, .int .i64 hold, .int .i64 walk, .slice A cs.length c, sv, vv, .int .i64 tick] 69 (0, 0)))
    (hS : (Kd.int .i64).R 3 w w0.heap.size (fun _ => True) sv s) (hV : Kd.S (Kd.slice 3 (Kd.int .i64)) 26 w w0.heap.size (fun k => some k ≠ sv.ownBlock) vv vs) (hb : Below w.heap.size w w1)
    (hV1 : Kd.S (Kd.slice 3 (Kd.int .i64)) 26 w3 w0.heap.size (fun k => some k ≠ sv.ownBlock) v1 vs1) (hB : Below w0.heap.size w0 w3) (hG : w1.grownBy w3 vv.ownBlock) :
    RunAt g n hold walk A c cs sv w0 t1 s vs1 ((w3.setCell ⟨g, 5, none⟩ v1).setCell ⟨g, 6, none⟩ (.int .i64 t1)) := by
  have hS3 := Kd.R_over' (Kd.R_below hS hb) (Kd.S_typed (Kd.S_below hV hb)) (by decide) hG
  have b1 := blk_set hblk 5 v1
  have b2 := blk_set b1 6 (.int .i64 t1)
  exact ⟨v1, b2, Kd.R_set (Kd.R_set hS3 hblk (by decide) 5 v1) b1 (by decide) 6 _, Kd.S_set (Kd.S_set hV1 hblk (by decide) 5 v1) b1 (by decide) 6 _, tk_below_set (tk_below_set hB hg _) hg _⟩
theorem tkInfo26 : (Try.prog.info? 26).map (fun i => (i.zero, i.size, i.bytes)) = some (some (.slice none 0 0), 1, 24) := by kernel_rfl
set_option maxHeartbeats 8000000 in
set_option maxRecDepth 100000 in
theorem tkRun_visit (g : Nat) (n hold walk : Int) (A : Option Addr) (c : Nat) (cs : List S58) (tick : Int) (s : List Int) (sv : Value) (vs : List (List Int)) (w0 w : World)
    (hn : 2 ≤ n ∧ n ≤ 12) (hh : 1 ≤ hold ∧ hold ≤ 10) (hw : 1 ≤ walk ∧ walk ≤ 10) (hlen : s.length = cs.length) (hcl : cs.length ≤ 20) (ht : 0 ≤ tick ∧ tick ≤ 1000000) (hvl : vs.length ≤ 100000)
    (hC : Kd.C k58 w0 A cs.length cs) (hcc : cs.length ≤ c) (hg : w0.heap.size ≤ g) (hr : RunAt g n hold walk A c cs sv w0 tick s vs w) :
    Calls Try.prog 61 #[.pointer (some ⟨g, 0, none⟩)] w fun e w' => e = .returned (.tuple #[]) ∧ RunAt g n hold walk A c cs sv w0 (tick + (tkPass hold ((vs.length : Int) % n) tick cs s cs.length).2 + walk) (tkPass hold ((vs.length : Int) % n) tick cs s cs.length).1 (vs ++ [[tick, (vs.length : Int) % n, (tkPass hold ((vs.length : Int) % n) tick cs s cs.length).2]]) w' := by
  have HR := Aside0.mk hr
  obtain ⟨vv, hblk, hS, hV, hB⟩ := hr
  obtain ⟨hn1, hn2⟩ := hn
  have HH := Aside0.mk hh
  obtain ⟨hh1, hh2⟩ := hh
  obtain ⟨hw1, hw2⟩ := hw
  obtain ⟨ht1, ht2⟩ := ht
  obtain ⟨Av, cv, rfl⟩ := Kd.S_slice hV
  have HLEN := Aside0.mk hlen
  have HC := Aside0.mk hC
  have HG := Aside0.mk hg
  have hu69 := Try.underlying69
  have hu58 := Try.underlying58
  have hu29 := Try.underlying29
  have hu26 := Try.underlying26
  have hu48 := Try.underlying48
  have hu31 := Try.underlying31
  have cz0 : w.cell? ⟨g, 0, none⟩ = some (.int .i64 n) := (blk_cell hblk 0).trans rfl
  have cz3 : w.cell? ⟨g, 3, none⟩ = some (.slice A cs.length c) := (blk_cell hblk 3).trans rfl
  have cz5 : w.cell? ⟨g, 5, none⟩ = some (.slice Av vs.length cv) := (blk_cell hblk 5).trans rfl
  have cz6 : w.cell? ⟨g, 6, none⟩ = some (.int .i64 tick) := (blk_cell hblk 6).trans rfl
  clear hlen hS hV hB hC hg hblk
  go_enter Try.func61, Try.ntmps61
  go_wp2
  go_quiet (fail)
  go_wp2
  generalize hst : ((vs.length : Int) % n) = st
  have HST := Aside0.mk hst
  clear hst
  have HR2 := Aside0.mk (RunAt.below HR.out (pw_below_drewN (Below.refl _ _) nq))
  clear HR cz0 cz3 cz5 cz6
  go_loopg [27, 4] cs.length (fun k v27 v4 wr => ∃ i : Nat, v27 = .int .i64 (i : Int) ∧ v4 = .int .i64 (tkPass hold st tick cs s i).2 ∧ Aside0 (i + k = cs.length) ∧ Aside0 (RunAt g n hold walk A c cs sv w0 tick (tkPass hold st tick cs s i).1 vs wr))
  case atStart => exact ⟨0, rfl, rfl, ⟨by omega⟩, HR2⟩
  case round =>
    obtain ⟨i, rfl, rfl, HI, HR⟩ := hrel
    clear HR2
    by_cases hlt : i < cs.length
    · have hcnt := tkPass_cnt hold st tick cs s (by have := HH.out.1; omega) i
      have hpl := tkPass_len hold st tick cs s i
      rw [HLEN.out] at hpl
      obtain ⟨l, m, hp⟩ : ∃ l m, tkPass hold st tick cs s i = (l, m) := ⟨_, _, rfl⟩
      rw [hp] at hcnt hpl HR
      rw [hp]
      dsimp only at hcnt hpl HR ⊢
      have HP := Aside0.mk hp
      clear hp
      have HPL := Aside0.mk hpl
      obtain ⟨hm1, hm2⟩ := hcnt
      obtain ⟨vv2, hblk, hS, hV, hB⟩ := HR.out
      obtain ⟨gs, cap, esv, _, hgs, _⟩ := Kd.R_form hS (by rw [hpl]; omega)
      rw [hpl] at esv
      subst esv
      have ezs := Kd.R_celln (0 : Int) hS (i : Int) (by omega) (by omega)
      rw [Int.toNat_natCast] at ezs
      have hne := Kd.R_ne hS hblk (by decide)
      have p133 : (0 : Int) ≤ (i : Int) := by omega
      have q133 : (i : Int) < (cs.length : Int) := by omega
      obtain ⟨ad, e133, hx0, hx1, hx2⟩ := at_T58 HC.out (i : Int) p133 q133
      cases e133
      rw [Int.toNat_natCast] at hx0 hx1 hx2
      have c12b0 : decide ((i : Int) < (cs.length : Int)) = true := decide_eq_true q133
      have c13b0 : decide ((0 : Int) ≤ (i : Int)) = true := decide_eq_true p133
      replace hx0 := (hB.cell (World.block_lt_of_cell? w0 _ hx0)).trans hx0
      replace hx1 := (hB.cell (World.block_lt_of_cell? w0 _ hx1)).trans hx1
      replace hx2 := (hB.cell (World.block_lt_of_cell? w0 _ hx2)).trans hx2
      clear hS hV hB hblk hpl vv2 hgs
      go_upto_region 5 with (first | ((with_reducible refine gate_dst (N := 6) rfl ?_); refine box_event ?hg (N := 6) ?hd (cs := #[.int .i64 0, .int .i64 0, .int .i64 0]) (t := 58) ?hr ?_; (case hd => rfl); (case hg => rfl); (case hr => first | (go_simp; done) | (go_simp; rfl)); intro gb hgb w1 hbox hb; have HGB := Aside0.mk hgb; have HBOX := Aside0.mk hbox; have HBB := Aside0.mk hb; have hcz0 := (blk_cell hbox 0).trans rfl; have hcz1 := (blk_cell hbox 1).trans rfl; have hcz2 := (blk_cell hbox 2).trans rfl; have hfz0 := blk_frozen hbox 0; have hfz1 := blk_frozen hbox 1; have hfz2 := blk_frozen hbox 2; clear hgb hbox hb))
      generalize hw2 : ((w1.setCell ⟨gb, 0, none⟩ (.int .i64 (rd_T58 cs (i : Int)).f0)).setCell ⟨gb, 1, none⟩ (.int .i64 (rd_T58 cs (i : Int)).f1)).setCell ⟨gb, 2, none⟩ (.int .i64 (rd_T58 cs (i : Int)).f2) = w2
      obtain ⟨hb2, gz0, gz1, _⟩ := tk_var HGB.out HBOX.out HBB.out hw2.symm
      have HR3 := Aside0.mk (RunAt.below HR.out hb2)
      clear HR hw2 HGB HBOX HBB hcz0 hcz1 hcz2 hfz0 hfz1 hfz2 hx0 hx1 hx2 hb2 ezs
      obtain ⟨vv3, hblk, hS, hV3, hB3⟩ := HR3.out
      have ezs : w2.cell? ⟨gs, i, none⟩ = some (.int .i64 (rd l (i : Int))) ∧ w2.frozen? ⟨gs, i, none⟩ = false := Kd.R_celln (0 : Int) hS (i : Int) p133 q133
      obtain ⟨ezs1, ezs2⟩ := ezs
      have cz1 : w2.cell? ⟨g, 1, none⟩ = some (.int .i64 hold) := (blk_cell hblk 1).trans rfl
      have cz4 : w2.cell? ⟨g, 4, none⟩ = some (.slice (some ⟨gs, 0, none⟩) cs.length cap) := (blk_cell hblk 4).trans rfl
      clear hS hblk hV3 hB3 vv3
      generalize hX : rd l (i : Int) = x at ezs1 ⊢
      generalize hF0 : (rd_T58 cs (i : Int)).f0 = f0 at gz0 ⊢
      generalize hF1 : (rd_T58 cs (i : Int)).f1 = f1 at gz1 ⊢
      have HX := Aside0.mk (And.intro hX (And.intro hF0 hF1))
      clear hX hF0 hF1
      by_cases hf : ((f1 = st ∧ f0 ≤ tick) ∧ x < 0) ∧ m < hold
      · have HN : tkPass hold st tick cs s (i + 1) = (l.set i (tick + m), m + 1) := by rw [tkPass, HP.out, HX.out.1, HX.out.2.1, HX.out.2.2]; exact if_pos hf
        have HNX := Aside0.mk HN
        clear HN
        obtain ⟨⟨⟨f1e, f2⟩, f3⟩, f4⟩ := hf
        have d1 : (f1 == st) = true := by simpa using f1e
        have d2 : decide (x < 0) = true := decide_eq_true f3
        have d3 : decide (f0 ≤ tick) = true := decide_eq_true f2
        have d4 : decide (m < hold) = true := decide_eq_true f4
        clear f1e f3 f2
        go_wp2
        go_roundg (gk - 1)
        case measure => have := HI.out; omega
        case rel => exact ⟨i + 1, by first | rfl | go_num, by rw [HNX.out], ⟨by have := HI.out; omega⟩, ⟨by rw [HNX.out]; exact RunAt.put HR3.out i _⟩⟩
      · have HN : tkPass hold st tick cs s (i + 1) = (l, m) := by rw [tkPass, HP.out, HX.out.1, HX.out.2.1, HX.out.2.2]; exact if_neg hf
        have HNX := Aside0.mk HN
        clear HN
        by_cases f1e : f1 = st
        · have d1 : (f1 == st) = true := by simpa using f1e
          by_cases f3 : x < 0
          · have d2 : decide (x < 0) = true := decide_eq_true f3
            by_cases f2 : f0 ≤ tick
            · have d3 : decide (f0 ≤ tick) = true := decide_eq_true f2
              have d4 : decide (m < hold) = false := decide_eq_false fun f4 => hf ⟨⟨⟨f1e, f2⟩, f3⟩, f4⟩
              clear f1e f3 f2 hf
              go_wp2
              go_roundg (gk - 1)
              case measure => have := HI.out; omega
              case rel => exact ⟨i + 1, by first | rfl | go_num, by rw [HNX.out], ⟨by have := HI.out; omega⟩, ⟨by rw [HNX.out]; exact HR3.out⟩⟩
            · have d3 : decide (f0 ≤ tick) = false := decide_eq_false f2
              clear f1e f3 f2 hf
              go_wp2
              go_roundg (gk - 1)
              case measure => have := HI.out; omega
              case rel => exact ⟨i + 1, by first | rfl | go_num, by rw [HNX.out], ⟨by have := HI.out; omega⟩, ⟨by rw [HNX.out]; exact HR3.out⟩⟩
          · have d2 : decide (x < 0) = false := decide_eq_false f3
            clear f1e f3 hf
            go_wp2
            go_roundg (gk - 1)
            case measure => have := HI.out; omega
            case rel => exact ⟨i + 1, by first | rfl | go_num, by rw [HNX.out], ⟨by have := HI.out; omega⟩, ⟨by rw [HNX.out]; exact HR3.out⟩⟩
        · have d1 : (f1 == st) = false := by simpa using f1e
          clear f1e hf
          go_wp2
          go_roundg (gk - 1)
          case measure => have := HI.out; omega
          case rel => exact ⟨i + 1, by first | rfl | go_num, by rw [HNX.out], ⟨by have := HI.out; omega⟩, ⟨by rw [HNX.out]; exact HR3.out⟩⟩
    · have q133 : decide ((i : Int) < (cs.length : Int)) = false := decide_eq_false (by omega)
      obtain rfl : i = cs.length := by have := HI.out; omega
      have hcnt := tkPass_cnt hold st tick cs s (by have := HH.out.1; omega) cs.length
      obtain ⟨l, m, hp⟩ : ∃ l m, tkPass hold st tick cs s cs.length = (l, m) := ⟨_, _, rfl⟩
      rw [hp] at hcnt HR ⊢
      dsimp only at hcnt HR ⊢
      have HP := Aside0.mk hp
      clear hp
      obtain ⟨hm1, hm2⟩ := hcnt
      obtain ⟨vv2, hblk, hS, hV, hB⟩ := HR.out
      have cz2 : wr.cell? ⟨g, 2, none⟩ = some (.int .i64 walk) := (blk_cell hblk 2).trans rfl
      have cz5 : wr.cell? ⟨g, 5, none⟩ = some vv2 := (blk_cell hblk 5).trans rfl
      have HV := Aside0.mk hV
      have HS := Aside0.mk hS
      have HBK := Aside0.mk hblk
      have HB := Aside0.mk hB
      have HL := Aside0.mk hvl
      clear hblk hS hV hB hlt
      go_wp2_with (first
        | ((with_reducible refine gate_dst (N := 81) rfl ?_); refine Kd.R_lit (Kd.int .i64) (w0 := wr) wr.heap.size 3 ?hg (N := 81) ?hd (xs := ([tick, st, m] : List Int)) (inner := [.int .i64 tick, .int .i64 st, .int .i64 m]) (ok := fun k => wr.heap.size ≤ k) (okp := fun _ => False) ?hr ?hp (fun _ hk => hk.elim) (Nat.le_refl _) (Below.refl _ _) (Nat.le_refl _) (by simp) ?_; (case hd => rfl); (case hg => rfl); (case hr => first | (go_simp; done) | (go_simp; rfl)); (case hp => exact (Reps.one (show Kd.M (Kd.int .i64) _ _ _ tick [.int .i64 tick] from rfl) (Reps.one (show Kd.M (Kd.int .i64) _ _ _ st [.int .i64 st] from rfl) (Reps.one (show Kd.M (Kd.int .i64) _ _ _ m [.int .i64 m] from rfl) (Reps.none _ _))))); intro v81 w81 ho hb hg_ hnew_; obtain ⟨A81, c81, e81⟩ := Kd.R_slice ho; subst e81; have HO81 := Aside0.mk ho; have HB81 := Aside0.mk hb; clear ho hb hg_ hnew_)
        | ((with_reducible refine gate_builtin (b := .append) (xs := #[.tmp 77, .tmp 82]) rfl ?_); refine Kd.S_append (Kd.slice 3 (Kd.int .i64)) (w0 := w0) w0.heap.size rfl (.tmp 77) (.tmp 82) 48 26 (.slice none 0 0) 24 rfl Try.underlying48 tkInfo26 rfl (by decide) (by decide) vv2 vs [tick, st, m] [.slice A81 ([tick, st, m] : List Int).length c81] (fun k => some k ≠ sv.ownBlock) (fun k => wr.heap.size ≤ k) rfl rfl ?aP ?aK ?aF ?aO ?aB ?aS ?aL ?_; (case aP => exact Kd.M_row (Kd.R_lower HO81.out HB.out.size)); (case aK => exact (fun k hk => ⟨fun e => by have := Kd.R_lt HS.out k e.symm; omega, fun e => by have := Kd.S_lt HV.out k e.symm; omega⟩)); (case aF => exact (fun k hk e => by have := Kd.R_lt HS.out k e.symm; have := HB81.out.size; omega)); (case aO => exact Kd.S_below (Kd.S_mono (Kd.S_bound HV.out) (fun k hk => ⟨hk.1, by have := hk.2.2.1; omega⟩)) HB81.out); (case aB => exact below_then HB.out HB.out.size HB81.out); (case aS => exact (below_then HB.out HB.out.size HB81.out).size); (case aL => have := HL.out; omega); intro v83 w83 ho hb hg_ hat_; obtain ⟨A83, c83, e83⟩ := Kd.S_slice ho; generalize (vs ++ [[tick, st, m]]).length = N83 at e83; subst e83; have HO83 := Aside0.mk ho; have HB83 := Aside0.mk hb; have HG83 := Aside0.mk hg_; have HBK83 := Aside0.mk (blk_grown (blk_below HBK.out HB81.out) hg_ (Kd.S_ne HV.out HBK.out (by decide))); clear ho hb hg_ hat_; have hcz2 := (blk_cell HBK83.out 2).trans rfl; have hcz5 := (blk_cell HBK83.out 5).trans rfl; have hcz6 := (blk_cell HBK83.out 6).trans rfl; have hfz5 := blk_frozen HBK83.out 5; have hfz6 := blk_frozen HBK83.out 6))
      rw [HST.out, HP.out]
      go_end0
      exact ⟨rfl, RunAt.end_ HG.out HBK83.out HS.out HV.out HB81.out HO83.out HB83.out HG83.out⟩

theorem tk_wrap_succ {i n : Nat} (h : i < n) (hn : n ≤ 4611686018427387904) : wrap64 ((i : Int) + 1) = ((i + 1 : Nat) : Int) := by unfold wrap64; omega
theorem tk_has_loop (x : Int) (l : List Int) (hn : l.length ≤ 1048576) : ∀ (d i k : Nat), i + d = l.length → d < k → spec_l1Has.l0 k x l (l.length : Int) (i : Int) = some (decide (x ∈ l.drop i)) := by
  intro d
  induction d with
  | zero =>
    intro i k h hk
    obtain ⟨k, rfl⟩ : ∃ m, k = m + 1 := ⟨k - 1, by omega⟩
    simp only [spec_l1Has.l0]
    rw [if_neg (by omega), List.drop_of_length_le (by omega)]; simp
  | succ d ih =>
    intro i k h hk
    obtain ⟨k, rfl⟩ : ∃ m, k = m + 1 := ⟨k - 1, by omega⟩
    have hi : i < l.length := by omega
    have e : (x ∈ l.drop i) = (x = l[i] ∨ x ∈ l.drop (i + 1)) := by rw [List.drop_eq_getElem_cons hi, List.mem_cons]
    have er : rd l (i : Int) = l[i] := by simp [rd, hi]
    simp only [spec_l1Has.l0, e]
    rw [if_pos (by omega), if_pos (by omega), if_pos (by omega), er, tk_wrap_succ hi (by omega)]
    by_cases c : x = l[i]
    · rw [if_pos c.symm, decide_eq_true (show x = l[i] ∨ x ∈ l.drop (i + 1) from Or.inl c)]
    · rw [if_neg (fun h => c h.symm), ih (i + 1) k (by omega) (by omega)]
      exact congrArg some (decide_eq_decide.mpr ⟨.inr, fun h => h.resolve_left c⟩)
theorem tk_has (k : Nat) (x : Int) (l : List Int) (hn : l.length ≤ 1048576) (hk : l.length < k) : spec_l1Has.f k l x = some (decide (x ∈ l)) := by
  have := tk_has_loop x l hn l.length 0 k (by omega) hk
  rw [List.drop_zero] at this
  exact this
set_option maxHeartbeats 8000000 in
set_option maxRecDepth 100000 in
theorem tkStart_calls (n hold walk : Int) (A : Option Addr) (c : Nat) (cs : List S58) (w : World) (hcl : cs.length ≤ 20) (hC : Kd.C k58 w A cs.length cs) (hcc : cs.length ≤ c) :
    Calls Try.prog 60 #[.agg #[.int .i64 n, .int .i64 hold, .int .i64 walk], .slice A cs.length c] w fun e w' => ∃ g sv, e = .returned (.pointer (some ⟨g, 0, none⟩)) ∧ w.heap.size ≤ g ∧ RunAt g n hold walk A c cs sv w 0 (List.replicate cs.length (-1)) [] w' := by
  have hu69 := Try.underlying69
  have hu29 := Try.underlying29
  have hu26 := Try.underlying26
  have HB := Aside0.mk (Below.refl w.heap.size w)
  have HCL := Aside0.mk hcl
  clear hC
  go_enter Try.func60, Try.ntmps60
  go_wp2_with (first
    | ((with_reducible refine gate_dst (N := 2) rfl ?_); refine box_event ?hg (N := 2) ?hd (cs := #[.int .i64 n, .int .i64 hold, .int .i64 walk]) (t := 29) ?hr ?_; (case hd => rfl); (case hg => rfl); (case hr => first | (go_simp; done) | (go_simp; rfl)); intro gb hgb w1 hbox hb; have HB1 := Aside0.mk hb; have hcz0 := (blk_cell hbox 0).trans rfl; have hcz1 := (blk_cell hbox 1).trans rfl; have hcz2 := (blk_cell hbox 2).trans rfl; clear hgb hbox hb)
    | ((with_reducible refine gate_dst (N := 9) rfl ?_); refine box_event ?hg (N := 9) ?hd (cs := #[.int .i64 n, .int .i64 hold, .int .i64 walk, .slice A cs.length c, .slice none 0 0, .slice none 0 0, .int .i64 0]) (t := 69) ?hr ?_; (case hd => rfl); (case hg => rfl); (case hr => first | (go_simp; done) | (go_simp; rfl)); intro g hg w2 hbox hb; have HBX := Aside0.mk hbox; have HG := Aside0.mk (show w.heap.size ≤ g by rw [hg]; exact HB1.out.size); have HB2 := Aside0.mk (below_then HB1.out HB1.out.size hb); clear hg hbox hb hcz0 hcz1 hcz2))
  go_loopg [12] cs.length (fun k v12 wr => ∃ (i : Nat) (sv : Value), v12 = .int .i64 (i : Int) ∧ Aside0 (i + k = cs.length) ∧ Aside0 (wr.heap[g]? = some (.cells #[.int .i64 n, .int .i64 hold, .int .i64 walk, .slice A cs.length c, sv, .slice none 0 0, .int .i64 0] 69 (0, 0))) ∧ Aside0 ((Kd.int .i64).R 3 wr w.heap.size (fun _ => True) sv (List.replicate i (-1))) ∧ Aside0 (Below w.heap.size w wr))
  case atStart => exact ⟨0, .slice none 0 0, rfl, ⟨by omega⟩, HBX, ⟨Kd.R_nil _ _ _ _ _⟩, HB2⟩
  case round =>
    obtain ⟨i, sv, rfl, HI, HBK, HS, HBB⟩ := hrel
    clear HBX HB2 HB1
    by_cases hlt : i < cs.length
    · have d1 : decide ((i : Int) < (cs.length : Int)) = true := decide_eq_true (by omega)
      have d2 : decide (i < cs.length) = true := decide_eq_true hlt
      have HLT := Aside0.mk hlt
      have hb1 : (i : Int) ≤ 20 := by omega
      have cz4 := (blk_cell HBK.out 4).trans rfl
      have fz4 := blk_frozen HBK.out 4
      clear hlt
      go_wp2_with (first
        | ((with_reducible refine gate_builtin (b := .append) (xs := #[.tmp 18, .tmp 19]) rfl ?_); refine Kd.R_append (Kd.int .i64) (w0 := w) w.heap.size rfl (.tmp 18) (.tmp 19) 26 3 (.int .i64 0) 8 rfl Try.underlying26 info3 rfl (by decide) (by decide) sv (List.replicate i (-1)) (-1) [.int .i64 (-1)] (fun _ => True) (fun _ => False) rfl rfl ?aP (fun _ hk => hk.elim) (fun _ _ => trivial) ?aO ?aB ?aS ?aL ?_; (case aP => exact rfl); (case aO => exact HS.out); (case aB => exact HBB.out); (case aS => exact HBB.out.size); (case aL => have h1_ := HLT.out; have h2_ := HCL.out; simp; omega); intro v20 w20 ho hb hg_ hat_; obtain ⟨A20, c20, e20⟩ := Kd.R_slice ho; generalize (List.replicate i (-1) ++ [(-1 : Int)]).length = N20 at e20; subst e20; have HO20 := Aside0.mk ho; have HB20 := Aside0.mk hb; have HBK20 := Aside0.mk (blk_grown HBK.out hg_ (Kd.R_ne HS.out HBK.out (by decide))); clear ho hb hg_ hat_; have hcz4 := (blk_cell HBK20.out 4).trans rfl; have hfz4 := blk_frozen HBK20.out 4))
      go_roundg (gk - 1)
      case measure => have := HI.out; have := HLT.out; omega
      case rel => exact ⟨i + 1, _, by first | rfl | go_num, ⟨by have := HI.out; have := HLT.out; omega⟩, ⟨blk_set HBK20.out 4 _⟩, ⟨by rw [List.replicate_succ']; exact Kd.R_set HO20.out HBK20.out (by decide) 4 _⟩, ⟨tk_below_set HB20.out HG.out _⟩⟩
    · have d1 : decide ((i : Int) < (cs.length : Int)) = false := decide_eq_false (by omega)
      have d2 : decide (i < cs.length) = false := decide_eq_false hlt
      have e : i = cs.length := by have := HI.out; omega
      have HS2 := HS.out
      rw [e] at HS2
      have HSS := Aside0.mk HS2
      clear HS HS2 e hlt
      go_wp2
      go_ret
      exact ⟨g, sv, rfl, HG.out, .slice none 0 0, HBK.out, HSS.out, Kd.S_nil _ _ _ _ _, HBB.out⟩
set_option maxHeartbeats 8000000 in
set_option maxRecDepth 100000 in
theorem tkAll_calls (g : Nat) (n hold walk : Int) (A : Option Addr) (c : Nat) (cs : List S58) (sv : Value) (w0 w : World)
    (hn : 2 ≤ n ∧ n ≤ 12) (hh : 1 ≤ hold ∧ hold ≤ 10) (hw : 1 ≤ walk ∧ walk ≤ 10) (hok : tkOk n cs)
    (hC : Kd.C k58 w0 A cs.length cs) (hcc : cs.length ≤ c) (hg : w0.heap.size ≤ g) (hr : RunAt g n hold walk A c cs sv w0 0 (List.replicate cs.length (-1)) [] w) :
    Calls Try.prog 68 #[.pointer (some ⟨g, 0, none⟩)] w fun e w' => e = .returned (.tuple #[]) ∧ ∃ t vs, RunAt g n hold walk A c cs sv w0 t (tkAll n hold walk cs) vs w' := by
  have HR := Aside0.mk hr
  have H0 := Aside0.mk (And.intro hn (And.intro hh (And.intro hw (And.intro hok (And.intro hC (And.intro hcc hg))))))
  have HCL : Aside0 (cs.length ≤ 20) := ⟨hok.1⟩
  clear hr hn hh hw hok hC hcc hg
  have hu69 := Try.underlying69
  go_enter Try.func68, Try.ntmps68
  go_wp2
  go_loopg [2] 1300 (fun k v2 wr => ∃ (v : Nat) (vs : List (List Int)), v2 = .int .i64 (v : Int) ∧ Aside0 (v + k = 1300) ∧ Aside0 (vs.length = v ∧ RunAt g n hold walk A c cs sv w0 (tkVis n hold walk cs v).1 (tkVis n hold walk cs v).2 vs wr))
  case atStart => exact ⟨0, [], rfl, ⟨by omega⟩, ⟨rfl, HR.out⟩⟩
  case round =>
    obtain ⟨v, vs, rfl, HV, HRR⟩ := hrel
    clear HR
    have hv : (v : Int) ≤ 1300 := by have := HV.out; omega
    have d1 : decide ((v : Int) < 40000) = true := decide_eq_true (by omega)
    obtain ⟨hvs, vv, hblk, hS, hVV, hB⟩ := HRR.out
    have cz4 := (blk_cell hblk 4).trans rfl
    obtain ⟨As, css, esv⟩ := Kd.R_slice hS
    subst esv
    obtain ⟨hl, hcs, hCs⟩ := Kd.R_reads' hS
    have HCS := Aside0.mk (And.intro hcs hCs)
    have hlen := tkVis_len n hold walk cs v
    have hhas := tk_has 100 (-1) (tkVis n hold walk cs v).2 (by have := HCL.out; omega) (by have := HCL.out; omega)
    have HT := tkVis_le n hold walk cs H0.out.2.1 H0.out.2.2.1 v
    have HTT := Aside0.mk (And.intro HT (And.intro hlen hvs))
    clear hS hVV hB hblk hl hcs hCs hlen HT hvs
    by_cases hm : -1 ∈ (tkVis n hold walk cs v).2
    · have hlt := tk_some n hold walk cs H0.out.1 H0.out.2.1 H0.out.2.2.1 H0.out.2.2.2.1 v hm
      rw [decide_eq_true hm] at hhas
      have HHAS := Aside0.mk hhas
      have HLT := Aside0.mk hlt
      clear hm hhas hlt
      go_wp2_with (first
        | (go_at_call 76; (with_reducible refine (spec_l1Has.calls 100 As css (tkVis n hold walk cs v).2 (-1) true _ HCS.out.2 HCS.out.1 HHAS.out).mono ?_); rintro e w1 ⟨rfl, hd⟩; have HRR2 := Aside0.mk (RunAt.below HRR.out.2 hd.below); clear hd)
        | (go_at_call 61; (with_reducible refine (tkRun_visit g n hold walk A c cs _ _ _ vs w0 _ H0.out.1 H0.out.2.1 H0.out.2.2.1 ?s1 HCL.out ?s2 ?s3 H0.out.2.2.2.2.1 H0.out.2.2.2.2.2.1 H0.out.2.2.2.2.2.2 HRR2.out).mono ?_); (case s1 => exact HTT.out.2.1); (case s2 => have := HTT.out.1; omega); (case s3 => have := HTT.out.2.2; omega); rintro e w2 ⟨rfl, hr2⟩; have HR3 := Aside0.mk hr2; clear hr2))
      go_roundg (gk - 1)
      case measure => have := HV.out; have := HLT.out; omega
      case rel =>
        have e := HTT.out.2.2
        refine ⟨v + 1, _, by first | rfl | go_num, ⟨by have := HV.out; have := HLT.out; omega⟩, ⟨?_, by have h := HR3.out; rw [e] at h; exact h⟩⟩
        rw [List.length_append, e]; rfl
    · have hend := tk_end n hold walk cs H0.out.1 H0.out.2.1 H0.out.2.2.1 H0.out.2.2.2.1 v hm
      rw [decide_eq_false hm] at hhas
      have HHAS := Aside0.mk hhas
      have HEND := Aside0.mk hend
      clear hm hhas hend
      go_wp2_with (first
        | (go_at_call 76; (with_reducible refine (spec_l1Has.calls 100 As css (tkVis n hold walk cs v).2 (-1) false _ HCS.out.2 HCS.out.1 HHAS.out).mono ?_); rintro e w1 ⟨rfl, hd⟩; have HRR2 := Aside0.mk (RunAt.below HRR.out.2 hd.below); clear hd))
      go_end0
      have hfin : ∀ q t, RunAt g n hold walk A c cs q w0 t (tkVis n hold walk cs v).2 vs w1 → RunAt g n hold walk A c cs q w0 t (tkAll n hold walk cs) vs w1 := fun q t h => by rw [HEND.out] at h; exact h
      exact ⟨rfl, _, vs, hfin _ _ HRR2.out⟩
set_option maxHeartbeats 8000000 in
set_option maxRecDepth 100000 in
theorem tkSent_calls (n hold walk : Int) (A : Option Addr) (c : Nat) (cs : List S58) (w : World)
    (hn : 2 ≤ n ∧ n ≤ 12) (hh : 1 ≤ hold ∧ hold ≤ 10) (hw : 1 ≤ walk ∧ walk ≤ 10) (hok : tkOk n cs) (hC : Kd.C k58 w A cs.length cs) (hcc : cs.length ≤ c) :
    Calls Try.prog 49 #[.agg #[.int .i64 n, .int .i64 hold, .int .i64 walk], .slice A cs.length c] w fun e w' => ∃ v, e = .returned v ∧ (Kd.int .i64).R 3 w' w.heap.size (fun _ => True) v (tkAll n hold walk cs) ∧ Below w.heap.size w w' := by
  have H0 := Aside0.mk (And.intro hn (And.intro hh (And.intro hw (And.intro hok (And.intro hC hcc)))))
  have HCL : Aside0 (cs.length ≤ 20) := ⟨hok.1⟩
  clear hn hh hw hok hC hcc
  have hu69 := Try.underlying69
  have hu29 := Try.underlying29
  go_enter Try.func49, Try.ntmps49
  go_wp2_with (first
    | ((with_reducible refine gate_dst (N := 2) rfl ?_); refine box_event ?hg (N := 2) ?hd (cs := #[.int .i64 n, .int .i64 hold, .int .i64 walk]) (t := 29) ?hr ?_; (case hd => rfl); (case hg => rfl); (case hr => first | (go_simp; done) | (go_simp; rfl)); intro gb hgb w1 hbox hb; have HB1 := Aside0.mk hb; have hcz0 := (blk_cell hbox 0).trans rfl; have hcz1 := (blk_cell hbox 1).trans rfl; have hcz2 := (blk_cell hbox 2).trans rfl; clear hgb hbox hb)
    | (go_at_call 60; (with_reducible refine (tkStart_calls n hold walk A c cs _ HCL.out (Kd.C_below H0.out.2.2.2.2.1 HB1.out) H0.out.2.2.2.2.2).mono ?_); rintro e w2 ⟨g, sv, rfl, hg, hr⟩; have HG := Aside0.mk hg; have HR := Aside0.mk hr; clear hg hr hcz0 hcz1 hcz2)
    | (go_at_call 68; (with_reducible refine (tkAll_calls g n hold walk A c cs sv w1 _ H0.out.1 H0.out.2.1 H0.out.2.2.1 H0.out.2.2.2.1 (Kd.C_below H0.out.2.2.2.2.1 HB1.out) H0.out.2.2.2.2.2 HG.out HR.out).mono ?_); rintro e w3 ⟨rfl, t, vs, hr⟩; have HR3 := Aside0.mk hr; obtain ⟨vv, hblk, hS, hV, hB⟩ := hr; have hcz4 : w3.cell? ⟨g, 4, none⟩ = some sv := (blk_cell hblk 4).trans rfl; clear hblk hS hV hB vv))
  go_ret
  obtain ⟨vv, hblk, hS, hV, hB⟩ := HR3.out
  exact ⟨sv, rfl, Kd.R_lower hS HB1.out.size, below_then HB1.out HB1.out.size hB⟩
/-- What both ask of a ring and its calls. -/
def tkFit (n hold walk : Int) (cs : List S58) : Bool := decide ((2 ≤ n ∧ n ≤ 12) ∧ (1 ≤ hold ∧ hold ≤ 10) ∧ (1 ≤ walk ∧ walk ≤ 10) ∧ cs.length ≤ 20) && cs.all fun x => decide ((0 ≤ x.f0 ∧ x.f0 ≤ 1000) ∧ 0 ≤ x.f1 ∧ x.f1 < n)
theorem tkFit_out {n hold walk : Int} {cs : List S58} (h : tkFit n hold walk cs = true) : (2 ≤ n ∧ n ≤ 12) ∧ (1 ≤ hold ∧ hold ≤ 10) ∧ (1 ≤ walk ∧ walk ≤ 10) ∧ tkOk n cs := by
  unfold tkFit at h
  rw [Bool.and_eq_true, decide_eq_true_eq, List.all_eq_true] at h
  refine ⟨h.1.1, h.1.2.1, h.1.2.2.1, h.1.2.2.2, fun j hj => ?_⟩
  have e : rd_T58 cs (j : Int) = cs[j] := by simp [rd_T58, hj]
  rw [e]
  simpa using h.2 cs[j] (List.getElem_mem hj)
def spec_tkSent.f (a0_0 : Int) (a0_1 : Int) (a0_2 : Int) (l1 : List (S58)) : Option (List Int) := if tkFit a0_0 a0_1 a0_2 l1 = true then some (tkAll a0_0 a0_1 a0_2 l1) else none
theorem spec_tkSent.calls (a0_0 : Int) (a0_1 : Int) (a0_2 : Int) (A1 : Option Addr) (c1 : Nat) (l1 : List (S58)) (r : List Int) (w : World) (hr1 : Kd.C k58 w A1 l1.length l1) (hc1 : l1.length ≤ c1) (h : spec_tkSent.f a0_0 a0_1 a0_2 l1 = some r) :
    Calls Try.prog 49 #[.agg #[.int .i64 a0_0, .int .i64 a0_1, .int .i64 a0_2], .slice A1 l1.length c1] w fun e w' => ∃ v0_ : Value, e = .returned (v0_) ∧ Kd.R (Kd.int .i64) 3 w' w.heap.size (fun _ => True) v0_ r ∧ Below w.heap.size w w' := by
  unfold spec_tkSent.f at h
  by_cases hf : tkFit a0_0 a0_1 a0_2 l1 = true
  · rw [if_pos hf] at h
    obtain rfl := Option.some.inj h
    obtain ⟨h1, h2, h3, h4⟩ := tkFit_out hf
    exact tkSent_calls a0_0 a0_1 a0_2 A1 c1 l1 w h1 h2 h3 h4 hr1 hc1
  · rw [if_neg hf] at h; cases h

/-! ### spec_l1Own: function 50 -/
def spec_l1Own.f (l0 : List Int) : Option (List Int) := (some (([] : List Int) : List Int)).bind fun y114 => (if y114.length + l0.length < 17592186044416 then (some (y114 ++ l0)) else (none))
set_option maxHeartbeats 8000000 in
set_option maxRecDepth 100000 in
theorem spec_l1Own.calls (A0 : Option Addr) (c0 : Nat) (l0 : List Int) (r : List Int) (w : World) (hr0 : Kd.C (Kd.int .i64) w A0 l0.length l0) (hc0 : l0.length ≤ c0) (h : spec_l1Own.f l0 = some r) :
    Calls Try.prog 50 #[.slice A0 l0.length c0] w fun e w' => ∃ v0_ : Value, e = .returned (v0_) ∧ Kd.R (Kd.int .i64) 3 w' w.heap.size (fun _ => True) v0_ r ∧ Below w.heap.size w w' := by
  have HR0 := Aside0.mk hr0
  have HC0 := Aside0.mk hc0
  clear hr0 hc0
  have HB := Aside0.mk (Below.refl w.heap.size w)
  have H : ((some (([] : List Int) : List Int)).bind fun y114 => (if y114.length + l0.length < 17592186044416 then (some (y114 ++ l0)) else (none))) = some r := h
  clear h
  obtain ⟨y114, hy114⟩ : ∃ y_ : List Int, y_ = (([] : List Int)) := ⟨_, rfl⟩
  replace H : (if y114.length + l0.length < 17592186044416 then (some (y114 ++ l0)) else (none)) = some r := by first | (rw [hy114]; with_reducible exact H) | (have H2_ := (Option.bind_some _ _).symm.trans H; rw [hy114]; with_reducible exact H2_) | (have H2_ := (Option.bind_some _ _).symm.trans H; with_reducible exact H2_) | with_reducible exact H | (rw [hy114]; exact H) | exact H
  have Ny114 := Aside0.mk hy114
  clear hy114
  by_cases c2 : y114.length + l0.length < 17592186044416
  · rw [if_pos c2] at H
    have LMc2 := Aside0.mk c2
    clear c2
    obtain ⟨y117, hy117⟩ : ∃ y_ : List Int, y_ = (y114 ++ l0) := ⟨_, rfl⟩
    replace H : (some y117) = some r := by first | (rw [hy117]; with_reducible exact H) | (have H2_ := (Option.bind_some _ _).symm.trans H; rw [hy117]; with_reducible exact H2_) | (have H2_ := (Option.bind_some _ _).symm.trans H; with_reducible exact H2_) | with_reducible exact H | (rw [hy117]; exact H) | exact H
    have Ny117 := Aside0.mk hy117
    clear hy117
    obtain rfl := Option.some.inj H
    go_enter Try.func50, Try.ntmps50
    go_wp2_with (first | ((with_reducible refine gate_dst (N := 3) rfl ?_); refine Kd.R_lit (Kd.int .i64) _ 3 ?hg (N := 3) ?hd (xs := ([] : List Int)) (inner := []) (ok := fun _ => True) (okp := fun _ => True) ?hr ?hp (fun _ hk => hk) trivial (Below.refl _ _) (Nat.le_refl _) (by simp) ?_; (case hd => rfl); (case hg => rfl); (case hr => first | (go_simp; done) | (go_simp; rfl)); (case hp => exact (Reps.none _ _)); intro v115 w3 ho4 hb hg_ hnew_; clear hg_ hnew_; (first | rw [← Ny114.out] at ho4 | (simp only [Int.reduceToNat] at ho4; rw [← Ny114.out] at ho4)); have n0_ := Aside0.mk (Kd.R_lower ho4 (below_size (by repeat (first | (with_reducible first | exact HB.out | apply below_alloc | apply pw_below_drewN | apply below_drew1) | exact HB.out)))); have n1_ := Aside0.mk (below_step (by repeat (first | (with_reducible first | exact HB.out | apply below_alloc | apply pw_below_drewN | apply below_drew1) | exact HB.out)) hb); clear HB; have HO116 := n0_; have HB := n1_; clear n0_ n1_; clear hb ho4) | ((with_reducible refine gate_builtin (b := .append) (xs := #[.tmp 3, .tmp 4]) rfl ?_); at_builtin; refine Kd.R_append_rows (Kd.int .i64) (w0 := w) w.heap.size rfl (.tmp 3) (.tmp 4) 26 3 (.int .i64 0) 8 rfl Try.underlying26 info3 rfl (by decide) (by omega) v115 y114 l0 _ _ _ (fun _ => True) (fun _ => False) rfl rfl ?aO ?aR (fun _ _ h => h) (fun _ h => h.elim) ?aF ?aB ?aS ?aL ?_; (case aR => repeat (first | exact (Kd.C_below HR0.out HB.out) | (with_reducible refine Kd.C_alloc ?_ _) | (with_reducible refine Kd.C_drewN ?_ _) | (with_reducible refine Kd.C_drew ?_))); (case aB => exact (by repeat (first | (with_reducible first | exact HB.out | apply below_alloc | apply pw_below_drewN | apply below_drew1) | exact HB.out))); (case aF => exact (fun _ _ => trivial)); (case aO => exact (by (with_reducible repeat (first | apply Kd.R_alloc | apply Kd.R_drewN | apply Kd.R_drew)); exact HO116.out)); (case aS => exact (below_size (by repeat (first | (with_reducible first | exact HB.out | apply below_alloc | apply pw_below_drewN | apply below_drew1) | exact HB.out)))); (case aL => have := LMc2.out; omega); intro v118 w5 ho hb hg hat; rw [← Ny117.out] at ho; have n0_ := Aside0.mk (hb); have n1_ := Aside0.mk (ho); clear HB; clear HO116; have HB := n0_; have HO119 := n1_; clear n0_ n1_; clear ho hb hg hat))
    go_ret
    exact ⟨_, by first | rfl | (simp [errW_none, errW_some] <;> rfl) | (simp [*, errW_none, errW_some] <;> rfl), by (with_reducible repeat (first | apply Kd.R_alloc | apply Kd.R_drewN | apply Kd.R_drew)); exact HO119.out, by repeat (first | (with_reducible first | exact HB.out | apply below_alloc | apply pw_below_drewN | apply below_drew1) | exact HB.out)⟩
  · rw [if_neg c2] at H
    exact absurd H (by simp)

end Go.Proofs.Ytgminjippechkaa.PFnExactOrderOfArrival
