/- Printed by wip/tools/pr.py: the walks of the functions that a law reaches; not trusted, Lean checks it. No condition. -/
import Derived.Test.YtnhlfbnfngembaaPFnExactCountBlindx0
import Derived.Test.YtnhlfbnfngembaaPFnExactCountBlindx1
import Derived.Test.YtnhlfbnfngembaaPFnExactCountBlindx2
namespace Go.Proofs.Ytnhlfbnfngembaa.PFnExactCountBlind
open Go.RowKit Go.Proofs.YtnhlfbnfngembaaW.PrintWords Go.Proofs.YtnhlfbnfngembaaW.PrintLast Go.Proofs.YtnhlfbnfngembaaW.PrintMore
attribute [local go_sem] max2_int min2_int max_two min_two max_three min_three max_four min_four   -- for this text's walks alone
set_option linter.unusedVariables false
set_option linter.unusedSimpArgs false

/-! ### spec_frBlind: function 13 -/
mutual
def spec_frBlind.j0 : Nat → Int → List Int → Int → Int → Option (List Int × Int)
  | 0, _, _, _, _ => none
  | k + 1, x0, x1, x2, x11 => spec_frBlind.l0 k x0 x1 x2 ([] : List Int) 0 x11
def spec_frBlind.l0 : Nat → Int → List Int → Int → List Int → Int → Int → Option (List Int × Int)
  | 0, _, _, _, _, _, _ => none
  | k + 1, x0, x1, x2, x12, x13, x14 => if x14 < (wrap64 (8 * x0)) then ((spec_l1Own.f x1).bind fun t152 => (if t152.length < 17592186044416 then ((spec_frBlind.f k x0 (t152 ++ [x14]) (wrap64 (x2 - 1))).bind fun bt158 => (if x13 = 0 then (if bt158.2 > 0 then (spec_frBlind.l0 k x0 x1 x2 bt158.1 (wrap64 (x13 + bt158.2)) (wrap64 (x14 + 1))) else (spec_frBlind.l0 k x0 x1 x2 x12 (wrap64 (x13 + bt158.2)) (wrap64 (x14 + 1)))) else (spec_frBlind.l0 k x0 x1 x2 x12 (wrap64 (x13 + bt158.2)) (wrap64 (x14 + 1))))) else (none))) else (some (x12, x13))
def spec_frBlind.f : Nat → Int → List Int → Int → Option (List Int × Int)
  | 0, _, _, _ => none
  | k + 1, a0, l1, a2 => if a2 = 0 then (if 0 ≤ a0 then (if (a0 : Int).toNat ≤ 35184372088832 then ((spec_FlipBits.f k (List.replicate (a0 : Int).toNat 0) l1).bind fun bt143 => ((spec_frHas.f k bt143.1).bind fun t147 => (if t147 = true then ((spec_l1Own.f l1).bind fun t148 => (some (t148, 1))) else (some (([] : List Int), 0))))) else (none)) else (none)) else (if (l1.length : Int) > 0 then (if 0 ≤ (wrap64 ((l1.length : Int) - 1)) then (if (wrap64 ((l1.length : Int) - 1)) < (l1.length : Int) then (spec_frBlind.j0 k a0 l1 a2 (wrap64 ((rd l1 (wrap64 ((l1.length : Int) - 1))) + 1))) else (none)) else (none)) else (spec_frBlind.j0 k a0 l1 a2 0))
end
theorem spec_frBlind.mono_l : ∀ k, (∀ y0 y1 y2, LeO (spec_frBlind.f k y0 y1 y2) (spec_frBlind.f (k + 1) y0 y1 y2)) ∧ (∀ y0 y1 y2 y3, LeO (spec_frBlind.j0 k y0 y1 y2 y3) (spec_frBlind.j0 (k + 1) y0 y1 y2 y3)) ∧ (∀ y0 y1 y2 y3 y4 y5, LeO (spec_frBlind.l0 k y0 y1 y2 y3 y4 y5) (spec_frBlind.l0 (k + 1) y0 y1 y2 y3 y4 y5))
  | 0 => ⟨fun _ _ _ r h => by simp [spec_frBlind.f] at h, fun _ _ _ _ r h => by simp [spec_frBlind.j0] at h, fun _ _ _ _ _ _ r h => by simp [spec_frBlind.l0] at h⟩
  | k + 1 => by
    obtain ⟨ih0, ih1, ih2⟩ := spec_frBlind.mono_l k
    refine ⟨?_, ?_, ?_⟩
    · intro y0 y1 y2
      unfold spec_frBlind.f
      repeat' first
      | (with_reducible exact ih0 _ _ _)
      | (with_reducible exact ih1 _ _ _ _)
      | (with_reducible exact ih2 _ _ _ _ _ _)
      | (with_reducible exact spec_FlipBits.mono _ _ _)
      | (with_reducible exact spec_frHas.mono _ _)
      | (with_reducible exact LeO.refl _)
      | (with_reducible exact LeO.none _)
      | (with_reducible refine LeO.ite ?_ ?_)
      | (with_reducible refine LeO.bind ?_ (fun _ => ?_))
      | exact ih0 _ _ _
      | exact ih1 _ _ _ _
      | exact ih2 _ _ _ _ _ _
      | exact spec_FlipBits.mono _ _ _
      | exact spec_frHas.mono _ _
      | exact LeO.none _
      | refine LeO.ite ?_ ?_
      | refine LeO.bind ?_ (fun _ => ?_)
    · intro y0 y1 y2 y3
      unfold spec_frBlind.j0
      repeat' first
      | (with_reducible exact ih0 _ _ _)
      | (with_reducible exact ih1 _ _ _ _)
      | (with_reducible exact ih2 _ _ _ _ _ _)
      | (with_reducible exact spec_FlipBits.mono _ _ _)
      | (with_reducible exact spec_frHas.mono _ _)
      | (with_reducible exact LeO.refl _)
      | (with_reducible exact LeO.none _)
      | (with_reducible refine LeO.ite ?_ ?_)
      | (with_reducible refine LeO.bind ?_ (fun _ => ?_))
      | exact ih0 _ _ _
      | exact ih1 _ _ _ _
      | exact ih2 _ _ _ _ _ _
      | exact spec_FlipBits.mono _ _ _
      | exact spec_frHas.mono _ _
      | exact LeO.none _
      | refine LeO.ite ?_ ?_
      | refine LeO.bind ?_ (fun _ => ?_)
    · intro y0 y1 y2 y3 y4 y5
      unfold spec_frBlind.l0
      repeat' first
      | (with_reducible exact ih0 _ _ _)
      | (with_reducible exact ih1 _ _ _ _)
      | (with_reducible exact ih2 _ _ _ _ _ _)
      | (with_reducible exact spec_FlipBits.mono _ _ _)
      | (with_reducible exact spec_frHas.mono _ _)
      | (with_reducible exact LeO.refl _)
      | (with_reducible exact LeO.none _)
      | (with_reducible refine LeO.ite ?_ ?_)
      | (with_reducible refine LeO.bind ?_ (fun _ => ?_))
      | exact ih0 _ _ _
      | exact ih1 _ _ _ _
      | exact ih2 _ _ _ _ _ _
      | exact spec_FlipBits.mono _ _ _
      | exact spec_frHas.mono _ _
      | exact LeO.none _
      | refine LeO.ite ?_ ?_
      | refine LeO.bind ?_ (fun _ => ?_)
theorem spec_frBlind.mono : ∀ a0 a1 a2 k, LeO (spec_frBlind.f k a0 a1 a2) (spec_frBlind.f (k + 1) a0 a1 a2) := by
  intro a0 a1 a2 k
  obtain ⟨ih0, ih1, ih2⟩ := spec_frBlind.mono_l k
  exact ih0 a0 a1 a2
set_option maxHeartbeats 8000000 in
set_option maxRecDepth 100000 in
theorem spec_frBlind.calls (k : Nat) : ∀ (a0 : Int) (A1 : Option Addr) (c1 : Nat) (l1 : List Int) (a2 : Int) (r1 : List Int) (r2 : Int) (w : World) (hr1 : Kd.C (Kd.int .i64) w A1 l1.length l1) (hc1 : l1.length ≤ c1) (h : spec_frBlind.f k a0 l1 a2 = some (r1, r2)),
    Calls Try.prog 13 #[.int .i64 a0, .slice A1 l1.length c1, .int .i64 a2] w fun e w' => ∃ v0_ : Value, e = .returned (.tuple #[v0_, .int .i64 r2]) ∧ Kd.R (Kd.int .i64) 3 w' w.heap.size (fun _ => True) v0_ r1 ∧ Below w.heap.size w w' := by
  induction k using Nat.strongRecOn with
  | _ k ih =>
  intro a0 A1 c1 l1 a2 r1 r2 w hr1 hc1 h
  cases k with
  | zero => exact absurd h (by simp [spec_frBlind.f])
  | succ k =>
  simp only [spec_frBlind.f] at h
  have HR1 := Aside0.mk hr1
  have HC1 := Aside0.mk hc1
  clear hr1 hc1
  have HB := Aside0.mk (Below.refl w.heap.size w)
  have H : (if a2 = 0 then (if 0 ≤ a0 then (if (a0 : Int).toNat ≤ 35184372088832 then ((spec_FlipBits.f k (List.replicate (a0 : Int).toNat 0) l1).bind fun bt143 => ((spec_frHas.f k bt143.1).bind fun t147 => (if t147 = true then ((spec_l1Own.f l1).bind fun t148 => (some (t148, 1))) else (some (([] : List Int), 0))))) else (none)) else (none)) else (if (l1.length : Int) > 0 then (if 0 ≤ (wrap64 ((l1.length : Int) - 1)) then (if (wrap64 ((l1.length : Int) - 1)) < (l1.length : Int) then (spec_frBlind.j0 k a0 l1 a2 (wrap64 ((rd l1 (wrap64 ((l1.length : Int) - 1))) + 1))) else (none)) else (none)) else (spec_frBlind.j0 k a0 l1 a2 0))) = some (r1, r2) := h
  clear h
  by_cases c4 : a2 = 0
  · rw [if_pos c4] at H
    have c4b0 : (a2 == 0) = true := beq_iff_eq.mpr c4
    have c4b1 : (a2 != 0) = false := bne_eq_false_iff_eq.mpr c4
    clear c4
    by_cases c5 : 0 ≤ a0
    · rw [if_pos c5] at H
      have c5b0 := eq_true c5
      have c5b1 : decide (0 ≤ a0) = true := decide_eq_true c5
      clear c5
      by_cases c6 : (a0 : Int).toNat ≤ 35184372088832
      · rw [if_pos c6] at H
        have c6b0 := eq_true c6
        have c6b1 : decide ((a0 : Int).toNat ≤ 35184372088832) = true := decide_eq_true c6
        clear c6
        obtain ⟨y140, hy140⟩ : ∃ y_ : List Int, y_ = (List.replicate (a0 : Int).toNat 0) := ⟨_, rfl⟩
        replace H : ((spec_FlipBits.f k y140 l1).bind fun bt143 => ((spec_frHas.f k bt143.1).bind fun t147 => (if t147 = true then ((spec_l1Own.f l1).bind fun t148 => (some (t148, 1))) else (some (([] : List Int), 0))))) = some (r1, r2) := by first | (rw [hy140]; with_reducible exact H) | (have H2_ := (Option.bind_some _ _).symm.trans H; rw [hy140]; with_reducible exact H2_) | (have H2_ := (Option.bind_some _ _).symm.trans H; with_reducible exact H2_) | with_reducible exact H | (rw [hy140]; exact H) | exact H
        have Ny140 := Aside0.mk hy140
        clear hy140
        replace H := Option.bind_eq_some_iff.mp H
        obtain ⟨⟨t143, t144⟩, A70, H⟩ := H
        replace H : ((spec_frHas.f k t143).bind fun t147 => (if t147 = true then ((spec_l1Own.f l1).bind fun t148 => (some (t148, 1))) else (some (([] : List Int), 0)))) = some (r1, r2) := H
        have A7 := Aside0.mk A70
        clear A70
        replace H := Option.bind_eq_some_iff.mp H
        obtain ⟨t147, A80, H⟩ := H
        replace H : (if t147 = true then ((spec_l1Own.f l1).bind fun t148 => (some (t148, 1))) else (some (([] : List Int), 0))) = some (r1, r2) := H
        have A8 := Aside0.mk A80
        clear A80
        by_cases c9 : t147 = true
        · subst c9
          have H1 : ((spec_l1Own.f l1).bind fun t148 => (some (t148, 1))) = some (r1, r2) := by rw [if_pos rfl] at H; exact H
          clear H
          have H := H1
          clear H1
          replace H := Option.bind_eq_some_iff.mp H
          obtain ⟨t148, A100, H⟩ := H
          replace H : (some (t148, 1)) = some (r1, r2) := H
          have A10 := Aside0.mk A100
          clear A100
          simp only [Option.some.injEq, Prod.mk.injEq] at H
          obtain ⟨rfl, rfl⟩ := H
          go_enter Try.func13, Try.ntmps13
          go_wp2_with (first | ((with_reducible refine gate_dst (N := 20) rfl ?_); refine Kd.R_make (Kd.int .i64) _ 3 rfl (N := 20) rfl 25 _ _ rfl a0 rfl rfl Try.underlying25 (.int .i64 0) 8 info3 rfl (by decide) (by omega) 0 (ok := fun _ => True) (okp := fun _ => True) rfl (fun _ hk => hk) trivial (of_decide_eq_true (by first | (with_reducible assumption) | assumption)) (Nat.le_trans (Nat.mul_le_mul_right _ (of_decide_eq_true (by first | (with_reducible assumption) | assumption) : a0.toNat ≤ 35184372088832)) (by omega)) (Below.refl _ _) (Nat.le_refl _) ?_; intro v141 w11 ho12 hb hg_ hnew_; clear hg_ hnew_; (first | rw [← Ny140.out] at ho12 | (simp only [Int.reduceToNat] at ho12; rw [← Ny140.out] at ho12)); have n0_ := Aside0.mk (Kd.R_lower ho12 (below_size (by repeat (first | (with_reducible first | exact HB.out | apply below_alloc | apply pw_below_drewN | apply below_drew1) | exact HB.out)))); have n1_ := Aside0.mk (below_step (by repeat (first | (with_reducible first | exact HB.out | apply below_alloc | apply pw_below_drewN | apply below_drew1) | exact HB.out)) hb); clear HB; have HO142 := n0_; have HB := n1_; clear n0_ n1_; clear hb ho12; obtain ⟨Ao13, co13, eo13⟩ := Kd.R_slice HO142.out; subst eo13) | ((with_reducible refine gate_callee (f := 20) rfl ?_); refine goesL_ (some 24) rfl rfl Try.func20 (by kernel_rfl) rfl #[.slice Ao13 y140.length co13, .slice A1 l1.length c1] rfl (by (try simp only [List.map_toArray, List.map_cons, List.map_nil]); first | done | rfl | (simp only [List.length_drop, List.length_take]; rfl)) ?_; (with_reducible refine (spec_FlipBits.calls k _ _ y140 _ _ l1 t143 t144 _ ?side1 ?side2 ?side3 ?side4 A7.out).mono ?_); (case side1 => repeat (first | exact (Kd.R_reads' HO142.out).2.2 | (with_reducible refine Kd.C_alloc ?_ _) | (with_reducible refine Kd.C_drewN ?_ _) | (with_reducible refine Kd.C_drew ?_))); (case side2 => exact (Kd.R_reads' HO142.out).2.1); (case side3 => repeat (first | exact (Kd.C_below HR1.out HB.out) | (with_reducible refine Kd.C_alloc ?_ _) | (with_reducible refine Kd.C_drewN ?_ _) | (with_reducible refine Kd.C_drew ?_))); (case side4 => exact HC1.out); rintro e w14 ⟨v145, rfl, ho0, hb⟩; refine ⟨_, rfl, ?_⟩; have n0_ := Aside0.mk (Kd.R_elder' (by (with_reducible repeat (first | apply Kd.R_alloc | apply Kd.R_drewN | apply Kd.R_drew)); exact HO142.out) (Kd.R_base ho0) hb); have n1_ := Aside0.mk (Kd.R_lower (Kd.R_new' ho0 (Kd.R_lt (by (with_reducible repeat (first | apply Kd.R_alloc | apply Kd.R_drewN | apply Kd.R_drew)); exact HO142.out))) (below_size (by repeat (first | (with_reducible first | exact HB.out | apply below_alloc | apply pw_below_drewN | apply below_drew1) | exact HB.out)))); have n2_ := Aside0.mk (below_step (by repeat (first | (with_reducible first | exact HB.out | apply below_alloc | apply pw_below_drewN | apply below_drew1) | exact HB.out)) hb); clear HO142; clear HB; have HO142 := n0_; have HO146 := n1_; have HB := n2_; clear n0_ n1_ n2_; (try clear hb); (try clear hb2); (try clear hk); (try clear hi); (try clear ho0); obtain ⟨Ao15, co15, eo15⟩ := Kd.R_slice HO146.out; subst eo15) | ((with_reducible refine gate_callee (f := 21) rfl ?_); refine goesL_ (some 28) rfl rfl Try.func21 (by kernel_rfl) rfl #[.slice Ao15 t143.length co15] rfl (by (try simp only [List.map_toArray, List.map_cons, List.map_nil]); first | done | rfl | (simp only [List.length_drop, List.length_take]; rfl)) ?_; (with_reducible refine (spec_frHas.calls k _ _ t143 true _ ?side1 ?side2 A8.out).mono ?_); (case side1 => repeat (first | exact (Kd.R_reads' HO146.out).2.2 | (with_reducible refine Kd.C_alloc ?_ _) | (with_reducible refine Kd.C_drewN ?_ _) | (with_reducible refine Kd.C_drew ?_))); (case side2 => exact (Kd.R_reads' HO146.out).2.1); rintro e w' ⟨rfl, ⟨nd, rfl⟩⟩; refine ⟨_, rfl, ?_⟩) | ((with_reducible refine gate_callee (f := 22) rfl ?_); refine goesL_ (some 30) rfl rfl Try.func22 (by kernel_rfl) rfl #[.slice A1 l1.length c1] rfl (by (try simp only [List.map_toArray, List.map_cons, List.map_nil]); first | done | rfl | (simp only [List.length_drop, List.length_take]; rfl)) ?_; (with_reducible refine (spec_l1Own.calls _ _ l1 t148 _ ?side1 ?side2 A10.out).mono ?_); (case side1 => repeat (first | exact (Kd.C_below HR1.out (by repeat (first | (with_reducible first | exact HB.out | apply below_alloc | apply pw_below_drewN | apply below_drew1) | exact HB.out))) | (with_reducible refine Kd.C_alloc ?_ _) | (with_reducible refine Kd.C_drewN ?_ _) | (with_reducible refine Kd.C_drew ?_))); (case side2 => exact HC1.out); rintro e w16 ⟨v149, rfl, ho0, hb⟩; refine ⟨_, rfl, ?_⟩; have n0_ := Aside0.mk (Kd.R_elder' (by (with_reducible repeat (first | apply Kd.R_alloc | apply Kd.R_drewN | apply Kd.R_drew)); exact HO142.out) (Kd.R_base ho0) hb); have n1_ := Aside0.mk (Kd.R_elder' (by (with_reducible repeat (first | apply Kd.R_alloc | apply Kd.R_drewN | apply Kd.R_drew)); exact HO146.out) (Kd.R_base ho0) hb); have n2_ := Aside0.mk (Kd.R_lower (Kd.R_new' (Kd.R_new' ho0 (Kd.R_lt (by (with_reducible repeat (first | apply Kd.R_alloc | apply Kd.R_drewN | apply Kd.R_drew)); exact HO142.out))) (Kd.R_lt (by (with_reducible repeat (first | apply Kd.R_alloc | apply Kd.R_drewN | apply Kd.R_drew)); exact HO146.out))) (below_size (by repeat (first | (with_reducible first | exact HB.out | apply below_alloc | apply pw_below_drewN | apply below_drew1) | exact HB.out)))); have n3_ := Aside0.mk (below_step (by repeat (first | (with_reducible first | exact HB.out | apply below_alloc | apply pw_below_drewN | apply below_drew1) | exact HB.out)) hb); clear HO142; clear HO146; clear HB; have HO142 := n0_; have HO146 := n1_; have HO150 := n2_; have HB := n3_; clear n0_ n1_ n2_ n3_; (try clear hb); (try clear hb2); (try clear hk); (try clear hi); (try clear ho0)))
          go_ret2
          exact ⟨_, by first | rfl | (simp [errW_none, errW_some] <;> rfl) | (simp [*, errW_none, errW_some] <;> rfl), by (with_reducible repeat (first | apply Kd.R_alloc | apply Kd.R_drewN | apply Kd.R_drew)); exact Kd.R_mono HO150.out (fun _ hk => trivial), by repeat (first | (with_reducible first | exact HB.out | apply below_alloc | apply pw_below_drewN | apply below_drew1) | exact HB.out)⟩
        · replace c9 := Bool.eq_false_iff.mpr c9
          subst c9
          have H1 : (some (([] : List Int), 0)) = some (r1, r2) := by rw [if_neg (show ¬ (false = true) by decide)] at H; exact H
          clear H
          have H := H1
          clear H1
          simp only [Option.some.injEq, Prod.mk.injEq] at H
          obtain ⟨rfl, rfl⟩ := H
          go_enter Try.func13, Try.ntmps13
          go_wp2_with (first | ((with_reducible refine gate_dst (N := 20) rfl ?_); refine Kd.R_make (Kd.int .i64) _ 3 rfl (N := 20) rfl 25 _ _ rfl a0 rfl rfl Try.underlying25 (.int .i64 0) 8 info3 rfl (by decide) (by omega) 0 (ok := fun _ => True) (okp := fun _ => True) rfl (fun _ hk => hk) trivial (of_decide_eq_true (by first | (with_reducible assumption) | assumption)) (Nat.le_trans (Nat.mul_le_mul_right _ (of_decide_eq_true (by first | (with_reducible assumption) | assumption) : a0.toNat ≤ 35184372088832)) (by omega)) (Below.refl _ _) (Nat.le_refl _) ?_; intro v141 w17 ho18 hb hg_ hnew_; clear hg_ hnew_; (first | rw [← Ny140.out] at ho18 | (simp only [Int.reduceToNat] at ho18; rw [← Ny140.out] at ho18)); have n0_ := Aside0.mk (Kd.R_lower ho18 (below_size (by repeat (first | (with_reducible first | exact HB.out | apply below_alloc | apply pw_below_drewN | apply below_drew1) | exact HB.out)))); have n1_ := Aside0.mk (below_step (by repeat (first | (with_reducible first | exact HB.out | apply below_alloc | apply pw_below_drewN | apply below_drew1) | exact HB.out)) hb); clear HB; have HO142 := n0_; have HB := n1_; clear n0_ n1_; clear hb ho18; obtain ⟨Ao19, co19, eo19⟩ := Kd.R_slice HO142.out; subst eo19) | ((with_reducible refine gate_callee (f := 20) rfl ?_); refine goesL_ (some 24) rfl rfl Try.func20 (by kernel_rfl) rfl #[.slice Ao19 y140.length co19, .slice A1 l1.length c1] rfl (by (try simp only [List.map_toArray, List.map_cons, List.map_nil]); first | done | rfl | (simp only [List.length_drop, List.length_take]; rfl)) ?_; (with_reducible refine (spec_FlipBits.calls k _ _ y140 _ _ l1 t143 t144 _ ?side1 ?side2 ?side3 ?side4 A7.out).mono ?_); (case side1 => repeat (first | exact (Kd.R_reads' HO142.out).2.2 | (with_reducible refine Kd.C_alloc ?_ _) | (with_reducible refine Kd.C_drewN ?_ _) | (with_reducible refine Kd.C_drew ?_))); (case side2 => exact (Kd.R_reads' HO142.out).2.1); (case side3 => repeat (first | exact (Kd.C_below HR1.out HB.out) | (with_reducible refine Kd.C_alloc ?_ _) | (with_reducible refine Kd.C_drewN ?_ _) | (with_reducible refine Kd.C_drew ?_))); (case side4 => exact HC1.out); rintro e w20 ⟨v145, rfl, ho0, hb⟩; refine ⟨_, rfl, ?_⟩; have n0_ := Aside0.mk (Kd.R_elder' (by (with_reducible repeat (first | apply Kd.R_alloc | apply Kd.R_drewN | apply Kd.R_drew)); exact HO142.out) (Kd.R_base ho0) hb); have n1_ := Aside0.mk (Kd.R_lower (Kd.R_new' ho0 (Kd.R_lt (by (with_reducible repeat (first | apply Kd.R_alloc | apply Kd.R_drewN | apply Kd.R_drew)); exact HO142.out))) (below_size (by repeat (first | (with_reducible first | exact HB.out | apply below_alloc | apply pw_below_drewN | apply below_drew1) | exact HB.out)))); have n2_ := Aside0.mk (below_step (by repeat (first | (with_reducible first | exact HB.out | apply below_alloc | apply pw_below_drewN | apply below_drew1) | exact HB.out)) hb); clear HO142; clear HB; have HO142 := n0_; have HO146 := n1_; have HB := n2_; clear n0_ n1_ n2_; (try clear hb); (try clear hb2); (try clear hk); (try clear hi); (try clear ho0); obtain ⟨Ao21, co21, eo21⟩ := Kd.R_slice HO146.out; subst eo21) | ((with_reducible refine gate_callee (f := 21) rfl ?_); refine goesL_ (some 28) rfl rfl Try.func21 (by kernel_rfl) rfl #[.slice Ao21 t143.length co21] rfl (by (try simp only [List.map_toArray, List.map_cons, List.map_nil]); first | done | rfl | (simp only [List.length_drop, List.length_take]; rfl)) ?_; (with_reducible refine (spec_frHas.calls k _ _ t143 false _ ?side1 ?side2 A8.out).mono ?_); (case side1 => repeat (first | exact (Kd.R_reads' HO146.out).2.2 | (with_reducible refine Kd.C_alloc ?_ _) | (with_reducible refine Kd.C_drewN ?_ _) | (with_reducible refine Kd.C_drew ?_))); (case side2 => exact (Kd.R_reads' HO146.out).2.1); rintro e w' ⟨rfl, ⟨nd, rfl⟩⟩; refine ⟨_, rfl, ?_⟩))
          go_ret2
          exact ⟨_, by first | rfl | (simp [errW_none, errW_some] <;> rfl) | (simp [*, errW_none, errW_some] <;> rfl), by first | exact Kd.R_nil _ _ _ _ _ | exact Kd.N_nil _ _ _ _ _ | exact Kd.V_nil _ _ _ _ _ | exact Kd.Q_nil _ _ _ _ _ | exact Kd.S_nil _ _ _ _ _, by repeat (first | (with_reducible first | exact HB.out | apply below_alloc | apply pw_below_drewN | apply below_drew1) | exact HB.out)⟩
      · rw [if_neg c6] at H
        exact absurd H (by simp)
    · rw [if_neg c5] at H
      exact absurd H (by simp)
  · rw [if_neg c4] at H
    have c4b0 : (a2 == 0) = false := beq_eq_false_iff_ne.mpr c4
    have c4b1 : (a2 != 0) = true := bne_iff_ne.mpr c4
    have HC22 := Aside0.mk H
    clear H
    go_enter Try.func13, Try.ntmps13
    go_upto_if 33 with (fail)
    go_cut [11] (fun v11 wc => ∃ (kq : Nat) (x11_21 : Int), v11 = .int .i64 x11_21 ∧ Aside0 (spec_frBlind.j0 kq a0 l1 a2 x11_21 = some (r1, r2)) ∧ Aside0 (kq ≤ k) ∧ Aside0 (Below w.heap.size w wc))
    case first =>
      have H := HC22.out
      clear HC22
      by_cases c23 : (l1.length : Int) > 0
      · rw [if_pos c23] at H
        have c23b0 : decide (0 < (l1.length : Int)) = true := decide_eq_true c23
        have c23b1 : decide (0 < l1.length) = true := decide_eq_true (by omega)
        clear c23
        (first | rw [c23b1] | rw [c23b0] | (simp only [i64_w, i32_w]; rw [c23b0]) | skip)
        obtain ⟨ji24, hji24⟩ : ∃ j_ : Int, (wrap64 ((l1.length : Int) - 1)) = j_ := ⟨_, rfl⟩
        replace H : (if 0 ≤ (ji24) then (if (ji24) < (l1.length : Int) then (spec_frBlind.j0 k a0 l1 a2 (wrap64 ((rd l1 (ji24)) + 1))) else (none)) else (none)) = some (r1, r2) := by first | (rw [hji24] at H; exact H) | (simp only [hji24] at H ⊢; exact H)
        have hji24w : (IntKind.i64.wrap ((l1.length : Int) - 1)) = ji24 := (i64_w _).trans hji24
        by_cases c25 : 0 ≤ (ji24)
        · rw [if_pos c25] at H
          have c25b0 : decide (0 ≤ (ji24)) = true := decide_eq_true c25
          clear c25
          by_cases c26 : (ji24) < (l1.length : Int)
          · rw [if_pos c26] at H
            have c26b0 : decide ((ji24) < (l1.length : Int)) = true := decide_eq_true c26
            clear c26
            have H' := Aside0.mk H
            clear H
            have p151 : 0 ≤ ((ji24) : Int) := of_decide_eq_true (by first | (with_reducible assumption) | assumption)
            have q151 : (ji24) < (l1.length : Int) := of_decide_eq_true (by first | (with_reducible assumption) | assumption)
            obtain ⟨ad151, e151, hx151_0⟩ := Kd.at_int HR1.out (ji24) p151 q151
            cases e151
            replace hx151_0 := (HB.out.cell (World.block_lt_of_cell? w _ hx151_0)).trans hx151_0
            replace p151 := eq_true p151
            replace q151 := eq_true q151
            go_wp2
            go_meet
            case rel => exact ⟨_, (wrap64 ((rd l1 (ji24)) + 1)), (by first | rfl | (simp; done) | (simp only [← hji24] <;> (first | rfl | simp)) | (simp [*]; done)), H', ⟨by first | omega | exact Nat.le_refl _⟩, ⟨by repeat (first | (with_reducible first | exact HB.out | apply below_alloc | apply pw_below_drewN | apply below_drew1) | exact HB.out)⟩⟩
          · rw [if_neg c26] at H
            exact absurd H (by simp)
        · rw [if_neg c25] at H
          exact absurd H (by simp)
      · rw [if_neg c23] at H
        have c23b0 : decide (0 < (l1.length : Int)) = false := decide_eq_false c23
        have c23b1 : decide (0 < l1.length) = false := decide_eq_false (by omega)
        clear c23
        (first | rw [c23b1] | rw [c23b0] | (simp only [i64_w, i32_w]; rw [c23b0]) | skip)
        have H' := Aside0.mk H
        clear H
        go_wp2
        go_meet
        case rel => exact ⟨_, (0), (by first | rfl | (simp; done) | (simp [*]; done)), H', ⟨by first | omega | exact Nat.le_refl _⟩, ⟨by repeat (first | (with_reducible first | exact HB.out | apply below_alloc | apply pw_below_drewN | apply below_drew1) | exact HB.out)⟩⟩
    case rest =>
      clear HC22
      try clear c1
      try clear p1
      try clear q1
      try clear hx1
      try clear c2
      try clear p2
      try clear c4
      try clear c4b0
      try clear c4b1
      try clear c5
      try clear c5b0
      try clear c5b1
      try clear c6
      try clear c6b0
      try clear c6b1
      try clear p6
      try clear c9
      try clear c13
      try clear p15
      try clear q15
      try clear hx15
      try clear c20
      try clear c21
      try clear c22
      try clear c23
      try clear c23b0
      try clear c23b1
      try clear c25
      try clear c25b0
      try clear c26
      try clear c26b0
      try clear hx151_0
      try clear p151
      try clear q151
      obtain ⟨kq, x11_21, rfl, HA, HJ21, HB⟩ := hcut
      cases kq with
      | zero => exact absurd HA.out (by simp [spec_frBlind.j0])
      | succ kj21 =>
        have H := HA.out
        clear HA
        simp only [spec_frBlind.j0] at H
        have H' := Aside0.mk H
        clear H
        go_wp2
        go_loopg [12, 13, 14] kj21 (fun kq v12 v13 v14 w' => ∃ (x12_2 : List Int) (x13_2 : Int) (x14_2 : Int), v13 = .int .i64 x13_2 ∧ v14 = .int .i64 x14_2 ∧ Aside0 (spec_frBlind.l0 kq a0 l1 a2 x12_2 x13_2 x14_2 = some (r1, r2)) ∧ Aside0 (kq ≤ kj21) ∧ Aside0 (Kd.R (Kd.int .i64) 3 w' w.heap.size (fun _ => True) v12 x12_2) ∧ Aside0 (Below w.heap.size w w'))
        case atStart => exact ⟨(([] : List Int)), (0), (x11_21), (by first | rfl | (simp; done) | (simp [*]; done)), (by first | rfl | (simp; done) | (simp [*]; done)), H', ⟨Nat.le_refl _⟩, ⟨by first | exact Kd.R_nil _ _ _ _ _ | exact Kd.N_nil _ _ _ _ _ | exact Kd.V_nil _ _ _ _ _ | exact Kd.Q_nil _ _ _ _ _ | exact Kd.S_nil _ _ _ _ _⟩, ⟨by repeat (first | (with_reducible first | exact HB.out | apply below_alloc | apply pw_below_drewN | apply below_drew1) | exact HB.out)⟩⟩
        case round =>
          clear H'
          try clear c1
          try clear p1
          try clear q1
          try clear hx1
          try clear c2
          try clear p2
          try clear c4
          try clear c4b0
          try clear c4b1
          try clear c5
          try clear c5b0
          try clear c5b1
          try clear c6
          try clear c6b0
          try clear c6b1
          try clear p6
          try clear c9
          try clear c13
          try clear p15
          try clear q15
          try clear hx15
          try clear c20
          try clear c21
          try clear c22
          try clear c23
          try clear c23b0
          try clear c23b1
          try clear c25
          try clear c25b0
          try clear c26
          try clear c26b0
          try clear hx151_0
          try clear p1
          try clear p15
          try clear p151
          try clear p2
          try clear p6
          try clear q1
          try clear q15
          try clear q151
          obtain ⟨x12_2, x13_2, x14_2, rfl, rfl, HA, HK2, HO_12, HB⟩ := hrel
          cases gk with
          | zero => exact absurd HA.out (by simp [spec_frBlind.l0])
          | succ k2 =>
            have H := HA.out
            clear HA
            simp only [spec_frBlind.l0] at H
            by_cases c27 : x14_2 < (wrap64 (8 * a0))
            · rw [if_pos c27] at H
              have c27b0 : decide (x14_2 < (wrap64 (8 * a0))) = true := decide_eq_true c27
              clear c27
              replace H := Option.bind_eq_some_iff.mp H
              obtain ⟨t152, A280, H⟩ := H
              replace H : (if t152.length < 17592186044416 then ((spec_frBlind.f k2 a0 (t152 ++ [x14_2]) (wrap64 (a2 - 1))).bind fun bt158 => (if x13_2 = 0 then (if bt158.2 > 0 then (spec_frBlind.l0 k2 a0 l1 a2 bt158.1 (wrap64 (x13_2 + bt158.2)) (wrap64 (x14_2 + 1))) else (spec_frBlind.l0 k2 a0 l1 a2 x12_2 (wrap64 (x13_2 + bt158.2)) (wrap64 (x14_2 + 1)))) else (spec_frBlind.l0 k2 a0 l1 a2 x12_2 (wrap64 (x13_2 + bt158.2)) (wrap64 (x14_2 + 1))))) else (none)) = some (r1, r2) := H
              have A28 := Aside0.mk A280
              clear A280
              by_cases c29 : t152.length < 17592186044416
              · rw [if_pos c29] at H
                have LMc29 := Aside0.mk c29
                clear c29
                obtain ⟨y155, hy155⟩ : ∃ y_ : List Int, y_ = (t152 ++ [x14_2]) := ⟨_, rfl⟩
                replace H : ((spec_frBlind.f k2 a0 y155 (wrap64 (a2 - 1))).bind fun bt158 => (if x13_2 = 0 then (if bt158.2 > 0 then (spec_frBlind.l0 k2 a0 l1 a2 bt158.1 (wrap64 (x13_2 + bt158.2)) (wrap64 (x14_2 + 1))) else (spec_frBlind.l0 k2 a0 l1 a2 x12_2 (wrap64 (x13_2 + bt158.2)) (wrap64 (x14_2 + 1)))) else (spec_frBlind.l0 k2 a0 l1 a2 x12_2 (wrap64 (x13_2 + bt158.2)) (wrap64 (x14_2 + 1))))) = some (r1, r2) := by first | (rw [hy155]; with_reducible exact H) | (have H2_ := (Option.bind_some _ _).symm.trans H; rw [hy155]; with_reducible exact H2_) | (have H2_ := (Option.bind_some _ _).symm.trans H; with_reducible exact H2_) | with_reducible exact H | (rw [hy155]; exact H) | exact H
                have Ny155 := Aside0.mk hy155
                clear hy155
                replace H := Option.bind_eq_some_iff.mp H
                obtain ⟨⟨t158, t159⟩, A300, H⟩ := H
                replace H : (if x13_2 = 0 then (if t159 > 0 then (spec_frBlind.l0 k2 a0 l1 a2 t158 (wrap64 (x13_2 + t159)) (wrap64 (x14_2 + 1))) else (spec_frBlind.l0 k2 a0 l1 a2 x12_2 (wrap64 (x13_2 + t159)) (wrap64 (x14_2 + 1)))) else (spec_frBlind.l0 k2 a0 l1 a2 x12_2 (wrap64 (x13_2 + t159)) (wrap64 (x14_2 + 1)))) = some (r1, r2) := H
                have A30 := Aside0.mk A300
                clear A300
                by_cases c31 : x13_2 = 0
                · rw [if_pos c31] at H
                  have c31b0 : (x13_2 == 0) = true := beq_iff_eq.mpr c31
                  have c31b1 : (x13_2 != 0) = false := bne_eq_false_iff_eq.mpr c31
                  clear c31
                  by_cases c32 : t159 > 0
                  · rw [if_pos c32] at H
                    have c32b0 : decide (0 < t159) = true := decide_eq_true c32
                    clear c32
                    have H' := Aside0.mk H
                    clear H
                    go_wp2_with (first | ((with_reducible refine gate_callee (f := 22) rfl ?_); refine goesL_ (some 51) rfl rfl Try.func22 (by kernel_rfl) rfl #[.slice A1 l1.length c1] rfl (by (try simp only [List.map_toArray, List.map_cons, List.map_nil]); first | done | rfl | (simp only [List.length_drop, List.length_take]; rfl)) ?_; (with_reducible refine (spec_l1Own.calls _ _ l1 t152 _ ?side1 ?side2 A28.out).mono ?_); (case side1 => repeat (first | exact (Kd.C_below HR1.out HB.out) | (with_reducible refine Kd.C_alloc ?_ _) | (with_reducible refine Kd.C_drewN ?_ _) | (with_reducible refine Kd.C_drew ?_))); (case side2 => exact HC1.out); rintro e w33 ⟨v153, rfl, ho0, hb⟩; refine ⟨_, rfl, ?_⟩; have n0_ := Aside0.mk (Kd.R_elder' (by (with_reducible repeat (first | apply Kd.R_alloc | apply Kd.R_drewN | apply Kd.R_drew)); exact HO_12.out) (Kd.R_base ho0) hb); have n1_ := Aside0.mk (Kd.R_lower (Kd.R_new' ho0 (Kd.R_lt (by (with_reducible repeat (first | apply Kd.R_alloc | apply Kd.R_drewN | apply Kd.R_drew)); exact HO_12.out))) (below_size (by repeat (first | (with_reducible first | exact HB.out | apply below_alloc | apply pw_below_drewN | apply below_drew1) | exact HB.out)))); have n2_ := Aside0.mk (below_step (by repeat (first | (with_reducible first | exact HB.out | apply below_alloc | apply pw_below_drewN | apply below_drew1) | exact HB.out)) hb); clear HO_12; clear HB; have HO_12 := n0_; have HO154 := n1_; have HB := n2_; clear n0_ n1_ n2_; (try clear hb); (try clear hb2); (try clear hk); (try clear hi); (try clear ho0)) | ((with_reducible refine gate_builtin (b := .append) (xs := #[.tmp 51, .tmp 53]) rfl ?_); at_builtin; refine Kd.R_append (Kd.int .i64) (w0 := w) w.heap.size rfl (.tmp 51) (.tmp 53) 25 3 (.int .i64 0) 8 rfl Try.underlying25 info3 rfl (by decide) (by omega) v153 t152 x14_2 [.int .i64 x14_2] (fun k_ => some k_ ≠ (u12 : Value).ownBlock) (fun _ => False) rfl rfl ?aP (fun _ hk => hk.elim) ?aF ?aO ?aB ?aS ?aL ?_; (case aP => exact rfl); (case aB => exact (by repeat (first | (with_reducible first | exact HB.out | apply below_alloc | apply pw_below_drewN | apply below_drew1) | exact HB.out))); (case aF => exact (fun k_ hk => Kd.fresh' (Kd.R_lt (by (with_reducible repeat (first | apply Kd.R_alloc | apply Kd.R_drewN | apply Kd.R_drew)); exact HO_12.out)) k_ hk)); (case aO => exact (by (with_reducible repeat (first | apply Kd.R_alloc | apply Kd.R_drewN | apply Kd.R_drew)); exact Kd.R_mono HO154.out (fun _ hk => hk.2))); (case aS => exact (below_size (by repeat (first | (with_reducible first | exact HB.out | apply below_alloc | apply pw_below_drewN | apply below_drew1) | exact HB.out)))); (case aL => have := LMc29.out; omega); intro v156 w34 ho hb hg hat; rw [← Ny155.out] at ho; have n0_ := Aside0.mk (Kd.R_after (ok := (fun _ => True)) (by (with_reducible repeat (first | apply Kd.R_alloc | apply Kd.R_drewN | apply Kd.R_drew)); exact HO_12.out) hg hat); have n1_ := Aside0.mk (hb); have n2_ := Aside0.mk (ho); clear HO_12; clear HB; clear HO154; have HO_12 := n0_; have HB := n1_; have HO157 := n2_; clear n0_ n1_ n2_; clear ho hb hg hat; obtain ⟨Ao35, co35, eo35⟩ := Kd.R_slice HO157.out; subst eo35) | ((with_reducible refine gate_callee (f := 13) rfl ?_); refine goesL_ (some 57) rfl rfl Try.func13 (by kernel_rfl) rfl #[.int .i64 a0, .slice Ao35 y155.length co35, .int .i64 (wrap64 (a2 - 1))] rfl (by (try simp only [List.map_toArray, List.map_cons, List.map_nil]); first | done | rfl | (simp only [List.length_drop, List.length_take]; rfl)) ?_; (with_reducible refine (ih k2 (by have := HJ21.out; have := HK2.out; omega) a0 _ _ y155 (wrap64 (a2 - 1)) t158 t159 _ ?side1 ?side2 A30.out).mono ?_); (case side1 => repeat (first | exact (Kd.R_reads' HO157.out).2.2 | (with_reducible refine Kd.C_alloc ?_ _) | (with_reducible refine Kd.C_drewN ?_ _) | (with_reducible refine Kd.C_drew ?_))); (case side2 => exact (Kd.R_reads' HO157.out).2.1); rintro e w36 ⟨v160, rfl, ho0, hb⟩; refine ⟨_, rfl, ?_⟩; have n0_ := Aside0.mk (Kd.R_elder' (by (with_reducible repeat (first | apply Kd.R_alloc | apply Kd.R_drewN | apply Kd.R_drew)); exact HO_12.out) (Kd.R_base ho0) hb); have n1_ := Aside0.mk (Kd.R_elder' (by (with_reducible repeat (first | apply Kd.R_alloc | apply Kd.R_drewN | apply Kd.R_drew)); exact HO157.out) (Kd.R_base ho0) hb); have n2_ := Aside0.mk (Kd.R_lower (Kd.R_new' (Kd.R_new' ho0 (Kd.R_lt (by (with_reducible repeat (first | apply Kd.R_alloc | apply Kd.R_drewN | apply Kd.R_drew)); exact HO_12.out))) (Kd.R_lt (by (with_reducible repeat (first | apply Kd.R_alloc | apply Kd.R_drewN | apply Kd.R_drew)); exact HO157.out))) (below_size (by repeat (first | (with_reducible first | exact HB.out | apply below_alloc | apply pw_below_drewN | apply below_drew1) | exact HB.out)))); have n3_ := Aside0.mk (below_step (by repeat (first | (with_reducible first | exact HB.out | apply below_alloc | apply pw_below_drewN | apply below_drew1) | exact HB.out)) hb); clear HO_12; clear HO157; clear HB; have HO_12 := n0_; have HO157 := n1_; have HO161 := n2_; have HB := n3_; clear n0_ n1_ n2_ n3_; (try clear hb); (try clear hb2); (try clear hk); (try clear hi); (try clear ho0)))
                    go_roundg k2
                    case measure => have := HJ21.out; have := HK2.out; omega
                    case rel => exact ⟨(t158), (wrap64 (x13_2 + t159)), (wrap64 (x14_2 + 1)), (by first | rfl | (simp; done) | (simp [*]; done)), (by first | rfl | (simp; done) | (simp [*]; done)), H', ⟨by have := HJ21.out; have := HK2.out; omega⟩, ⟨by (with_reducible repeat (first | apply Kd.R_alloc | apply Kd.R_drewN | apply Kd.R_drew)); exact Kd.R_mono HO161.out (fun _ hk => trivial)⟩, ⟨by repeat (first | (with_reducible first | exact HB.out | apply below_alloc | apply pw_below_drewN | apply below_drew1) | exact HB.out)⟩⟩
                  · rw [if_neg c32] at H
                    have c32b0 : decide (0 < t159) = false := decide_eq_false c32
                    clear c32
                    have H' := Aside0.mk H
                    clear H
                    go_wp2_with (first | ((with_reducible refine gate_callee (f := 22) rfl ?_); refine goesL_ (some 51) rfl rfl Try.func22 (by kernel_rfl) rfl #[.slice A1 l1.length c1] rfl (by (try simp only [List.map_toArray, List.map_cons, List.map_nil]); first | done | rfl | (simp only [List.length_drop, List.length_take]; rfl)) ?_; (with_reducible refine (spec_l1Own.calls _ _ l1 t152 _ ?side1 ?side2 A28.out).mono ?_); (case side1 => repeat (first | exact (Kd.C_below HR1.out HB.out) | (with_reducible refine Kd.C_alloc ?_ _) | (with_reducible refine Kd.C_drewN ?_ _) | (with_reducible refine Kd.C_drew ?_))); (case side2 => exact HC1.out); rintro e w37 ⟨v153, rfl, ho0, hb⟩; refine ⟨_, rfl, ?_⟩; have n0_ := Aside0.mk (Kd.R_elder' (by (with_reducible repeat (first | apply Kd.R_alloc | apply Kd.R_drewN | apply Kd.R_drew)); exact HO_12.out) (Kd.R_base ho0) hb); have n1_ := Aside0.mk (Kd.R_lower (Kd.R_new' ho0 (Kd.R_lt (by (with_reducible repeat (first | apply Kd.R_alloc | apply Kd.R_drewN | apply Kd.R_drew)); exact HO_12.out))) (below_size (by repeat (first | (with_reducible first | exact HB.out | apply below_alloc | apply pw_below_drewN | apply below_drew1) | exact HB.out)))); have n2_ := Aside0.mk (below_step (by repeat (first | (with_reducible first | exact HB.out | apply below_alloc | apply pw_below_drewN | apply below_drew1) | exact HB.out)) hb); clear HO_12; clear HB; have HO_12 := n0_; have HO154 := n1_; have HB := n2_; clear n0_ n1_ n2_; (try clear hb); (try clear hb2); (try clear hk); (try clear hi); (try clear ho0)) | ((with_reducible refine gate_builtin (b := .append) (xs := #[.tmp 51, .tmp 53]) rfl ?_); at_builtin; refine Kd.R_append (Kd.int .i64) (w0 := w) w.heap.size rfl (.tmp 51) (.tmp 53) 25 3 (.int .i64 0) 8 rfl Try.underlying25 info3 rfl (by decide) (by omega) v153 t152 x14_2 [.int .i64 x14_2] (fun k_ => some k_ ≠ (u12 : Value).ownBlock) (fun _ => False) rfl rfl ?aP (fun _ hk => hk.elim) ?aF ?aO ?aB ?aS ?aL ?_; (case aP => exact rfl); (case aB => exact (by repeat (first | (with_reducible first | exact HB.out | apply below_alloc | apply pw_below_drewN | apply below_drew1) | exact HB.out))); (case aF => exact (fun k_ hk => Kd.fresh' (Kd.R_lt (by (with_reducible repeat (first | apply Kd.R_alloc | apply Kd.R_drewN | apply Kd.R_drew)); exact HO_12.out)) k_ hk)); (case aO => exact (by (with_reducible repeat (first | apply Kd.R_alloc | apply Kd.R_drewN | apply Kd.R_drew)); exact Kd.R_mono HO154.out (fun _ hk => hk.2))); (case aS => exact (below_size (by repeat (first | (with_reducible first | exact HB.out | apply below_alloc | apply pw_below_drewN | apply below_drew1) | exact HB.out)))); (case aL => have := LMc29.out; omega); intro v156 w38 ho hb hg hat; rw [← Ny155.out] at ho; have n0_ := Aside0.mk (Kd.R_after (ok := (fun _ => True)) (by (with_reducible repeat (first | apply Kd.R_alloc | apply Kd.R_drewN | apply Kd.R_drew)); exact HO_12.out) hg hat); have n1_ := Aside0.mk (hb); have n2_ := Aside0.mk (ho); clear HO_12; clear HB; clear HO154; have HO_12 := n0_; have HB := n1_; have HO157 := n2_; clear n0_ n1_ n2_; clear ho hb hg hat; obtain ⟨Ao39, co39, eo39⟩ := Kd.R_slice HO157.out; subst eo39) | ((with_reducible refine gate_callee (f := 13) rfl ?_); refine goesL_ (some 57) rfl rfl Try.func13 (by kernel_rfl) rfl #[.int .i64 a0, .slice Ao39 y155.length co39, .int .i64 (wrap64 (a2 - 1))] rfl (by (try simp only [List.map_toArray, List.map_cons, List.map_nil]); first | done | rfl | (simp only [List.length_drop, List.length_take]; rfl)) ?_; (with_reducible refine (ih k2 (by have := HJ21.out; have := HK2.out; omega) a0 _ _ y155 (wrap64 (a2 - 1)) t158 t159 _ ?side1 ?side2 A30.out).mono ?_); (case side1 => repeat (first | exact (Kd.R_reads' HO157.out).2.2 | (with_reducible refine Kd.C_alloc ?_ _) | (with_reducible refine Kd.C_drewN ?_ _) | (with_reducible refine Kd.C_drew ?_))); (case side2 => exact (Kd.R_reads' HO157.out).2.1); rintro e w40 ⟨v160, rfl, ho0, hb⟩; refine ⟨_, rfl, ?_⟩; have n0_ := Aside0.mk (Kd.R_elder' (by (with_reducible repeat (first | apply Kd.R_alloc | apply Kd.R_drewN | apply Kd.R_drew)); exact HO_12.out) (Kd.R_base ho0) hb); have n1_ := Aside0.mk (Kd.R_elder' (by (with_reducible repeat (first | apply Kd.R_alloc | apply Kd.R_drewN | apply Kd.R_drew)); exact HO157.out) (Kd.R_base ho0) hb); have n2_ := Aside0.mk (Kd.R_lower (Kd.R_new' (Kd.R_new' ho0 (Kd.R_lt (by (with_reducible repeat (first | apply Kd.R_alloc | apply Kd.R_drewN | apply Kd.R_drew)); exact HO_12.out))) (Kd.R_lt (by (with_reducible repeat (first | apply Kd.R_alloc | apply Kd.R_drewN | apply Kd.R_drew)); exact HO157.out))) (below_size (by repeat (first | (with_reducible first | exact HB.out | apply below_alloc | apply pw_below_drewN | apply below_drew1) | exact HB.out)))); have n3_ := Aside0.mk (below_step (by repeat (first | (with_reducible first | exact HB.out | apply below_alloc | apply pw_below_drewN | apply below_drew1) | exact HB.out)) hb); clear HO_12; clear HO157; clear HB; have HO_12 := n0_; have HO157 := n1_; have HO161 := n2_; have HB := n3_; clear n0_ n1_ n2_ n3_; (try clear hb); (try clear hb2); (try clear hk); (try clear hi); (try clear ho0)))
                    go_roundg k2
                    case measure => have := HJ21.out; have := HK2.out; omega
                    case rel => exact ⟨(x12_2), (wrap64 (x13_2 + t159)), (wrap64 (x14_2 + 1)), (by first | rfl | (simp; done) | (simp [*]; done)), (by first | rfl | (simp; done) | (simp [*]; done)), H', ⟨by have := HJ21.out; have := HK2.out; omega⟩, ⟨by (with_reducible repeat (first | apply Kd.R_alloc | apply Kd.R_drewN | apply Kd.R_drew)); exact Kd.R_mono HO_12.out (fun _ hk => trivial)⟩, ⟨by repeat (first | (with_reducible first | exact HB.out | apply below_alloc | apply pw_below_drewN | apply below_drew1) | exact HB.out)⟩⟩
                · rw [if_neg c31] at H
                  have c31b0 : (x13_2 == 0) = false := beq_eq_false_iff_ne.mpr c31
                  have c31b1 : (x13_2 != 0) = true := bne_iff_ne.mpr c31
                  have H' := Aside0.mk H
                  clear H
                  go_wp2_with (first | ((with_reducible refine gate_callee (f := 22) rfl ?_); refine goesL_ (some 51) rfl rfl Try.func22 (by kernel_rfl) rfl #[.slice A1 l1.length c1] rfl (by (try simp only [List.map_toArray, List.map_cons, List.map_nil]); first | done | rfl | (simp only [List.length_drop, List.length_take]; rfl)) ?_; (with_reducible refine (spec_l1Own.calls _ _ l1 t152 _ ?side1 ?side2 A28.out).mono ?_); (case side1 => repeat (first | exact (Kd.C_below HR1.out HB.out) | (with_reducible refine Kd.C_alloc ?_ _) | (with_reducible refine Kd.C_drewN ?_ _) | (with_reducible refine Kd.C_drew ?_))); (case side2 => exact HC1.out); rintro e w41 ⟨v153, rfl, ho0, hb⟩; refine ⟨_, rfl, ?_⟩; have n0_ := Aside0.mk (Kd.R_elder' (by (with_reducible repeat (first | apply Kd.R_alloc | apply Kd.R_drewN | apply Kd.R_drew)); exact HO_12.out) (Kd.R_base ho0) hb); have n1_ := Aside0.mk (Kd.R_lower (Kd.R_new' ho0 (Kd.R_lt (by (with_reducible repeat (first | apply Kd.R_alloc | apply Kd.R_drewN | apply Kd.R_drew)); exact HO_12.out))) (below_size (by repeat (first | (with_reducible first | exact HB.out | apply below_alloc | apply pw_below_drewN | apply below_drew1) | exact HB.out)))); have n2_ := Aside0.mk (below_step (by repeat (first | (with_reducible first | exact HB.out | apply below_alloc | apply pw_below_drewN | apply below_drew1) | exact HB.out)) hb); clear HO_12; clear HB; have HO_12 := n0_; have HO154 := n1_; have HB := n2_; clear n0_ n1_ n2_; (try clear hb); (try clear hb2); (try clear hk); (try clear hi); (try clear ho0)) | ((with_reducible refine gate_builtin (b := .append) (xs := #[.tmp 51, .tmp 53]) rfl ?_); at_builtin; refine Kd.R_append (Kd.int .i64) (w0 := w) w.heap.size rfl (.tmp 51) (.tmp 53) 25 3 (.int .i64 0) 8 rfl Try.underlying25 info3 rfl (by decide) (by omega) v153 t152 x14_2 [.int .i64 x14_2] (fun k_ => some k_ ≠ (u12 : Value).ownBlock) (fun _ => False) rfl rfl ?aP (fun _ hk => hk.elim) ?aF ?aO ?aB ?aS ?aL ?_; (case aP => exact rfl); (case aB => exact (by repeat (first | (with_reducible first | exact HB.out | apply below_alloc | apply pw_below_drewN | apply below_drew1) | exact HB.out))); (case aF => exact (fun k_ hk => Kd.fresh' (Kd.R_lt (by (with_reducible repeat (first | apply Kd.R_alloc | apply Kd.R_drewN | apply Kd.R_drew)); exact HO_12.out)) k_ hk)); (case aO => exact (by (with_reducible repeat (first | apply Kd.R_alloc | apply Kd.R_drewN | apply Kd.R_drew)); exact Kd.R_mono HO154.out (fun _ hk => hk.2))); (case aS => exact (below_size (by repeat (first | (with_reducible first | exact HB.out | apply below_alloc | apply pw_below_drewN | apply below_drew1) | exact HB.out)))); (case aL => have := LMc29.out; omega); intro v156 w42 ho hb hg hat; rw [← Ny155.out] at ho; have n0_ := Aside0.mk (Kd.R_after (ok := (fun _ => True)) (by (with_reducible repeat (first | apply Kd.R_alloc | apply Kd.R_drewN | apply Kd.R_drew)); exact HO_12.out) hg hat); have n1_ := Aside0.mk (hb); have n2_ := Aside0.mk (ho); clear HO_12; clear HB; clear HO154; have HO_12 := n0_; have HB := n1_; have HO157 := n2_; clear n0_ n1_ n2_; clear ho hb hg hat; obtain ⟨Ao43, co43, eo43⟩ := Kd.R_slice HO157.out; subst eo43) | ((with_reducible refine gate_callee (f := 13) rfl ?_); refine goesL_ (some 57) rfl rfl Try.func13 (by kernel_rfl) rfl #[.int .i64 a0, .slice Ao43 y155.length co43, .int .i64 (wrap64 (a2 - 1))] rfl (by (try simp only [List.map_toArray, List.map_cons, List.map_nil]); first | done | rfl | (simp only [List.length_drop, List.length_take]; rfl)) ?_; (with_reducible refine (ih k2 (by have := HJ21.out; have := HK2.out; omega) a0 _ _ y155 (wrap64 (a2 - 1)) t158 t159 _ ?side1 ?side2 A30.out).mono ?_); (case side1 => repeat (first | exact (Kd.R_reads' HO157.out).2.2 | (with_reducible refine Kd.C_alloc ?_ _) | (with_reducible refine Kd.C_drewN ?_ _) | (with_reducible refine Kd.C_drew ?_))); (case side2 => exact (Kd.R_reads' HO157.out).2.1); rintro e w44 ⟨v160, rfl, ho0, hb⟩; refine ⟨_, rfl, ?_⟩; have n0_ := Aside0.mk (Kd.R_elder' (by (with_reducible repeat (first | apply Kd.R_alloc | apply Kd.R_drewN | apply Kd.R_drew)); exact HO_12.out) (Kd.R_base ho0) hb); have n1_ := Aside0.mk (Kd.R_elder' (by (with_reducible repeat (first | apply Kd.R_alloc | apply Kd.R_drewN | apply Kd.R_drew)); exact HO157.out) (Kd.R_base ho0) hb); have n2_ := Aside0.mk (Kd.R_lower (Kd.R_new' (Kd.R_new' ho0 (Kd.R_lt (by (with_reducible repeat (first | apply Kd.R_alloc | apply Kd.R_drewN | apply Kd.R_drew)); exact HO_12.out))) (Kd.R_lt (by (with_reducible repeat (first | apply Kd.R_alloc | apply Kd.R_drewN | apply Kd.R_drew)); exact HO157.out))) (below_size (by repeat (first | (with_reducible first | exact HB.out | apply below_alloc | apply pw_below_drewN | apply below_drew1) | exact HB.out)))); have n3_ := Aside0.mk (below_step (by repeat (first | (with_reducible first | exact HB.out | apply below_alloc | apply pw_below_drewN | apply below_drew1) | exact HB.out)) hb); clear HO_12; clear HO157; clear HB; have HO_12 := n0_; have HO157 := n1_; have HO161 := n2_; have HB := n3_; clear n0_ n1_ n2_ n3_; (try clear hb); (try clear hb2); (try clear hk); (try clear hi); (try clear ho0)))
                  go_roundg k2
                  case measure => have := HJ21.out; have := HK2.out; omega
                  case rel => exact ⟨(x12_2), (wrap64 (x13_2 + t159)), (wrap64 (x14_2 + 1)), (by first | rfl | (simp; done) | (simp [*]; done)), (by first | rfl | (simp; done) | (simp [*]; done)), H', ⟨by have := HJ21.out; have := HK2.out; omega⟩, ⟨by (with_reducible repeat (first | apply Kd.R_alloc | apply Kd.R_drewN | apply Kd.R_drew)); exact Kd.R_mono HO_12.out (fun _ hk => trivial)⟩, ⟨by repeat (first | (with_reducible first | exact HB.out | apply below_alloc | apply pw_below_drewN | apply below_drew1) | exact HB.out)⟩⟩
              · rw [if_neg c29] at H
                exact absurd H (by simp)
            · rw [if_neg c27] at H
              have c27b0 : decide (x14_2 < (wrap64 (8 * a0))) = false := decide_eq_false c27
              clear c27
              simp only [Option.some.injEq, Prod.mk.injEq] at H
              obtain ⟨rfl, rfl⟩ := H
              go_wp2
              go_ret2
              exact ⟨_, by first | rfl | (simp [errW_none, errW_some] <;> rfl) | (simp [*, errW_none, errW_some] <;> rfl), by (with_reducible repeat (first | apply Kd.R_alloc | apply Kd.R_drewN | apply Kd.R_drew)); exact HO_12.out, by repeat (first | (with_reducible first | exact HB.out | apply below_alloc | apply pw_below_drewN | apply below_drew1) | exact HB.out)⟩

/-! ### spec_CountBlind: function 5 -/
def spec_CountBlind.f (k : Nat) (a0 : Int) (a1 : Int) : Option (Int × Bool) := (spec_frFlips.f a0 a1).bind fun t162 => (if t162 = true then ((spec_frBlind.f k a0 ([] : List Int) a1).bind fun bt163 => (some (bt163.2, true))) else (some (0, false)))
theorem spec_CountBlind.mono : ∀ a0 a1 k, LeO (spec_CountBlind.f k a0 a1) (spec_CountBlind.f (k + 1) a0 a1) := by
  intro a0 a1 k
  unfold spec_CountBlind.f
  repeat' first
      | (with_reducible exact spec_frBlind.mono _ _ _ _)
      | (with_reducible exact LeO.refl _)
      | (with_reducible exact LeO.none _)
      | (with_reducible refine LeO.ite ?_ ?_)
      | (with_reducible refine LeO.bind ?_ (fun _ => ?_))
      | exact spec_frBlind.mono _ _ _ _
      | exact LeO.none _
      | refine LeO.ite ?_ ?_
      | refine LeO.bind ?_ (fun _ => ?_)
set_option maxHeartbeats 8000000 in
set_option maxRecDepth 100000 in
theorem spec_CountBlind.calls (k : Nat) (a0 : Int) (a1 : Int) (r1 : Int) (r2 : Bool) (w : World) (h : spec_CountBlind.f k a0 a1 = some (r1, r2)) :
    Calls Try.prog 5 #[.int .i64 a0, .int .i64 a1] w fun e w' => e = .returned (.tuple #[.int .i64 r1, .bool r2]) ∧ Below w.heap.size w w' := by
  have HB := Aside0.mk (Below.refl w.heap.size w)
  have H : ((spec_frFlips.f a0 a1).bind fun t162 => (if t162 = true then ((spec_frBlind.f k a0 ([] : List Int) a1).bind fun bt163 => (some (bt163.2, true))) else (some (0, false)))) = some (r1, r2) := h
  clear h
  replace H := Option.bind_eq_some_iff.mp H
  obtain ⟨t162, A30, H⟩ := H
  replace H : (if t162 = true then ((spec_frBlind.f k a0 ([] : List Int) a1).bind fun bt163 => (some (bt163.2, true))) else (some (0, false))) = some (r1, r2) := H
  have A3 := Aside0.mk A30
  clear A30
  by_cases c4 : t162 = true
  · subst c4
    have H1 : ((spec_frBlind.f k a0 ([] : List Int) a1).bind fun bt163 => (some (bt163.2, true))) = some (r1, r2) := by rw [if_pos rfl] at H; exact H
    clear H
    have H := H1
    clear H1
    replace H := Option.bind_eq_some_iff.mp H
    obtain ⟨⟨t163, t164⟩, A50, H⟩ := H
    replace H : (some (t164, true)) = some (r1, r2) := H
    have A5 := Aside0.mk A50
    clear A50
    simp only [Option.some.injEq, Prod.mk.injEq] at H
    obtain ⟨rfl, rfl⟩ := H
    go_enter Try.func5, Try.ntmps5
    go_wp2_with (first | ((with_reducible refine gate_callee (f := 12) rfl ?_); refine goesL_ (some 10) rfl rfl Try.func12 (by kernel_rfl) rfl #[.int .i64 a0, .int .i64 a1] rfl (by (try simp only [List.map_toArray, List.map_cons, List.map_nil]); first | done | rfl | (simp only [List.length_drop, List.length_take]; rfl)) ?_; (with_reducible refine (spec_frFlips.calls a0 a1 true _ A3.out).mono ?_); rintro e w' ⟨rfl, ⟨nd, rfl⟩⟩; refine ⟨_, rfl, ?_⟩) | ((with_reducible refine gate_callee (f := 13) rfl ?_); refine goesL_ (some 15) rfl rfl Try.func13 (by kernel_rfl) rfl #[.int .i64 a0, .slice none 0 0, .int .i64 a1] rfl (by (try simp only [List.map_toArray, List.map_cons, List.map_nil]); first | done | rfl | (simp only [List.length_drop, List.length_take]; rfl)) ?_; (refine (spec_frBlind.calls k a0 _ _ ([] : List Int) a1 t163 t164 _ ?side1 ?side2 A5.out).mono ?_); (case side1 => exact Kd.C_nil _ _); (case side2 => exact Nat.le_refl _); rintro e w6 ⟨v165, rfl, ho0, hb⟩; refine ⟨_, rfl, ?_⟩; have n0_ := Aside0.mk (Kd.R_lower ho0 (below_size (by repeat (first | (with_reducible first | exact HB.out | apply below_alloc | apply pw_below_drewN | apply below_drew1) | exact HB.out)))); have n1_ := Aside0.mk (below_step (by repeat (first | (with_reducible first | exact HB.out | apply below_alloc | apply pw_below_drewN | apply below_drew1) | exact HB.out)) hb); clear HB; have HO166 := n0_; have HB := n1_; clear n0_ n1_; (try clear hb); (try clear hb2); (try clear hk); (try clear hi); (try clear ho0)))
    go_ret2
    exact ⟨by first | rfl | (simp [errW_none, errW_some] <;> rfl) | (simp [*, errW_none, errW_some] <;> rfl), by repeat (first | (with_reducible first | exact HB.out | apply below_alloc | apply pw_below_drewN | apply below_drew1) | exact HB.out)⟩
  · replace c4 := Bool.eq_false_iff.mpr c4
    subst c4
    have H1 : (some (0, false)) = some (r1, r2) := by rw [if_neg (show ¬ (false = true) by decide)] at H; exact H
    clear H
    have H := H1
    clear H1
    simp only [Option.some.injEq, Prod.mk.injEq] at H
    obtain ⟨rfl, rfl⟩ := H
    go_enter Try.func5, Try.ntmps5
    go_wp2_with (first | ((with_reducible refine gate_callee (f := 12) rfl ?_); refine goesL_ (some 10) rfl rfl Try.func12 (by kernel_rfl) rfl #[.int .i64 a0, .int .i64 a1] rfl (by (try simp only [List.map_toArray, List.map_cons, List.map_nil]); first | done | rfl | (simp only [List.length_drop, List.length_take]; rfl)) ?_; (with_reducible refine (spec_frFlips.calls a0 a1 false _ A3.out).mono ?_); rintro e w' ⟨rfl, ⟨nd, rfl⟩⟩; refine ⟨_, rfl, ?_⟩))
    go_ret2
    exact ⟨by first | rfl | (simp [errW_none, errW_some] <;> rfl) | (simp [*, errW_none, errW_some] <;> rfl), by repeat (first | (with_reducible first | exact HB.out | apply below_alloc | apply pw_below_drewN | apply below_drew1) | exact HB.out)⟩

/-! ### impl_within: function 23 -/
def impl_within.f (a0 : Int) (a1 : Int) (a2 : Int) : Option (Bool) := if a0 ≥ a1 then (some (decide (a0 ≤ a2))) else (some false)
set_option maxHeartbeats 8000000 in
set_option maxRecDepth 100000 in
theorem impl_within.calls (a0 : Int) (a1 : Int) (a2 : Int) (r : Bool) (w : World) (h : impl_within.f a0 a1 a2 = some r) :
    Calls Try.prog 23 #[.int .i64 a0, .int .i64 a1, .int .i64 a2] w fun e w' => e = .returned (.bool r) ∧ Drawn0 w w' := by
  have H : (if a0 ≥ a1 then (some (decide (a0 ≤ a2))) else (some false)) = some r := h
  clear h
  by_cases c4 : a0 ≥ a1
  · rw [if_pos c4] at H
    have c4b0 : decide (a1 ≤ a0) = true := decide_eq_true c4
    clear c4
    obtain rfl := Option.some.inj H
    go_enter Try.func23, Try.ntmps23
    go_wp2
    go_ret
    exact ⟨by first | rfl | (simp; done) | (simp [*]; done), by repeat (first | exact Drawn0.refl _ | apply Drawn0.step)⟩
  · rw [if_neg c4] at H
    have c4b0 : decide (a1 ≤ a0) = false := decide_eq_false c4
    clear c4
    obtain rfl := Option.some.inj H
    go_enter Try.func23, Try.ntmps23
    go_wp2
    go_ret
    exact ⟨by first | rfl | (simp; done) | (simp [*]; done), by repeat (first | exact Drawn0.refl _ | apply Drawn0.step)⟩

/-! ### impl_isBlind: function 14 -/
def impl_isBlind.f (a0 : Int) (a1 : Int) : Option (Bool) := (impl_within.f a0 1 6).bind fun t167 => (if t167 = true then ((impl_within.f a1 1 4).bind fun t168 => (some t168)) else (some false))
set_option maxHeartbeats 8000000 in
set_option maxRecDepth 100000 in
theorem impl_isBlind.calls (a0 : Int) (a1 : Int) (r : Bool) (w : World) (h : impl_isBlind.f a0 a1 = some r) :
    Calls Try.prog 14 #[.int .i64 a0, .int .i64 a1] w fun e w' => e = .returned (.bool r) ∧ Drawn0 w w' := by
  have H : ((impl_within.f a0 1 6).bind fun t167 => (if t167 = true then ((impl_within.f a1 1 4).bind fun t168 => (some t168)) else (some false))) = some r := h
  clear h
  replace H := Option.bind_eq_some_iff.mp H
  obtain ⟨t167, A30, H⟩ := H
  replace H : (if t167 = true then ((impl_within.f a1 1 4).bind fun t168 => (some t168)) else (some false)) = some r := H
  have A3 := Aside0.mk A30
  clear A30
  by_cases c4 : t167 = true
  · subst c4
    have H1 : ((impl_within.f a1 1 4).bind fun t168 => (some t168)) = some r := by rw [if_pos rfl] at H; exact H
    clear H
    have H := H1
    clear H1
    replace H := Option.bind_eq_some_iff.mp H
    obtain ⟨t168, A50, H⟩ := H
    replace H : (some t168) = some r := H
    have A5 := Aside0.mk A50
    clear A50
    obtain rfl := Option.some.inj H
    go_enter Try.func14, Try.ntmps14
    go_wp2_with (first | ((with_reducible refine gate_callee (f := 23) rfl ?_); refine goesL_ (some 6) rfl rfl Try.func23 (by kernel_rfl) rfl #[.int .i64 a0, .int .i64 1, .int .i64 6] rfl (by (try simp only [List.map_toArray, List.map_cons, List.map_nil]); first | done | rfl | (simp only [List.length_drop, List.length_take]; rfl)) ?_; (with_reducible refine (impl_within.calls a0 1 6 true _ A3.out).mono ?_); rintro e w' ⟨rfl, ⟨nd, rfl⟩⟩; refine ⟨_, rfl, ?_⟩) | (go_at_call 23; (with_reducible refine (impl_within.calls a1 1 4 t168 _ A5.out).mono ?_); rintro e w' ⟨rfl, ⟨nd, rfl⟩⟩))
    go_ret
    exact ⟨by first | rfl | (simp; done) | (simp [*]; done), by repeat (first | exact Drawn0.refl _ | apply Drawn0.step)⟩
  · replace c4 := Bool.eq_false_iff.mpr c4
    subst c4
    have H1 : (some false) = some r := by rw [if_neg (show ¬ (false = true) by decide)] at H; exact H
    clear H
    have H := H1
    clear H1
    obtain rfl := Option.some.inj H
    go_enter Try.func14, Try.ntmps14
    go_wp2_with (first | ((with_reducible refine gate_callee (f := 23) rfl ?_); refine goesL_ (some 6) rfl rfl Try.func23 (by kernel_rfl) rfl #[.int .i64 a0, .int .i64 1, .int .i64 6] rfl (by (try simp only [List.map_toArray, List.map_cons, List.map_nil]); first | done | rfl | (simp only [List.length_drop, List.length_take]; rfl)) ?_; (with_reducible refine (impl_within.calls a0 1 6 false _ A3.out).mono ?_); rintro e w' ⟨rfl, ⟨nd, rfl⟩⟩; refine ⟨_, rfl, ?_⟩))
    go_ret
    exact ⟨by first | rfl | (simp; done) | (simp [*]; done), by repeat (first | exact Drawn0.refl _ | apply Drawn0.step)⟩

/-! ### impl_CountBlind: function 6 -/
section
variable {P : Program} {ops : Array Oper} {o : Oper} {a : Act} {Q' : Exit → Act → World → Prop} {Kc : Act → World → Prop}
/-- append to a row whose room is full: a new row; nothing old is turned. -/
theorem full_run {W : World} (t ty e : TypeId) (ht : P.underlying t = some (.slice e)) (hinfo : (P.info? e).map (fun i => (i.zero, i.size, i.bytes)) = some (some (.int .i64 0), 1, 8))
    (A : Option Addr) (n : Nat) (xs : List Int) (p : Int) (ax : Addr) (hx : W.cell? ax = some (.int .i64 p)) (HC : Kd.C (Kd.int .i64) W A n xs) (hn : xs.length = n) (hl : (n + 1) * 8 ≤ 140737488355328) :
    ∃ A1 c1 w1, (Builtin.append_ #[t, t] ty #[.slice A n n, .slice (some ax) 1 1]).run P W = .ok (.slice A1 (n + 1) c1) w1 ∧ Kd.C (Kd.int .i64) w1 A1 (n + 1) (xs ++ [p]) ∧ n + 1 ≤ c1 ∧ Below W.heap.size W w1 ∧ ∀ ad, A1 = some ad → W.heap.size ≤ ad.block := by
  obtain ⟨i, hi, hi2⟩ := Option.map_eq_some_iff.1 hinfo
  simp only [Prod.mk.injEq] at hi2
  obtain ⟨e1, e2, e3⟩ := hi2
  have hnew : ∀ j u, [Value.int .i64 p][j]? = some u → W.cell? (ax.add j) = some u := by
    intro j u hj
    obtain ⟨rfl, rfl⟩ : j = 0 ∧ u = .int .i64 p := by
      cases j with
      | zero => simpa using hj.symm
      | succ j => simp at hj
    exact hx
  have fin : ∀ v' w', w'.ownsRow W.heap.size e 1 v' (n + 1) (nums .i64 xs ++ [.int .i64 p]) → ∃ A1 c1, v' = .slice A1 (n + 1) c1 ∧ Kd.C (Kd.int .i64) w' A1 (n + 1) (xs ++ [p]) ∧ n + 1 ≤ c1 ∧ ∀ ad, A1 = some ad → W.heap.size ≤ ad.block := by
    intro v' w' ho
    have e5 : (xs ++ [p]).length = n + 1 := by simp [hn]
    have e4 : encs (Value.int .i64) (xs ++ [p]) = nums .i64 xs ++ [.int .i64 p] := by simp [encs, nums]
    have hR : (Kd.int .i64).R e w' W.heap.size (fun _ => True) v' (xs ++ [p]) :=
      Kd.R_of_own (ok := fun _ => True) (enc := Value.int .i64) (h1 := fun _ => rfl) (by rw [e4, e5]; exact ho) (fun _ _ => trivial)
    have hb := Kd.R_base hR
    obtain ⟨A1, c1, rfl, h4, h5⟩ := Kd.R_reads hR
    rw [e5] at h4 h5 hb ⊢
    exact ⟨A1, c1, rfl, h5, h4, fun ad he => hb ad.block (by rw [he]; rfl)⟩
  cases A with
  | none =>
    have h0 : n = 0 := by
      rcases Nat.eq_zero_or_pos n with h0 | h0
      · exact h0
      · obtain ⟨ad, he, _⟩ := HC.2.2 h0
        cases he
    subst h0
    obtain rfl := List.eq_nil_of_length_eq_zero hn
    obtain ⟨v', w', hr, ho', hg, _, _⟩ := run_append_own_at (P := P) W W.heap.size t ty e i (.int .i64 0) 1 8 ht hi e1 e2 e3 rfl (by decide) (.slice none 0 0) 0 [] ⟨rfl, .inl ⟨rfl, rfl⟩⟩ ax 1 1 [.int .i64 p] (by simp) hnew (by simp; rfl) (by unfold maxLen; omega) (by simp) (Nat.le_refl _)
    obtain ⟨A1, c1, rfl, h5, h4, h6⟩ := fin v' w' (by simpa [nums] using ho')
    exact ⟨A1, c1, w', hr, h5, h4, pw_below_grown (Below.refl _ _) none (Nat.le_refl _) (by simpa [Value.ownBlock] using hg) (by simp), h6⟩
  | some ad =>
    have hcells : ∀ j u, (nums .i64 xs)[j]? = some u → W.cell? (ad.add j) = some u := by
      intro j u hj
      simp only [nums, List.getElem?_map, Option.map_eq_some_iff] at hj
      obtain ⟨y, hy, rfl⟩ := hj
      have hlt : j < xs.length := (List.getElem?_eq_some_iff.1 hy).1
      obtain ⟨ad2, he, hc⟩ := Kd.at_int HC (j : Int) (by omega) (by omega)
      cases he
      rw [Int.toNat_natCast] at hc
      have : rd xs (j : Int) = y := by simp [rd, List.getD_eq_getElem?_getD, hy]
      rw [this] at hc
      exact hc
    obtain ⟨v', w', hr, hown, hg⟩ := run_append_arg_grows (P := P) (w := W) t ty e i (.int .i64 0) 1 8 ht hi e1 e2 e3 rfl (by decide) ad n n (nums .i64 xs) (by simp [nums]; omega) hcells ax 1 1 [.int .i64 p] (by simp) hnew (by omega) (by unfold maxLen; omega) hl
    obtain ⟨A1, c1, rfl, h5, h4, h6⟩ := fin v' w' hown
    exact ⟨A1, c1, w', hr, h5, h4, pw_below_grown (Below.refl _ _) none (Nat.le_refl _) hg (by simp), h6⟩
theorem full_append_step {W : World} (hw : Region.wanted o (yielded ops a.tmps) = true) (s x : Operand) (t e : TypeId)
    (ho : o.op = .call { callee := .builtin .append, args := #[s, x], argTypes := #[t, t] })
    (ht : P.underlying t = some (.slice e)) (hinfo : (P.info? e).map (fun i => (i.zero, i.size, i.bytes)) = some (some (.int .i64 0), 1, 8))
    (A : Option Addr) (n : Nat) (xs : List Int) (p : Int) (ax : Addr) (hs : a.eval s = .slice A n n) (hx : a.eval x = .slice (some ax) 1 1) (hc : W.cell? ax = some (.int .i64 p))
    (HC : Kd.C (Kd.int .i64) W A n xs) (hn : xs.length = n) (hl : (n + 1) * 8 ≤ 140737488355328)
    (h : ∀ A1 c1 w1, Kd.C (Kd.int .i64) w1 A1 (n + 1) (xs ++ [p]) → n + 1 ≤ c1 → Below W.heap.size W w1 → (∀ ad, A1 = some ad → W.heap.size ≤ ad.block) → Kc (a.put o.dst (.slice A1 (n + 1) c1)) w1) :
    if Region.wanted o (yielded ops a.tmps) = true then Oper.wp P o a W Kc Q' else Kc (a.put o.dst undef) W := by
  obtain ⟨A1, c1, w', hr, hC, hc, hB, hb⟩ := full_run (P := P) t o.type e ht hinfo A n xs p ax hc HC hn hl
  rw [if_pos hw]
  unfold Oper.wp execOp
  simp only [ho, resolve, invoke, builtin, Sem.run_bind, Sem.run_pure, Result.andThen_ok, List.map_toArray, List.map_cons, List.map_nil, hs, hx, hr]
  exact h A1 c1 w' hC hc hB hb
end
/-- What blind makes of a state, the closure's step given. -/
def blindF {S : Type} (rem : List Int) (step : S → List Int → S) : Nat → Int → List Int → Nat → S → S
  | 0, rest, xs, _, σ => if rest = 0 then step σ xs else σ
  | m + 1, rest, xs, from_, σ => (List.range' from_ (rem.length - from_)).foldl (fun σ (p : Nat) => blindF rem step m (Go.bits .xor .i64 rest (rd rem (p : Int))) (xs ++ [(p : Int)]) (p + 1) σ) σ
/-- What changes: the closure's own block, and new ones. -/
def Moved (gb B : Nat) (W W' : World) : Prop := KeepBut W W' gb none ∧ Below B W W'
theorem Moved.refl (gb B : Nat) (W : World) : Moved gb B W W := ⟨KeepBut.refl _ _ _, Below.refl _ _⟩
theorem Moved.below {gb B : Nat} {W w w' : World} (h : Moved gb B W w) (hB : B ≤ w.heap.size) (hb : Below w.heap.size w w') : Moved gb B W w' :=
  ⟨⟨Nat.le_trans h.1.1 hb.size, fun i hi hg hr => (hb.block i (Nat.lt_of_lt_of_le hi h.1.1)).trans (h.1.2 i hi hg hr)⟩, below_then h.2 hB hb⟩
theorem Moved.trans {gb B : Nat} {W w w' : World} (h : Moved gb B W w) (h2 : Moved gb B w w') : Moved gb B W w' :=
  ⟨⟨Nat.le_trans h.1.1 h2.1.1, fun i hi hg hr => (h2.1.2 i (Nat.lt_of_lt_of_le hi h.1.1) hg hr).trans (h.1.2 i hi hg hr)⟩, h.2.trans h2.2⟩
/-- A row that lies elsewhere than the closure's block stays as it is. -/
theorem Moved.row {gb B : Nat} {W w : World} {A : Option Addr} {n : Nat} {xs : List Int} (h : Moved gb B W w) (hc : Kd.C (Kd.int .i64) W A n xs) (hf : ∀ ad, A = some ad → 0 < n → ad.block ≠ gb) : Kd.C (Kd.int .i64) w A n xs :=
  Kd.C_foot_ne (d := Kd.int .i64) (fun h => h) hc hf w h.1
/-- The goal is a call of this function (a cheap look). -/
theorem blind_gate {P : Program} (U : FuncId) {args : Array Value} {w : World} {Q : Ending → World → Prop} (h : Calls P U args w Q) : Calls P U args w Q := h
/-- What stands in every world of the region. -/
theorem BlS.step {a : Addr} {v : Value} {w w1 : World} (h : w.cell? a = some v) (hb : Below w.heap.size w w1) : w1.cell? a = some v := pw_cell_below hb h
theorem BlS.alloc {a : Addr} {v : Value} {w : World} (h : w.cell? a = some v) (o : Obj) : (w.alloc o).cell? a = some v := BlS.step h (below_alloc (Below.refl _ _) o)
theorem BlS.new (W : World) (p : Int) (e : TypeId) : (W.alloc (.cells #[.int .i64 p] e)).cell? ⟨W.heap.size, 0, none⟩ = some (.int .i64 p) := (blk_cell (blk_new W _) 0).trans rfl
theorem BlS.moved {a : Addr} {i gb B : Nat} {v : Value} {w w1 : World} (h : w.cell? (a.add i) = some v) (hm : Moved gb B w w1) (hne : a.block ≠ gb) : w1.cell? (a.add i) = some v := keep_cell hm.1 h (by rw [add_block]; exact hne)
set_option maxHeartbeats 8000000 in
set_option maxRecDepth 100000 in
theorem blind_calls {S : Type} (Inv : S → World → Prop) (step : S → List Int → S) (gb B U : Nat) (fn : Func) (caps : Array Value) (rem : List Int) (Ar : Option Addr) (cr : Nat)
    (hf : Try.prog.funcs[U]? = some fn) (hname : (fn.name == "runtime.NumGoroutine") = false) (hbd : fn.body.isSome = true) (hN : rem.length ≤ 1000) (hcr : rem.length ≤ cr)
    (hmove : ∀ σ W W', Inv σ W → Below W.heap.size W W' → Inv σ W') (hfar : ∀ ad, Ar = some ad → 0 < rem.length → ad.block ≠ gb)
    (HU : ∀ σ (W : World) A n c xs, Inv σ W → B ≤ W.heap.size → gb < W.heap.size → Kd.C (Kd.int .i64) W A n xs → xs.length = n → n ≤ c → Calls Try.prog U (#[.slice A n c] ++ caps) W fun e W' => e = .returned (.tuple #[]) ∧ Inv (step σ xs) W' ∧ Moved gb B W W') :
    ∀ (m : Nat) (rest : Int) (xs : List Int) (from_ : Nat) (σ : S) (A : Option Addr) (n c : Nat) (W : World), Inv σ W → Kd.C (Kd.int .i64) W A n xs → xs.length = n → n ≤ c → n + m ≤ 1000 → (∀ ad, A = some ad → 0 < n → ad.block ≠ gb) → Kd.C (Kd.int .i64) W Ar rem.length rem → from_ ≤ rem.length → B ≤ W.heap.size → gb < W.heap.size →
      Calls Try.prog 24 #[.slice Ar rem.length cr, .slice A n c, .int .i64 (from_ : Int), .int .i64 (m : Int), .int .i64 rest, .func (.func U) #[] caps] W fun e W' => e = .returned (.tuple #[]) ∧ Inv (blindF rem step m rest xs from_ σ) W' ∧ Moved gb B W W' := by
  have HE := enters_ hf hname hbd
  have HUU := Aside0.mk HU
  have HMV := Aside0.mk hmove
  have HFR := Aside0.mk hfar
  have HNN := Aside0.mk (And.intro hN hcr)
  have hu25 := Try.underlying25
  clear hf hname hbd hN hcr HU hmove hfar
  intro m
  induction m with
  | zero =>
    intro rest xs from_ σ A n c W hI hC hn hc hnm hA hR hfr hB hg
    have HI := Aside0.mk (And.intro hI (And.intro hC (And.intro hn (And.intro hc (And.intro hB hg)))))
    clear hI hC hn hc hnm hA hR hfr hB hg
    by_cases h0 : rest = 0
    · have d0 : (rest == 0) = true := beq_iff_eq.mpr h0
      have HF := Aside0.mk (show blindF rem step 0 rest xs from_ σ = step σ xs by simp [blindF, h0])
      clear h0
      go_enter Try.func24, Try.ntmps24
      go_wp2_with (first | ((with_reducible refine blind_gate U ?_); (with_reducible refine (HUU.out σ _ A n c xs HI.out.1 HI.out.2.2.2.2.1 HI.out.2.2.2.2.2 HI.out.2.1 HI.out.2.2.1 HI.out.2.2.2.1).mono ?_); rintro e w2 ⟨rfl, hi, hm⟩; have HX := Aside0.mk (And.intro hi hm); clear hi hm))
      (try simp only [Exit.inBlock, Exit.then])
      refine bodyPost_ret (results_none rfl _ _ _) rfl ?_
      exact ⟨rfl, by rw [HF.out]; exact HX.out.1, HX.out.2⟩
    · have d0 : (rest == 0) = false := beq_eq_false_iff_ne.mpr h0
      have HF := Aside0.mk (show blindF rem step 0 rest xs from_ σ = σ by simp [blindF, h0])
      clear h0
      go_enter Try.func24, Try.ntmps24
      go_wp2
      (try simp only [Exit.inBlock, Exit.then])
      refine bodyPost_ret (results_none rfl _ _ _) rfl ?_
      exact ⟨rfl, by rw [HF.out]; exact HI.out.1, Moved.refl _ _ _⟩
  | succ m ih =>
    intro rest xs from_ σ A n c W hI hC hn hc hnm hA hR hfr hB hg
    have HI := Aside0.mk (And.intro hC (And.intro hn (And.intro hc (And.intro hnm (And.intro hA hR)))))
    have HB := Aside0.mk (And.intro hB hg)
    have HI0 := Aside0.mk hI
    have HIH := Aside0.mk ih
    clear hI hC hn hc hnm hA hR hB hg ih
    have d0 : (((m + 1 : Nat) : Int) == 0) = false := beq_eq_false_iff_ne.mpr (by omega)
    have d0' : ((m : Int) + 1 == 0) = false := beq_eq_false_iff_ne.mpr (by omega)
    have hwm : IntKind.i64.wrap ((m : Int) + 1 - 1) = (m : Int) := by have := HI.out.2.2.2.1; rw [i64_w]; unfold wrap64; omega
    obtain ⟨N, hN⟩ : ∃ N, rem.length = N := ⟨_, rfl⟩
    have HN := Aside0.mk hN
    rw [hN] at hfr ⊢
    clear hN
    go_enter Try.func24, Try.ntmps24
    go_wp2
    go_loopg [12] (N - from_) (fun k v12 wr => ∃ p : Nat, v12 = .int .i64 (p : Int) ∧ from_ ≤ p ∧ p + k = N ∧ Aside0 (Inv ((List.range' from_ (p - from_)).foldl (fun σ (p : Nat) => blindF rem step m (Go.bits .xor .i64 rest (rd rem (p : Int))) (xs ++ [(p : Int)]) (p + 1) σ) σ) wr ∧ Moved gb B W wr))
    case atStart => exact ⟨from_, rfl, Nat.le_refl _, by omega, ⟨by rw [Nat.sub_self]; exact HI0.out, Moved.refl _ _ _⟩⟩
    case round =>
      obtain ⟨p, rfl, hfp, hpk, HR⟩ := hrel
      clear HI0
      have hpb : (p : Int) ≤ 1000 := by have h1 := HNN.out.1; rw [HN.out] at h1; omega
      by_cases hlt : p < N
      · have d1 : decide ((p : Int) < (N : Int)) = true := decide_eq_true (by omega)
        have d2 : decide (p < N) = true := decide_eq_true hlt
        have hrp : Kd.C (Kd.int .i64) wr Ar rem.length rem := Moved.row HR.out.2 HI.out.2.2.2.2.2 HFR.out
        have hrx : Kd.C (Kd.int .i64) wr A n xs := Moved.row HR.out.2 HI.out.1 HI.out.2.2.2.2.1
        have hsz : B ≤ wr.heap.size ∧ gb < wr.heap.size := by have h1 := HR.out.2.1.1; have h2 := HB.out; omega
        obtain ⟨ad, e1, hx0⟩ := Kd.at_int hrp (p : Int) (by omega) (by rw [HN.out]; omega)
        cases e1
        rw [Int.toNat_natCast] at hx0
        obtain ⟨y, hy⟩ : ∃ y, rd rem (p : Int) = y := ⟨_, rfl⟩
        rw [hy] at hx0
        have HY := Aside0.mk hy
        have HRX := Aside0.mk (And.intro hrx (And.intro hrp hsz))
        have hnb : (n : Int) ≤ 1000 ∧ (m : Int) ≤ 1000 := by have := HI.out.2.2.2.1; omega
        have hwp : IntKind.i64.wrap ((p : Int) + 1) = (p : Int) + 1 := by rw [i64_w]; unfold wrap64; omega
        have p1 : (0 : Int) ≤ (p : Int) := by omega
        have q1 : (p : Int) < (N : Int) := by omega
        have hcn : n ≤ c := HI.out.2.2.1
        have hcn2 : (n : Int) ≤ (c : Int) := by omega
        have n1 : (0 : Int) ≤ (n : Int) := by omega
        clear hrx hrp hy hlt hsz hnb hpb
        have HFP : Aside0 (ad.block ≠ gb) := ⟨HFR.out ad rfl (by rw [HN.out]; omega)⟩
        have hgb : Aside0 (Below wr.heap.size wr wr) := ⟨Below.refl _ _⟩
        have hwm2 : IntKind.i64.wrap (m : Int) = (m : Int) := by have := HI.out.2.2.2.1; rw [i64_w]; unfold wrap64; omega
        have hih : ∀ (A1 : Option Addr) (c1 : Nat) (W1 : World), Below wr.heap.size wr W1 → Kd.C (Kd.int .i64) W1 A1 (n + 1) (xs ++ [(p : Int)]) → n + 1 ≤ c1 → (∀ a_, A1 = some a_ → wr.heap.size ≤ a_.block) →
            Calls Try.prog 24 #[.slice (some ad) N cr, .slice A1 (n + 1) c1, .int .i64 ((p : Int) + 1), .int .i64 (m : Int), .int .i64 (Go.bits .xor .i64 rest y), .func (.func U) #[] caps] W1 fun e W' => e = .returned (.tuple #[]) ∧ Inv ((List.range' from_ (p + 1 - from_)).foldl (fun σ (p : Nat) => blindF rem step m (Go.bits .xor .i64 rest (rd rem (p : Int))) (xs ++ [(p : Int)]) (p + 1) σ) σ) W' ∧ Moved gb B W1 W' ∧ Moved gb B W W' := by
          intro A1 c1 W1 hb1 hC1 hc1 hA1
          have hsz := HRX.out.2.2
          have hm1 : Moved gb B W W1 := Moved.below HR.out.2 hsz.1 hb1
          have h := HIH.out (Go.bits .xor .i64 rest (rd rem (p : Int))) (xs ++ [(p : Int)]) (p + 1) _ A1 (n + 1) c1 W1 (HMV.out _ _ _ HR.out.1 hb1) hC1 (by simp [HI.out.2.1]) hc1 (by have := HI.out.2.2.2.1; omega) (fun a_ ha _ => by have := hA1 a_ ha; omega) (Kd.C_below HRX.out.2.1 hb1) (by rw [HN.out]; omega) (Nat.le_trans hsz.1 hb1.size) (Nat.lt_of_lt_of_le hsz.2 hb1.size)
          rw [HN.out, HY.out, show ((p + 1 : Nat) : Int) = (p : Int) + 1 by omega] at h
          refine h.mono ?_
          rintro e W' ⟨he, hi, hm⟩
          refine ⟨he, ?_, hm, hm1.trans hm⟩
          have hrg : List.range' from_ (p + 1 - from_) = List.range' from_ (p - from_) ++ [p] := by
            rw [show p + 1 - from_ = (p - from_) + 1 by omega, List.range'_1_concat, show from_ + (p - from_) = p by omega]
          rw [hrg, List.foldl_append]
          simp only [List.foldl_cons, List.foldl_nil]
          rw [HY.out]
          exact hi
        have HIH2 := Aside0.mk hih
        clear hih
        go_wp2
        go_region_held3 (fun w' => w'.cell? (ad.add p) = some (.int .i64 y)) (first | assumption | exact BlS.alloc (by assumption) _ | exact BlS.step (by assumption) (by assumption) | exact BlS.moved (by assumption) hk48 HFP.out) (first | (refine full_append_step (by rfl) (.tmp 33) (.tmp 35) 25 3 rfl Try.underlying25 info3 A n xs (p : Int) _ rfl rfl ?hc ?HC HI.out.2.1 ?hl ?_; (case hc => exact BlS.new _ _ _); (case HC => exact Kd.C_below HRX.out.1 (by repeat (first | exact Below.refl _ _ | apply below_drew1 | apply below_alloc))); (case hl => have h_ := HI.out.2.2.2.1; omega); intro A1 c1 w36 hC1 hc1 hb36 hn36; have HB36 := Aside0.mk (below_step (w := wr) (by repeat (first | exact Below.refl _ _ | apply below_drew1 | apply below_alloc)) hb36); have HN36 := Aside0.mk (fun (a_ : Addr) (ha : A1 = some a_) => Nat.le_trans (below_size (w := wr) (by repeat (first | exact Below.refl _ _ | apply below_drew1 | apply below_alloc))) (hn36 a_ ha))) | (go_at_call 24; (with_reducible refine (HIH2.out A1 c1 _ (by repeat (first | exact HB36.out | apply below_drew1 | apply below_alloc)) ?k1 hc1 HN36.out).mono ?_); (case k1 => exact hC1); rintro e w48 ⟨rfl, hi48, hk48, hm48⟩; have HX48 := Aside0.mk (And.intro hi48 hm48)))
        all_goals go_wp2
        go_roundg (gk - 1)
        case measure => omega
        case rel => exact ⟨p + 1, by first | rfl | go_num, by omega, by omega, HX48⟩
      · have d1 : decide ((p : Int) < (N : Int)) = false := decide_eq_false (by omega)
        have d2 : decide (p < N) = false := decide_eq_false hlt
        have HF := Aside0.mk (show blindF rem step (m + 1) rest xs from_ σ = (List.range' from_ (p - from_)).foldl (fun σ (p : Nat) => blindF rem step m (Go.bits .xor .i64 rest (rd rem (p : Int))) (xs ++ [(p : Int)]) (p + 1) σ) σ by
          have e : p = N := by omega
          rw [blindF, HN.out, e])
        clear hlt
        go_wp2
        go_end0
        exact ⟨rfl, by rw [HF.out]; exact HR.out.1, HR.out.2⟩
def stepI (x : Int) : Int := if wrap64 (x * 2) > 255 then Go.bits .xor .i64 (wrap64 (x * 2)) 263 else wrap64 (x * 2)
/-- The rest of a bit so many places from the end. -/
def restI : Nat → Int
  | 0 => 1
  | k + 1 => stepI (restI k)
/-- The list of rests behind so many rounds. -/
def remsAt (N k : Nat) : List Int := (List.range N).map fun j => if N - k ≤ j then restI (N - 1 - j) else 0
theorem remsAt_len (N k : Nat) : (remsAt N k).length = N := by simp [remsAt]
theorem remsAt_zero (N : Nat) : remsAt N 0 = List.replicate N 0 := by
  refine List.ext_getElem (by simp [remsAt]) (fun i h1 h2 => ?_)
  simp only [remsAt, List.getElem_map, List.getElem_range, List.getElem_replicate]
  rw [if_neg (by simp [remsAt] at h1; omega)]
theorem remsAt_set (N k q : Nat) (h : N = q + k + 1) : (remsAt N k).set q (restI k) = remsAt N (k + 1) := by
  refine List.ext_getElem (by simp [remsAt]) (fun i h1 h2 => ?_)
  rw [List.getElem_set]
  simp only [remsAt, List.getElem_map, List.getElem_range]
  by_cases e : q = i
  · subst e
    rw [if_pos rfl, if_pos (by omega), show N - 1 - q = k by omega]
  · rw [if_neg e]
    by_cases c : N - k ≤ i
    · rw [if_pos c, if_pos (by omega)]
    · rw [if_neg c, if_neg (by omega)]
set_option maxHeartbeats 8000000 in
set_option maxRecDepth 100000 in
theorem allBlind_calls {S : Type} (Inv : S → World → Prop) (step : S → List Int → S) (gb B U : Nat) (fn : Func) (caps : Array Value) (n m : Nat) (σ : S) (W : World)
    (hf : Try.prog.funcs[U]? = some fn) (hname : (fn.name == "runtime.NumGoroutine") = false) (hbd : fn.body.isSome = true) (hn : n ≤ 6) (hm : m ≤ 4)
    (hmove : ∀ σ W W', Inv σ W → Below W.heap.size W W' → Inv σ W')
    (HU : ∀ σ (W : World) A n c xs, Inv σ W → B ≤ W.heap.size → gb < W.heap.size → Kd.C (Kd.int .i64) W A n xs → xs.length = n → n ≤ c → Calls Try.prog U (#[.slice A n c] ++ caps) W fun e W' => e = .returned (.tuple #[]) ∧ Inv (step σ xs) W' ∧ Moved gb B W W')
    (hI : Inv σ W) (hB : B ≤ W.heap.size) (hg : gb < W.heap.size) :
    Calls Try.prog 15 #[.int .i64 (n : Int), .int .i64 (m : Int), .func (.func U) #[] caps] W fun e W' => e = .returned (.tuple #[]) ∧ Inv (blindF (remsAt (8 * n) (8 * n)) step m 0 [] 0 σ) W' ∧ Moved gb B W W' := by
  obtain ⟨N, hN⟩ : ∃ N, 8 * n = N := ⟨_, rfl⟩
  have hNb : N ≤ 48 := by omega
  have hw8 : IntKind.i64.wrap (8 * (n : Int)) = (N : Int) := by rw [i64_w]; unfold wrap64; omega
  have hw9 : IntKind.i64.wrap ((N : Int) - 1) = (N : Int) - 1 := by rw [i64_w]; unfold wrap64; omega
  have HMM := Aside0.mk (And.intro hm hNb)
  have HUU := Aside0.mk HU
  have HMV := Aside0.mk hmove
  have HFN := Aside0.mk (And.intro hf (And.intro hname hbd))
  have HII := Aside0.mk (And.intro hI (And.intro hB hg))
  have hu25 := Try.underlying25
  have N0 : (0 : Int) ≤ (N : Int) := by omega
  rw [hN]
  clear hf hname hbd hI hB hg HU hmove hn hm
  go_enter Try.func15, Try.ntmps15
  go_wp2_with (first
    | ((with_reducible refine gate_dst (N := 11) rfl ?_); refine Kd.R_make (Kd.int .i64) _ 3 rfl (N := 11) rfl 25 _ _ rfl (N : Int) rfl rfl Try.underlying25 (.int .i64 0) 8 info3 rfl (by decide) (by omega) 0 (ok := fun _ => True) (okp := fun _ => True) rfl (fun _ hk => hk) trivial ?m0 ?m1 (Below.refl _ _) (Nat.le_refl _) ?_; (case m0 => omega); (case m1 => have := HMM.out.2; omega); intro v11 w11 ho hb hg_ hnew_; obtain ⟨A11, c11, e11⟩ := Kd.R_slice ho; rw [List.length_replicate, Int.toNat_natCast] at e11; subst e11; have HO := Aside0.mk (And.intro ho hb); clear ho hb hg_ hnew_))
  go_loopg [7, 8] N (fun k v7 v8 wr => ∃ j : Nat, v7 = .int .i64 ((N : Int) - 1 - (j : Int)) ∧ v8 = .int .i64 (restI j) ∧ j + k = N ∧ Aside0 (Kd.R (Kd.int .i64) 3 wr W.heap.size (fun _ => True) (.slice A11 N c11) (remsAt N j) ∧ Below W.heap.size W wr))
  case atStart => exact ⟨0, by first | rfl | go_num | simp, rfl, by omega, ⟨by rw [remsAt_zero]; simpa using HO.out.1, HO.out.2⟩⟩
  case round =>
    obtain ⟨j, rfl, rfl, hjk, HR⟩ := hrel
    clear HO
    by_cases hlt : j < N
    · obtain ⟨q, hq⟩ : ∃ q, N = q + j + 1 := ⟨N - 1 - j, by omega⟩
      have eq1 : (N : Int) - 1 - (j : Int) = (q : Int) := by omega
      rw [eq1]
      obtain ⟨g, cap, ev, hg1, hg2, _⟩ := Kd.R_form HR.out.1 (by rw [remsAt_len]; omega)
      rw [remsAt_len] at ev
      obtain rfl : A11 = some ⟨g, 0, none⟩ := by injection ev
      clear ev
      have cq := Kd.R_celln (0 : Int) HR.out.1 (q : Int) (by omega) (by omega)
      rw [Int.toNat_natCast] at cq
      obtain ⟨cq1, cq2⟩ := cq
      have HP := Aside0.mk (Kd.R_putn HR.out.1 (q : Int) (restI j))
      have p0 : (0 : Int) ≤ (q : Int) := by omega
      have q0 : (q : Int) < (N : Int) := by omega
      have d1 : decide ((0 : Int) ≤ (q : Int)) = true := decide_eq_true p0
      have hwq : IntKind.i64.wrap ((q : Int) - 1) = (q : Int) - 1 := by have := HMM.out.2; rw [i64_w]; unfold wrap64; omega
      have HBN := Aside0.mk (below_set (g := g) (j := q) (v := .int .i64 (restI j)) HR.out.2 hg1)
      have HQ := Aside0.mk (And.intro hq hlt)
      have HNX := Aside0.mk (show restI (j + 1) = stepI (restI j) from rfl)
      clear hlt eq1 hg1 hg2
      have HS := Aside0.mk (remsAt_set N j q hq)
      generalize restI j = x at HP HS HBN HNX ⊢
      unfold stepI at HNX
      by_cases hc : wrap64 (x * 2) > 255
      · have HNX2 := Aside0.mk (HNX.out.trans (if_pos hc))
        have d2 : decide (255 < wrap64 (x * 2)) = true := decide_eq_true hc
        clear hc HNX
        go_wp2
        go_roundg (gk - 1)
        case measure => omega
        case rel =>
          refine ⟨j + 1, by have := HQ.out.1; first | rfl | (congr 1; omega) | go_num, by (rw [HNX2.out]) <;> first | rfl | (simp; done), by omega, ⟨?_, ?_⟩⟩
          · have h := HP.out
            rw [Int.toNat_natCast, HS.out] at h
            exact h
          · exact HBN.out
      · have HNX2 := Aside0.mk (HNX.out.trans (if_neg hc))
        have d2 : decide (255 < wrap64 (x * 2)) = false := decide_eq_false hc
        clear hc HNX
        go_wp2
        go_roundg (gk - 1)
        case measure => omega
        case rel =>
          refine ⟨j + 1, by have := HQ.out.1; first | rfl | (congr 1; omega) | go_num, by (rw [HNX2.out]) <;> first | rfl | (simp; done), by omega, ⟨?_, ?_⟩⟩
          · have h := HP.out
            rw [Int.toNat_natCast, HS.out] at h
            exact h
          · exact HBN.out
    · have eN : j = N := by omega
      rw [eN] at HR ⊢
      have eq1 : (N : Int) - 1 - (N : Int) = -1 := by omega
      rw [eq1]
      have HC := Aside0.mk (Kd.R_reads' HR.out.1)
      have HBS := Aside0.mk (Kd.R_base HR.out.1)
      have HFIN : Aside0 (∀ A1, A1 = A11 → Calls Try.prog 24 #[.slice A11 N c11, .slice none 0 0, .int .i64 0, .int .i64 (m : Int), .int .i64 0, .func (.func U) #[] caps] wr fun e W' => e = .returned (.tuple #[]) ∧ Inv (blindF (remsAt N N) step m 0 [] 0 σ) W' ∧ Moved gb B wr W') := ⟨fun _ _ => by
        have h := blind_calls Inv step gb B U fn caps (remsAt N N) A11 c11 HFN.out.1 HFN.out.2.1 HFN.out.2.2 (by rw [remsAt_len]; have := HMM.out.2; omega) (by rw [remsAt_len]; exact HC.out.2.1) HMV.out (fun ad he _ => by have h1 := HBS.out ad.block (by rw [he]; rfl); have h2 := HII.out.2.2; omega) HUU.out m 0 [] 0 σ none 0 0 wr (HMV.out _ _ _ HII.out.1 HR.out.2) (Kd.C_nil _ _) rfl (Nat.le_refl _) (by have := HMM.out.1; omega) (fun _ he _ => by cases he) HC.out.2.2 (Nat.zero_le _) (Nat.le_trans HII.out.2.1 HR.out.2.size) (Nat.lt_of_lt_of_le HII.out.2.2 HR.out.2.size)
        rw [remsAt_len] at h
        exact h⟩
      clear hlt eN
      go_wp2_with (first
        | (go_at_call 24; (with_reducible refine (HFIN.out A11 rfl).mono ?_); rintro e w32 ⟨rfl, hi, hm⟩; have HX := Aside0.mk (And.intro hi (Moved.trans (Moved.below (Moved.refl gb B W) HII.out.2.1 HR.out.2) hm)); clear hi hm))
      go_end0
      exact ⟨rfl, HX.out.1, HX.out.2⟩
/-- The count stands in its box. -/
def CntAt (gb : Nat) (σ : Int) (W : World) : Prop := W.heap[gb]? = some (.cells #[.int .i64 σ] 3 (0, 0))
theorem CntAt.move {gb : Nat} (σ : Int) (W W' : World) (h : CntAt gb σ W) (hb : Below W.heap.size W W') : CntAt gb σ W' := blk_below h hb
set_option maxHeartbeats 8000000 in
set_option maxRecDepth 100000 in
theorem count_step (gb B : Nat) (hB : B ≤ gb) (σ : Int) (W : World) (A : Option Addr) (n c : Nat) (h : CntAt gb σ W) :
    Calls Try.prog 16 #[.slice A n c, .pointer (some ⟨gb, 0, none⟩)] W fun e W' => e = .returned (.tuple #[]) ∧ CntAt gb (wrap64 (σ + 1)) W' ∧ Moved gb B W W' := by
  have hcz := (blk_cell h 0).trans rfl
  have hfz := blk_frozen h 0
  have HX := Aside0.mk (And.intro (show CntAt gb (wrap64 (σ + 1)) (W.setCell ⟨gb, 0, none⟩ (.int .i64 (wrap64 (σ + 1)))) from blk_set h 0 _) (show Moved gb B W (W.setCell ⟨gb, 0, none⟩ (.int .i64 (wrap64 (σ + 1)))) from ⟨KeepBut.set_ (KeepBut.refl _ _ _) 0 _, (Below.refl B W).setCell hB _⟩))
  clear h
  go_enter Try.func16, Try.ntmps16
  go_wp2
  go_end0
  exact ⟨rfl, HX.out.1, HX.out.2⟩
def impl_CountBlind.f (a0 : Int) (a1 : Int) : Option (Int × Bool) := (impl_isBlind.f a0 a1).bind fun t => if t = true then (if 1 ≤ a0 ∧ a0 ≤ 6 ∧ 1 ≤ a1 ∧ a1 ≤ 4 then some (blindF (remsAt (8 * a0.toNat) (8 * a0.toNat)) (fun (σ : Int) _ => wrap64 (σ + 1)) a1.toNat 0 [] 0 0, true) else none) else some (0, false)
set_option maxHeartbeats 8000000 in
set_option maxRecDepth 100000 in
theorem impl_CountBlind.calls (a0 : Int) (a1 : Int) (r1 : Int) (r2 : Bool) (w : World) (h : impl_CountBlind.f a0 a1 = some (r1, r2)) :
    Calls Try.prog 6 #[.int .i64 a0, .int .i64 a1] w fun e w' => e = .returned (.tuple #[.int .i64 r1, .bool r2]) ∧ Below w.heap.size w w' := by
  unfold impl_CountBlind.f at h
  obtain ⟨t, ht, h⟩ := Option.bind_eq_some_iff.mp h
  have HT := Aside0.mk ht
  clear ht
  cases t with
  | false =>
    obtain ⟨rfl, rfl⟩ : (0 : Int) = r1 ∧ false = r2 := by rw [if_neg (by simp)] at h; simpa using h
    clear h
    go_enter Try.func6, Try.ntmps6
    go_wp2_with (first
      | (go_at_call 14; (with_reducible refine (impl_isBlind.calls a0 a1 false _ HT.out).mono ?_); rintro e w2 ⟨rfl, hd⟩; have HB := Aside0.mk hd.below; clear hd))
    go_ret2
    exact ⟨rfl, HB.out⟩
  | true =>
    rw [if_pos rfl] at h
    by_cases hin : 1 ≤ a0 ∧ a0 ≤ 6 ∧ 1 ≤ a1 ∧ a1 ≤ 4
    case neg => rw [if_neg hin] at h; cases h
    rw [if_pos hin] at h
    obtain ⟨n, rfl⟩ : ∃ n : Nat, a0 = (n : Int) := ⟨a0.toNat, by omega⟩
    obtain ⟨m, rfl⟩ : ∃ m : Nat, a1 = (m : Int) := ⟨a1.toNat, by omega⟩
    rw [Int.toNat_natCast, Int.toNat_natCast] at h
    obtain ⟨rfl, rfl⟩ : blindF (remsAt (8 * n) (8 * n)) (fun (σ : Int) _ => wrap64 (σ + 1)) m 0 [] 0 0 = r1 ∧ true = r2 := by simpa using h
    have HIN := Aside0.mk hin
    clear h hin
    go_enter Try.func6, Try.ntmps6
    go_upto_region 4 with (first
      | (go_at_call 14; (with_reducible refine (impl_isBlind.calls (n : Int) (m : Int) true _ HT.out).mono ?_); rintro e w2 ⟨rfl, hd⟩; have HB := Aside0.mk hd.below; clear hd))
    have HST := Aside0.mk (And.intro (show CntAt w2.heap.size 0 (w2.alloc (.cells #[.int .i64 0] 3)) from blk_new _ _) (below_alloc (Below.refl w2.heap.size w2) (.cells #[.int .i64 0] 3)))
    have HGS : Aside0 (w2.heap.size < (w2.alloc (.cells #[.int .i64 0] 3)).heap.size) := ⟨blk_lt HST.out.1⟩
    generalize w2.alloc (.cells #[.int .i64 0] 3) = w3 at HST HGS ⊢
    have HC := Aside0.mk (allBlind_calls (CntAt w2.heap.size) (fun (σ : Int) _ => wrap64 (σ + 1)) w2.heap.size w2.heap.size 16 Try.f16 #[.pointer (some ⟨w2.heap.size, 0, none⟩)] n m 0 w3 (by kernel_rfl) (by kernel_rfl) (by kernel_rfl) (by have := HIN.out; omega) (by have := HIN.out; omega) (CntAt.move) (fun σ W A n c xs h _ _ _ _ _ => count_step w2.heap.size w2.heap.size (Nat.le_refl _) σ W A n c h) HST.out.1 (Nat.le_of_lt HGS.out) HGS.out)
    go_upto_region 5 with (first
      | (go_at_call 15; (with_reducible refine (HC.out).mono ?_); rintro e w4 ⟨rfl, hi, hm⟩; have hcz := (blk_cell hi 0).trans rfl; have HX := Aside0.mk (below_step HB.out (Below.trans HST.out.2 hm.2)); clear hm))
    go_wp2
    go_ret2
    exact ⟨rfl, HX.out⟩

end Go.Proofs.Ytnhlfbnfngembaa.PFnExactCountBlind
