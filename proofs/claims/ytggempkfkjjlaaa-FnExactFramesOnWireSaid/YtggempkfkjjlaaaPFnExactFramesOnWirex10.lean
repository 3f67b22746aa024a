/- Printed by wip/tools/pr.py: the walks of the functions that a law reaches; not trusted, Lean checks it. No condition. -/
import Derived.Test.YtggempkfkjjlaaaPFnExactFramesOnWirex0
import Derived.Test.YtggempkfkjjlaaaPFnExactFramesOnWirex1
import Derived.Test.YtggempkfkjjlaaaPFnExactFramesOnWirex4
import Derived.Test.YtggempkfkjjlaaaPFnExactFramesOnWirex8
import Derived.Test.YtggempkfkjjlaaaPFnExactFramesOnWirex9
namespace Go.Proofs.Ytggempkfkjjlaaa.PFnExactFramesOnWire
open Go.RowKit Go.Proofs.YtggempkfkjjlaaaW.PrintWords Go.Proofs.YtggempkfkjjlaaaW.PrintLast Go.Proofs.YtggempkfkjjlaaaW.PrintMore
attribute [local go_sem] max2_int min2_int max_two min_two max_three min_three max_four min_four   -- for this text's walks alone
set_option linter.unusedVariables false
set_option linter.unusedSimpArgs false

/-! ### laws_heldFrameS: function 50 -/
def laws_heldFrameS.l0 : Nat → List (S34) → Int → Int → Option (Int)
  | 0, _, _, _ => none
  | k + 1, x0, x1, x5 => if x5 < (x0.length : Int) then (if 0 ≤ x5 then (if ((rd_T34 x0 x5).f0) = x1 then (if ((rd_T34 x0 x5).f1) = (wrap64 (x1 + 1)) then (if ((rd_T34 x0 x5).f2) = (wrap64 ((wrap64 (x1 + 1)) + 1)) then ((laws_heldIntS.f k ((rd_T34 x0 x5).f3) (wrap64 ((wrap64 ((wrap64 (x1 + 1)) + 1)) + 1))).bind fun t296 => (if t296 < 0 then (some (-1)) else (laws_heldFrameS.l0 k x0 t296 (wrap64 (x5 + 1))))) else (some (-1))) else (some (-1))) else (some (-1))) else (none)) else (some x1)
def laws_heldFrameS.f (k : Nat) (l0 : List (S34)) (a1 : Int) : Option (Int) := laws_heldFrameS.l0 k l0 a1 0
theorem laws_heldFrameS.mono_l : ∀ k, (∀ y0 y1 y2, LeO (laws_heldFrameS.l0 k y0 y1 y2) (laws_heldFrameS.l0 (k + 1) y0 y1 y2))
  | 0 => fun _ _ _ r h => by simp [laws_heldFrameS.l0] at h
  | k + 1 => by
    have ih0 := laws_heldFrameS.mono_l k
    · intro y0 y1 y2
      unfold laws_heldFrameS.l0
      repeat' first
      | (with_reducible exact ih0 _ _ _)
      | (with_reducible exact laws_heldIntS.mono _ _ _)
      | (with_reducible exact LeO.refl _)
      | (with_reducible exact LeO.none _)
      | (with_reducible refine LeO.ite ?_ ?_)
      | (with_reducible refine LeO.bind ?_ (fun _ => ?_))
      | exact ih0 _ _ _
      | exact laws_heldIntS.mono _ _ _
      | exact LeO.none _
      | refine LeO.ite ?_ ?_
      | refine LeO.bind ?_ (fun _ => ?_)
theorem laws_heldFrameS.mono : ∀ a0 a1 k, LeO (laws_heldFrameS.f k a0 a1) (laws_heldFrameS.f (k + 1) a0 a1) := by
  intro a0 a1 k
  have ih0 := laws_heldFrameS.mono_l k
  unfold laws_heldFrameS.f
  repeat' first
      | (with_reducible exact ih0 _ _ _)
      | (with_reducible exact laws_heldIntS.mono _ _ _)
      | (with_reducible exact LeO.refl _)
      | (with_reducible exact LeO.none _)
      | (with_reducible refine LeO.ite ?_ ?_)
      | (with_reducible refine LeO.bind ?_ (fun _ => ?_))
      | exact ih0 _ _ _
      | exact laws_heldIntS.mono _ _ _
      | exact LeO.none _
      | refine LeO.ite ?_ ?_
      | refine LeO.bind ?_ (fun _ => ?_)
set_option maxHeartbeats 8000000 in
set_option maxRecDepth 100000 in
theorem laws_heldFrameS.calls (k : Nat) (A0 : Option Addr) (c0 : Nat) (l0 : List (S34)) (a1 : Int) (r : Int) (w : World) (hr0 : Kd.C k34 w A0 l0.length l0) (hc0 : l0.length ≤ c0) (h : laws_heldFrameS.f k l0 a1 = some r) :
    Calls Try.prog 50 #[.slice A0 l0.length c0, .int .i64 a1] w fun e w' => e = .returned (.int .i64 r) ∧ Drawn0 w w' := by
  have HR0 := Aside0.mk hr0
  have HC0 := Aside0.mk hc0
  clear hr0 hc0
  have H : (laws_heldFrameS.l0 k l0 a1 0) = some r := h
  clear h
  have H' := Aside0.mk H
  clear H
  go_enter Try.func50, Try.ntmps50
  go_wp2
  go_loopg [1, 5] k (fun kq v1 v5 w' => ∃ (x1_1 : Int) (x5_1 : Int), v1 = .int .i64 x1_1 ∧ v5 = .int .i64 x5_1 ∧ Aside0 (laws_heldFrameS.l0 kq l0 x1_1 x5_1 = some r) ∧ Aside0 (kq ≤ k) ∧ Drawn0 w w')
  case atStart => exact ⟨(a1), (0), (by first | rfl | (simp; done) | (simp [*]; done)), (by first | rfl | (simp; done) | (simp [*]; done)), H', ⟨Nat.le_refl _⟩, by repeat (first | exact Drawn0.refl _ | apply Drawn0.step)⟩
  case round =>
    clear H'
    try clear p2
    obtain ⟨x1_1, x5_1, rfl, rfl, HA, HK1, ⟨m1, rfl⟩⟩ := hrel
    cases gk with
    | zero => exact absurd HA.out (by simp [laws_heldFrameS.l0])
    | succ k1 =>
      have H := HA.out
      clear HA
      simp only [laws_heldFrameS.l0] at H
      by_cases c3 : x5_1 < (l0.length : Int)
      · rw [if_pos c3] at H
        have c3b0 : decide (x5_1 < (l0.length : Int)) = true := decide_eq_true c3
        clear c3
        by_cases c4 : 0 ≤ x5_1
        · rw [if_pos c4] at H
          have c4b0 : decide (0 ≤ x5_1) = true := decide_eq_true c4
          clear c4
          by_cases c5 : ((rd_T34 l0 x5_1).f0) = x1_1
          · rw [if_pos c5] at H
            have c5b0 : (((rd_T34 l0 x5_1).f0) == x1_1) = true := beq_iff_eq.mpr c5
            have c5b1 : (((rd_T34 l0 x5_1).f0) != x1_1) = false := bne_eq_false_iff_eq.mpr c5
            clear c5
            by_cases c6 : ((rd_T34 l0 x5_1).f1) = (wrap64 (x1_1 + 1))
            · rw [if_pos c6] at H
              have c6b0 : (((rd_T34 l0 x5_1).f1) == (wrap64 (x1_1 + 1))) = true := beq_iff_eq.mpr c6
              have c6b1 : (((rd_T34 l0 x5_1).f1) != (wrap64 (x1_1 + 1))) = false := bne_eq_false_iff_eq.mpr c6
              clear c6
              by_cases c7 : ((rd_T34 l0 x5_1).f2) = (wrap64 ((wrap64 (x1_1 + 1)) + 1))
              · rw [if_pos c7] at H
                have c7b0 : (((rd_T34 l0 x5_1).f2) == (wrap64 ((wrap64 (x1_1 + 1)) + 1))) = true := beq_iff_eq.mpr c7
                have c7b1 : (((rd_T34 l0 x5_1).f2) != (wrap64 ((wrap64 (x1_1 + 1)) + 1))) = false := bne_eq_false_iff_eq.mpr c7
                clear c7
                replace H := Option.bind_eq_some_iff.mp H
                obtain ⟨t296, A80, H⟩ := H
                replace H : (if t296 < 0 then (some (-1)) else (laws_heldFrameS.l0 k1 l0 t296 (wrap64 (x5_1 + 1)))) = some r := H
                have A8 := Aside0.mk A80
                clear A80
                by_cases c9 : t296 < 0
                · rw [if_pos c9] at H
                  have c9b0 : decide (t296 < 0) = true := decide_eq_true c9
                  clear c9
                  obtain rfl := Option.some.inj H
                  have p292 : 0 ≤ (x5_1 : Int) := of_decide_eq_true (by first | (with_reducible assumption) | assumption)
                  have q292 : x5_1 < (l0.length : Int) := of_decide_eq_true (by first | (with_reducible assumption) | assumption)
                  obtain ⟨ad292, A292_3, c292_3, e292, hx292_0, hx292_1, hx292_2, hx292_3, hl292_3, hi292_3⟩ := at_T34 HR0.out x5_1 p292 q292
                  cases e292
                  have HR292_3 := Aside0.mk hi292_3
                  have HC292_3 := Aside0.mk hl292_3
                  clear hi292_3 hl292_3
                  replace p292 := eq_true p292
                  replace q292 := eq_true q292
                  have p293 : 0 ≤ (x5_1 : Int) := of_decide_eq_true (by first | (with_reducible assumption) | assumption)
                  have q293 : x5_1 < (l0.length : Int) := of_decide_eq_true (by first | (with_reducible assumption) | assumption)
                  obtain ⟨ad293, A293_3, c293_3, e293, hx293_0, hx293_1, hx293_2, hx293_3, hl293_3, hi293_3⟩ := at_T34 HR0.out x5_1 p293 q293
                  obtain rfl : ad292 = ad293 := (by injection e293)
                  have HR293_3 := Aside0.mk hi293_3
                  have HC293_3 := Aside0.mk hl293_3
                  clear hi293_3 hl293_3
                  replace p293 := eq_true p293
                  replace q293 := eq_true q293
                  have ea_ := Option.some.inj (hx292_3.symm.trans hx293_3)
                  injection ea_ with ea_ en_ ec_
                  subst ea_
                  subst ec_
                  clear en_
                  have p294 : 0 ≤ (x5_1 : Int) := of_decide_eq_true (by first | (with_reducible assumption) | assumption)
                  have q294 : x5_1 < (l0.length : Int) := of_decide_eq_true (by first | (with_reducible assumption) | assumption)
                  obtain ⟨ad294, A294_3, c294_3, e294, hx294_0, hx294_1, hx294_2, hx294_3, hl294_3, hi294_3⟩ := at_T34 HR0.out x5_1 p294 q294
                  obtain rfl : ad292 = ad294 := (by injection e294)
                  have HR294_3 := Aside0.mk hi294_3
                  have HC294_3 := Aside0.mk hl294_3
                  clear hi294_3 hl294_3
                  replace p294 := eq_true p294
                  replace q294 := eq_true q294
                  have ea_ := Option.some.inj (hx292_3.symm.trans hx294_3)
                  injection ea_ with ea_ en_ ec_
                  subst ea_
                  subst ec_
                  clear en_
                  have p295 : 0 ≤ (x5_1 : Int) := of_decide_eq_true (by first | (with_reducible assumption) | assumption)
                  have q295 : x5_1 < (l0.length : Int) := of_decide_eq_true (by first | (with_reducible assumption) | assumption)
                  obtain ⟨ad295, A295_3, c295_3, e295, hx295_0, hx295_1, hx295_2, hx295_3, hl295_3, hi295_3⟩ := at_T34 HR0.out x5_1 p295 q295
                  obtain rfl : ad292 = ad295 := (by injection e295)
                  have HR295_3 := Aside0.mk hi295_3
                  have HC295_3 := Aside0.mk hl295_3
                  clear hi295_3 hl295_3
                  replace p295 := eq_true p295
                  replace q295 := eq_true q295
                  have ea_ := Option.some.inj (hx292_3.symm.trans hx295_3)
                  injection ea_ with ea_ en_ ec_
                  subst ea_
                  subst ec_
                  clear en_
                  go_wp2_with (first | ((with_reducible refine gate_callee (f := 29) rfl ?_); refine goesL_ (some 45) rfl rfl Try.func29 (by kernel_rfl) rfl #[.slice A292_3 ((rd_T34 l0 x5_1).f3).length c292_3, .int .i64 (wrap64 ((wrap64 ((wrap64 (x1_1 + 1)) + 1)) + 1))] rfl (by (try simp only [List.map_toArray, List.map_cons, List.map_nil]); first | done | rfl | (simp only [List.length_drop, List.length_take]; rfl)) ?_; (with_reducible refine (laws_heldIntS.calls k1 _ _ ((rd_T34 l0 x5_1).f3) (wrap64 ((wrap64 ((wrap64 (x1_1 + 1)) + 1)) + 1)) t296 _ ?side1 ?side2 A8.out).mono ?_); (case side1 => repeat (first | exact HR295_3.out | (with_reducible refine Kd.C_alloc ?_ _) | (with_reducible refine Kd.C_drewN ?_ _) | (with_reducible refine Kd.C_drew ?_))); (case side2 => exact HC295_3.out); rintro e w' ⟨rfl, ⟨nd, rfl⟩⟩; refine ⟨_, rfl, ?_⟩))
                  go_ret
                  exact ⟨by first | rfl | (simp; done) | (simp [*]; done), by repeat (first | exact Drawn0.refl _ | apply Drawn0.step)⟩
                · rw [if_neg c9] at H
                  have c9b0 : decide (t296 < 0) = false := decide_eq_false c9
                  clear c9
                  have H' := Aside0.mk H
                  clear H
                  have p292 : 0 ≤ (x5_1 : Int) := of_decide_eq_true (by first | (with_reducible assumption) | assumption)
                  have q292 : x5_1 < (l0.length : Int) := of_decide_eq_true (by first | (with_reducible assumption) | assumption)
                  obtain ⟨ad292, A292_3, c292_3, e292, hx292_0, hx292_1, hx292_2, hx292_3, hl292_3, hi292_3⟩ := at_T34 HR0.out x5_1 p292 q292
                  cases e292
                  have HR292_3 := Aside0.mk hi292_3
                  have HC292_3 := Aside0.mk hl292_3
                  clear hi292_3 hl292_3
                  replace p292 := eq_true p292
                  replace q292 := eq_true q292
                  have p293 : 0 ≤ (x5_1 : Int) := of_decide_eq_true (by first | (with_reducible assumption) | assumption)
                  have q293 : x5_1 < (l0.length : Int) := of_decide_eq_true (by first | (with_reducible assumption) | assumption)
                  obtain ⟨ad293, A293_3, c293_3, e293, hx293_0, hx293_1, hx293_2, hx293_3, hl293_3, hi293_3⟩ := at_T34 HR0.out x5_1 p293 q293
                  obtain rfl : ad292 = ad293 := (by injection e293)
                  have HR293_3 := Aside0.mk hi293_3
                  have HC293_3 := Aside0.mk hl293_3
                  clear hi293_3 hl293_3
                  replace p293 := eq_true p293
                  replace q293 := eq_true q293
                  have ea_ := Option.some.inj (hx292_3.symm.trans hx293_3)
                  injection ea_ with ea_ en_ ec_
                  subst ea_
                  subst ec_
                  clear en_
                  have p294 : 0 ≤ (x5_1 : Int) := of_decide_eq_true (by first | (with_reducible assumption) | assumption)
                  have q294 : x5_1 < (l0.length : Int) := of_decide_eq_true (by first | (with_reducible assumption) | assumption)
                  obtain ⟨ad294, A294_3, c294_3, e294, hx294_0, hx294_1, hx294_2, hx294_3, hl294_3, hi294_3⟩ := at_T34 HR0.out x5_1 p294 q294
                  obtain rfl : ad292 = ad294 := (by injection e294)
                  have HR294_3 := Aside0.mk hi294_3
                  have HC294_3 := Aside0.mk hl294_3
                  clear hi294_3 hl294_3
                  replace p294 := eq_true p294
                  replace q294 := eq_true q294
                  have ea_ := Option.some.inj (hx292_3.symm.trans hx294_3)
                  injection ea_ with ea_ en_ ec_
                  subst ea_
                  subst ec_
                  clear en_
                  have p295 : 0 ≤ (x5_1 : Int) := of_decide_eq_true (by first | (with_reducible assumption) | assumption)
                  have q295 : x5_1 < (l0.length : Int) := of_decide_eq_true (by first | (with_reducible assumption) | assumption)
                  obtain ⟨ad295, A295_3, c295_3, e295, hx295_0, hx295_1, hx295_2, hx295_3, hl295_3, hi295_3⟩ := at_T34 HR0.out x5_1 p295 q295
                  obtain rfl : ad292 = ad295 := (by injection e295)
                  have HR295_3 := Aside0.mk hi295_3
                  have HC295_3 := Aside0.mk hl295_3
                  clear hi295_3 hl295_3
                  replace p295 := eq_true p295
                  replace q295 := eq_true q295
                  have ea_ := Option.some.inj (hx292_3.symm.trans hx295_3)
                  injection ea_ with ea_ en_ ec_
                  subst ea_
                  subst ec_
                  clear en_
                  go_wp2_with (first | ((with_reducible refine gate_callee (f := 29) rfl ?_); refine goesL_ (some 45) rfl rfl Try.func29 (by kernel_rfl) rfl #[.slice A292_3 ((rd_T34 l0 x5_1).f3).length c292_3, .int .i64 (wrap64 ((wrap64 ((wrap64 (x1_1 + 1)) + 1)) + 1))] rfl (by (try simp only [List.map_toArray, List.map_cons, List.map_nil]); first | done | rfl | (simp only [List.length_drop, List.length_take]; rfl)) ?_; (with_reducible refine (laws_heldIntS.calls k1 _ _ ((rd_T34 l0 x5_1).f3) (wrap64 ((wrap64 ((wrap64 (x1_1 + 1)) + 1)) + 1)) t296 _ ?side1 ?side2 A8.out).mono ?_); (case side1 => repeat (first | exact HR295_3.out | (with_reducible refine Kd.C_alloc ?_ _) | (with_reducible refine Kd.C_drewN ?_ _) | (with_reducible refine Kd.C_drew ?_))); (case side2 => exact HC295_3.out); rintro e w' ⟨rfl, ⟨nd, rfl⟩⟩; refine ⟨_, rfl, ?_⟩))
                  go_roundg k1
                  case measure => have := HK1.out; omega
                  case rel => exact ⟨(t296), (wrap64 (x5_1 + 1)), (by first | rfl | (simp; done) | (simp [*]; done)), (by first | rfl | (simp; done) | (simp [*]; done)), H', ⟨by have := HK1.out; omega⟩, by repeat (first | exact Drawn0.refl _ | apply Drawn0.step)⟩
              · rw [if_neg c7] at H
                have c7b0 : (((rd_T34 l0 x5_1).f2) == (wrap64 ((wrap64 (x1_1 + 1)) + 1))) = false := beq_eq_false_iff_ne.mpr c7
                have c7b1 : (((rd_T34 l0 x5_1).f2) != (wrap64 ((wrap64 (x1_1 + 1)) + 1))) = true := bne_iff_ne.mpr c7
                obtain rfl := Option.some.inj H
                have p292 : 0 ≤ (x5_1 : Int) := of_decide_eq_true (by first | (with_reducible assumption) | assumption)
                have q292 : x5_1 < (l0.length : Int) := of_decide_eq_true (by first | (with_reducible assumption) | assumption)
                obtain ⟨ad292, A292_3, c292_3, e292, hx292_0, hx292_1, hx292_2, hx292_3, hl292_3, hi292_3⟩ := at_T34 HR0.out x5_1 p292 q292
                cases e292
                have HR292_3 := Aside0.mk hi292_3
                have HC292_3 := Aside0.mk hl292_3
                clear hi292_3 hl292_3
                replace p292 := eq_true p292
                replace q292 := eq_true q292
                have p293 : 0 ≤ (x5_1 : Int) := of_decide_eq_true (by first | (with_reducible assumption) | assumption)
                have q293 : x5_1 < (l0.length : Int) := of_decide_eq_true (by first | (with_reducible assumption) | assumption)
                obtain ⟨ad293, A293_3, c293_3, e293, hx293_0, hx293_1, hx293_2, hx293_3, hl293_3, hi293_3⟩ := at_T34 HR0.out x5_1 p293 q293
                obtain rfl : ad292 = ad293 := (by injection e293)
                have HR293_3 := Aside0.mk hi293_3
                have HC293_3 := Aside0.mk hl293_3
                clear hi293_3 hl293_3
                replace p293 := eq_true p293
                replace q293 := eq_true q293
                have ea_ := Option.some.inj (hx292_3.symm.trans hx293_3)
                injection ea_ with ea_ en_ ec_
                subst ea_
                subst ec_
                clear en_
                have p294 : 0 ≤ (x5_1 : Int) := of_decide_eq_true (by first | (with_reducible assumption) | assumption)
                have q294 : x5_1 < (l0.length : Int) := of_decide_eq_true (by first | (with_reducible assumption) | assumption)
                obtain ⟨ad294, A294_3, c294_3, e294, hx294_0, hx294_1, hx294_2, hx294_3, hl294_3, hi294_3⟩ := at_T34 HR0.out x5_1 p294 q294
                obtain rfl : ad292 = ad294 := (by injection e294)
                have HR294_3 := Aside0.mk hi294_3
                have HC294_3 := Aside0.mk hl294_3
                clear hi294_3 hl294_3
                replace p294 := eq_true p294
                replace q294 := eq_true q294
                have ea_ := Option.some.inj (hx292_3.symm.trans hx294_3)
                injection ea_ with ea_ en_ ec_
                subst ea_
                subst ec_
                clear en_
                go_wp2
                go_ret
                exact ⟨by first | rfl | (simp; done) | (simp [*]; done), by repeat (first | exact Drawn0.refl _ | apply Drawn0.step)⟩
            · rw [if_neg c6] at H
              have c6b0 : (((rd_T34 l0 x5_1).f1) == (wrap64 (x1_1 + 1))) = false := beq_eq_false_iff_ne.mpr c6
              have c6b1 : (((rd_T34 l0 x5_1).f1) != (wrap64 (x1_1 + 1))) = true := bne_iff_ne.mpr c6
              obtain rfl := Option.some.inj H
              have p292 : 0 ≤ (x5_1 : Int) := of_decide_eq_true (by first | (with_reducible assumption) | assumption)
              have q292 : x5_1 < (l0.length : Int) := of_decide_eq_true (by first | (with_reducible assumption) | assumption)
              obtain ⟨ad292, A292_3, c292_3, e292, hx292_0, hx292_1, hx292_2, hx292_3, hl292_3, hi292_3⟩ := at_T34 HR0.out x5_1 p292 q292
              cases e292
              have HR292_3 := Aside0.mk hi292_3
              have HC292_3 := Aside0.mk hl292_3
              clear hi292_3 hl292_3
              replace p292 := eq_true p292
              replace q292 := eq_true q292
              have p293 : 0 ≤ (x5_1 : Int) := of_decide_eq_true (by first | (with_reducible assumption) | assumption)
              have q293 : x5_1 < (l0.length : Int) := of_decide_eq_true (by first | (with_reducible assumption) | assumption)
              obtain ⟨ad293, A293_3, c293_3, e293, hx293_0, hx293_1, hx293_2, hx293_3, hl293_3, hi293_3⟩ := at_T34 HR0.out x5_1 p293 q293
              obtain rfl : ad292 = ad293 := (by injection e293)
              have HR293_3 := Aside0.mk hi293_3
              have HC293_3 := Aside0.mk hl293_3
              clear hi293_3 hl293_3
              replace p293 := eq_true p293
              replace q293 := eq_true q293
              have ea_ := Option.some.inj (hx292_3.symm.trans hx293_3)
              injection ea_ with ea_ en_ ec_
              subst ea_
              subst ec_
              clear en_
              go_wp2
              go_ret
              exact ⟨by first | rfl | (simp; done) | (simp [*]; done), by repeat (first | exact Drawn0.refl _ | apply Drawn0.step)⟩
          · rw [if_neg c5] at H
            have c5b0 : (((rd_T34 l0 x5_1).f0) == x1_1) = false := beq_eq_false_iff_ne.mpr c5
            have c5b1 : (((rd_T34 l0 x5_1).f0) != x1_1) = true := bne_iff_ne.mpr c5
            obtain rfl := Option.some.inj H
            have p292 : 0 ≤ (x5_1 : Int) := of_decide_eq_true (by first | (with_reducible assumption) | assumption)
            have q292 : x5_1 < (l0.length : Int) := of_decide_eq_true (by first | (with_reducible assumption) | assumption)
            obtain ⟨ad292, A292_3, c292_3, e292, hx292_0, hx292_1, hx292_2, hx292_3, hl292_3, hi292_3⟩ := at_T34 HR0.out x5_1 p292 q292
            cases e292
            have HR292_3 := Aside0.mk hi292_3
            have HC292_3 := Aside0.mk hl292_3
            clear hi292_3 hl292_3
            replace p292 := eq_true p292
            replace q292 := eq_true q292
            go_wp2
            go_ret
            exact ⟨by first | rfl | (simp; done) | (simp [*]; done), by repeat (first | exact Drawn0.refl _ | apply Drawn0.step)⟩
        · rw [if_neg c4] at H
          exact absurd H (by simp)
      · rw [if_neg c3] at H
        have c3b0 : decide (x5_1 < (l0.length : Int)) = false := decide_eq_false c3
        clear c3
        obtain rfl := Option.some.inj H
        go_wp2
        go_ret
        exact ⟨by first | rfl | (simp; done) | (simp [*]; done), by repeat (first | exact Drawn0.refl _ | apply Drawn0.step)⟩

/-! ### laws_FnExactFramesOnWire: function 14 -/
def laws_FnExactFramesOnWire.f (k : Nat) (l0 : List (Int)) : Option (Bool) := if (l0.length : Int) > 1048576 then some true else (laws_toIntS.f k l0).bind fun L => (spec_FramesOnWire.f k L).bind fun sv => (impl_FramesOnWire.f k L).bind fun iv => (laws_eqFrameS.f k iv.1 sv.1).bind fun e1 => (laws_eqIntS.f k L L).bind fun e2 => (laws_markIntS.f k L 1).bind fun mj => (laws_markFrameS.f iv.1 1).bind fun ms => (laws_heldFrameS.f k ms.2 1).bind fun q => if e1 = true ∧ iv.2 = sv.2 ∧ e2 = true ∧ 0 ≤ mj.1 ∧ 0 ≤ q ∧ q = ms.1 then some true else none
theorem laws_FnExactFramesOnWire.mono : ∀ y0 k, LeO (laws_FnExactFramesOnWire.f k y0) (laws_FnExactFramesOnWire.f (k + 1) y0) := by
  intro y0 k
  unfold laws_FnExactFramesOnWire.f
  repeat' first
      | (with_reducible exact laws_toIntS.mono _ _)
      | (with_reducible exact spec_FramesOnWire.mono _ _)
      | (with_reducible exact impl_FramesOnWire.mono _ _)
      | (with_reducible exact laws_eqFrameS.mono _ _ _)
      | (with_reducible exact laws_eqIntS.mono _ _ _)
      | (with_reducible exact laws_markIntS.mono _ _ _)
      | (with_reducible exact laws_heldFrameS.mono _ _ _)
      | (with_reducible exact LeO.refl _)
      | (with_reducible exact LeO.none _)
      | (with_reducible refine LeO.ite ?_ ?_)
      | (with_reducible refine LeO.bind ?_ (fun _ => ?_))
set_option maxHeartbeats 8000000 in
set_option maxRecDepth 100000 in
theorem laws_FnExactFramesOnWire.calls (k : Nat) (A0 : Option Addr) (c0 : Nat) (l0 : List (Int)) (r : Bool) (w : World) (hr0 : Kd.C (Kd.int .i64) w A0 l0.length l0) (hc0 : l0.length ≤ c0) (h : laws_FnExactFramesOnWire.f k l0 = some r) :
    Calls Try.prog 14 #[.slice A0 l0.length c0] w fun e w' => e = .returned (.bool r) ∧ Below w.heap.size w w' := by
  unfold laws_FnExactFramesOnWire.f at h
  have HCC := Aside0.mk (And.intro hr0 hc0)
  have HB0 := Aside0.mk (Below.refl w.heap.size w)
  clear hr0 hc0
  by_cases hbig : (l0.length : Int) > 1048576
  · obtain rfl : true = r := by rw [if_pos hbig] at h; simpa using h
    have d0 : decide (1048576 < (l0.length : Int)) = true := decide_eq_true hbig
    have d1 : decide (1048576 < l0.length) = true := decide_eq_true (by omega)
    clear h hbig
    go_enter Try.func14, Try.ntmps14
    go_wp2
    go_ret
    exact ⟨by first | rfl | (simp; done), HB0.out⟩
  · rw [if_neg hbig] at h
    have d0 : decide (1048576 < (l0.length : Int)) = false := decide_eq_false hbig
    have d00 : decide (1048576 < l0.length) = false := decide_eq_false (by omega)
    clear hbig
    obtain ⟨L, hL, h⟩ := Option.bind_eq_some_iff.mp h
    obtain ⟨⟨sv, sb⟩, hsv, h⟩ := Option.bind_eq_some_iff.mp h
    obtain ⟨⟨iv, ib⟩, hiv, h⟩ := Option.bind_eq_some_iff.mp h
    obtain ⟨e1, he1, h⟩ := Option.bind_eq_some_iff.mp h
    obtain ⟨e2, he2, h⟩ := Option.bind_eq_some_iff.mp h
    obtain ⟨⟨mj, mL⟩, hmj, h⟩ := Option.bind_eq_some_iff.mp h
    obtain ⟨⟨ms, mS⟩, hms, h⟩ := Option.bind_eq_some_iff.mp h
    obtain ⟨q, hq, h⟩ := Option.bind_eq_some_iff.mp h
    dsimp only at hsv hiv he1 hms hq h
    by_cases hok : e1 = true ∧ ib = sb ∧ e2 = true ∧ 0 ≤ mj ∧ 0 ≤ q ∧ q = ms
    case neg => rw [if_neg hok] at h; cases h
    case pos =>
    obtain rfl : true = r := by rw [if_pos hok] at h; simpa using h
    obtain ⟨rfl, rfl, rfl, h0m, h0q, rfl⟩ := hok
    have F_L := Aside0.mk hL
    have F_sv := Aside0.mk hsv
    have F_iv := Aside0.mk hiv
    have F_e1 := Aside0.mk he1
    have F_e2 := Aside0.mk he2
    have F_mj := Aside0.mk hmj
    have F_ms := Aside0.mk hms
    have F_q := Aside0.mk hq
    have d1 : decide (mj < 0) = false := decide_eq_false (by omega)
    have d2 : decide (q < 0) = false := decide_eq_false (by omega)
    clear h h0m h0q hL hsv hiv he1 he2 hmj hms hq
    go_enter Try.func14, Try.ntmps14
    go_upto_region 4 with (first
      | (go_at_call 16; (with_reducible refine (laws_toIntS.calls k A0 c0 l0 L _ (Kd.C_below HCC.out.1 HB0.out) HCC.out.2 F_L.out).mono ?_); rintro e wq ⟨vu, rfl, ho, hb⟩; obtain ⟨A_u, c_u, e_u⟩ := Kd.R_slice ho; subst e_u; have n0_ := Aside0.mk (below_then HB0.out HB0.out.size hb); clear HB0; have HB0 := n0_; clear n0_; have HL := Aside0.mk ho; clear ho hb)
      | (go_at_call 46; (with_reducible refine (spec_FramesOnWire.calls k A_u c_u L sv ib _ (Kd.R_reads' HL.out).2.2 (Kd.R_reads' HL.out).2.1 F_sv.out).mono ?_); rintro e w5 ⟨vw, rfl, ho, hb⟩; obtain ⟨A_w, c_w, e_w⟩ := Kd.S_slice ho; subst e_w; have HW := Aside0.mk (Kd.S_mono (Kd.S_bound ho) (ok' := fun k_ => k_ < w5.heap.size) (fun k_ hk => hk.2.2.1)); have n0_ := Aside0.mk (below_then HB0.out HB0.out.size hb); clear HB0; have HB0 := n0_; clear n0_; clear HL ho hb))
    have HW5 := Aside0.mk (below_size HB0.out)
    go_upto_region 5 with (first
      | (go_at_call 16; (with_reducible refine (laws_toIntS.calls k A0 c0 l0 L _ (Kd.C_below HCC.out.1 HB0.out) HCC.out.2 F_L.out).mono ?_); rintro e w6 ⟨vx, rfl, ho, hb⟩; obtain ⟨A_x, c_x, e_x⟩ := Kd.R_slice ho; subst e_x; have n0_ := Aside0.mk (below_then HB0.out HB0.out.size hb); have n1_ := Aside0.mk (Kd.S_below HW.out hb); clear HB0; clear HW; have HB0 := n0_; have HW := n1_; clear n0_ n1_; have HX := Aside0.mk (Kd.R_lower (Kd.R_tight rfl ho) HW5.out); have HXB := Aside0.mk (And.intro (Kd.R_base ho) (And.intro (Kd.R_lt ho) hb.size)); have HSZ := Aside0.mk (Nat.le_refl w6.heap.size); clear ho hb))
    go_upto_region 8 with (first
      | (go_at_call 47; (with_reducible refine (impl_FramesOnWire.calls k A_x c_x L iv ib _ (Kd.R_reads' HX.out).2.2 (Kd.R_reads' HX.out).2.1 F_iv.out).mono ?_); rintro e wq ⟨vg, rfl, ho, hb⟩; obtain ⟨A_g, c_g, e_g⟩ := Kd.S_slice ho; subst e_g; have HG := Aside0.mk (Kd.S_lower (Kd.S_mono (Kd.S_bound ho) (ok' := fun k_ => w6.heap.size ≤ k_) (fun k_ hk => Nat.le_trans HSZ.out hk.2.1)) HB0.out.size); have n0_ := Aside0.mk (below_then HB0.out HB0.out.size hb); have n1_ := Aside0.mk (Kd.S_below HW.out hb); have n2_ := Aside0.mk (Kd.R_below HX.out hb); have n3_ := Aside0.mk (Nat.le_trans HSZ.out hb.size); clear HB0; clear HW; clear HX; clear HSZ; have HB0 := n0_; have HW := n1_; have HX := n2_; have HSZ := n3_; clear n0_ n1_ n2_ n3_; clear ho hb)
      | (go_at_call 48; (with_reducible refine (laws_eqFrameS.calls k A_g c_g iv A_w c_w sv true _ (Kd.S_reads' HG.out).2.2 (Kd.S_reads' HG.out).2.1 (Kd.S_reads' HW.out).2.2 (Kd.S_reads' HW.out).2.1 F_e1.out).mono ?_); rintro e wq ⟨rfl, hb⟩; have n0_ := Aside0.mk (below_then HB0.out HB0.out.size hb); have n1_ := Aside0.mk (Kd.S_below HW.out hb); have n2_ := Aside0.mk (Kd.R_below HX.out hb); have n3_ := Aside0.mk (Nat.le_trans HSZ.out hb.size); have n4_ := Aside0.mk (Kd.S_below HG.out hb); clear HB0; clear HW; clear HX; clear HSZ; clear HG; have HB0 := n0_; have HW := n1_; have HX := n2_; have HSZ := n3_; have HG := n4_; clear n0_ n1_ n2_ n3_ n4_; clear hb))
    go_upto_region 12 with (first
      | (go_at_call 16; (with_reducible refine (laws_toIntS.calls k A0 c0 l0 L _ (Kd.C_below HCC.out.1 HB0.out) HCC.out.2 F_L.out).mono ?_); rintro e wq ⟨vy, rfl, ho, hb⟩; obtain ⟨A_y, c_y, e_y⟩ := Kd.R_slice ho; subst e_y; have n0_ := Aside0.mk (below_then HB0.out HB0.out.size hb); have n1_ := Aside0.mk (Kd.S_below HW.out hb); have n2_ := Aside0.mk (Kd.R_below HX.out hb); have n3_ := Aside0.mk (Nat.le_trans HSZ.out hb.size); have n4_ := Aside0.mk (Kd.S_below HG.out hb); clear HB0; clear HW; clear HX; clear HSZ; clear HG; have HB0 := n0_; have HW := n1_; have HX := n2_; have HSZ := n3_; have HG := n4_; clear n0_ n1_ n2_ n3_ n4_; have HY := Aside0.mk ho; clear ho hb)
      | (go_at_call 18; (with_reducible refine (laws_eqIntS.calls k A_x c_x L A_y c_y L true _ (Kd.R_reads' HX.out).2.2 (Kd.R_reads' HX.out).2.1 (Kd.R_reads' HY.out).2.2 (Kd.R_reads' HY.out).2.1 F_e2.out).mono ?_); rintro e wq ⟨rfl, hd⟩; have hb := hd.below; have n0_ := Aside0.mk (below_then HB0.out HB0.out.size hb); have n1_ := Aside0.mk (Kd.S_below HW.out hb); have n2_ := Aside0.mk (Kd.R_below HX.out hb); have n3_ := Aside0.mk (Nat.le_trans HSZ.out hb.size); have n4_ := Aside0.mk (Kd.S_below HG.out hb); clear HB0; clear HW; clear HX; clear HSZ; clear HG; have HB0 := n0_; have HW := n1_; have HX := n2_; have HSZ := n3_; have HG := n4_; clear n0_ n1_ n2_ n3_ n4_; clear HY hd hb)
      | (go_at_call 28; (with_reducible refine (laws_markIntS.calls k (fun k_ => some k_ = (Value.slice A_x L.length c_x).ownBlock) _ L 1 mj mL w _ HB0.out HX.out F_mj.out).mono ?_); rintro e wq ⟨rfl, _, hb0, hk⟩; have n0_ := Aside0.mk (hb0); have n1_ := Aside0.mk (Kd.S_kept HW.out hk (fun k_ hk_ hp_ => absurd (HXB.out.1 k_ hp_.symm) (by omega))); have n2_ := Aside0.mk (Kd.S_kept HG.out hk (fun k_ hk_ hp_ => absurd (HXB.out.2.1 k_ hp_.symm) (by omega))); have n3_ := Aside0.mk (Nat.le_trans HSZ.out hk.1); clear HB0; clear HW; clear HG; clear HSZ; have HB0 := n0_; have HW := n1_; have HG := n2_; have HSZ := n3_; clear n0_ n1_ n2_ n3_; clear hk hb0))
    clear HX
    go_upto_region 15 with (first
      | (go_at_call 48; (with_reducible refine (laws_eqFrameS.calls k A_g c_g iv A_w c_w sv true _ (Kd.S_reads' HG.out).2.2 (Kd.S_reads' HG.out).2.1 (Kd.S_reads' HW.out).2.2 (Kd.S_reads' HW.out).2.1 F_e1.out).mono ?_); rintro e wq ⟨rfl, hb⟩; have n0_ := Aside0.mk (below_then HB0.out HB0.out.size hb); have n1_ := Aside0.mk (Kd.S_below HW.out hb); have n2_ := Aside0.mk (Kd.S_below HG.out hb); have n3_ := Aside0.mk (Nat.le_trans HSZ.out hb.size); clear HB0; clear HW; clear HG; clear HSZ; have HB0 := n0_; have HW := n1_; have HG := n2_; have HSZ := n3_; clear n0_ n1_ n2_ n3_; clear hb))
    go_upto_region 22 with (first
      | (go_at_call 49; (with_reducible refine (laws_markFrameS.calls (fun k_ => w6.heap.size ≤ k_) _ iv 1 q mS w _ HB0.out HG.out F_ms.out).mono ?_); rintro e wq ⟨rfl, hs_, hb0, hk⟩; have HML := Aside0.mk (Kd.S_reads' hs_).1; have ng_ := Aside0.mk (Kd.S_mono hs_ (ok' := fun k_ => w6.heap.size ≤ k_) (fun k_ hk_ => hk_.elim id (fun h_ => Nat.le_trans HSZ.out h_))); clear HG hs_; have HG := ng_; clear ng_; have n0_ := Aside0.mk (hb0); have n1_ := Aside0.mk (Kd.S_kept HW.out hk (fun k_ hk_ hp_ => absurd hk_ (by have := HXB.out.2.2; omega))); have n2_ := Aside0.mk (Nat.le_trans HSZ.out hk.1); clear HB0; clear HW; clear HSZ; have HB0 := n0_; have HW := n1_; have HSZ := n2_; clear n0_ n1_ n2_; clear hk hb0)
      | (go_at_call 50; (refine calls_of_args (args' := #[.slice A_g mS.length c_g, .int .i64 1]) (by rw [HML.out]) ?_); (with_reducible refine (laws_heldFrameS.calls k A_g c_g mS 1 q _ (Kd.S_reads' HG.out).2.2 (by rw [← HML.out]; exact (Kd.S_reads' HG.out).2.1) F_q.out).mono ?_); rintro e wq ⟨rfl, hd⟩; have hb := hd.below; have n0_ := Aside0.mk (below_then HB0.out HB0.out.size hb); have n1_ := Aside0.mk (Kd.S_below HW.out hb); have n2_ := Aside0.mk (Kd.S_below HG.out hb); have n3_ := Aside0.mk (Nat.le_trans HSZ.out hb.size); clear HB0; clear HW; clear HG; clear HSZ; have HB0 := n0_; have HW := n1_; have HG := n2_; have HSZ := n3_; clear n0_ n1_ n2_ n3_; clear hd hb))
    go_upto_region 25 with (first
      | (go_at_call 16; (with_reducible refine (laws_toIntS.calls k A0 c0 l0 L _ (Kd.C_below HCC.out.1 HB0.out) HCC.out.2 F_L.out).mono ?_); rintro e wq ⟨vz, rfl, ho, hb⟩; obtain ⟨A_z, c_z, e_z⟩ := Kd.R_slice ho; subst e_z; have n0_ := Aside0.mk (below_then HB0.out HB0.out.size hb); have n1_ := Aside0.mk (Kd.S_below HW.out hb); have n2_ := Aside0.mk (Kd.S_below HG.out hb); have n3_ := Aside0.mk (Nat.le_trans HSZ.out hb.size); clear HB0; clear HW; clear HG; clear HSZ; have HB0 := n0_; have HW := n1_; have HG := n2_; have HSZ := n3_; clear n0_ n1_ n2_ n3_; have HZ := Aside0.mk ho; clear ho hb)
      | (go_at_call 47; (with_reducible refine (impl_FramesOnWire.calls k A_z c_z L iv ib _ (Kd.R_reads' HZ.out).2.2 (Kd.R_reads' HZ.out).2.1 F_iv.out).mono ?_); rintro e wq ⟨vh, rfl, ho, hb⟩; obtain ⟨A_h, c_h, e_h⟩ := Kd.S_slice ho; subst e_h; have HH := Aside0.mk ho; have n0_ := Aside0.mk (below_then HB0.out HB0.out.size hb); have n1_ := Aside0.mk (Kd.S_below HW.out hb); have n2_ := Aside0.mk (Kd.S_below HG.out hb); have n3_ := Aside0.mk (Nat.le_trans HSZ.out hb.size); clear HB0; clear HW; clear HG; clear HSZ; have HB0 := n0_; have HW := n1_; have HG := n2_; have HSZ := n3_; clear n0_ n1_ n2_ n3_; clear ho hb)
      | (go_at_call 48; (with_reducible refine (laws_eqFrameS.calls k A_h c_h iv A_w c_w sv true _ (Kd.S_reads' HH.out).2.2 (Kd.S_reads' HH.out).2.1 (Kd.S_reads' HW.out).2.2 (Kd.S_reads' HW.out).2.1 F_e1.out).mono ?_); rintro e wq ⟨rfl, hb⟩; have n0_ := Aside0.mk (below_then HB0.out HB0.out.size hb); have n1_ := Aside0.mk (Kd.S_below HW.out hb); have n2_ := Aside0.mk (Kd.S_below HG.out hb); have n3_ := Aside0.mk (Nat.le_trans HSZ.out hb.size); have n4_ := Aside0.mk (Kd.S_below HH.out hb); clear HB0; clear HW; clear HG; clear HSZ; clear HH; have HB0 := n0_; have HW := n1_; have HG := n2_; have HSZ := n3_; have HH := n4_; clear n0_ n1_ n2_ n3_ n4_; clear hb))
    go_wp2_with (first
      | (go_at_call 50; (refine calls_of_args (args' := #[.slice A_g mS.length c_g, .int .i64 1]) (by rw [HML.out]) ?_); (with_reducible refine (laws_heldFrameS.calls k A_g c_g mS 1 q _ (Kd.S_reads' HG.out).2.2 (by rw [← HML.out]; exact (Kd.S_reads' HG.out).2.1) F_q.out).mono ?_); rintro e wq ⟨rfl, hd⟩; have hb := hd.below; have n0_ := Aside0.mk (below_then HB0.out HB0.out.size hb); have n1_ := Aside0.mk (Kd.S_below HW.out hb); have n2_ := Aside0.mk (Kd.S_below HG.out hb); have n3_ := Aside0.mk (Nat.le_trans HSZ.out hb.size); clear HB0; clear HW; clear HG; clear HSZ; have HB0 := n0_; have HW := n1_; have HG := n2_; have HSZ := n3_; clear n0_ n1_ n2_ n3_; clear hd hb))
    go_ret
    exact ⟨by first | rfl | (simp; done), HB0.out⟩

end Go.Proofs.Ytggempkfkjjlaaa.PFnExactFramesOnWire
