/- Printed by wip/tools/pr.py: the walks of the functions that a law reaches; not trusted, Lean checks it. No condition. -/
import Derived.Test.YtgminjippechkaaPFnExactVisitsOfx0
import Derived.Test.YtgminjippechkaaPFnExactVisitsOfx1
import Derived.Test.YtgminjippechkaaPFnExactVisitsOfx2
import Derived.Test.YtgminjippechkaaPFnExactVisitsOfx5
import Derived.Test.YtgminjippechkaaPFnExactVisitsOfx6
namespace Go.Proofs.Ytgminjippechkaa.PFnExactVisitsOf
open Go.RowKit Go.Proofs.YtgminjippechkaaW.PrintWords Go.Proofs.YtgminjippechkaaW.PrintLast Go.Proofs.YtgminjippechkaaW.PrintMore
attribute [local go_sem] max2_int min2_int max_two min_two max_three min_three max_four min_four   -- for this text's walks alone
set_option linter.unusedVariables false
set_option linter.unusedSimpArgs false

/-! ### laws_heldIntSS: function 41 -/
def laws_heldIntSS.l0 : Nat → List (List Int) → Int → Int → Option (Int)
  | 0, _, _, _ => none
  | k + 1, x0, x1, x5 => if x5 < (x0.length : Int) then (if 0 ≤ x5 then ((laws_heldIntS.f k (rd_L5 x0 x5) x1).bind fun t162 => (if t162 < 0 then (some (-1)) else (laws_heldIntSS.l0 k x0 t162 (wrap64 (x5 + 1))))) else (none)) else (some x1)
def laws_heldIntSS.f (k : Nat) (l0 : List (List Int)) (a1 : Int) : Option (Int) := laws_heldIntSS.l0 k l0 a1 0
theorem laws_heldIntSS.mono_l : ∀ k, (∀ y0 y1 y2, LeO (laws_heldIntSS.l0 k y0 y1 y2) (laws_heldIntSS.l0 (k + 1) y0 y1 y2))
  | 0 => fun _ _ _ r h => by simp [laws_heldIntSS.l0] at h
  | k + 1 => by
    have ih0 := laws_heldIntSS.mono_l k
    · intro y0 y1 y2
      unfold laws_heldIntSS.l0
      repeat' first
      | (with_reducible exact ih0 _ _ _)
      | (with_reducible exact laws_heldIntS.mono _ _ _)
      | (with_reducible exact LeO.refl _)
      | (with_reducible exact LeO.none _)
      | (with_reducible refine LeO.ite ?_ ?_)
      | (with_reducible refine LeO.bind ?_ (fun _ => ?_))
      | exact ih0 _ _ _
      | exact laws_heldIntS.mono _ _ _
      | exact LeO.none _
      | refine LeO.ite ?_ ?_
      | refine LeO.bind ?_ (fun _ => ?_)
theorem laws_heldIntSS.mono : ∀ a0 a1 k, LeO (laws_heldIntSS.f k a0 a1) (laws_heldIntSS.f (k + 1) a0 a1) := by
  intro a0 a1 k
  have ih0 := laws_heldIntSS.mono_l k
  unfold laws_heldIntSS.f
  repeat' first
      | (with_reducible exact ih0 _ _ _)
      | (with_reducible exact laws_heldIntS.mono _ _ _)
      | (with_reducible exact LeO.refl _)
      | (with_reducible exact LeO.none _)
      | (with_reducible refine LeO.ite ?_ ?_)
      | (with_reducible refine LeO.bind ?_ (fun _ => ?_))
      | exact ih0 _ _ _
      | exact laws_heldIntS.mono _ _ _
      | exact LeO.none _
      | refine LeO.ite ?_ ?_
      | refine LeO.bind ?_ (fun _ => ?_)
set_option maxHeartbeats 8000000 in
set_option maxRecDepth 100000 in
theorem laws_heldIntSS.calls (k : Nat) (A0 : Option Addr) (c0 : Nat) (l0 : List (List Int)) (a1 : Int) (r : Int) (w : World) (hr0 : Kd.C (Kd.slice 3 (Kd.int .i64)) w A0 l0.length l0) (hc0 : l0.length ≤ c0) (h : laws_heldIntSS.f k l0 a1 = some r) :
    Calls Try.prog 41 #[.slice A0 l0.length c0, .int .i64 a1] w fun e w' => e = .returned (.int .i64 r) ∧ Drawn0 w w' := by
  have HR0 := Aside0.mk hr0
  have HC0 := Aside0.mk hc0
  clear hr0 hc0
  have H : (laws_heldIntSS.l0 k l0 a1 0) = some r := h
  clear h
  have H' := Aside0.mk H
  clear H
  go_enter Try.func41, Try.ntmps41
  go_wp2
  go_loopg [1, 5] k (fun kq v1 v5 w' => ∃ (x1_1 : Int) (x5_1 : Int), v1 = .int .i64 x1_1 ∧ v5 = .int .i64 x5_1 ∧ Aside0 (laws_heldIntSS.l0 kq l0 x1_1 x5_1 = some r) ∧ Aside0 (kq ≤ k) ∧ Drawn0 w w')
  case atStart => exact ⟨(a1), (0), (by first | rfl | (simp; done) | (simp [*]; done)), (by first | rfl | (simp; done) | (simp [*]; done)), H', ⟨Nat.le_refl _⟩, by repeat (first | exact Drawn0.refl _ | apply Drawn0.step)⟩
  case round =>
    clear H'
    try clear p2
    obtain ⟨x1_1, x5_1, rfl, rfl, HA, HK1, ⟨m1, rfl⟩⟩ := hrel
    cases gk with
    | zero => exact absurd HA.out (by simp [laws_heldIntSS.l0])
    | succ k1 =>
      have H := HA.out
      clear HA
      simp only [laws_heldIntSS.l0] at H
      by_cases c3 : x5_1 < (l0.length : Int)
      · rw [if_pos c3] at H
        have c3b0 : decide (x5_1 < (l0.length : Int)) = true := decide_eq_true c3
        clear c3
        by_cases c4 : 0 ≤ x5_1
        · rw [if_pos c4] at H
          have c4b0 : decide (0 ≤ x5_1) = true := decide_eq_true c4
          clear c4
          replace H := Option.bind_eq_some_iff.mp H
          obtain ⟨t162, A50, H⟩ := H
          replace H : (if t162 < 0 then (some (-1)) else (laws_heldIntSS.l0 k1 l0 t162 (wrap64 (x5_1 + 1)))) = some r := H
          have A5 := Aside0.mk A50
          clear A50
          by_cases c6 : t162 < 0
          · rw [if_pos c6] at H
            have c6b0 : decide (t162 < 0) = true := decide_eq_true c6
            clear c6
            obtain rfl := Option.some.inj H
            have p161 : 0 ≤ (x5_1 : Int) := of_decide_eq_true (by first | (with_reducible assumption) | assumption)
            have q161 : x5_1 < (l0.length : Int) := of_decide_eq_true (by first | (with_reducible assumption) | assumption)
            obtain ⟨ad161, A161_0, c161_0, e161, hx161_0, hl161_0, hi161_0⟩ := at_L5 HR0.out x5_1 p161 q161
            cases e161
            have HR161_0 := Aside0.mk hi161_0
            have HC161_0 := Aside0.mk hl161_0
            clear hi161_0 hl161_0
            replace p161 := eq_true p161
            replace q161 := eq_true q161
            go_wp2_with (first | ((with_reducible refine gate_callee (f := 23) rfl ?_); refine goesL_ (some 17) rfl rfl Try.func23 (by kernel_rfl) rfl #[.slice A161_0 (rd_L5 l0 x5_1).length c161_0, .int .i64 x1_1] rfl (by (try simp only [List.map_toArray, List.map_cons, List.map_nil]); first | done | rfl | (simp only [List.length_drop, List.length_take]; rfl)) ?_; (with_reducible refine (laws_heldIntS.calls k1 _ _ (rd_L5 l0 x5_1) x1_1 t162 _ ?side1 ?side2 A5.out).mono ?_); (case side1 => repeat (first | exact HR161_0.out | (with_reducible refine Kd.C_alloc ?_ _) | (with_reducible refine Kd.C_drewN ?_ _) | (with_reducible refine Kd.C_drew ?_))); (case side2 => exact HC161_0.out); rintro e w' ⟨rfl, ⟨nd, rfl⟩⟩; refine ⟨_, rfl, ?_⟩))
            go_ret
            exact ⟨by first | rfl | (simp; done) | (simp [*]; done), by repeat (first | exact Drawn0.refl _ | apply Drawn0.step)⟩
          · rw [if_neg c6] at H
            have c6b0 : decide (t162 < 0) = false := decide_eq_false c6
            clear c6
            have H' := Aside0.mk H
            clear H
            have p161 : 0 ≤ (x5_1 : Int) := of_decide_eq_true (by first | (with_reducible assumption) | assumption)
            have q161 : x5_1 < (l0.length : Int) := of_decide_eq_true (by first | (with_reducible assumption) | assumption)
            obtain ⟨ad161, A161_0, c161_0, e161, hx161_0, hl161_0, hi161_0⟩ := at_L5 HR0.out x5_1 p161 q161
            cases e161
            have HR161_0 := Aside0.mk hi161_0
            have HC161_0 := Aside0.mk hl161_0
            clear hi161_0 hl161_0
            replace p161 := eq_true p161
            replace q161 := eq_true q161
            go_wp2_with (first | ((with_reducible refine gate_callee (f := 23) rfl ?_); refine goesL_ (some 17) rfl rfl Try.func23 (by kernel_rfl) rfl #[.slice A161_0 (rd_L5 l0 x5_1).length c161_0, .int .i64 x1_1] rfl (by (try simp only [List.map_toArray, List.map_cons, List.map_nil]); first | done | rfl | (simp only [List.length_drop, List.length_take]; rfl)) ?_; (with_reducible refine (laws_heldIntS.calls k1 _ _ (rd_L5 l0 x5_1) x1_1 t162 _ ?side1 ?side2 A5.out).mono ?_); (case side1 => repeat (first | exact HR161_0.out | (with_reducible refine Kd.C_alloc ?_ _) | (with_reducible refine Kd.C_drewN ?_ _) | (with_reducible refine Kd.C_drew ?_))); (case side2 => exact HC161_0.out); rintro e w' ⟨rfl, ⟨nd, rfl⟩⟩; refine ⟨_, rfl, ?_⟩))
            go_roundg k1
            case measure => have := HK1.out; omega
            case rel => exact ⟨(t162), (wrap64 (x5_1 + 1)), (by first | rfl | (simp; done) | (simp [*]; done)), (by first | rfl | (simp; done) | (simp [*]; done)), H', ⟨by have := HK1.out; omega⟩, by repeat (first | exact Drawn0.refl _ | apply Drawn0.step)⟩
        · rw [if_neg c4] at H
          exact absurd H (by simp)
      · rw [if_neg c3] at H
        have c3b0 : decide (x5_1 < (l0.length : Int)) = false := decide_eq_false c3
        clear c3
        obtain rfl := Option.some.inj H
        go_wp2
        go_ret
        exact ⟨by first | rfl | (simp; done) | (simp [*]; done), by repeat (first | exact Drawn0.refl _ | apply Drawn0.step)⟩

/-! ### laws_toTokenRing: function 16 -/
def laws_toTokenRing.f (a0_0 : Int) (a0_1 : Int) (a0_2 : Int) : Option (Int × Int × Int) := some (a0_0, a0_1, a0_2)
set_option maxHeartbeats 8000000 in
set_option maxRecDepth 100000 in
theorem laws_toTokenRing.calls (a0_0 : Int) (a0_1 : Int) (a0_2 : Int) (r1 : Int) (r2 : Int) (r3 : Int) (w : World) (h : laws_toTokenRing.f a0_0 a0_1 a0_2 = some (r1, r2, r3)) :
    Calls Try.prog 16 #[.agg #[.int .i64 a0_0, .int .i64 a0_1, .int .i64 a0_2]] w fun e w' => e = .returned (.agg #[.int .i64 r1, .int .i64 r2, .int .i64 r3]) ∧ Below w.heap.size w w' := by
  have hu23 := Try.underlying23
  have hu29 := Try.underlying29
  have HB := Aside0.mk (Below.refl w.heap.size w)
  have H : (some (a0_0, a0_1, a0_2)) = some (r1, r2, r3) := h
  clear h
  simp only [Option.some.injEq, Prod.mk.injEq] at H
  obtain ⟨rfl, rfl, rfl⟩ := H
  go_enter Try.func16, Try.ntmps16
  go_wp2_with (first | ((with_reducible refine gate_dst (N := 1) rfl ?_); refine box_event ?hg (N := 1) ?hd (cs := #[.int .i64 a0_0, .int .i64 a0_1, .int .i64 a0_2]) (t := 23) ?hr ?_; (case hd => rfl); (case hg => rfl); (case hr => first | (go_simp; done) | (go_simp; rfl)); intro gb163 hg w2 hbox hb; have n0_ := Aside0.mk (below_step (by repeat (first | (with_reducible first | exact HB.out | apply below_alloc | apply pw_below_drewN | apply below_drew1) | exact HB.out)) hb); have n1_ := Aside0.mk (hbox); have n2_ := Aside0.mk ((by rw [hg]; exact (below_size (by repeat (first | (with_reducible first | exact HB.out | apply below_alloc | apply pw_below_drewN | apply below_drew1) | exact HB.out))) : w.heap.size ≤ gb163)); have n3_ := Aside0.mk ((by rw [hg]; exact (below_size (by repeat (first | (with_reducible first | exact HB.out | apply below_alloc | apply pw_below_drewN | apply below_drew1) | exact HB.out))) : w.heap.size ≤ gb163)); clear HB; have HB := n0_; have BK163 := n1_; have GW163 := n2_; have GE163 := n3_; clear n0_ n1_ n2_ n3_; clear hb hbox hg) | ((with_reducible refine gate_dst (N := 2) rfl ?_); refine box_event ?hg (N := 2) ?hd (cs := #[.int .i64 0, .int .i64 0, .int .i64 0]) (t := 29) ?hr ?_; (case hd => rfl); (case hg => rfl); (case hr => first | (go_simp; done) | (go_simp; rfl)); intro gb164 hg w3 hbox hb; have n0_ := Aside0.mk (blk_below (g := gb163) (o := .cells #[.int .i64 a0_0, .int .i64 a0_1, .int .i64 a0_2] 23 (0, 0)) (by (with_reducible repeat (first | refine blk_drewN ?_ _ | refine blk_drew ?_ | refine blk_alloc ?_ _)); exact BK163.out) hb); have n1_ := Aside0.mk (below_step (by repeat (first | (with_reducible first | exact HB.out | apply below_alloc | apply pw_below_drewN | apply below_drew1 | refine below_set ?_ GE163.out) | exact HB.out)) hb); have n2_ := Aside0.mk (hbox); have n3_ := Aside0.mk ((by rw [hg]; exact (below_size (by repeat (first | (with_reducible first | exact HB.out | apply below_alloc | apply pw_below_drewN | apply below_drew1 | refine below_set ?_ GE163.out) | exact HB.out))) : w.heap.size ≤ gb164)); have n4_ := Aside0.mk ((by rw [hg]; exact (below_size (by repeat (first | (with_reducible first | exact HB.out | apply below_alloc | apply pw_below_drewN | apply below_drew1 | refine below_set ?_ GE163.out) | exact HB.out))) : w.heap.size ≤ gb164)); have n5_ := Aside0.mk ((by rw [hg]; exact Nat.ne_of_lt (blk_lt (g := gb163) (o := .cells #[.int .i64 a0_0, .int .i64 a0_1, .int .i64 a0_2] 23 (0, 0)) (by (with_reducible repeat (first | refine blk_drewN ?_ _ | refine blk_drew ?_ | refine blk_alloc ?_ _)); exact BK163.out)) : gb163 ≠ gb164)); have n6_ := Aside0.mk ((by rw [hg]; exact Nat.ne_of_gt (blk_lt (g := gb163) (o := .cells #[.int .i64 a0_0, .int .i64 a0_1, .int .i64 a0_2] 23 (0, 0)) (by (with_reducible repeat (first | refine blk_drewN ?_ _ | refine blk_drew ?_ | refine blk_alloc ?_ _)); exact BK163.out)) : gb164 ≠ gb163)); clear BK163; clear HB; have BK163 := n0_; have HB := n1_; have BK164 := n2_; have GW164 := n3_; have GE164 := n4_; have NB163_164 := n5_; have NB164_163 := n6_; clear n0_ n1_ n2_ n3_ n4_ n5_ n6_; clear hb hbox hg) | ((with_reducible refine gate_dst (N := 3) rfl ?_); refine box_event ?hg (N := 3) ?hd (cs := #[.int .i64 0, .int .i64 0, .int .i64 0]) (t := 29) ?hr ?_; (case hd => rfl); (case hg => rfl); (case hr => first | (go_simp; done) | (go_simp; rfl)); intro gb165 hg w4 hbox hb; have n0_ := Aside0.mk (blk_below (g := gb163) (o := .cells #[.int .i64 a0_0, .int .i64 a0_1, .int .i64 a0_2] 23 (0, 0)) (by (with_reducible repeat (first | refine blk_drewN ?_ _ | refine blk_drew ?_ | refine blk_alloc ?_ _)); exact BK163.out) hb); have n1_ := Aside0.mk (blk_below (g := gb164) (o := .cells #[.int .i64 0, .int .i64 0, .int .i64 0] 29 (0, 0)) (by (with_reducible repeat (first | refine blk_drewN ?_ _ | refine blk_drew ?_ | refine blk_alloc ?_ _)); exact BK164.out) hb); have n2_ := Aside0.mk (below_step (by repeat (first | (with_reducible first | exact HB.out | apply below_alloc | apply pw_below_drewN | apply below_drew1 | refine below_set ?_ GE163.out | refine below_set ?_ GE164.out) | exact HB.out)) hb); have n3_ := Aside0.mk (hbox); have n4_ := Aside0.mk ((by rw [hg]; exact (below_size (by repeat (first | (with_reducible first | exact HB.out | apply below_alloc | apply pw_below_drewN | apply below_drew1 | refine below_set ?_ GE163.out | refine below_set ?_ GE164.out) | exact HB.out))) : w.heap.size ≤ gb165)); have n5_ := Aside0.mk ((by rw [hg]; exact (below_size (by repeat (first | (with_reducible first | exact HB.out | apply below_alloc | apply pw_below_drewN | apply below_drew1 | refine below_set ?_ GE163.out | refine below_set ?_ GE164.out) | exact HB.out))) : w.heap.size ≤ gb165)); have n6_ := Aside0.mk ((by rw [hg]; exact Nat.ne_of_lt (blk_lt (g := gb163) (o := .cells #[.int .i64 a0_0, .int .i64 a0_1, .int .i64 a0_2] 23 (0, 0)) (by (with_reducible repeat (first | refine blk_drewN ?_ _ | refine blk_drew ?_ | refine blk_alloc ?_ _)); exact BK163.out)) : gb163 ≠ gb165)); have n7_ := Aside0.mk ((by rw [hg]; exact Nat.ne_of_gt (blk_lt (g := gb163) (o := .cells #[.int .i64 a0_0, .int .i64 a0_1, .int .i64 a0_2] 23 (0, 0)) (by (with_reducible repeat (first | refine blk_drewN ?_ _ | refine blk_drew ?_ | refine blk_alloc ?_ _)); exact BK163.out)) : gb165 ≠ gb163)); have n8_ := Aside0.mk ((by rw [hg]; exact Nat.ne_of_lt (blk_lt (g := gb164) (o := .cells #[.int .i64 0, .int .i64 0, .int .i64 0] 29 (0, 0)) (by (with_reducible repeat (first | refine blk_drewN ?_ _ | refine blk_drew ?_ | refine blk_alloc ?_ _)); exact BK164.out)) : gb164 ≠ gb165)); have n9_ := Aside0.mk ((by rw [hg]; exact Nat.ne_of_gt (blk_lt (g := gb164) (o := .cells #[.int .i64 0, .int .i64 0, .int .i64 0] 29 (0, 0)) (by (with_reducible repeat (first | refine blk_drewN ?_ _ | refine blk_drew ?_ | refine blk_alloc ?_ _)); exact BK164.out)) : gb165 ≠ gb164)); clear BK163; clear BK164; clear HB; have BK163 := n0_; have BK164 := n1_; have HB := n2_; have BK165 := n3_; have GW165 := n4_; have GE165 := n5_; have NB163_165 := n6_; have NB165_163 := n7_; have NB164_165 := n8_; have NB165_164 := n9_; clear n0_ n1_ n2_ n3_ n4_ n5_ n6_ n7_ n8_ n9_; clear hb hbox hg; have hnb5 := NB163_164.out; have hnc5 := NB164_163.out; have hnb6 := NB163_165.out; have hnc6 := NB165_163.out; have hcz7_0 : w4.cell? ⟨gb163, 0, none⟩ = some (.int .i64 a0_0) := (blk_cell BK163.out 0).trans rfl; have hcz7_1 : w4.cell? ⟨gb163, 1, none⟩ = some (.int .i64 a0_1) := (blk_cell BK163.out 1).trans rfl; have hcz7_2 : w4.cell? ⟨gb163, 2, none⟩ = some (.int .i64 a0_2) := (blk_cell BK163.out 2).trans rfl; have hfz7_0 := blk_frozen BK163.out 0; have hfz7_1 := blk_frozen BK163.out 1; have hfz7_2 := blk_frozen BK163.out 2; have hnb8 := NB165_164.out; have hnc8 := NB164_165.out; have hcz9_0 : w4.cell? ⟨gb165, 0, none⟩ = some (.int .i64 0) := (blk_cell BK165.out 0).trans rfl; have hcz9_1 : w4.cell? ⟨gb165, 1, none⟩ = some (.int .i64 0) := (blk_cell BK165.out 1).trans rfl; have hcz9_2 : w4.cell? ⟨gb165, 2, none⟩ = some (.int .i64 0) := (blk_cell BK165.out 2).trans rfl; have hfz9_0 := blk_frozen BK165.out 0; have hfz9_1 := blk_frozen BK165.out 1; have hfz9_2 := blk_frozen BK165.out 2; have hcz10_0 : w4.cell? ⟨gb164, 0, none⟩ = some (.int .i64 0) := (blk_cell BK164.out 0).trans rfl; have hcz10_1 : w4.cell? ⟨gb164, 1, none⟩ = some (.int .i64 0) := (blk_cell BK164.out 1).trans rfl; have hcz10_2 : w4.cell? ⟨gb164, 2, none⟩ = some (.int .i64 0) := (blk_cell BK164.out 2).trans rfl; have hfz10_0 := blk_frozen BK164.out 0; have hfz10_1 := blk_frozen BK164.out 1; have hfz10_2 := blk_frozen BK164.out 2))
  refine bodyPost_ret (results_cell_row rfl _ _ gb164 29 #[.int .i64 a0_0, .int .i64 a0_1, .int .i64 a0_2] (0, 0) _ rfl (by (with_reducible repeat (first | refine blk_drewN ?_ _ | refine blk_drew ?_ | refine blk_alloc ?_ _)); refine blk_put (cs := #[.int .i64 a0_0, .int .i64 a0_1, .int .i64 0]) ?_ 2 _ rfl; (with_reducible repeat (first | refine blk_drewN ?_ _ | refine blk_drew ?_ | refine blk_alloc ?_ _)); refine blk_put (cs := #[.int .i64 a0_0, .int .i64 0, .int .i64 0]) ?_ 1 _ rfl; (with_reducible repeat (first | refine blk_drewN ?_ _ | refine blk_drew ?_ | refine blk_alloc ?_ _)); refine blk_put (cs := #[.int .i64 0, .int .i64 0, .int .i64 0]) ?_ 0 _ rfl; (with_reducible repeat (first | refine blk_drewN ?_ _ | refine blk_drew ?_ | refine blk_alloc ?_ _)); refine blk_far ?_ NB164_165.out _; (with_reducible repeat (first | refine blk_drewN ?_ _ | refine blk_drew ?_ | refine blk_alloc ?_ _)); refine blk_far ?_ NB164_165.out _; (with_reducible repeat (first | refine blk_drewN ?_ _ | refine blk_drew ?_ | refine blk_alloc ?_ _)); refine blk_far ?_ NB164_165.out _; (with_reducible repeat (first | refine blk_drewN ?_ _ | refine blk_drew ?_ | refine blk_alloc ?_ _)); exact BK164.out) Try.underlying29 rfl (by kernel_rfl)) rfl ?_
  exact ⟨by first | rfl | (simp [errW_none, errW_some] <;> rfl) | (simp [*, errW_none, errW_some] <;> rfl), by repeat (first | (with_reducible first | exact HB.out | apply below_alloc | apply pw_below_drewN | apply below_drew1 | refine below_set ?_ GE163.out | refine below_set ?_ GE164.out | refine below_set ?_ GE165.out) | exact HB.out)⟩

/-! ### laws_FnExactVisitsOf: function 10 -/
def laws_FnExactVisitsOf.f (k : Nat) (a0_0 : Int) (a0_1 : Int) (a0_2 : Int) (l1 : List (S60)) (a2 : Int) : Option (Bool) := (laws_szCallS.f l1 1048576).bind fun s => if s < 0 then some true else (laws_toTokenRing.f a0_0 a0_1 a0_2).bind fun rg => (laws_toCallS.f k l1).bind fun L => (spec_VisitsOf.f k rg.1 rg.2.1 rg.2.2 L a2).bind fun sv => (impl_VisitsOf.f k rg.1 rg.2.1 rg.2.2 L a2).bind fun iv => (laws_eqIntSS.f k iv.1 sv.1).bind fun e1 => (laws_eqCallS.f k L L).bind fun e2 => (laws_markCallS.f k L 1).bind fun mj => (laws_markIntSS.f iv.1 1).bind fun ms => (laws_heldIntSS.f k ms.2 1).bind fun q => if e1 = true ∧ iv.2 = sv.2 ∧ e2 = true ∧ 0 ≤ mj.1 ∧ 0 ≤ q ∧ q = ms.1 then some true else none
theorem laws_FnExactVisitsOf.mono : ∀ y0 y1 y2 y3 y4 k, LeO (laws_FnExactVisitsOf.f k y0 y1 y2 y3 y4) (laws_FnExactVisitsOf.f (k + 1) y0 y1 y2 y3 y4) := by
  intro y0 y1 y2 y3 y4 k
  unfold laws_FnExactVisitsOf.f
  repeat' first
      | (with_reducible exact laws_toCallS.mono _ _)
      | (with_reducible exact spec_VisitsOf.mono _ _ _ _ _ _)
      | (with_reducible exact impl_VisitsOf.mono _ _ _ _ _ _)
      | (with_reducible exact laws_eqIntSS.mono _ _ _)
      | (with_reducible exact laws_eqCallS.mono _ _ _)
      | (with_reducible exact laws_markCallS.mono _ _ _)
      | (with_reducible exact laws_heldIntSS.mono _ _ _)
      | (with_reducible exact LeO.refl _)
      | (with_reducible exact LeO.none _)
      | (with_reducible refine LeO.ite ?_ ?_)
      | (with_reducible refine LeO.bind ?_ (fun _ => ?_))
set_option maxHeartbeats 8000000 in
set_option maxRecDepth 100000 in
theorem laws_FnExactVisitsOf.calls (k : Nat) (a0_0 : Int) (a0_1 : Int) (a0_2 : Int) (A1 : Option Addr) (c1 : Nat) (l1 : List (S60)) (a2 : Int) (r : Bool) (w : World) (hr1 : Kd.C k60 w A1 l1.length l1) (hc1 : l1.length ≤ c1) (h : laws_FnExactVisitsOf.f k a0_0 a0_1 a0_2 l1 a2 = some r) :
    Calls Try.prog 10 #[.agg #[.int .i64 a0_0, .int .i64 a0_1, .int .i64 a0_2], .slice A1 l1.length c1, .int .i64 a2] w fun e w' => e = .returned (.bool r) ∧ Below w.heap.size w w' := by
  unfold laws_FnExactVisitsOf.f at h
  obtain ⟨s, hs, h⟩ := Option.bind_eq_some_iff.mp h
  have HS := Aside0.mk hs
  have HCC := Aside0.mk (And.intro hr1 hc1)
  have HB0 := Aside0.mk (Below.refl w.heap.size w)
  clear hs hr1 hc1
  have hu23 := Try.underlying23
  by_cases hneg : s < 0
  · obtain rfl : true = r := by rw [if_pos hneg] at h; simpa using h
    have d0 : decide (s < 0) = true := decide_eq_true hneg
    clear h hneg
    go_enter Try.func10, Try.ntmps10
    go_wp2_with (first | ((with_reducible refine gate_dst (N := 3) rfl ?_); refine box_event ?hg (N := 3) ?hd (cs := #[.int .i64 a0_0, .int .i64 a0_1, .int .i64 a0_2]) (t := 23) ?hr ?_; (case hd => rfl); (case hg => rfl); (case hr => first | (go_simp; done) | (go_simp; rfl)); intro gb hgb w1 hbox hb; have n0_ := Aside0.mk (below_then HB0.out HB0.out.size hb); have BX := Aside0.mk hbox; have GB := Aside0.mk (Nat.le_of_eq hgb.symm); clear HB0; have HB0 := n0_; clear n0_ hgb hbox hb) | (go_at_call 14; (with_reducible refine (laws_szCallS.calls A1 c1 l1 1048576 s _ (Kd.C_below HCC.out.1 HB0.out) HCC.out.2 HS.out).mono ?_); rintro e wq ⟨rfl, hd⟩; have hb := hd.below; have n0_ := Aside0.mk (below_then HB0.out HB0.out.size hb); have n1_ := Aside0.mk (blk_below BX.out hb); clear HB0; clear BX; have HB0 := n0_; have BX := n1_; clear n0_ n1_; clear hd hb))
    go_ret
    exact ⟨by first | rfl | (simp; done), HB0.out⟩
  · rw [if_neg hneg] at h
    have d0 : decide (s < 0) = false := decide_eq_false hneg
    clear hneg
    obtain ⟨⟨ra0, ra1, ra2⟩, hrg, h⟩ := Option.bind_eq_some_iff.mp h
    obtain ⟨L, hL, h⟩ := Option.bind_eq_some_iff.mp h
    obtain ⟨⟨sv, sb⟩, hsv, h⟩ := Option.bind_eq_some_iff.mp h
    obtain ⟨⟨iv, ib⟩, hiv, h⟩ := Option.bind_eq_some_iff.mp h
    obtain ⟨e1, he1, h⟩ := Option.bind_eq_some_iff.mp h
    obtain ⟨e2, he2, h⟩ := Option.bind_eq_some_iff.mp h
    obtain ⟨⟨mj, mL⟩, hmj, h⟩ := Option.bind_eq_some_iff.mp h
    obtain ⟨⟨ms, mS⟩, hms, h⟩ := Option.bind_eq_some_iff.mp h
    obtain ⟨q, hq, h⟩ := Option.bind_eq_some_iff.mp h
    dsimp only at hsv hiv he1 hms hq h
    by_cases hok : e1 = true ∧ ib = sb ∧ e2 = true ∧ 0 ≤ mj ∧ 0 ≤ q ∧ q = ms
    case neg => rw [if_neg hok] at h; cases h
    case pos =>
    obtain rfl : true = r := by rw [if_pos hok] at h; simpa using h
    obtain ⟨rfl, rfl, rfl, h0m, h0q, rfl⟩ := hok
    have F_L := Aside0.mk hL
    have F_sv := Aside0.mk hsv
    have F_iv := Aside0.mk hiv
    have F_e1 := Aside0.mk he1
    have F_e2 := Aside0.mk he2
    have F_mj := Aside0.mk hmj
    have F_ms := Aside0.mk hms
    have F_q := Aside0.mk hq
    have F_rg := Aside0.mk hrg
    have d1 : decide (mj < 0) = false := decide_eq_false (by omega)
    have d2 : decide (q < 0) = false := decide_eq_false (by omega)
    clear h h0m h0q hL hsv hiv he1 he2 hmj hms hq hrg
    go_enter Try.func10, Try.ntmps10
    go_upto_region 5 with (first
      | ((with_reducible refine gate_dst (N := 3) rfl ?_); refine box_event ?hg (N := 3) ?hd (cs := #[.int .i64 a0_0, .int .i64 a0_1, .int .i64 a0_2]) (t := 23) ?hr ?_; (case hd => rfl); (case hg => rfl); (case hr => first | (go_simp; done) | (go_simp; rfl)); intro gb hgb w1 hbox hb; have n0_ := Aside0.mk (below_then HB0.out HB0.out.size hb); have BX := Aside0.mk hbox; have GB := Aside0.mk (Nat.le_of_eq hgb.symm); clear HB0; have HB0 := n0_; clear n0_ hgb hbox hb)
      | (go_at_call 14; (with_reducible refine (laws_szCallS.calls A1 c1 l1 1048576 s _ (Kd.C_below HCC.out.1 HB0.out) HCC.out.2 HS.out).mono ?_); rintro e wq ⟨rfl, hd⟩; have hb := hd.below; have n0_ := Aside0.mk (below_then HB0.out HB0.out.size hb); have n1_ := Aside0.mk (blk_below BX.out hb); clear HB0; clear BX; have HB0 := n0_; have BX := n1_; clear n0_ n1_; clear hd hb))
    have hcz0 := (blk_cell BX.out 0).trans rfl
    have hcz1 := (blk_cell BX.out 1).trans rfl
    have hcz2 := (blk_cell BX.out 2).trans rfl
    go_upto_region 6 with (first
      | (go_at_call 17; (with_reducible refine (laws_toCallS.calls k A1 c1 l1 L _ (Kd.C_below HCC.out.1 HB0.out) HCC.out.2 F_L.out).mono ?_); rintro e wq ⟨vu, rfl, ho, hb⟩; obtain ⟨A_u, c_u, e_u⟩ := Kd.R_slice ho; subst e_u; have n0_ := Aside0.mk (below_then HB0.out HB0.out.size hb); have n1_ := Aside0.mk (blk_below BX.out hb); clear HB0; clear BX; have HB0 := n0_; have BX := n1_; clear n0_ n1_; have HL := Aside0.mk ho; clear ho hb)
      | (go_at_call 16; (with_reducible refine (laws_toTokenRing.calls a0_0 a0_1 a0_2 ra0 ra1 ra2 _ F_rg.out).mono ?_); rintro e wq ⟨rfl, hb⟩; have n0_ := Aside0.mk (below_then HB0.out HB0.out.size hb); have n1_ := Aside0.mk (blk_below BX.out hb); clear HB0; clear BX; have HB0 := n0_; have BX := n1_; clear n0_ n1_; clear hb)
      | (go_at_call 37; (with_reducible refine (spec_VisitsOf.calls k ra0 ra1 ra2 A_u c_u L a2 sv ib _ (Kd.R_reads' HL.out).2.2 (Kd.R_reads' HL.out).2.1 F_sv.out).mono ?_); rintro e w5 ⟨vw, rfl, ho, hb⟩; obtain ⟨A_w, c_w, e_w⟩ := Kd.S_slice ho; subst e_w; have HW := Aside0.mk (Kd.S_mono (Kd.S_bound ho) (ok' := fun k_ => k_ < w5.heap.size) (fun k_ hk => hk.2.2.1)); have n0_ := Aside0.mk (below_then HB0.out HB0.out.size hb); have n1_ := Aside0.mk (blk_below BX.out hb); clear HB0; clear BX; have HB0 := n0_; have BX := n1_; clear n0_ n1_; clear HL ho hb))
    clear hcz0 hcz1 hcz2
    have HGB := Aside0.mk (blk_lt BX.out)
    have HW5 := Aside0.mk (below_size HB0.out)
    go_upto_region 7 with (first
      | (go_at_call 17; (with_reducible refine (laws_toCallS.calls k A1 c1 l1 L _ (Kd.C_below HCC.out.1 HB0.out) HCC.out.2 F_L.out).mono ?_); rintro e w6 ⟨vx, rfl, ho, hb⟩; obtain ⟨A_x, c_x, e_x⟩ := Kd.R_slice ho; subst e_x; have n0_ := Aside0.mk (below_then HB0.out HB0.out.size hb); have n1_ := Aside0.mk (blk_below BX.out hb); have n2_ := Aside0.mk (Kd.S_below HW.out hb); clear HB0; clear BX; clear HW; have HB0 := n0_; have BX := n1_; have HW := n2_; clear n0_ n1_ n2_; have HX := Aside0.mk (Kd.R_lower (Kd.R_tight rfl ho) HW5.out); have HXB := Aside0.mk (And.intro (Kd.R_base ho) (And.intro (Kd.R_lt ho) hb.size)); have HSZ := Aside0.mk (Nat.le_refl w6.heap.size); clear ho hb))
    have hcz0 := (blk_cell BX.out 0).trans rfl
    have hcz1 := (blk_cell BX.out 1).trans rfl
    have hcz2 := (blk_cell BX.out 2).trans rfl
    go_upto_region 10 with (first
      | (go_at_call 16; (with_reducible refine (laws_toTokenRing.calls a0_0 a0_1 a0_2 ra0 ra1 ra2 _ F_rg.out).mono ?_); rintro e wq ⟨rfl, hb⟩; have n0_ := Aside0.mk (below_then HB0.out HB0.out.size hb); have n1_ := Aside0.mk (blk_below BX.out hb); have n2_ := Aside0.mk (Kd.S_below HW.out hb); have n3_ := Aside0.mk (Kd.R_below HX.out hb); have n4_ := Aside0.mk (Nat.le_trans HSZ.out hb.size); clear HB0; clear BX; clear HW; clear HX; clear HSZ; have HB0 := n0_; have BX := n1_; have HW := n2_; have HX := n3_; have HSZ := n4_; clear n0_ n1_ n2_ n3_ n4_; clear hb)
      | (go_at_call 38; (with_reducible refine (impl_VisitsOf.calls k ra0 ra1 ra2 A_x c_x L a2 iv ib _ (Kd.R_reads' HX.out).2.2 (Kd.R_reads' HX.out).2.1 F_iv.out).mono ?_); rintro e wq ⟨vg, rfl, ho, hb⟩; obtain ⟨A_g, c_g, e_g⟩ := Kd.S_slice ho; subst e_g; have HG := Aside0.mk (Kd.S_lower (Kd.S_mono (Kd.S_bound ho) (ok' := fun k_ => w6.heap.size ≤ k_) (fun k_ hk => Nat.le_trans HSZ.out hk.2.1)) HB0.out.size); have n0_ := Aside0.mk (below_then HB0.out HB0.out.size hb); have n1_ := Aside0.mk (blk_below BX.out hb); have n2_ := Aside0.mk (Kd.S_below HW.out hb); have n3_ := Aside0.mk (Kd.R_below HX.out hb); have n4_ := Aside0.mk (Nat.le_trans HSZ.out hb.size); clear HB0; clear BX; clear HW; clear HX; clear HSZ; have HB0 := n0_; have BX := n1_; have HW := n2_; have HX := n3_; have HSZ := n4_; clear n0_ n1_ n2_ n3_ n4_; clear ho hb)
      | (go_at_call 39; (with_reducible refine (laws_eqIntSS.calls k A_g c_g iv A_w c_w sv true _ (Kd.S_reads' HG.out).2.2 (Kd.S_reads' HG.out).2.1 (Kd.S_reads' HW.out).2.2 (Kd.S_reads' HW.out).2.1 F_e1.out).mono ?_); rintro e wq ⟨rfl, hd⟩; have hb := hd.below; have n0_ := Aside0.mk (below_then HB0.out HB0.out.size hb); have n1_ := Aside0.mk (blk_below BX.out hb); have n2_ := Aside0.mk (Kd.S_below HW.out hb); have n3_ := Aside0.mk (Kd.R_below HX.out hb); have n4_ := Aside0.mk (Nat.le_trans HSZ.out hb.size); have n5_ := Aside0.mk (Kd.S_below HG.out hb); clear HB0; clear BX; clear HW; clear HX; clear HSZ; clear HG; have HB0 := n0_; have BX := n1_; have HW := n2_; have HX := n3_; have HSZ := n4_; have HG := n5_; clear n0_ n1_ n2_ n3_ n4_ n5_; clear hd hb))
    clear hcz0 hcz1 hcz2
    go_upto_region 14 with (first
      | (go_at_call 17; (with_reducible refine (laws_toCallS.calls k A1 c1 l1 L _ (Kd.C_below HCC.out.1 HB0.out) HCC.out.2 F_L.out).mono ?_); rintro e wq ⟨vy, rfl, ho, hb⟩; obtain ⟨A_y, c_y, e_y⟩ := Kd.R_slice ho; subst e_y; have n0_ := Aside0.mk (below_then HB0.out HB0.out.size hb); have n1_ := Aside0.mk (blk_below BX.out hb); have n2_ := Aside0.mk (Kd.S_below HW.out hb); have n3_ := Aside0.mk (Kd.R_below HX.out hb); have n4_ := Aside0.mk (Nat.le_trans HSZ.out hb.size); have n5_ := Aside0.mk (Kd.S_below HG.out hb); clear HB0; clear BX; clear HW; clear HX; clear HSZ; clear HG; have HB0 := n0_; have BX := n1_; have HW := n2_; have HX := n3_; have HSZ := n4_; have HG := n5_; clear n0_ n1_ n2_ n3_ n4_ n5_; have HY := Aside0.mk ho; clear ho hb)
      | (go_at_call 20; (with_reducible refine (laws_eqCallS.calls k A_x c_x L A_y c_y L true _ (Kd.R_reads' HX.out).2.2 (Kd.R_reads' HX.out).2.1 (Kd.R_reads' HY.out).2.2 (Kd.R_reads' HY.out).2.1 F_e2.out).mono ?_); rintro e wq ⟨rfl, hb⟩; have n0_ := Aside0.mk (below_then HB0.out HB0.out.size hb); have n1_ := Aside0.mk (blk_below BX.out hb); have n2_ := Aside0.mk (Kd.S_below HW.out hb); have n3_ := Aside0.mk (Kd.R_below HX.out hb); have n4_ := Aside0.mk (Nat.le_trans HSZ.out hb.size); have n5_ := Aside0.mk (Kd.S_below HG.out hb); clear HB0; clear BX; clear HW; clear HX; clear HSZ; clear HG; have HB0 := n0_; have BX := n1_; have HW := n2_; have HX := n3_; have HSZ := n4_; have HG := n5_; clear n0_ n1_ n2_ n3_ n4_ n5_; clear HY hb)
      | (go_at_call 21; (with_reducible refine (laws_markCallS.calls k (fun k_ => some k_ = (Value.slice A_x L.length c_x).ownBlock) _ L 1 mj mL w _ HB0.out HX.out F_mj.out).mono ?_); rintro e wq ⟨rfl, _, hb0, hk⟩; have n0_ := Aside0.mk (hb0); have n1_ := Aside0.mk (blk_kept BX.out hk (fun hp_ => absurd (HXB.out.1 gb hp_.symm) (by have := HGB.out; omega))); have n2_ := Aside0.mk (Kd.S_kept HW.out hk (fun k_ hk_ hp_ => absurd (HXB.out.1 k_ hp_.symm) (by omega))); have n3_ := Aside0.mk (Kd.S_kept HG.out hk (fun k_ hk_ hp_ => absurd (HXB.out.2.1 k_ hp_.symm) (by omega))); have n4_ := Aside0.mk (Nat.le_trans HSZ.out hk.1); clear HB0; clear BX; clear HW; clear HG; clear HSZ; have HB0 := n0_; have BX := n1_; have HW := n2_; have HG := n3_; have HSZ := n4_; clear n0_ n1_ n2_ n3_ n4_; clear hk hb0))
    clear HX
    go_upto_region 17 with (first
      | (go_at_call 39; (with_reducible refine (laws_eqIntSS.calls k A_g c_g iv A_w c_w sv true _ (Kd.S_reads' HG.out).2.2 (Kd.S_reads' HG.out).2.1 (Kd.S_reads' HW.out).2.2 (Kd.S_reads' HW.out).2.1 F_e1.out).mono ?_); rintro e wq ⟨rfl, hd⟩; have hb := hd.below; have n0_ := Aside0.mk (below_then HB0.out HB0.out.size hb); have n1_ := Aside0.mk (blk_below BX.out hb); have n2_ := Aside0.mk (Kd.S_below HW.out hb); have n3_ := Aside0.mk (Kd.S_below HG.out hb); have n4_ := Aside0.mk (Nat.le_trans HSZ.out hb.size); clear HB0; clear BX; clear HW; clear HG; clear HSZ; have HB0 := n0_; have BX := n1_; have HW := n2_; have HG := n3_; have HSZ := n4_; clear n0_ n1_ n2_ n3_ n4_; clear hd hb))
    go_upto_region 24 with (first
      | (go_at_call 40; (with_reducible refine (laws_markIntSS.calls (fun k_ => w6.heap.size ≤ k_) _ iv 1 q mS w _ HB0.out HG.out F_ms.out).mono ?_); rintro e wq ⟨rfl, hs_, hb0, hk⟩; have HML := Aside0.mk (Kd.S_reads' hs_).1; have ng_ := Aside0.mk (Kd.S_mono hs_ (ok' := fun k_ => w6.heap.size ≤ k_) (fun k_ hk_ => hk_.elim id (fun h_ => Nat.le_trans HSZ.out h_))); clear HG hs_; have HG := ng_; clear ng_; have n0_ := Aside0.mk (hb0); have n1_ := Aside0.mk (blk_kept BX.out hk (fun hp_ => absurd HGB.out (by have := HXB.out.2.2; omega))); have n2_ := Aside0.mk (Kd.S_kept HW.out hk (fun k_ hk_ hp_ => absurd hk_ (by have := HXB.out.2.2; omega))); have n3_ := Aside0.mk (Nat.le_trans HSZ.out hk.1); clear HB0; clear BX; clear HW; clear HSZ; have HB0 := n0_; have BX := n1_; have HW := n2_; have HSZ := n3_; clear n0_ n1_ n2_ n3_; clear hk hb0)
      | (go_at_call 41; (refine calls_of_args (args' := #[.slice A_g mS.length c_g, .int .i64 1]) (by rw [HML.out]) ?_); (with_reducible refine (laws_heldIntSS.calls k A_g c_g mS 1 q _ (Kd.S_reads' HG.out).2.2 (by rw [← HML.out]; exact (Kd.S_reads' HG.out).2.1) F_q.out).mono ?_); rintro e wq ⟨rfl, hd⟩; have hb := hd.below; have n0_ := Aside0.mk (below_then HB0.out HB0.out.size hb); have n1_ := Aside0.mk (blk_below BX.out hb); have n2_ := Aside0.mk (Kd.S_below HW.out hb); have n3_ := Aside0.mk (Kd.S_below HG.out hb); have n4_ := Aside0.mk (Nat.le_trans HSZ.out hb.size); clear HB0; clear BX; clear HW; clear HG; clear HSZ; have HB0 := n0_; have BX := n1_; have HW := n2_; have HG := n3_; have HSZ := n4_; clear n0_ n1_ n2_ n3_ n4_; clear hd hb))
    have hcz0 := (blk_cell BX.out 0).trans rfl
    have hcz1 := (blk_cell BX.out 1).trans rfl
    have hcz2 := (blk_cell BX.out 2).trans rfl
    go_upto_region 27 with (first
      | (go_at_call 17; (with_reducible refine (laws_toCallS.calls k A1 c1 l1 L _ (Kd.C_below HCC.out.1 HB0.out) HCC.out.2 F_L.out).mono ?_); rintro e wq ⟨vz, rfl, ho, hb⟩; obtain ⟨A_z, c_z, e_z⟩ := Kd.R_slice ho; subst e_z; have n0_ := Aside0.mk (below_then HB0.out HB0.out.size hb); have n1_ := Aside0.mk (blk_below BX.out hb); have n2_ := Aside0.mk (Kd.S_below HW.out hb); have n3_ := Aside0.mk (Kd.S_below HG.out hb); have n4_ := Aside0.mk (Nat.le_trans HSZ.out hb.size); clear HB0; clear BX; clear HW; clear HG; clear HSZ; have HB0 := n0_; have BX := n1_; have HW := n2_; have HG := n3_; have HSZ := n4_; clear n0_ n1_ n2_ n3_ n4_; have HZ := Aside0.mk ho; clear ho hb)
      | (go_at_call 16; (with_reducible refine (laws_toTokenRing.calls a0_0 a0_1 a0_2 ra0 ra1 ra2 _ F_rg.out).mono ?_); rintro e wq ⟨rfl, hb⟩; have n0_ := Aside0.mk (below_then HB0.out HB0.out.size hb); have n1_ := Aside0.mk (blk_below BX.out hb); have n2_ := Aside0.mk (Kd.S_below HW.out hb); have n3_ := Aside0.mk (Kd.S_below HG.out hb); have n4_ := Aside0.mk (Nat.le_trans HSZ.out hb.size); clear HB0; clear BX; clear HW; clear HG; clear HSZ; have HB0 := n0_; have BX := n1_; have HW := n2_; have HG := n3_; have HSZ := n4_; clear n0_ n1_ n2_ n3_ n4_; clear hb)
      | (go_at_call 38; (with_reducible refine (impl_VisitsOf.calls k ra0 ra1 ra2 A_z c_z L a2 iv ib _ (Kd.R_reads' HZ.out).2.2 (Kd.R_reads' HZ.out).2.1 F_iv.out).mono ?_); rintro e wq ⟨vh, rfl, ho, hb⟩; obtain ⟨A_h, c_h, e_h⟩ := Kd.S_slice ho; subst e_h; have HH := Aside0.mk ho; have n0_ := Aside0.mk (below_then HB0.out HB0.out.size hb); have n1_ := Aside0.mk (blk_below BX.out hb); have n2_ := Aside0.mk (Kd.S_below HW.out hb); have n3_ := Aside0.mk (Kd.S_below HG.out hb); have n4_ := Aside0.mk (Nat.le_trans HSZ.out hb.size); clear HB0; clear BX; clear HW; clear HG; clear HSZ; have HB0 := n0_; have BX := n1_; have HW := n2_; have HG := n3_; have HSZ := n4_; clear n0_ n1_ n2_ n3_ n4_; clear ho hb)
      | (go_at_call 39; (with_reducible refine (laws_eqIntSS.calls k A_h c_h iv A_w c_w sv true _ (Kd.S_reads' HH.out).2.2 (Kd.S_reads' HH.out).2.1 (Kd.S_reads' HW.out).2.2 (Kd.S_reads' HW.out).2.1 F_e1.out).mono ?_); rintro e wq ⟨rfl, hd⟩; have hb := hd.below; have n0_ := Aside0.mk (below_then HB0.out HB0.out.size hb); have n1_ := Aside0.mk (blk_below BX.out hb); have n2_ := Aside0.mk (Kd.S_below HW.out hb); have n3_ := Aside0.mk (Kd.S_below HG.out hb); have n4_ := Aside0.mk (Nat.le_trans HSZ.out hb.size); have n5_ := Aside0.mk (Kd.S_below HH.out hb); clear HB0; clear BX; clear HW; clear HG; clear HSZ; clear HH; have HB0 := n0_; have BX := n1_; have HW := n2_; have HG := n3_; have HSZ := n4_; have HH := n5_; clear n0_ n1_ n2_ n3_ n4_ n5_; clear hd hb))
    clear hcz0 hcz1 hcz2
    go_wp2_with (first
      | (go_at_call 41; (refine calls_of_args (args' := #[.slice A_g mS.length c_g, .int .i64 1]) (by rw [HML.out]) ?_); (with_reducible refine (laws_heldIntSS.calls k A_g c_g mS 1 q _ (Kd.S_reads' HG.out).2.2 (by rw [← HML.out]; exact (Kd.S_reads' HG.out).2.1) F_q.out).mono ?_); rintro e wq ⟨rfl, hd⟩; have hb := hd.below; have n0_ := Aside0.mk (below_then HB0.out HB0.out.size hb); have n1_ := Aside0.mk (blk_below BX.out hb); have n2_ := Aside0.mk (Kd.S_below HW.out hb); have n3_ := Aside0.mk (Kd.S_below HG.out hb); have n4_ := Aside0.mk (Nat.le_trans HSZ.out hb.size); clear HB0; clear BX; clear HW; clear HG; clear HSZ; have HB0 := n0_; have BX := n1_; have HW := n2_; have HG := n3_; have HSZ := n4_; clear n0_ n1_ n2_ n3_ n4_; clear hd hb))
    go_ret
    exact ⟨by first | rfl | (simp; done), HB0.out⟩

end Go.Proofs.Ytgminjippechkaa.PFnExactVisitsOf
