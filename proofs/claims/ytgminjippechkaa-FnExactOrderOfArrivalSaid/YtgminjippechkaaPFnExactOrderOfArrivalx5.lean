/- Printed by wip/tools/pr.py: the walks of the functions that a law reaches; not trusted, Lean checks it. No condition. -/
import Derived.Test.YtgminjippechkaaPFnExactOrderOfArrivalx0
import Derived.Test.YtgminjippechkaaPFnExactOrderOfArrivalx2
import Derived.Test.YtgminjippechkaaPFnExactOrderOfArrivalx3
import Derived.Test.YtgminjippechkaaPFnExactOrderOfArrivalx4
namespace Go.Proofs.Ytgminjippechkaa.PFnExactOrderOfArrival
open Go.RowKit Go.Proofs.YtgminjippechkaaW.PrintWords Go.Proofs.YtgminjippechkaaW.PrintLast Go.Proofs.YtgminjippechkaaW.PrintMore
attribute [local go_sem] max2_int min2_int max_two min_two max_three min_three max_four min_four   -- for this text's walks alone
set_option linter.unusedVariables false
set_option linter.unusedSimpArgs false

/-! ### impl_isCalled: function 62 -/
def impl_isCalled.f (k : Nat) (a0_0 : Int) (a0_1 : Int) (a0_2 : Int) (l1 : List (S58)) : Option (Bool) := (impl_IsTokenRing.f a0_0 a0_1 a0_2).bind fun t191 => (if t191 = true then ((impl_areCalls.f k a0_0 l1).bind fun t192 => (some t192)) else (some false))
theorem impl_isCalled.mono : ∀ a0 a1 a2 a3 k, LeO (impl_isCalled.f k a0 a1 a2 a3) (impl_isCalled.f (k + 1) a0 a1 a2 a3) := by
  intro a0 a1 a2 a3 k
  unfold impl_isCalled.f
  repeat' first
      | (with_reducible exact impl_areCalls.mono _ _ _)
      | (with_reducible exact LeO.refl _)
      | (with_reducible exact LeO.none _)
      | (with_reducible refine LeO.ite ?_ ?_)
      | (with_reducible refine LeO.bind ?_ (fun _ => ?_))
      | exact impl_areCalls.mono _ _ _
      | exact LeO.none _
      | refine LeO.ite ?_ ?_
      | refine LeO.bind ?_ (fun _ => ?_)
set_option maxHeartbeats 8000000 in
set_option maxRecDepth 100000 in
theorem impl_isCalled.calls (k : Nat) (a0_0 : Int) (a0_1 : Int) (a0_2 : Int) (A1 : Option Addr) (c1 : Nat) (l1 : List (S58)) (r : Bool) (w : World) (hr1 : Kd.C k58 w A1 l1.length l1) (hc1 : l1.length ≤ c1) (h : impl_isCalled.f k a0_0 a0_1 a0_2 l1 = some r) :
    Calls Try.prog 62 #[.agg #[.int .i64 a0_0, .int .i64 a0_1, .int .i64 a0_2], .slice A1 l1.length c1] w fun e w' => e = .returned (.bool r) ∧ Below w.heap.size w w' := by
  have hu29 := Try.underlying29
  have HR1 := Aside0.mk hr1
  have HC1 := Aside0.mk hc1
  clear hr1 hc1
  have HB := Aside0.mk (Below.refl w.heap.size w)
  have H : ((impl_IsTokenRing.f a0_0 a0_1 a0_2).bind fun t191 => (if t191 = true then ((impl_areCalls.f k a0_0 l1).bind fun t192 => (some t192)) else (some false))) = some r := h
  clear h
  replace H := Option.bind_eq_some_iff.mp H
  obtain ⟨t191, A30, H⟩ := H
  replace H : (if t191 = true then ((impl_areCalls.f k a0_0 l1).bind fun t192 => (some t192)) else (some false)) = some r := H
  have A3 := Aside0.mk A30
  clear A30
  by_cases c4 : t191 = true
  · subst c4
    have H1 : ((impl_areCalls.f k a0_0 l1).bind fun t192 => (some t192)) = some r := by rw [if_pos rfl] at H; exact H
    clear H
    have H := H1
    clear H1
    replace H := Option.bind_eq_some_iff.mp H
    obtain ⟨t192, A50, H⟩ := H
    replace H : (some t192) = some r := H
    have A5 := Aside0.mk A50
    clear A50
    obtain rfl := Option.some.inj H
    go_enter Try.func62, Try.ntmps62
    go_wp2_with (first | ((with_reducible refine gate_dst (N := 2) rfl ?_); refine box_event ?hg (N := 2) ?hd (cs := #[.int .i64 a0_0, .int .i64 a0_1, .int .i64 a0_2]) (t := 29) ?hr ?_; (case hd => rfl); (case hg => rfl); (case hr => first | (go_simp; done) | (go_simp; rfl)); intro gb190 hg w6 hbox hb; have n0_ := Aside0.mk (below_step (by repeat (first | (with_reducible first | exact HB.out | apply below_alloc | apply pw_below_drewN | apply below_drew1) | exact HB.out)) hb); have n1_ := Aside0.mk (hbox); have n2_ := Aside0.mk ((by rw [hg]; exact (below_size (by repeat (first | (with_reducible first | exact HB.out | apply below_alloc | apply pw_below_drewN | apply below_drew1) | exact HB.out))) : w.heap.size ≤ gb190)); have n3_ := Aside0.mk ((by rw [hg]; exact (below_size (by repeat (first | (with_reducible first | exact HB.out | apply below_alloc | apply pw_below_drewN | apply below_drew1) | exact HB.out))) : w.heap.size ≤ gb190)); clear HB; have HB := n0_; have BK190 := n1_; have GW190 := n2_; have GE190 := n3_; clear n0_ n1_ n2_ n3_; clear hb hbox hg; have hcz7_0 : w6.cell? ⟨gb190, 0, none⟩ = some (.int .i64 a0_0) := (blk_cell BK190.out 0).trans rfl; have hcz7_1 : w6.cell? ⟨gb190, 1, none⟩ = some (.int .i64 a0_1) := (blk_cell BK190.out 1).trans rfl; have hcz7_2 : w6.cell? ⟨gb190, 2, none⟩ = some (.int .i64 a0_2) := (blk_cell BK190.out 2).trans rfl; have hfz7_0 := blk_frozen BK190.out 0; have hfz7_1 := blk_frozen BK190.out 1; have hfz7_2 := blk_frozen BK190.out 2) | ((with_reducible refine gate_callee (f := 56) rfl ?_); refine goesL_ (some 6) rfl rfl Try.func56 (by kernel_rfl) rfl #[.agg #[.int .i64 a0_0, .int .i64 a0_1, .int .i64 a0_2]] rfl (by (try simp only [List.map_toArray, List.map_cons, List.map_nil]); first | done | rfl | (simp only [List.length_drop, List.length_take]; rfl)) ?_; (with_reducible refine (impl_IsTokenRing.calls a0_0 a0_1 a0_2 true _ A3.out).mono ?_); rintro e w8 ⟨rfl, hb⟩; refine ⟨_, rfl, ?_⟩; have n0_ := Aside0.mk (blk_below (g := gb190) (o := .cells #[.int .i64 a0_0, .int .i64 a0_1, .int .i64 a0_2] 29 (0, 0)) (by (with_reducible repeat (first | refine blk_drewN ?_ _ | refine blk_drew ?_ | refine blk_alloc ?_ _)); exact BK190.out) hb); have n1_ := Aside0.mk (below_step (by repeat (first | (with_reducible first | exact HB.out | apply below_alloc | apply pw_below_drewN | apply below_drew1 | refine below_set ?_ GE190.out) | exact HB.out)) hb); clear BK190; clear HB; have BK190 := n0_; have HB := n1_; clear n0_ n1_; (try clear hb); (try clear hb2); (try clear hk); (try clear hi); have hcz9_0 : w8.cell? ⟨gb190, 0, none⟩ = some (.int .i64 a0_0) := (blk_cell BK190.out 0).trans rfl; have hcz9_1 : w8.cell? ⟨gb190, 1, none⟩ = some (.int .i64 a0_1) := (blk_cell BK190.out 1).trans rfl; have hcz9_2 : w8.cell? ⟨gb190, 2, none⟩ = some (.int .i64 a0_2) := (blk_cell BK190.out 2).trans rfl; have hfz9_0 := blk_frozen BK190.out 0; have hfz9_1 := blk_frozen BK190.out 1; have hfz9_2 := blk_frozen BK190.out 2) | (go_at_call 59; (with_reducible refine (impl_areCalls.calls k a0_0 _ _ l1 t192 _ ?side1 ?side2 A5.out).mono ?_); (case side1 => repeat (first | exact (Kd.C_below HR1.out HB.out) | (with_reducible refine Kd.C_alloc ?_ _) | (with_reducible refine Kd.C_drewN ?_ _) | (with_reducible refine Kd.C_drew ?_))); (case side2 => exact HC1.out); rintro e w10 ⟨rfl, hb⟩; have n0_ := Aside0.mk (blk_below (g := gb190) (o := .cells #[.int .i64 a0_0, .int .i64 a0_1, .int .i64 a0_2] 29 (0, 0)) (by (with_reducible repeat (first | refine blk_drewN ?_ _ | refine blk_drew ?_ | refine blk_alloc ?_ _)); exact BK190.out) hb); have n1_ := Aside0.mk (below_step (by repeat (first | (with_reducible first | exact HB.out | apply below_alloc | apply pw_below_drewN | apply below_drew1 | refine below_set ?_ GE190.out) | exact HB.out)) hb); clear BK190; clear HB; have BK190 := n0_; have HB := n1_; clear n0_ n1_; (try clear hb); (try clear hb2); (try clear hk); (try clear hi)))
    go_ret
    exact ⟨by first | rfl | (simp [errW_none, errW_some] <;> rfl) | (simp [*, errW_none, errW_some] <;> rfl), by repeat (first | (with_reducible first | exact HB.out | apply below_alloc | apply pw_below_drewN | apply below_drew1 | refine below_set ?_ GE190.out) | exact HB.out)⟩
  · replace c4 := Bool.eq_false_iff.mpr c4
    subst c4
    have H1 : (some false) = some r := by rw [if_neg (show ¬ (false = true) by decide)] at H; exact H
    clear H
    have H := H1
    clear H1
    obtain rfl := Option.some.inj H
    go_enter Try.func62, Try.ntmps62
    go_wp2_with (first | ((with_reducible refine gate_dst (N := 2) rfl ?_); refine box_event ?hg (N := 2) ?hd (cs := #[.int .i64 a0_0, .int .i64 a0_1, .int .i64 a0_2]) (t := 29) ?hr ?_; (case hd => rfl); (case hg => rfl); (case hr => first | (go_simp; done) | (go_simp; rfl)); intro gb190 hg w11 hbox hb; have n0_ := Aside0.mk (below_step (by repeat (first | (with_reducible first | exact HB.out | apply below_alloc | apply pw_below_drewN | apply below_drew1) | exact HB.out)) hb); have n1_ := Aside0.mk (hbox); have n2_ := Aside0.mk ((by rw [hg]; exact (below_size (by repeat (first | (with_reducible first | exact HB.out | apply below_alloc | apply pw_below_drewN | apply below_drew1) | exact HB.out))) : w.heap.size ≤ gb190)); have n3_ := Aside0.mk ((by rw [hg]; exact (below_size (by repeat (first | (with_reducible first | exact HB.out | apply below_alloc | apply pw_below_drewN | apply below_drew1) | exact HB.out))) : w.heap.size ≤ gb190)); clear HB; have HB := n0_; have BK190 := n1_; have GW190 := n2_; have GE190 := n3_; clear n0_ n1_ n2_ n3_; clear hb hbox hg; have hcz12_0 : w11.cell? ⟨gb190, 0, none⟩ = some (.int .i64 a0_0) := (blk_cell BK190.out 0).trans rfl; have hcz12_1 : w11.cell? ⟨gb190, 1, none⟩ = some (.int .i64 a0_1) := (blk_cell BK190.out 1).trans rfl; have hcz12_2 : w11.cell? ⟨gb190, 2, none⟩ = some (.int .i64 a0_2) := (blk_cell BK190.out 2).trans rfl; have hfz12_0 := blk_frozen BK190.out 0; have hfz12_1 := blk_frozen BK190.out 1; have hfz12_2 := blk_frozen BK190.out 2) | ((with_reducible refine gate_callee (f := 56) rfl ?_); refine goesL_ (some 6) rfl rfl Try.func56 (by kernel_rfl) rfl #[.agg #[.int .i64 a0_0, .int .i64 a0_1, .int .i64 a0_2]] rfl (by (try simp only [List.map_toArray, List.map_cons, List.map_nil]); first | done | rfl | (simp only [List.length_drop, List.length_take]; rfl)) ?_; (with_reducible refine (impl_IsTokenRing.calls a0_0 a0_1 a0_2 false _ A3.out).mono ?_); rintro e w13 ⟨rfl, hb⟩; refine ⟨_, rfl, ?_⟩; have n0_ := Aside0.mk (blk_below (g := gb190) (o := .cells #[.int .i64 a0_0, .int .i64 a0_1, .int .i64 a0_2] 29 (0, 0)) (by (with_reducible repeat (first | refine blk_drewN ?_ _ | refine blk_drew ?_ | refine blk_alloc ?_ _)); exact BK190.out) hb); have n1_ := Aside0.mk (below_step (by repeat (first | (with_reducible first | exact HB.out | apply below_alloc | apply pw_below_drewN | apply below_drew1 | refine below_set ?_ GE190.out) | exact HB.out)) hb); clear BK190; clear HB; have BK190 := n0_; have HB := n1_; clear n0_ n1_; (try clear hb); (try clear hb2); (try clear hk); (try clear hi)))
    go_ret
    exact ⟨by first | rfl | (simp [errW_none, errW_some] <;> rfl) | (simp [*, errW_none, errW_some] <;> rfl), by repeat (first | (with_reducible first | exact HB.out | apply below_alloc | apply pw_below_drewN | apply below_drew1 | refine below_set ?_ GE190.out) | exact HB.out)⟩

/-! ### slices_Index_int_int: function 83 -/
def slices_Index_int_int.l0 : Nat → List Int → Int → Int → Int → Option (Int)
  | 0, _, _, _, _ => none
  | k + 1, x0, x1, x7, x8 => if x8 < x7 then (if 0 ≤ x8 then (if x8 < (x0.length : Int) then (if x1 = (rd x0 x8) then (some x8) else (slices_Index_int_int.l0 k x0 x1 x7 (wrap64 (x8 + 1)))) else (none)) else (none)) else (some (-1))
def slices_Index_int_int.f (k : Nat) (l0 : List Int) (a1 : Int) : Option (Int) := slices_Index_int_int.l0 k l0 a1 (l0.length : Int) 0
theorem slices_Index_int_int.mono_l : ∀ k, (∀ y0 y1 y2 y3, LeO (slices_Index_int_int.l0 k y0 y1 y2 y3) (slices_Index_int_int.l0 (k + 1) y0 y1 y2 y3))
  | 0 => fun _ _ _ _ r h => by simp [slices_Index_int_int.l0] at h
  | k + 1 => by
    have ih0 := slices_Index_int_int.mono_l k
    · intro y0 y1 y2 y3
      unfold slices_Index_int_int.l0
      repeat' first
      | (with_reducible exact ih0 _ _ _ _)
      | (with_reducible exact LeO.refl _)
      | (with_reducible exact LeO.none _)
      | (with_reducible refine LeO.ite ?_ ?_)
      | (with_reducible refine LeO.bind ?_ (fun _ => ?_))
      | exact ih0 _ _ _ _
      | exact LeO.none _
      | refine LeO.ite ?_ ?_
      | refine LeO.bind ?_ (fun _ => ?_)
theorem slices_Index_int_int.mono : ∀ a0 a1 k, LeO (slices_Index_int_int.f k a0 a1) (slices_Index_int_int.f (k + 1) a0 a1) := by
  intro a0 a1 k
  have ih0 := slices_Index_int_int.mono_l k
  unfold slices_Index_int_int.f
  repeat' first
      | (with_reducible exact ih0 _ _ _ _)
      | (with_reducible exact LeO.refl _)
      | (with_reducible exact LeO.none _)
      | (with_reducible refine LeO.ite ?_ ?_)
      | (with_reducible refine LeO.bind ?_ (fun _ => ?_))
      | exact ih0 _ _ _ _
      | exact LeO.none _
      | refine LeO.ite ?_ ?_
      | refine LeO.bind ?_ (fun _ => ?_)
set_option maxHeartbeats 8000000 in
set_option maxRecDepth 100000 in
theorem slices_Index_int_int.calls (k : Nat) (A0 : Option Addr) (c0 : Nat) (l0 : List Int) (a1 : Int) (r : Int) (w : World) (hr0 : Kd.C (Kd.int .i64) w A0 l0.length l0) (hc0 : l0.length ≤ c0) (h : slices_Index_int_int.f k l0 a1 = some r) :
    Calls Try.prog 83 #[.slice A0 l0.length c0, .int .i64 a1] w fun e w' => e = .returned (.int .i64 r) ∧ Drawn0 w w' := by
  have HR0 := Aside0.mk hr0
  have HC0 := Aside0.mk hc0
  clear hr0 hc0
  have H : (slices_Index_int_int.l0 k l0 a1 (l0.length : Int) 0) = some r := h
  clear h
  have H' := Aside0.mk H
  clear H
  go_enter Try.func83, Try.ntmps83
  go_wp2
  go_loopg [8] k (fun kq v8 w' => ∃ (x8_1 : Int), v8 = .int .i64 x8_1 ∧ Aside0 (slices_Index_int_int.l0 kq l0 a1 (l0.length : Int) x8_1 = some r) ∧ Aside0 (kq ≤ k) ∧ Drawn0 w w')
  case atStart => exact ⟨(0), (by first | rfl | (simp; done) | (simp [*]; done)), H', ⟨Nat.le_refl _⟩, by repeat (first | exact Drawn0.refl _ | apply Drawn0.step)⟩
  case round =>
    clear H'
    try clear p2
    obtain ⟨x8_1, rfl, HA, HK1, ⟨m1, rfl⟩⟩ := hrel
    cases gk with
    | zero => exact absurd HA.out (by simp [slices_Index_int_int.l0])
    | succ k1 =>
      have H := HA.out
      clear HA
      simp only [slices_Index_int_int.l0] at H
      by_cases c3 : x8_1 < (l0.length : Int)
      · rw [if_pos c3] at H
        have c3b0 : decide (x8_1 < (l0.length : Int)) = true := decide_eq_true c3
        clear c3
        by_cases c4 : 0 ≤ x8_1
        · rw [if_pos c4] at H
          have c4b0 : decide (0 ≤ x8_1) = true := decide_eq_true c4
          clear c4
          by_cases c5 : x8_1 < (l0.length : Int)
          · rw [if_pos c5] at H
            have c5b0 : decide (x8_1 < (l0.length : Int)) = true := decide_eq_true c5
            clear c5
            by_cases c6 : a1 = (rd l0 x8_1)
            · rw [if_pos c6] at H
              have c6b0 : (a1 == (rd l0 x8_1)) = true := beq_iff_eq.mpr c6
              have c6b1 : (a1 != (rd l0 x8_1)) = false := bne_eq_false_iff_eq.mpr c6
              clear c6
              obtain rfl := Option.some.inj H
              have p193 : 0 ≤ (x8_1 : Int) := of_decide_eq_true (by first | (with_reducible assumption) | assumption)
              have q193 : x8_1 < (l0.length : Int) := of_decide_eq_true (by first | (with_reducible assumption) | assumption)
              obtain ⟨ad193, e193, hx193_0⟩ := Kd.at_int HR0.out x8_1 p193 q193
              cases e193
              replace p193 := eq_true p193
              replace q193 := eq_true q193
              go_wp2
              go_ret
              exact ⟨by first | rfl | (simp; done) | (simp [*]; done), by repeat (first | exact Drawn0.refl _ | apply Drawn0.step)⟩
            · rw [if_neg c6] at H
              have c6b0 : (a1 == (rd l0 x8_1)) = false := beq_eq_false_iff_ne.mpr c6
              have c6b1 : (a1 != (rd l0 x8_1)) = true := bne_iff_ne.mpr c6
              have H' := Aside0.mk H
              clear H
              have p193 : 0 ≤ (x8_1 : Int) := of_decide_eq_true (by first | (with_reducible assumption) | assumption)
              have q193 : x8_1 < (l0.length : Int) := of_decide_eq_true (by first | (with_reducible assumption) | assumption)
              obtain ⟨ad193, e193, hx193_0⟩ := Kd.at_int HR0.out x8_1 p193 q193
              cases e193
              replace p193 := eq_true p193
              replace q193 := eq_true q193
              go_wp2
              go_roundg k1
              case measure => have := HK1.out; omega
              case rel => exact ⟨(wrap64 (x8_1 + 1)), (by first | rfl | (simp; done) | (simp [*]; done)), H', ⟨by have := HK1.out; omega⟩, by repeat (first | exact Drawn0.refl _ | apply Drawn0.step)⟩
          · rw [if_neg c5] at H
            exact absurd H (by simp)
        · rw [if_neg c4] at H
          exact absurd H (by simp)
      · rw [if_neg c3] at H
        have c3b0 : decide (x8_1 < (l0.length : Int)) = false := decide_eq_false c3
        clear c3
        obtain rfl := Option.some.inj H
        go_wp2
        go_ret
        exact ⟨by first | rfl | (simp; done) | (simp [*]; done), by repeat (first | exact Drawn0.refl _ | apply Drawn0.step)⟩

/-! ### slices_Contains_int_int: function 75 -/
def slices_Contains_int_int.f (k : Nat) (l0 : List Int) (a1 : Int) : Option (Bool) := (slices_Index_int_int.f k l0 a1).bind fun t194 => (some (decide (t194 ≥ 0)))
theorem slices_Contains_int_int.mono : ∀ a0 a1 k, LeO (slices_Contains_int_int.f k a0 a1) (slices_Contains_int_int.f (k + 1) a0 a1) := by
  intro a0 a1 k
  unfold slices_Contains_int_int.f
  repeat' first
      | (with_reducible exact slices_Index_int_int.mono _ _ _)
      | (with_reducible exact LeO.refl _)
      | (with_reducible exact LeO.none _)
      | (with_reducible refine LeO.ite ?_ ?_)
      | (with_reducible refine LeO.bind ?_ (fun _ => ?_))
      | exact slices_Index_int_int.mono _ _ _
      | exact LeO.none _
      | refine LeO.ite ?_ ?_
      | refine LeO.bind ?_ (fun _ => ?_)
set_option maxHeartbeats 8000000 in
set_option maxRecDepth 100000 in
theorem slices_Contains_int_int.calls (k : Nat) (A0 : Option Addr) (c0 : Nat) (l0 : List Int) (a1 : Int) (r : Bool) (w : World) (hr0 : Kd.C (Kd.int .i64) w A0 l0.length l0) (hc0 : l0.length ≤ c0) (h : slices_Contains_int_int.f k l0 a1 = some r) :
    Calls Try.prog 75 #[.slice A0 l0.length c0, .int .i64 a1] w fun e w' => e = .returned (.bool r) ∧ Drawn0 w w' := by
  have HR0 := Aside0.mk hr0
  have HC0 := Aside0.mk hc0
  clear hr0 hc0
  have H : ((slices_Index_int_int.f k l0 a1).bind fun t194 => (some (decide (t194 ≥ 0)))) = some r := h
  clear h
  replace H := Option.bind_eq_some_iff.mp H
  obtain ⟨t194, A30, H⟩ := H
  replace H : (some (decide (t194 ≥ 0))) = some r := H
  have A3 := Aside0.mk A30
  clear A30
  obtain rfl := Option.some.inj H
  go_enter Try.func75, Try.ntmps75
  go_wp2_with (first | ((with_reducible refine gate_callee (f := 83) rfl ?_); refine goesL_ (some 7) rfl rfl Try.func83 (by kernel_rfl) rfl #[.slice A0 l0.length c0, .int .i64 a1] rfl (by (try simp only [List.map_toArray, List.map_cons, List.map_nil]); first | done | rfl | (simp only [List.length_drop, List.length_take]; rfl)) ?_; (with_reducible refine (slices_Index_int_int.calls k _ _ l0 a1 t194 _ ?side1 ?side2 A3.out).mono ?_); (case side1 => repeat (first | exact HR0.out | (with_reducible refine Kd.C_alloc ?_ _) | (with_reducible refine Kd.C_drewN ?_ _) | (with_reducible refine Kd.C_drew ?_))); (case side2 => exact HC0.out); rintro e w' ⟨rfl, ⟨nd, rfl⟩⟩; refine ⟨_, rfl, ?_⟩))
  go_ret
  exact ⟨by first | rfl | (simp; done) | (simp [*]; done), by repeat (first | exact Drawn0.refl _ | apply Drawn0.step)⟩

/-! ### bits_Mul32: function 79 -/
def bits_Mul32.f (a0 : Int) (a1 : Int) : Option (Int × Int) := some (((IntKind.u64.wrap ((IntKind.u64.wrap (a0)) * (IntKind.u64.wrap (a1)))) / 4294967296) % 4294967296, (IntKind.u64.wrap ((IntKind.u64.wrap (a0)) * (IntKind.u64.wrap (a1)))) % 4294967296)
set_option maxHeartbeats 8000000 in
set_option maxRecDepth 100000 in
theorem bits_Mul32.calls (a0 : Int) (a1 : Int) (r1 : Int) (r2 : Int) (w : World) (h : bits_Mul32.f a0 a1 = some (r1, r2)) :
    Calls Try.prog 79 #[.int .u32 a0, .int .u32 a1] w fun e w' => e = .returned (.tuple #[.int .u32 r1, .int .u32 r2]) ∧ Drawn0 w w' := by
  have H : (some (((IntKind.u64.wrap ((IntKind.u64.wrap (a0)) * (IntKind.u64.wrap (a1)))) / 4294967296) % 4294967296, (IntKind.u64.wrap ((IntKind.u64.wrap (a0)) * (IntKind.u64.wrap (a1)))) % 4294967296)) = some (r1, r2) := h
  clear h
  simp only [Option.some.injEq, Prod.mk.injEq] at H
  obtain ⟨rfl, rfl⟩ := H
  go_enter Try.func79, Try.ntmps79
  go_wp2
  go_ret2
  exact ⟨by first | rfl | (simp; done) | (simp [*]; done), by repeat (first | exact Drawn0.refl _ | apply Drawn0.step)⟩

/-! ### bits_Mul64: function 80 -/
def bits_Mul64.f (a0 : Int) (a1 : Int) : Option (Int × Int) := some (IntKind.u64.wrap ((IntKind.u64.wrap ((IntKind.u64.wrap ((a0 / 4294967296) * (a1 / 4294967296))) + ((IntKind.u64.wrap ((IntKind.u64.wrap ((a0 / 4294967296) * (Go.bits .and .u64 a1 4294967295))) + ((IntKind.u64.wrap ((Go.bits .and .u64 a0 4294967295) * (Go.bits .and .u64 a1 4294967295))) / 4294967296))) / 4294967296))) + ((IntKind.u64.wrap ((Go.bits .and .u64 (IntKind.u64.wrap ((IntKind.u64.wrap ((a0 / 4294967296) * (Go.bits .and .u64 a1 4294967295))) + ((IntKind.u64.wrap ((Go.bits .and .u64 a0 4294967295) * (Go.bits .and .u64 a1 4294967295))) / 4294967296))) 4294967295) + (IntKind.u64.wrap ((Go.bits .and .u64 a0 4294967295) * (a1 / 4294967296))))) / 4294967296)), IntKind.u64.wrap (a0 * a1))
set_option maxHeartbeats 8000000 in
set_option maxRecDepth 100000 in
theorem bits_Mul64.calls (a0 : Int) (a1 : Int) (r1 : Int) (r2 : Int) (w : World) (h : bits_Mul64.f a0 a1 = some (r1, r2)) :
    Calls Try.prog 80 #[.int .u64 a0, .int .u64 a1] w fun e w' => e = .returned (.tuple #[.int .u64 r1, .int .u64 r2]) ∧ Drawn0 w w' := by
  have H : (some (IntKind.u64.wrap ((IntKind.u64.wrap ((IntKind.u64.wrap ((a0 / 4294967296) * (a1 / 4294967296))) + ((IntKind.u64.wrap ((IntKind.u64.wrap ((a0 / 4294967296) * (Go.bits .and .u64 a1 4294967295))) + ((IntKind.u64.wrap ((Go.bits .and .u64 a0 4294967295) * (Go.bits .and .u64 a1 4294967295))) / 4294967296))) / 4294967296))) + ((IntKind.u64.wrap ((Go.bits .and .u64 (IntKind.u64.wrap ((IntKind.u64.wrap ((a0 / 4294967296) * (Go.bits .and .u64 a1 4294967295))) + ((IntKind.u64.wrap ((Go.bits .and .u64 a0 4294967295) * (Go.bits .and .u64 a1 4294967295))) / 4294967296))) 4294967295) + (IntKind.u64.wrap ((Go.bits .and .u64 a0 4294967295) * (a1 / 4294967296))))) / 4294967296)), IntKind.u64.wrap (a0 * a1))) = some (r1, r2) := h
  clear h
  simp only [Option.some.injEq, Prod.mk.injEq] at H
  obtain ⟨rfl, rfl⟩ := H
  go_enter Try.func80, Try.ntmps80
  go_wp2
  go_ret2
  exact ⟨by first | rfl | (simp; done) | (simp [*]; done), by repeat (first | exact Drawn0.refl _ | apply Drawn0.step)⟩

/-! ### bits_Mul: function 73 -/
def bits_Mul.f (a0 : Int) (a1 : Int) : Option (Int × Int) := (bits_Mul64.f a0 a1).bind fun bt195 => (some (bt195.1, bt195.2))
set_option maxHeartbeats 8000000 in
set_option maxRecDepth 100000 in
theorem bits_Mul.calls (a0 : Int) (a1 : Int) (r1 : Int) (r2 : Int) (w : World) (h : bits_Mul.f a0 a1 = some (r1, r2)) :
    Calls Try.prog 73 #[.int .u64 a0, .int .u64 a1] w fun e w' => e = .returned (.tuple #[.int .u64 r1, .int .u64 r2]) ∧ Drawn0 w w' := by
  have H : ((bits_Mul64.f a0 a1).bind fun bt195 => (some (bt195.1, bt195.2))) = some (r1, r2) := h
  clear h
  replace H := Option.bind_eq_some_iff.mp H
  obtain ⟨⟨t195, t196⟩, A30, H⟩ := H
  replace H : (some (t195, t196)) = some (r1, r2) := H
  have A3 := Aside0.mk A30
  clear A30
  simp only [Option.some.injEq, Prod.mk.injEq] at H
  obtain ⟨rfl, rfl⟩ := H
  go_enter Try.func73, Try.ntmps73
  go_wp2_with (first | ((with_reducible refine gate_callee (f := 80) rfl ?_); refine goesL_ (some 25) rfl rfl Try.func80 (by kernel_rfl) rfl #[.int .u64 a0, .int .u64 a1] rfl (by (try simp only [List.map_toArray, List.map_cons, List.map_nil]); first | done | rfl | (simp only [List.length_drop, List.length_take]; rfl)) ?_; (with_reducible refine (bits_Mul64.calls a0 a1 t195 t196 _ A3.out).mono ?_); rintro e w' ⟨rfl, ⟨nd, rfl⟩⟩; refine ⟨_, rfl, ?_⟩))
  go_ret2
  exact ⟨by first | rfl | (simp; done) | (simp [*]; done), by repeat (first | exact Drawn0.refl _ | apply Drawn0.step)⟩

/-! ### slices_Repeat_int_int: function 58 -/
def slices_Repeat_int_int.f (l0 : List Int) (a1 : Int) : Option (List Int) := if l0.length = 1 ∧ 0 ≤ a1 ∧ a1 ≤ 1048576 then some (List.replicate a1.toNat (rd l0 0)) else none
theorem slices_Repeat_int_int.and_mask (n : Nat) (h : n < 4294967296) : Go.bits .and .u64 (n : Int) 4294967295 = (n : Int) := by
  have hn : n % 2 ^ 64 = n := Nat.mod_eq_of_lt (by omega)
  have e : Go.bits .and .u64 (n : Int) ((4294967295 : Nat) : Int) = IntKind.u64.wrap (((n &&& 4294967295 : Nat)) : Int) := by
    simp only [bits, BitVec.ofInt_natCast, BitVec.toNat_and, BitVec.toNat_ofNat]
    rw [show IntKind.u64.bits = 64 from rfl, hn]
  have hm : n &&& 4294967295 = n := by
    rw [show 4294967295 = 2 ^ 32 - 1 from rfl, Nat.and_two_pow_sub_one_eq_mod]
    exact Nat.mod_eq_of_lt (by omega)
  rw [show (4294967295 : Int) = ((4294967295 : Nat) : Int) from rfl, e, hm]
  simp [IntKind.wrap, IntKind.bits, IntKind.signed]; omega
theorem slices_Repeat_int_int.wrap_nat (n : Int) (h0 : 0 ≤ n) (h1 : n < 18446744073709551616) : IntKind.u64.wrap n = n := by simp [IntKind.wrap, IntKind.bits, IntKind.signed]; omega
theorem slices_Repeat_int_int.mul (a1 : Int) (h0 : 0 ≤ a1) (h1 : a1 ≤ 1048576) : bits_Mul.f 1 a1 = some (0, a1) := by
  obtain ⟨n, rfl⟩ : ∃ n : Nat, a1 = (n : Int) := ⟨a1.toNat, by omega⟩
  have m1 : Go.bits .and .u64 (1 : Int) 4294967295 = 1 := slices_Repeat_int_int.and_mask 1 (by omega)
  have m2 := slices_Repeat_int_int.and_mask n (by omega)
  have m0 : Go.bits .and .u64 (0 : Int) 4294967295 = 0 := slices_Repeat_int_int.and_mask 0 (by omega)
  have w0 : IntKind.u64.wrap 0 = 0 := rfl
  have d1 : decide (9223372036854775807 < (n : Int)) = false := decide_eq_false (by omega)
  have d2 : decide ((n : Int) > 9223372036854775807) = false := decide_eq_false (by omega)
  have wi : IntKind.i64.wrap (n : Int) = (n : Int) := by rw [i64_w]; unfold wrap64; omega
  have wn := slices_Repeat_int_int.wrap_nat (n : Int) (by omega) (by omega)
  have d1 : (1 : Int) / 4294967296 = 0 := rfl
  have dn : (n : Int) / 4294967296 = 0 := by omega
  have dz : (0 : Int) / 4294967296 = 0 := rfl
  unfold bits_Mul.f bits_Mul64.f
  simp only [Option.bind_some, m1, m2, d1, dn, Int.zero_mul, Int.mul_zero, Int.one_mul, w0, wn, Int.add_zero, Int.zero_add, m0, dz]
theorem slices_Repeat_int_int.fill (x : Value) (cur : List Value) (j m : Nat) (hj : j + m ≤ cur.length) (h : cur.take j = List.replicate j x) : (splice cur j (List.replicate m x)).take (j + m) = List.replicate (j + m) x := by
  have hl : (cur.take j).length = j := by simp; omega
  unfold splice
  rw [← List.append_assoc, List.take_left' (by simp; omega), h, List.replicate_append_replicate]
theorem slices_Repeat_int_int.src {w : World} {ad : Addr} {x : Int} (h : w.cell? (ad.add 0) = some (.int .i64 x)) : ∀ j v, (List.replicate 1 (Value.int .i64 x))[j]? = some v → w.cell? (ad.add j) = some v := by
  intro j v hv
  match j with
  | 0 => simp at hv; rw [h, hv]
  | j + 1 => simp at hv
theorem slices_Repeat_int_int.old {w : World} {g j m : Nat} {cu : List Value} {x : Int} (hg : w.heap[g]? = some (.cells cu.toArray 3 (0, 0))) (h : cu.take j = List.replicate j (.int .i64 x)) (hm : m ≤ j) : ∀ i v, (List.replicate m (Value.int .i64 x))[i]? = some v → w.cell? ((⟨g, 0, none⟩ : Addr).add i) = some v := by
  intro i v hv
  obtain ⟨hi, e⟩ := List.getElem?_eq_some_iff.1 hv
  rw [List.length_replicate] at hi
  rw [List.getElem_replicate] at e
  have h2 : cu[i]? = some (.int .i64 x) := by
    have := congrArg (fun l => l[i]?) h
    simp only [List.getElem?_take, List.getElem?_replicate] at this
    rwa [if_pos (by omega), if_pos (by omega)] at this
  rw [show (⟨g, 0, none⟩ : Addr).add i = ⟨g, i, none⟩ by simp [Addr.add]; omega]
  rw [blk_cell hg i, ← e]; simpa using h2
theorem slices_Repeat_int_int.one {x : Int} (m : Nat) : ∀ v ∈ List.replicate m (Value.int .i64 x), v.oneCell' = true := by
  intro v hv
  rw [List.eq_of_mem_replicate hv]; rfl
theorem slices_Repeat_int_int.row {w : World} {base n : Nat} {v : Value} (h : Kd.R (Kd.int .i64) 3 w base (fun _ => True) v (List.replicate (n : Int).toNat 0)) (hn : 0 < n) :
    ∃ g cap cur, v = .slice (some ⟨g, 0, none⟩) n cap ∧ Aside0 ((w.heap[g]? = some (.cells (List.toArray cur) 3 (0, 0))) ∧ n ≤ cap ∧ cap ≤ maxLen ∧ cur.length = cap) ∧ base ≤ g := by
  have ho := Kd.own_of_R h
  simp only [List.length_replicate, Int.toNat_natCast] at ho
  obtain ⟨_, h | ⟨g, cap, cur, h1, h2, h3, h4, h5, h6, h7⟩⟩ := ho
  · omega
  · exact ⟨g, cap, cur.toList, h1, ⟨by simpa using h3, h4, h5, by simpa using h6⟩, h2⟩
theorem slices_Repeat_int_int.done {w : World} {base g n cap : Nat} {cur : List Value} {x : Int} (hg : w.heap[g]? = some (.cells cur.toArray 3 (0, 0))) (h1 : n ≤ cap) (h2 : cap ≤ maxLen) (h3 : cur.length = cap) (h4 : base ≤ g) (h5 : cur.take n = List.replicate n (.int .i64 x)) :
    Kd.R (Kd.int .i64) 3 w base (fun _ => True) (.slice (some ⟨g, 0, none⟩) n cap) (List.replicate n x) := by
  refine Kd.R_of_own ?_ (fun _ _ => trivial)
  refine ⟨by simp [encs], .inr ⟨g, cap, cur.toArray, by simp, h4, hg, by simpa using h1, h2, by simpa using h3, ?_⟩⟩
  simpa [encs] using h5
set_option maxHeartbeats 8000000 in
set_option maxRecDepth 100000 in
theorem slices_Repeat_int_int.calls (A0 : Option Addr) (c0 : Nat) (l0 : List Int) (a1 : Int) (r : List Int) (w : World) (hr0 : Kd.C (Kd.int .i64) w A0 l0.length l0) (hc0 : l0.length ≤ c0) (h : slices_Repeat_int_int.f l0 a1 = some r) :
    Calls Try.prog 58 #[.slice A0 l0.length c0, .int .i64 a1] w fun e w' => ∃ v0_ : Value, e = .returned (v0_) ∧ Kd.R (Kd.int .i64) 3 w' w.heap.size (fun _ => True) v0_ r ∧ Below w.heap.size w w' := by
  obtain ⟨⟨h1, h2, h3⟩, rfl⟩ : (l0.length = 1 ∧ 0 ≤ a1 ∧ a1 ≤ 1048576) ∧ List.replicate a1.toNat (rd l0 0) = r := by
    unfold slices_Repeat_int_int.f at h
    by_cases c : l0.length = 1 ∧ 0 ≤ a1 ∧ a1 ≤ 1048576
    · rw [if_pos c] at h; exact ⟨c, Option.some.inj h⟩
    · rw [if_neg c] at h; cases h
  clear h
  obtain ⟨n, rfl⟩ : ∃ n : Nat, a1 = (n : Int) := ⟨a1.toNat, by omega⟩
  obtain ⟨x, hx⟩ : ∃ x, x = rd l0 0 := ⟨_, rfl⟩
  obtain ⟨ad, e0, hcell⟩ := Kd.at_int hr0 (0 : Int) (by omega) (by omega)
  cases e0
  rw [← hx] at hcell ⊢
  have hcell0 : w.cell? (ad.add 0) = some (.int .i64 x) := by simpa using hcell
  rw [h1]
  rw [h1] at hc0
  have HX := Aside0.mk hcell0
  have HN := Aside0.mk h3
  have HB := Aside0.mk (Below.refl w.heap.size w)
  have HM := Aside0.mk (slices_Repeat_int_int.mul (n : Int) (by omega) h3)
  have d0 : decide ((n : Int) < 0) = false := decide_eq_false (by omega)
  have d1 : decide (9223372036854775807 < (n : Int)) = false := decide_eq_false (by omega)
  have d2 : decide ((n : Int) > 9223372036854775807) = false := decide_eq_false (by omega)
  have wi : IntKind.i64.wrap (n : Int) = (n : Int) := by rw [i64_w]; unfold wrap64; omega
  have wn := slices_Repeat_int_int.wrap_nat (n : Int) (by omega) (by omega)
  have w1 := slices_Repeat_int_int.wrap_nat 1 (by omega) (by omega)
  clear hcell hcell0 h1 h2 h3 hr0 hc0 hx
  rcases Nat.eq_zero_or_pos n with hz | hpos
  · subst hz
    simp only [Int.natCast_zero, show ((0 : Nat) : Int) = 0 from rfl] at d0 d1 d2 wi wn HM ⊢
    clear HN
    go_enter Try.func58, Try.ntmps58
    go_wp2_with (first
      | ((with_reducible refine gate_callee (f := 73) rfl ?_); refine goesL_ (some 18) rfl rfl Try.func73 (by kernel_rfl) rfl #[.int .u64 1, .int .u64 0] rfl (by (try simp only [List.map_toArray, List.map_cons, List.map_nil]); first | done | rfl) ?_; (with_reducible refine (bits_Mul.calls 1 0 0 0 _ HM.out).mono ?_); rintro e w' ⟨rfl, ⟨nd, rfl⟩⟩; refine ⟨_, rfl, ?_⟩)
      | ((with_reducible refine gate_dst (N := 30) rfl ?_); refine Kd.R_make (Kd.int .i64) _ 3 rfl (N := 30) rfl 26 _ _ rfl (0 : Int) rfl rfl Try.underlying26 (.int .i64 0) 8 info3 rfl (by decide) (by omega) 0 (ok := fun _ => True) (okp := fun _ => True) rfl (fun _ hk => hk) trivial ?m0 ?m1 (Below.refl _ _) (Nat.le_refl _) ?_; (case m0 => omega); (case m1 => simp); intro v30 w30 ho hb hg_ hnew_; clear hg_ hnew_; have n0_ := Aside0.mk (Kd.R_lower ho (below_size (by repeat (first | (with_reducible first | exact HB.out | apply below_alloc | apply pw_below_drewN | apply below_drew1) | exact HB.out)))); have n1_ := Aside0.mk (below_step (by repeat (first | (with_reducible first | exact HB.out | apply below_alloc | apply pw_below_drewN | apply below_drew1) | exact HB.out)) hb); clear HB; have HO := n0_; have HB := n1_; clear n0_ n1_; clear hb ho; obtain ⟨A30, c30, e30⟩ := Kd.R_slice HO.out; subst e30)
      | ((with_reducible refine gate_builtin (b := .copy) (xs := #[.tmp 31, .tmp 32]) rfl ?_); refine wpList_copy_nothing rfl (.tmp 31) (.tmp 32) 26 26 rfl 3 Try.underlying26 ?sz A30 (some ad) 0 c30 1 c0 rfl rfl rfl ?_; (case sz => kernel_rfl)))
    go_loopw [8] (fun v8 w' => v8 = .int .i64 0 ∧ w' = w30) (fun _ _ => 0)
    case atStart => exact ⟨rfl, rfl⟩
    case round =>
      obtain ⟨rfl, rfl⟩ := hrel
      go_wp2
      go_ret
      exact ⟨_, rfl, HO.out, HB.out⟩
  · have HP := Aside0.mk hpos
    clear hpos
    go_enter Try.func58, Try.ntmps58
    go_wp2_with (first
      | ((with_reducible refine gate_callee (f := 73) rfl ?_); refine goesL_ (some 18) rfl rfl Try.func73 (by kernel_rfl) rfl #[.int .u64 1, .int .u64 (n : Int)] rfl (by (try simp only [List.map_toArray, List.map_cons, List.map_nil]); first | done | rfl) ?_; (with_reducible refine (bits_Mul.calls 1 (n : Int) 0 (n : Int) _ HM.out).mono ?_); rintro e w' ⟨rfl, ⟨nd, rfl⟩⟩; refine ⟨_, rfl, ?_⟩)
      | ((with_reducible refine gate_dst (N := 30) rfl ?_); refine Kd.R_make (Kd.int .i64) _ 3 rfl (N := 30) rfl 26 _ _ rfl (n : Int) rfl rfl Try.underlying26 (.int .i64 0) 8 info3 rfl (by decide) (by omega) 0 (ok := fun _ => True) (okp := fun _ => True) rfl (fun _ hk => hk) trivial ?m0 ?m1 (Below.refl _ _) (Nat.le_refl _) ?_; (case m0 => omega); (case m1 => have := HN.out; omega); intro v30 w30 ho hb hg_ hnew_; clear hg_ hnew_; have n0_ := Aside0.mk (Kd.R_lower ho (below_size (by repeat (first | (with_reducible first | exact HB.out | apply below_alloc | apply pw_below_drewN | apply below_drew1) | exact HB.out)))); have n1_ := Aside0.mk (below_step (by repeat (first | (with_reducible first | exact HB.out | apply below_alloc | apply pw_below_drewN | apply below_drew1) | exact HB.out)) hb); clear HB; have HO := n0_; have HB := n1_; clear n0_ n1_; clear hb ho; obtain ⟨g, cap, cur, ev, HG, hgb⟩ := slices_Repeat_int_int.row HO.out HP.out; subst ev; have GE := Aside0.mk hgb; clear hgb HO)
      | ((with_reducible refine gate_builtin (b := .copy) (xs := #[.tmp 31, .tmp 32]) rfl ?_); refine wpList_copy_splice rfl (.tmp 31) (.tmp 32) 26 26 rfl 3 Try.underlying26 ?sz (some ⟨g, 0, none⟩) (some ad) n cap 1 c0 rfl rfl g 0 cur 3 HG.out.1 (List.replicate 1 (.int .i64 x)) ?hn ?hp ?hf ?h1 w.heap.size w ?hb GE.out ?_; (case sz => kernel_rfl); (case hn => have := HP.out; simp [Nat.min_def]; omega); (case hp => exact fun _ => ⟨rfl, ad, rfl, slices_Repeat_int_int.src ((HB.out.cell (World.block_lt_of_cell? w _ HX.out)).trans HX.out)⟩); (case hf => have h1_ := HP.out; have h2_ := HG.out.2; simp; omega); (case h1 => exact slices_Repeat_int_int.one 1); (case hb => exact (by repeat (first | (with_reducible first | exact HB.out | apply below_alloc | apply pw_below_drewN | apply below_drew1) | exact HB.out))); intro w33 hH hb33; have n0_ := Aside0.mk hH.out; have n1_ := Aside0.mk hb33; clear HB; have H0 := n0_; have HB := n1_; clear n0_ n1_; clear hH hb33))
    go_loopw [8] (fun v8 w' => ∃ (j : Nat) (cu : List Value), v8 = .int .i64 j ∧ Aside0 (1 ≤ j ∧ j ≤ n) ∧ Aside0 (w'.heap[g]? = some (.cells cu.toArray 3 (0, 0)) ∧ cu.length = cap ∧ cu.take j = List.replicate j (.int .i64 x)) ∧ Aside0 (Below w.heap.size w w')) (fun i _ => n - (intOf i).toNat)
    case atStart => exact ⟨1, splice cur 0 (List.replicate 1 (.int .i64 x)), rfl, ⟨by have := HP.out; omega⟩, ⟨by exact H0.out, by rw [length_splice _ _ _ (by have h1_ := HP.out; have h2_ := HG.out.2; simp; omega)]; exact HG.out.2.2.2, by simpa using slices_Repeat_int_int.fill (.int .i64 x) cur 0 1 (by have h1_ := HP.out; have h2_ := HG.out.2; omega) (by simp)⟩, ⟨(by repeat (first | (with_reducible first | exact HB.out | apply below_alloc | apply pw_below_drewN | apply below_drew1) | exact HB.out))⟩⟩
    case round =>
      obtain ⟨j, cu, rfl, HJ, HC, HB⟩ := hrel
      by_cases hlt : j < n
      · have HLT := Aside0.mk hlt
        have e1 : decide ((j : Int) < (n : Int)) = true := decide_eq_true (by omega)
        have e2 : decide (j < n) = true := decide_eq_true hlt
        have hjn2 : j ≤ n := by omega
        obtain ⟨m, hm⟩ : ∃ m, m = Nat.min j (n - j) := ⟨_, rfl⟩
        have hmm : m = Nat.min j (n - j) ∧ 1 ≤ m ∧ m ≤ j ∧ m ≤ n - j := ⟨hm, by have h1_ := HJ.out; rw [hm]; simp only [Nat.min_def]; split <;> omega, by rw [hm]; exact Nat.min_le_left .., by rw [hm]; exact Nat.min_le_right ..⟩
        have HMM := Aside0.mk hmm
        have hw1 : IntKind.i64.wrap ((j : Int) + (m : Int)) = ((j + m : Nat) : Int) := by have h1_ := HN.out; rw [i64_w]; unfold wrap64; omega
        have hw2 : wrap64 ((j : Int) + (m : Int)) = ((j + m : Nat) : Int) := by have h1_ := HN.out; unfold wrap64; omega
        clear hmm hm
        have hcj : ¬ cap = j := by have := HG.out.2; omega
        have hjc : j ≤ cap := by have := HG.out.2; omega
        have hjn : ((j : Int) ≤ (n : Int)) := by omega
        have hjc2 : ((j : Int) ≤ (cap : Int)) := by omega
        clear hlt
        go_wp2
        go_region_law (refine step_copy_splice rfl (.tmp 41) (.tmp 44) 26 26 rfl 3 Try.underlying26 ?sz (some ⟨g, j, none⟩) (some ⟨g, 0, none⟩) (n - j) (cap - j) j cap ?hd ?hs g j cu 3 HC.out.1 (List.replicate m (.int .i64 x)) ?hn ?hp ?hf ?h1 w.heap.size w ?hb GE.out ?_; (case sz => kernel_rfl); (case hd => first | rfl | (simp [Act.eval, Act.put, hcj]; done)); (case hs => first | rfl | (simp [Act.eval, Act.put]; done)); (case hn => rw [List.length_replicate]; exact HMM.out.1); (case hp => exact fun _ => ⟨rfl, ⟨g, 0, none⟩, rfl, slices_Repeat_int_int.old HC.out.1 HC.out.2.2 HMM.out.2.2.1⟩); (case hf => have h1_ := HLT.out; have h2_ := HG.out.2; have h3_ := HC.out.2.1; have h4_ := HMM.out.2.2.2; simp only [List.length_replicate]; omega); (case h1 => exact slices_Repeat_int_int.one _); (case hb => exact (by repeat (first | (with_reducible first | exact HB.out | apply below_alloc | apply pw_below_drewN | apply below_drew1) | exact HB.out))); intro w45 hH hb45)
        simp only [Act.put, List.getElem_toArray, List.getElem_cons_succ, List.getElem_cons_zero, List.setIfInBounds_toArray, List.set_cons_zero, List.set_cons_succ]
        go_wp2
        go_roundw
        case rel => exact ⟨j + m, splice cu j (List.replicate m (.int .i64 x)), rfl, ⟨by have h1_ := HMM.out; have h2_ := HLT.out; omega⟩, ⟨by exact hH.out, by rw [length_splice _ _ _ (by have h1_ := HLT.out; have h2_ := HG.out.2; have h3_ := HC.out.2.1; have h4_ := HMM.out.2.2.2; simp only [List.length_replicate]; omega)]; exact HC.out.2.1, slices_Repeat_int_int.fill (.int .i64 x) cu j m (by have h1_ := HLT.out; have h2_ := HG.out.2; have h3_ := HC.out.2.1; have h4_ := HMM.out.2.2.2; omega) HC.out.2.2⟩, ⟨by (repeat (first | (with_reducible first | exact hb45 | apply pw_below_drewN | apply below_drew1) | exact hb45))⟩⟩
        case measure => have h1_ := HMM.out; have h2_ := HLT.out; simp [intOf]; omega
      · have e1 : decide ((j : Int) < (n : Int)) = false := decide_eq_false (by omega)
        have HLT := Aside0.mk hlt
        have hj : j = n := by have := HJ.out; have := HLT.out; omega
        have HCJ := HC.out
        rw [hj] at HCJ
        clear hj
        go_wp2
        go_ret
        exact ⟨_, rfl, slices_Repeat_int_int.done HCJ.1 HG.out.2.1 HG.out.2.2.1 HCJ.2.1 GE.out HCJ.2.2, (by repeat (first | (with_reducible first | exact HB.out | apply below_alloc | apply pw_below_drewN | apply below_drew1) | exact HB.out))⟩

/-! ### impl_starts: function 67 -/
/-- The memory of a token on its way. -/
def WalkAt (g : Nat) (n hold walk : Int) (A : Option Addr) (c : Nat) (cs : List S58) (sv : Value) (w0 : World) (tick st : Int) (s : List Int) (w : World) : Prop :=
  w.heap[g]? = some (.cells #[.int .i64 n, .int .i64 hold, .int .i64 walk, .slice A cs.length c, .int .i64 tick, .int .i64 st, sv] 81 (0, 0)) ∧ (Kd.int .i64).R 3 w w0.heap.size (fun _ => True) sv s ∧ Below w0.heap.size w0 w
theorem WalkAt.below {g : Nat} {n hold walk : Int} {A : Option Addr} {c : Nat} {cs : List S58} {sv : Value} {w0 : World} {tick st : Int} {s : List Int} {w w1 : World} (h : WalkAt g n hold walk A c cs sv w0 tick st s w) (hb : Below w.heap.size w w1) : WalkAt g n hold walk A c cs sv w0 tick st s w1 := by
  obtain ⟨h1, h2, h4⟩ := h
  exact ⟨blk_below h1 hb, Kd.R_below h2 hb, below_then h4 h4.size hb⟩
theorem WalkAt.put {g : Nat} {n hold walk : Int} {A : Option Addr} {c : Nat} {cs : List S58} {gs m cap : Nat} {w0 : World} {tick st : Int} {s : List Int} {w : World} (h : WalkAt g n hold walk A c cs (.slice (some ⟨gs, 0, none⟩) m cap) w0 tick st s w) (i : Nat) (x : Int) :
    WalkAt g n hold walk A c cs (.slice (some ⟨gs, 0, none⟩) m cap) w0 tick st (s.set i x) (w.setCell ⟨gs, i, none⟩ (.int .i64 x)) := by
  obtain ⟨h1, h2, h4⟩ := h
  have hne := Kd.R_ne h2 h1 (by decide)
  have hp := Kd.R_putn h2 (i : Int) x
  have hbs := Kd.R_base h2 gs rfl
  rw [Int.toNat_natCast] at hp
  exact ⟨blk_far h1 (fun e => hne (by rw [e]; rfl)) _, hp, tk_below_set h4 hbs _⟩
theorem WalkAt.tick_ {g : Nat} {n hold walk : Int} {A : Option Addr} {c : Nat} {cs : List S58} {sv : Value} {w0 : World} {tick st t1 : Int} {s : List Int} {w : World} (hg : w0.heap.size ≤ g) (h : WalkAt g n hold walk A c cs sv w0 tick st s w) : WalkAt g n hold walk A c cs sv w0 t1 st s (w.setCell ⟨g, 4, none⟩ (.int .i64 t1)) :=
  ⟨blk_set h.1 4 _, Kd.R_set h.2.1 h.1 (by decide) 4 _, tk_below_set h.2.2 hg _⟩
theorem WalkAt.st_ {g : Nat} {n hold walk : Int} {A : Option Addr} {c : Nat} {cs : List S58} {sv : Value} {w0 : World} {tick st t1 : Int} {s : List Int} {w : World} (hg : w0.heap.size ≤ g) (h : WalkAt g n hold walk A c cs sv w0 tick st s w) : WalkAt g n hold walk A c cs sv w0 tick t1 s (w.setCell ⟨g, 5, none⟩ (.int .i64 t1)) :=
  ⟨blk_set h.1 5 _, Kd.R_set h.2.1 h.1 (by decide) 5 _, tk_below_set h.2.2 hg _⟩
theorem WalkAt.cells {g : Nat} {n hold walk : Int} {A : Option Addr} {c : Nat} {cs : List S58} {sv : Value} {w0 : World} {tick st : Int} {s : List Int} {w : World} (h : WalkAt g n hold walk A c cs sv w0 tick st s w) :
    w.cell? ⟨g, 0, none⟩ = some (.int .i64 n) ∧ w.cell? ⟨g, 2, none⟩ = some (.int .i64 walk) ∧ w.cell? ⟨g, 4, none⟩ = some (.int .i64 tick) ∧ w.cell? ⟨g, 5, none⟩ = some (.int .i64 st) ∧ w.cell? ⟨g, 6, none⟩ = some sv ∧ w.frozen? ⟨g, 4, none⟩ = false ∧ w.frozen? ⟨g, 5, none⟩ = false :=
  ⟨(blk_cell h.1 0).trans rfl, (blk_cell h.1 2).trans rfl, (blk_cell h.1 4).trans rfl, (blk_cell h.1 5).trans rfl, (blk_cell h.1 6).trans rfl, blk_frozen h.1 4, blk_frozen h.1 5⟩
theorem WalkAt.elem {g : Nat} {n hold walk : Int} {A : Option Addr} {c : Nat} {cs : List S58} {gs m cap : Nat} {w0 : World} {tick st : Int} {s : List Int} {w : World} (h : WalkAt g n hold walk A c cs (.slice (some ⟨gs, 0, none⟩) m cap) w0 tick st s w) (i : Nat) (hi : i < m) :
    w.cell? ⟨gs, i, none⟩ = some (.int .i64 (rd s (i : Int))) ∧ w.frozen? ⟨gs, i, none⟩ = false := Kd.R_celln (0 : Int) h.2.1 (i : Int) (by omega) (by omega)
theorem tk_size_set (w : World) (p : Addr) (u : Value) : (w.setCell p u).heap.size = w.heap.size := by simp [World.setCell]
set_option maxHeartbeats 8000000 in
set_option maxRecDepth 100000 in
theorem walker_visit (g : Nat) (n hold walk : Int) (A : Option Addr) (c : Nat) (cs : List S58) (tick st : Int) (s : List Int) (sv : Value) (w0 w : World)
    (hn : 2 ≤ n ∧ n ≤ 12) (hh : 1 ≤ hold ∧ hold ≤ 10) (hw : 1 ≤ walk ∧ walk ≤ 10) (hlen : s.length = cs.length) (hcl : cs.length ≤ 20) (ht : 0 ≤ tick ∧ tick ≤ 1000000) (hst : 0 ≤ st ∧ st < n)
    (hC : Kd.C k58 w0 A cs.length cs) (hcc : cs.length ≤ c) (hg : w0.heap.size ≤ g) (hr : WalkAt g n hold walk A c cs sv w0 tick st s w) :
    Calls Try.prog 65 #[.pointer (some ⟨g, 0, none⟩)] w fun e w' => ∃ v0, e = .returned v0 ∧ (Kd.int .i64).R 3 w' w.heap.size (fun _ => True) v0 [tick, st, (tkPass hold st tick cs s cs.length).2] ∧ WalkAt g n hold walk A c cs sv w0 (tick + (tkPass hold st tick cs s cs.length).2 + walk) ((st + 1) % n) (tkPass hold st tick cs s cs.length).1 w' ∧ Kept w w' (fun k => k = g ∨ some k = sv.ownBlock) := by
  have HR := Aside0.mk hr
  obtain ⟨hblk, hS, hB⟩ := hr
  obtain ⟨hn1, hn2⟩ := hn
  have HH := Aside0.mk hh
  obtain ⟨hh1, hh2⟩ := hh
  obtain ⟨hw1, hw2⟩ := hw
  obtain ⟨ht1, ht2⟩ := ht
  obtain ⟨hst1, hst2⟩ := hst
  have HLEN := Aside0.mk hlen
  have HC := Aside0.mk hC
  have HG := Aside0.mk hg
  have hu81 := Try.underlying81
  have hu58 := Try.underlying58
  have hu29 := Try.underlying29
  have hu26 := Try.underlying26
  have hu31 := Try.underlying31
  have cz3 : w.cell? ⟨g, 3, none⟩ = some (.slice A cs.length c) := (blk_cell hblk 3).trans rfl
  clear hlen hS hB hC hg hblk
  go_enter Try.func65, Try.ntmps65
  go_wp2
  clear cz3
  go_loopg [12, 3] cs.length (fun k v12 v3 wr => ∃ i : Nat, v12 = .int .i64 (i : Int) ∧ v3 = .int .i64 (tkPass hold st tick cs s i).2 ∧ Aside0 (i + k = cs.length) ∧ Aside0 (WalkAt g n hold walk A c cs sv w0 tick st (tkPass hold st tick cs s i).1 wr) ∧ Aside0 (Kept w wr (fun k => k = g ∨ some k = sv.ownBlock)))
  case atStart => exact ⟨0, rfl, rfl, ⟨by omega⟩, HR, ⟨Kept.refl _ _⟩⟩
  case round =>
    obtain ⟨i, rfl, rfl, HI, HR, HBW⟩ := hrel
    by_cases hlt : i < cs.length
    · have hcnt := tkPass_cnt hold st tick cs s (by have := HH.out.1; omega) i
      have hpl := tkPass_len hold st tick cs s i
      rw [HLEN.out] at hpl
      obtain ⟨l, m, hp⟩ : ∃ l m, tkPass hold st tick cs s i = (l, m) := ⟨_, _, rfl⟩
      rw [hp] at hcnt hpl HR
      rw [hp]
      dsimp only at hcnt hpl HR ⊢
      have HP := Aside0.mk hp
      clear hp
      have HPL := Aside0.mk hpl
      obtain ⟨hm1, hm2⟩ := hcnt
      obtain ⟨hblk, hS, hB⟩ := HR.out
      obtain ⟨gs, cap, esv, hgs0, hgs, _⟩ := Kd.R_form hS (by rw [hpl]; omega)
      rw [hpl] at esv
      subst esv
      have ezs := Kd.R_celln (0 : Int) hS (i : Int) (by omega) (by omega)
      rw [Int.toNat_natCast] at ezs
      have hne := Kd.R_ne hS hblk (by decide)
      have p133 : (0 : Int) ≤ (i : Int) := by omega
      have q133 : (i : Int) < (cs.length : Int) := by omega
      obtain ⟨ad, e133, hx0, hx1, hx2⟩ := at_T58 HC.out (i : Int) p133 q133
      cases e133
      rw [Int.toNat_natCast] at hx0 hx1 hx2
      have c12b0 : decide ((i : Int) < (cs.length : Int)) = true := decide_eq_true q133
      have c13b0 : decide ((0 : Int) ≤ (i : Int)) = true := decide_eq_true p133
      replace hx0 := (hB.cell (World.block_lt_of_cell? w0 _ hx0)).trans hx0
      replace hx1 := (hB.cell (World.block_lt_of_cell? w0 _ hx1)).trans hx1
      replace hx2 := (hB.cell (World.block_lt_of_cell? w0 _ hx2)).trans hx2
      clear hS hB hblk hpl hgs
      go_upto_region 5 with (first | ((with_reducible refine gate_dst (N := 5) rfl ?_); refine box_event ?hg (N := 5) ?hd (cs := #[.int .i64 0, .int .i64 0, .int .i64 0]) (t := 58) ?hr ?_; (case hd => rfl); (case hg => rfl); (case hr => first | (go_simp; done) | (go_simp; rfl)); intro gb hgb w1 hbox hb; have HGB := Aside0.mk hgb; have HBOX := Aside0.mk hbox; have HBB := Aside0.mk hb; have hcz0 := (blk_cell hbox 0).trans rfl; have hcz1 := (blk_cell hbox 1).trans rfl; have hcz2 := (blk_cell hbox 2).trans rfl; have hfz0 := blk_frozen hbox 0; have hfz1 := blk_frozen hbox 1; have hfz2 := blk_frozen hbox 2; clear hgb hbox hb))
      generalize hw2 : ((w1.setCell ⟨gb, 0, none⟩ (.int .i64 (rd_T58 cs (i : Int)).f0)).setCell ⟨gb, 1, none⟩ (.int .i64 (rd_T58 cs (i : Int)).f1)).setCell ⟨gb, 2, none⟩ (.int .i64 (rd_T58 cs (i : Int)).f2) = w2
      obtain ⟨hb2, gz0, gz1, _⟩ := tk_var HGB.out HBOX.out HBB.out hw2.symm
      have HR3 := Aside0.mk (WalkAt.below HR.out hb2)
      have HBW2 := Aside0.mk (HBW.out.below hb2)
      clear HR HBW hw2 HGB HBOX HBB hcz0 hcz1 hcz2 hfz0 hfz1 hfz2 hx0 hx1 hx2 hb2 ezs
      obtain ⟨hblk, hS, hB3⟩ := HR3.out
      have ezs : w2.cell? ⟨gs, i, none⟩ = some (.int .i64 (rd l (i : Int))) ∧ w2.frozen? ⟨gs, i, none⟩ = false := Kd.R_celln (0 : Int) hS (i : Int) p133 q133
      obtain ⟨ezs1, ezs2⟩ := ezs
      have cz1 : w2.cell? ⟨g, 1, none⟩ = some (.int .i64 hold) := (blk_cell hblk 1).trans rfl
      have cz4 : w2.cell? ⟨g, 4, none⟩ = some (.int .i64 tick) := (blk_cell hblk 4).trans rfl
      have cz5 : w2.cell? ⟨g, 5, none⟩ = some (.int .i64 st) := (blk_cell hblk 5).trans rfl
      have cz6 : w2.cell? ⟨g, 6, none⟩ = some (.slice (some ⟨gs, 0, none⟩) cs.length cap) := (blk_cell hblk 6).trans rfl
      have p1 : (0 : Int) ≤ (i : Int) := p133
      have hwr : IntKind.i64.wrap (tick + m) = tick + m := by rw [i64_w]; unfold wrap64; omega
      clear hS hblk hB3
      generalize hX : rd l (i : Int) = x at ezs1 ⊢
      generalize hF0 : (rd_T58 cs (i : Int)).f0 = f0 at gz0 ⊢
      generalize hF1 : (rd_T58 cs (i : Int)).f1 = f1 at gz1 ⊢
      have HX := Aside0.mk (And.intro hX (And.intro hF0 hF1))
      clear hX hF0 hF1
      by_cases hf : ((f1 = st ∧ f0 ≤ tick) ∧ x < 0) ∧ m < hold
      · have HN : tkPass hold st tick cs s (i + 1) = (l.set i (tick + m), m + 1) := by rw [tkPass, HP.out, HX.out.1, HX.out.2.1, HX.out.2.2]; exact if_pos hf
        have HNX := Aside0.mk HN
        clear HN
        obtain ⟨⟨⟨f1e, f2⟩, f3⟩, f4⟩ := hf
        have d1 : (f1 == st) = true := by simpa using f1e
        have d2 : decide (x < 0) = true := decide_eq_true f3
        have d3 : decide (f0 ≤ tick) = true := decide_eq_true f2
        have d4 : decide (m < hold) = true := decide_eq_true f4
        clear f1e f3 f2
        go_wp2
        go_quiet (fail)
        go_wp2
        have hb3 : Below w2.heap.size w2 (w2.drewN nq) := pw_below_drewN (Below.refl _ _) nq
        generalize w2.drewN nq = w3 at hb3 ⊢
        have HR4 := Aside0.mk (WalkAt.below HR3.out hb3)
        have HBW3 := Aside0.mk (HBW2.out.below hb3)
        clear HR3 HBW2 hb3 cz1 cz4 cz5 cz6 ezs1 ezs2 gz0 gz1
        obtain ⟨_, _, cz4, _, cz6, _, _⟩ := WalkAt.cells HR4.out
        go_still_tail 12, (by kernel_rfl)
        change wpList _ _ _ _ _ w3.drew
        have hb4 : Below w3.heap.size w3 w3.drew := below_drew1 (Below.refl _ _)
        generalize w3.drew = w4 at hb4 ⊢
        have HR5 := Aside0.mk (WalkAt.below HR4.out hb4)
        have HBW4 := Aside0.mk (HBW3.out.below hb4)
        obtain ⟨ezs1, ezs2⟩ := WalkAt.elem HR5.out i hlt
        clear HR4 HBW3 hb4 cz4 cz6
        go_wp2
        go_roundg (gk - 1)
        case measure => have := HI.out; omega
        case rel => exact ⟨i + 1, by first | rfl | go_num, by rw [HNX.out], ⟨by have := HI.out; omega⟩, ⟨by rw [HNX.out]; exact WalkAt.put HR5.out i _⟩, ⟨Kept.setCell (p := ⟨gs, i, none⟩) HBW4.out (Or.inl (Or.inr rfl)) _⟩⟩
      · have HN : tkPass hold st tick cs s (i + 1) = (l, m) := by rw [tkPass, HP.out, HX.out.1, HX.out.2.1, HX.out.2.2]; exact if_neg hf
        have HNX := Aside0.mk HN
        clear HN
        by_cases f1e : f1 = st
        · have d1 : (f1 == st) = true := by simpa using f1e
          by_cases f2 : f0 ≤ tick
          · have d3 : decide (f0 ≤ tick) = true := decide_eq_true f2
            by_cases f3 : x < 0
            · have d2 : decide (x < 0) = true := decide_eq_true f3
              have d4 : decide (m < hold) = false := decide_eq_false fun f4 => hf ⟨⟨⟨f1e, f2⟩, f3⟩, f4⟩
              clear f1e f3 f2 hf
              go_wp2
              go_quiet (fail)
              go_wp2
              go_roundg (gk - 1)
              case measure => have := HI.out; omega
              case rel => exact ⟨i + 1, by first | rfl | go_num, by rw [HNX.out], ⟨by have := HI.out; omega⟩, ⟨by rw [HNX.out]; exact WalkAt.below HR3.out (pw_below_drewN (Below.refl _ _) _)⟩, ⟨Kept.drewN HBW2.out _⟩⟩
            · have d2 : decide (x < 0) = false := decide_eq_false f3
              clear f1e f3 f2 hf
              go_wp2
              go_quiet (fail)
              go_wp2
              go_roundg (gk - 1)
              case measure => have := HI.out; omega
              case rel => exact ⟨i + 1, by first | rfl | go_num, by rw [HNX.out], ⟨by have := HI.out; omega⟩, ⟨by rw [HNX.out]; exact WalkAt.below HR3.out (pw_below_drewN (Below.refl _ _) _)⟩, ⟨Kept.drewN HBW2.out _⟩⟩
          · have d3 : decide (f0 ≤ tick) = false := decide_eq_false f2
            clear f1e f2 hf
            go_wp2
            go_quiet (fail)
            go_wp2
            go_roundg (gk - 1)
            case measure => have := HI.out; omega
            case rel => exact ⟨i + 1, by first | rfl | go_num, by rw [HNX.out], ⟨by have := HI.out; omega⟩, ⟨by rw [HNX.out]; exact WalkAt.below HR3.out (pw_below_drewN (Below.refl _ _) _)⟩, ⟨Kept.drewN HBW2.out _⟩⟩
        · have d1 : (f1 == st) = false := by simpa using f1e
          clear f1e hf
          go_wp2
          go_quiet (fail)
          go_wp2
          go_roundg (gk - 1)
          case measure => have := HI.out; omega
          case rel => exact ⟨i + 1, by first | rfl | go_num, by rw [HNX.out], ⟨by have := HI.out; omega⟩, ⟨by rw [HNX.out]; exact WalkAt.below HR3.out (pw_below_drewN (Below.refl _ _) _)⟩, ⟨Kept.drewN HBW2.out _⟩⟩
    · have q133 : decide ((i : Int) < (cs.length : Int)) = false := decide_eq_false (by omega)
      obtain rfl : i = cs.length := by have := HI.out; omega
      have hcnt := tkPass_cnt hold st tick cs s (by have := HH.out.1; omega) cs.length
      obtain ⟨l, m, hp⟩ : ∃ l m, tkPass hold st tick cs s cs.length = (l, m) := ⟨_, _, rfl⟩
      rw [hp] at hcnt HR ⊢
      dsimp only at hcnt HR ⊢
      have HP := Aside0.mk hp
      clear hp
      obtain ⟨hm1, hm2⟩ := hcnt
      obtain ⟨hblk, hS, hB⟩ := HR.out
      have cz0 : wr.cell? ⟨g, 0, none⟩ = some (.int .i64 n) := (blk_cell hblk 0).trans rfl
      have cz2 : wr.cell? ⟨g, 2, none⟩ = some (.int .i64 walk) := (blk_cell hblk 2).trans rfl
      have cz4 : wr.cell? ⟨g, 4, none⟩ = some (.int .i64 tick) := (blk_cell hblk 4).trans rfl
      have cz5 : wr.cell? ⟨g, 5, none⟩ = some (.int .i64 st) := (blk_cell hblk 5).trans rfl
      clear hblk hS hB hlt
      have hw1 : IntKind.i64.wrap (m + walk) = m + walk := by rw [i64_w]; unfold wrap64; omega
      have hw2 : IntKind.i64.wrap (tick + (m + walk)) = tick + (m + walk) := by rw [i64_w]; unfold wrap64; omega
      have hw3 : IntKind.i64.wrap (st + 1) = st + 1 := by rw [i64_w]; unfold wrap64; omega
      have hnz : ¬ n = 0 := by omega
      have htm : Int.tmod (st + 1) n = (st + 1) % n := Int.tmod_eq_emod_of_nonneg (by omega)
      go_wp2
      go_still_tail 9, (by kernel_rfl)
      change wpList _ _ _ _ _ wr.drew
      have hb5 : Below wr.heap.size wr wr.drew := below_drew1 (Below.refl _ _)
      generalize wr.drew = w5 at hb5 ⊢
      have HR5 := Aside0.mk (WalkAt.below HR.out hb5)
      have HBW5 := Aside0.mk (HBW.out.below hb5)
      clear HR HBW hb5 cz0 cz2 cz4 cz5
      go_wp2_with (first
        | ((with_reducible refine gate_dst (N := 76) rfl ?_); refine Kd.R_lit (Kd.int .i64) (w0 := w5) w5.heap.size 3 ?hg (N := 76) ?hd (xs := ([tick, st, m] : List Int)) (inner := [.int .i64 tick, .int .i64 st, .int .i64 m]) (ok := fun _ => True) (okp := fun _ => False) ?hr ?hp (fun _ hk => hk.elim) trivial (Below.refl _ _) (Nat.le_refl _) (by simp) ?_; (case hd => rfl); (case hg => rfl); (case hr => first | (go_simp; done) | (go_simp; rfl)); (case hp => exact (Reps.one (show Kd.M (Kd.int .i64) _ _ _ tick [.int .i64 tick] from rfl) (Reps.one (show Kd.M (Kd.int .i64) _ _ _ st [.int .i64 st] from rfl) (Reps.one (show Kd.M (Kd.int .i64) _ _ _ m [.int .i64 m] from rfl) (Reps.none _ _))))); intro v76 w76 ho hb hg_ hnew_; have HO76 := Aside0.mk (Kd.R_lower ho HBW5.out.1); have HK76 := Aside0.mk (HBW5.out.below hb); have HR76 := Aside0.mk (WalkAt.below HR5.out hb); clear ho hb hg_ hnew_ HR5 HBW5))
      obtain ⟨_, cz2, cz4, _, _, _, _⟩ := WalkAt.cells HR76.out
      go_still_tail 14, (by kernel_rfl)
      change wpList _ _ _ _ _ w76.drew
      have hb6 : Below w76.heap.size w76 w76.drew := below_drew1 (Below.refl _ _)
      generalize w76.drew = w6 at hb6 ⊢
      have HR6 := Aside0.mk (WalkAt.below HR76.out hb6)
      have HO6 := Aside0.mk (Kd.R_below HO76.out hb6)
      have HK6 := Aside0.mk (HK76.out.below hb6)
      clear HR76 HO76 HK76 hb6 cz2 cz4
      obtain ⟨_, _, cz4, _, _, fz4, _⟩ := WalkAt.cells HR6.out
      have HT7 := Aside0.mk (WalkAt.tick_ (t1 := tick + (m + walk)) HG.out HR6.out)
      have HO7 := Aside0.mk (Kd.R_set HO6.out HR6.out.1 (by decide) 4 (.int .i64 (tick + (m + walk))))
      have HK7 : Aside0 (Kept w (w6.setCell ⟨g, 4, none⟩ (.int .i64 (tick + (m + walk)))) (fun k => k = g ∨ some k = sv.ownBlock)) := ⟨Kept.setCell (p := ⟨g, 4, none⟩) HK6.out (Or.inl (Or.inl rfl)) _⟩
      go_wp2
      generalize w6.setCell ⟨g, 4, none⟩ (.int .i64 (tick + (m + walk))) = w7 at HT7 HO7 HK7 ⊢
      clear HR6 HO6 HK6 cz4 fz4
      obtain ⟨cz0, _, _, cz5, _, _, _⟩ := WalkAt.cells HT7.out
      go_still_tail 14, (by kernel_rfl)
      change wpList _ _ _ _ _ w7.drew
      have hb8 : Below w7.heap.size w7 w7.drew := below_drew1 (Below.refl _ _)
      generalize w7.drew = w8 at hb8 ⊢
      have HR8 := Aside0.mk (WalkAt.below HT7.out hb8)
      have HO8 := Aside0.mk (Kd.R_below HO7.out hb8)
      have HK8 := Aside0.mk (HK7.out.below hb8)
      clear HT7 HO7 HK7 hb8 cz0 cz5
      obtain ⟨_, _, _, cz5, _, _, fz5⟩ := WalkAt.cells HR8.out
      go_wp2
      rw [HP.out]
      go_ret
      have e : tick + m + walk = tick + (m + walk) := by omega
      dsimp only
      rw [e]
      exact ⟨v76, rfl, Kd.R_set HO8.out HR8.out.1 (by decide) 5 _, WalkAt.st_ HG.out HR8.out, Kept.setCell (p := ⟨g, 5, none⟩) HK8.out (Or.inl (Or.inl rfl)) _⟩
theorem tk_index_loop (x : Int) (l : List Int) (hn : l.length ≤ 1048576) : ∀ (d i k : Nat), i + d = l.length → d < k → ∃ r, slices_Index_int_int.l0 k l x (l.length : Int) (i : Int) = some r ∧ decide (r ≥ 0) = decide (x ∈ l.drop i) := by
  intro d
  induction d with
  | zero =>
    intro i k h hk
    obtain ⟨k, rfl⟩ : ∃ m, k = m + 1 := ⟨k - 1, by omega⟩
    simp only [slices_Index_int_int.l0]
    rw [if_neg (by omega), List.drop_of_length_le (by omega)]
    exact ⟨-1, rfl, by simp⟩
  | succ d ih =>
    intro i k h hk
    obtain ⟨k, rfl⟩ : ∃ m, k = m + 1 := ⟨k - 1, by omega⟩
    have hi : i < l.length := by omega
    have e : (x ∈ l.drop i) = (x = l[i] ∨ x ∈ l.drop (i + 1)) := by rw [List.drop_eq_getElem_cons hi, List.mem_cons]
    have er : rd l (i : Int) = l[i] := by simp [rd, hi]
    simp only [slices_Index_int_int.l0, e]
    rw [if_pos (by omega), if_pos (by omega), if_pos (by omega), er, tk_wrap_succ hi (by omega)]
    by_cases c : x = l[i]
    · rw [if_pos c]; exact ⟨i, rfl, by rw [decide_eq_true (show (i : Int) ≥ 0 by omega), decide_eq_true (show x = l[i] ∨ x ∈ l.drop (i + 1) from Or.inl c)]⟩
    · rw [if_neg c]
      obtain ⟨r, h1, h2⟩ := ih (i + 1) k (by omega) (by omega)
      exact ⟨r, h1, h2.trans (decide_eq_decide.mpr ⟨.inr, fun h => h.resolve_left c⟩)⟩
theorem tk_contains (k : Nat) (x : Int) (l : List Int) (hn : l.length ≤ 1048576) (hk : l.length < k) : slices_Contains_int_int.f k l x = some (decide (x ∈ l)) := by
  unfold slices_Contains_int_int.f slices_Index_int_int.f
  obtain ⟨r, h1, h2⟩ := tk_index_loop x l hn l.length 0 k (by omega) hk
  rw [show ((0 : Nat) : Int) = 0 from rfl] at h1
  rw [h1, Option.bind_some, h2, List.drop_zero]
theorem tk_one (W : World) : (Kd.int .i64).C (W.alloc (.cells #[.int .i64 (-1)] 3 (0, 0))) (some ⟨W.heap.size, 0, none⟩) ([(-1 : Int)]).length [-1] :=
  (Kd.R_reads' (Kd.R_of_own (ok := fun _ => True) (h1 := fun _ => rfl) (own_lit_of (enc := Value.int .i64) W 0 3 [(-1 : Int)] (Nat.zero_le _) (by simp)) (fun _ _ => trivial))).2.2
/-- What stands in every world of the region. -/
def NewS (gb : Nat) (n hold walk : Int) (w w' : World) : Prop := w'.cell? ⟨gb, 0, none⟩ = some (.int .i64 n) ∧ w'.cell? ⟨gb, 1, none⟩ = some (.int .i64 hold) ∧ w'.cell? ⟨gb, 2, none⟩ = some (.int .i64 walk) ∧ Below w.heap.size w w'
theorem NewS.step {gb : Nat} {n hold walk : Int} {w w1 w2 : World} (h : NewS gb n hold walk w w1) (hb : Below w1.heap.size w1 w2) : NewS gb n hold walk w w2 :=
  ⟨pw_cell_below hb h.1, pw_cell_below hb h.2.1, pw_cell_below hb h.2.2.1, below_step h.2.2.2 hb⟩
theorem NewS.drew {gb : Nat} {n hold walk : Int} {w w1 : World} (h : NewS gb n hold walk w w1) : NewS gb n hold walk w w1.drew := h.step (below_drew1 (Below.refl _ _))
theorem NewS.alloc {gb : Nat} {n hold walk : Int} {w w1 : World} (h : NewS gb n hold walk w w1) (o : Obj) : NewS gb n hold walk w (w1.alloc o) := h.step (below_alloc (Below.refl _ _) o)
theorem tk_repeat (n : Nat) (h : n ≤ 20) : slices_Repeat_int_int.f [(-1 : Int)] (n : Int) = some (List.replicate n (-1)) := by
  unfold slices_Repeat_int_int.f
  rw [if_pos ⟨rfl, by omega, by omega⟩, Int.toNat_natCast]; rfl
theorem tk_repeat_call (k : Nat) (hk : k ≤ 20) (W : World) : Calls Try.prog 58 #[.slice (some ⟨W.heap.size, 0, none⟩) 1 1, .int .i64 (k : Int)] (W.alloc (.cells #[.int .i64 (-1)] 3 (0, 0))).drew fun e w' => ∃ v0, e = .returned v0 ∧ (Kd.int .i64).R 3 w' (W.alloc (.cells #[.int .i64 (-1)] 3 (0, 0))).drew.heap.size (fun _ => True) v0 (List.replicate k (-1)) ∧ Below (W.alloc (.cells #[.int .i64 (-1)] 3 (0, 0))).drew.heap.size (W.alloc (.cells #[.int .i64 (-1)] 3 (0, 0))).drew w' :=
  slices_Repeat_int_int.calls (some ⟨W.heap.size, 0, none⟩) 1 [(-1 : Int)] (k : Int) (List.replicate k (-1)) _ (Kd.C_drew (tk_one W)) (Nat.le_refl _) (tk_repeat k hk)
set_option maxHeartbeats 8000000 in
set_option maxRecDepth 100000 in
theorem newWalker_calls (n hold walk : Int) (A : Option Addr) (c : Nat) (cs : List S58) (w : World) (hcl : cs.length ≤ 20) (hC : Kd.C k58 w A cs.length cs) (hcc : cs.length ≤ c) :
    Calls Try.prog 64 #[.agg #[.int .i64 n, .int .i64 hold, .int .i64 walk], .slice A cs.length c] w fun e w' => ∃ g sv, e = .returned (.pointer (some ⟨g, 0, none⟩)) ∧ w.heap.size ≤ g ∧ WalkAt g n hold walk A c cs sv w 0 0 (List.replicate cs.length (-1)) w' := by
  have hu81 := Try.underlying81
  have hu29 := Try.underlying29
  have hu26 := Try.underlying26
  have HCL := Aside0.mk hcl
  clear hC
  go_enter Try.func64, Try.ntmps64
  go_upto_region 1 with (first
    | ((with_reducible refine gate_dst (N := 2) rfl ?_); refine box_event ?hg (N := 2) ?hd (cs := #[.int .i64 n, .int .i64 hold, .int .i64 walk]) (t := 29) ?hr ?_; (case hd => rfl); (case hg => rfl); (case hr => first | (go_simp; done) | (go_simp; rfl)); intro gb hgb w1 hbox hb; have HS0 : NewS gb n hold walk w w1 := ⟨(blk_cell hbox 0).trans rfl, (blk_cell hbox 1).trans rfl, (blk_cell hbox 2).trans rfl, hb⟩; clear hgb hbox hb))
  go_region_held3 (fun w' => w'.cell? ⟨gb, 0, none⟩ = some (.int .i64 n) ∧ w'.cell? ⟨gb, 1, none⟩ = some (.int .i64 hold) ∧ w'.cell? ⟨gb, 2, none⟩ = some (.int .i64 walk) ∧ Below w.heap.size w w') (first | assumption | exact NewS.drew HS0 | exact NewS.step (by assumption) hb | exact NewS.alloc (by assumption) _) (first | (go_at_call 58; (with_reducible refine (tk_repeat_call cs.length HCL.out _).mono ?_); rintro e w' ⟨sv, rfl, hR, hb⟩; obtain ⟨As, cS, es⟩ := Kd.R_slice hR; generalize (List.replicate cs.length (-1 : Int)).length = NN at es; subst es))
  have hb1 : Below w.heap.size w (w1.alloc (.cells #[.int .i64 (-1)] 3 (0, 0))).drew := below_drew1 (below_alloc HS0.2.2.2 _)
  have hbz := below_step hb1 hb
  have HF : WalkAt w'.heap.size n hold walk A c cs (.slice As NN cS) w 0 0 (List.replicate cs.length (-1)) (w'.alloc (.cells #[.int .i64 n, .int .i64 hold, .int .i64 walk, .slice A cs.length c, .int .i64 0, .int .i64 0, .slice As NN cS] 81)) :=
    ⟨blk_new _ _, Kd.R_below (Kd.R_lower hR hb1.size) (below_alloc (Below.refl _ _) _), below_alloc hbz _⟩
  have HFF := Aside0.mk (And.intro hbz.size HF)
  clear hb1 hbz HF hR hb HS0
  go_wp2
  go_ret
  exact ⟨_, _, rfl, HFF.out.1, HFF.out.2⟩
set_option maxHeartbeats 8000000 in
set_option maxRecDepth 100000 in
theorem starts_calls (n hold walk : Int) (A : Option Addr) (c : Nat) (cs : List S58) (w : World)
    (hn : 2 ≤ n ∧ n ≤ 12) (hh : 1 ≤ hold ∧ hold ≤ 10) (hw : 1 ≤ walk ∧ walk ≤ 10) (hok : tkOk n cs) (hC : Kd.C k58 w A cs.length cs) (hcc : cs.length ≤ c) :
    Calls Try.prog 67 #[.agg #[.int .i64 n, .int .i64 hold, .int .i64 walk], .slice A cs.length c] w fun e w' => ∃ v, e = .returned v ∧ (Kd.int .i64).R 3 w' w.heap.size (fun _ => True) v (tkAll n hold walk cs) ∧ Below w.heap.size w w' := by
  have H0 := Aside0.mk (And.intro hn (And.intro hh (And.intro hw (And.intro hok (And.intro hC hcc)))))
  have HCL : Aside0 (cs.length ≤ 20) := ⟨hok.1⟩
  clear hn hh hw hok hC hcc
  have hu81 := Try.underlying81
  have hu29 := Try.underlying29
  go_enter Try.func67, Try.ntmps67
  go_wp2_with (first
    | ((with_reducible refine gate_dst (N := 2) rfl ?_); refine box_event ?hg (N := 2) ?hd (cs := #[.int .i64 n, .int .i64 hold, .int .i64 walk]) (t := 29) ?hr ?_; (case hd => rfl); (case hg => rfl); (case hr => first | (go_simp; done) | (go_simp; rfl)); intro gb hgb w1 hbox hb; have HB1 := Aside0.mk hb; have hcz0 := (blk_cell hbox 0).trans rfl; have hcz1 := (blk_cell hbox 1).trans rfl; have hcz2 := (blk_cell hbox 2).trans rfl; clear hgb hbox hb)
    | (go_at_call 64; (with_reducible refine (newWalker_calls n hold walk A c cs _ HCL.out (Kd.C_below H0.out.2.2.2.2.1 HB1.out) H0.out.2.2.2.2.2).mono ?_); rintro e w2 ⟨g, sv, rfl, hg, hr⟩; have HG := Aside0.mk hg; have HR := Aside0.mk hr; clear hg hr hcz0 hcz1 hcz2))
  go_loopg [] 1300 (fun k wr => ∃ v : Nat, Aside0 (v + k = 1300) ∧ Aside0 (WalkAt g n hold walk A c cs sv w1 (tkVis n hold walk cs v).1 ((v : Int) % n) (tkVis n hold walk cs v).2 wr))
  case atStart => exact ⟨0, ⟨by omega⟩, ⟨by have h := HR.out; rw [show (((0 : Nat) : Int) % n) = 0 by simp]; exact h⟩⟩
  case round =>
    obtain ⟨v, HV, HRR⟩ := hrel
    clear HR
    obtain ⟨hblk, hS, hB⟩ := HRR.out
    have cz6 := (blk_cell hblk 6).trans rfl
    obtain ⟨As, css, esv⟩ := Kd.R_slice hS
    subst esv
    obtain ⟨hl, hcs, hCs⟩ := Kd.R_reads' hS
    have HCS := Aside0.mk (And.intro hcs hCs)
    have hlen := tkVis_len n hold walk cs v
    have hhas := tk_contains 100 (-1) (tkVis n hold walk cs v).2 (by have := HCL.out; omega) (by have := HCL.out; omega)
    have HT := tkVis_le n hold walk cs H0.out.2.1 H0.out.2.2.1 v
    have HTT := Aside0.mk (And.intro HT hlen)
    clear hS hB hblk hl hcs hCs hlen HT
    by_cases hm : -1 ∈ (tkVis n hold walk cs v).2
    · have hlt := tk_some n hold walk cs H0.out.1 H0.out.2.1 H0.out.2.2.1 H0.out.2.2.2.1 v hm
      rw [decide_eq_true hm] at hhas
      have HHAS := Aside0.mk hhas
      have HLT := Aside0.mk hlt
      clear hm hhas hlt
      go_wp2_with (first
        | (go_at_call 75; (with_reducible refine (slices_Contains_int_int.calls 100 As css (tkVis n hold walk cs v).2 (-1) true _ HCS.out.2 HCS.out.1 HHAS.out).mono ?_); rintro e w3 ⟨rfl, hd⟩; have HRR2 := Aside0.mk (WalkAt.below HRR.out hd.below); clear hd)
        | (go_at_call 65; (with_reducible refine (walker_visit g n hold walk A c cs _ _ _ _ w1 _ H0.out.1 H0.out.2.1 H0.out.2.2.1 ?s1 HCL.out ?s2 ?s3 (Kd.C_below H0.out.2.2.2.2.1 HB1.out) H0.out.2.2.2.2.2 HG.out HRR2.out).mono ?_); (case s1 => exact HTT.out.2); (case s2 => have h1_ := HTT.out.1; have h2_ := HLT.out; omega); (case s3 => have h1_ := H0.out.1; exact ⟨Int.emod_nonneg _ (by omega), Int.emod_lt_of_pos _ (by omega)⟩); rintro e w4 ⟨v0, rfl, _, hr2, _⟩; have HR3 := Aside0.mk hr2; clear hr2))
      go_roundg (gk - 1)
      case measure => have := HV.out; have := HLT.out; omega
      case rel =>
        refine ⟨v + 1, ⟨by have := HV.out; have := HLT.out; omega⟩, ⟨?_⟩⟩
        have h := HR3.out
        rw [Int.emod_add_emod] at h
        exact h
    · have hend := tk_end n hold walk cs H0.out.1 H0.out.2.1 H0.out.2.2.1 H0.out.2.2.2.1 v hm
      rw [decide_eq_false hm] at hhas
      have HHAS := Aside0.mk hhas
      have HEND := Aside0.mk hend
      clear hm hhas hend
      go_wp2_with (first
        | (go_at_call 75; (with_reducible refine (slices_Contains_int_int.calls 100 As css (tkVis n hold walk cs v).2 (-1) false _ HCS.out.2 HCS.out.1 HHAS.out).mono ?_); rintro e w3 ⟨rfl, hd⟩; have HRR2 := Aside0.mk (WalkAt.below HRR.out hd.below); have hcz6 := (blk_cell HRR2.out.1 6).trans rfl; clear hd))
      go_ret
      refine ⟨_, rfl, ?_, below_then HB1.out HB1.out.size HRR2.out.2.2⟩
      have hfin : ∀ q b, (Kd.int .i64).R 3 w3 b (fun _ => True) q (tkVis n hold walk cs v).2 → (Kd.int .i64).R 3 w3 b (fun _ => True) q (tkAll n hold walk cs) := fun q b h => by rw [HEND.out] at h; exact h
      exact Kd.R_lower (hfin _ _ HRR2.out.2.1) HB1.out.size
def impl_starts.f (a0_0 : Int) (a0_1 : Int) (a0_2 : Int) (l1 : List (S58)) : Option (List Int) := if tkFit a0_0 a0_1 a0_2 l1 = true then some (tkAll a0_0 a0_1 a0_2 l1) else none
theorem impl_starts.calls (a0_0 : Int) (a0_1 : Int) (a0_2 : Int) (A1 : Option Addr) (c1 : Nat) (l1 : List (S58)) (r : List Int) (w : World) (hr1 : Kd.C k58 w A1 l1.length l1) (hc1 : l1.length ≤ c1) (h : impl_starts.f a0_0 a0_1 a0_2 l1 = some r) :
    Calls Try.prog 67 #[.agg #[.int .i64 a0_0, .int .i64 a0_1, .int .i64 a0_2], .slice A1 l1.length c1] w fun e w' => ∃ v0_ : Value, e = .returned (v0_) ∧ Kd.R (Kd.int .i64) 3 w' w.heap.size (fun _ => True) v0_ r ∧ Below w.heap.size w w' := by
  unfold impl_starts.f at h
  by_cases hf : tkFit a0_0 a0_1 a0_2 l1 = true
  · rw [if_pos hf] at h
    obtain rfl := Option.some.inj h
    obtain ⟨h1, h2, h3, h4⟩ := tkFit_out hf
    exact starts_calls a0_0 a0_1 a0_2 A1 c1 l1 w h1 h2 h3 h4 hr1 hc1
  · rw [if_neg hf] at h; cases h

/-! ### impl_SentAt: function 43 -/
def impl_SentAt.f (k : Nat) (a0_0 : Int) (a0_1 : Int) (a0_2 : Int) (l1 : List (S58)) : Option (List Int × Bool) := (impl_isCalled.f k a0_0 a0_1 a0_2 l1).bind fun t198 => (if t198 = true then ((impl_starts.f a0_0 a0_1 a0_2 l1).bind fun t199 => (some (t199, true))) else (some (([] : List Int), false)))
theorem impl_SentAt.mono : ∀ a0 a1 a2 a3 k, LeO (impl_SentAt.f k a0 a1 a2 a3) (impl_SentAt.f (k + 1) a0 a1 a2 a3) := by
  intro a0 a1 a2 a3 k
  unfold impl_SentAt.f
  repeat' first
      | (with_reducible exact impl_isCalled.mono _ _ _ _ _)
      | (with_reducible exact LeO.refl _)
      | (with_reducible exact LeO.none _)
      | (with_reducible refine LeO.ite ?_ ?_)
      | (with_reducible refine LeO.bind ?_ (fun _ => ?_))
      | exact impl_isCalled.mono _ _ _ _ _
      | exact LeO.none _
      | refine LeO.ite ?_ ?_
      | refine LeO.bind ?_ (fun _ => ?_)
set_option maxHeartbeats 8000000 in
set_option maxRecDepth 100000 in
theorem impl_SentAt.calls (k : Nat) (a0_0 : Int) (a0_1 : Int) (a0_2 : Int) (A1 : Option Addr) (c1 : Nat) (l1 : List (S58)) (r1 : List Int) (r2 : Bool) (w : World) (hr1 : Kd.C k58 w A1 l1.length l1) (hc1 : l1.length ≤ c1) (h : impl_SentAt.f k a0_0 a0_1 a0_2 l1 = some (r1, r2)) :
    Calls Try.prog 43 #[.agg #[.int .i64 a0_0, .int .i64 a0_1, .int .i64 a0_2], .slice A1 l1.length c1] w fun e w' => ∃ v0_ : Value, e = .returned (.tuple #[v0_, .bool r2]) ∧ Kd.R (Kd.int .i64) 3 w' w.heap.size (fun _ => True) v0_ r1 ∧ Below w.heap.size w w' := by
  have hu29 := Try.underlying29
  have HR1 := Aside0.mk hr1
  have HC1 := Aside0.mk hc1
  clear hr1 hc1
  have HB := Aside0.mk (Below.refl w.heap.size w)
  have H : ((impl_isCalled.f k a0_0 a0_1 a0_2 l1).bind fun t198 => (if t198 = true then ((impl_starts.f a0_0 a0_1 a0_2 l1).bind fun t199 => (some (t199, true))) else (some (([] : List Int), false)))) = some (r1, r2) := h
  clear h
  replace H := Option.bind_eq_some_iff.mp H
  obtain ⟨t198, A30, H⟩ := H
  replace H : (if t198 = true then ((impl_starts.f a0_0 a0_1 a0_2 l1).bind fun t199 => (some (t199, true))) else (some (([] : List Int), false))) = some (r1, r2) := H
  have A3 := Aside0.mk A30
  clear A30
  by_cases c4 : t198 = true
  · subst c4
    have H1 : ((impl_starts.f a0_0 a0_1 a0_2 l1).bind fun t199 => (some (t199, true))) = some (r1, r2) := by rw [if_pos rfl] at H; exact H
    clear H
    have H := H1
    clear H1
    replace H := Option.bind_eq_some_iff.mp H
    obtain ⟨t199, A50, H⟩ := H
    replace H : (some (t199, true)) = some (r1, r2) := H
    have A5 := Aside0.mk A50
    clear A50
    simp only [Option.some.injEq, Prod.mk.injEq] at H
    obtain ⟨rfl, rfl⟩ := H
    go_enter Try.func43, Try.ntmps43
    go_wp2_with (first | ((with_reducible refine gate_dst (N := 2) rfl ?_); refine box_event ?hg (N := 2) ?hd (cs := #[.int .i64 a0_0, .int .i64 a0_1, .int .i64 a0_2]) (t := 29) ?hr ?_; (case hd => rfl); (case hg => rfl); (case hr => first | (go_simp; done) | (go_simp; rfl)); intro gb197 hg w6 hbox hb; have n0_ := Aside0.mk (below_step (by repeat (first | (with_reducible first | exact HB.out | apply below_alloc | apply pw_below_drewN | apply below_drew1) | exact HB.out)) hb); have n1_ := Aside0.mk (hbox); have n2_ := Aside0.mk ((by rw [hg]; exact (below_size (by repeat (first | (with_reducible first | exact HB.out | apply below_alloc | apply pw_below_drewN | apply below_drew1) | exact HB.out))) : w.heap.size ≤ gb197)); have n3_ := Aside0.mk ((by rw [hg]; exact (below_size (by repeat (first | (with_reducible first | exact HB.out | apply below_alloc | apply pw_below_drewN | apply below_drew1) | exact HB.out))) : w.heap.size ≤ gb197)); clear HB; have HB := n0_; have BK197 := n1_; have GW197 := n2_; have GE197 := n3_; clear n0_ n1_ n2_ n3_; clear hb hbox hg; have hcz7_0 : w6.cell? ⟨gb197, 0, none⟩ = some (.int .i64 a0_0) := (blk_cell BK197.out 0).trans rfl; have hcz7_1 : w6.cell? ⟨gb197, 1, none⟩ = some (.int .i64 a0_1) := (blk_cell BK197.out 1).trans rfl; have hcz7_2 : w6.cell? ⟨gb197, 2, none⟩ = some (.int .i64 a0_2) := (blk_cell BK197.out 2).trans rfl; have hfz7_0 := blk_frozen BK197.out 0; have hfz7_1 := blk_frozen BK197.out 1; have hfz7_2 := blk_frozen BK197.out 2) | ((with_reducible refine gate_callee (f := 62) rfl ?_); refine goesL_ (some 8) rfl rfl Try.func62 (by kernel_rfl) rfl #[.agg #[.int .i64 a0_0, .int .i64 a0_1, .int .i64 a0_2], .slice A1 l1.length c1] rfl (by (try simp only [List.map_toArray, List.map_cons, List.map_nil]); first | done | rfl | (simp only [List.length_drop, List.length_take]; rfl)) ?_; (with_reducible refine (impl_isCalled.calls k a0_0 a0_1 a0_2 _ _ l1 true _ ?side1 ?side2 A3.out).mono ?_); (case side1 => repeat (first | exact (Kd.C_below HR1.out HB.out) | (with_reducible refine Kd.C_alloc ?_ _) | (with_reducible refine Kd.C_drewN ?_ _) | (with_reducible refine Kd.C_drew ?_))); (case side2 => exact HC1.out); rintro e w8 ⟨rfl, hb⟩; refine ⟨_, rfl, ?_⟩; have n0_ := Aside0.mk (blk_below (g := gb197) (o := .cells #[.int .i64 a0_0, .int .i64 a0_1, .int .i64 a0_2] 29 (0, 0)) (by (with_reducible repeat (first | refine blk_drewN ?_ _ | refine blk_drew ?_ | refine blk_alloc ?_ _)); exact BK197.out) hb); have n1_ := Aside0.mk (below_step (by repeat (first | (with_reducible first | exact HB.out | apply below_alloc | apply pw_below_drewN | apply below_drew1 | refine below_set ?_ GE197.out) | exact HB.out)) hb); clear BK197; clear HB; have BK197 := n0_; have HB := n1_; clear n0_ n1_; (try clear hb); (try clear hb2); (try clear hk); (try clear hi); have hcz9_0 : w8.cell? ⟨gb197, 0, none⟩ = some (.int .i64 a0_0) := (blk_cell BK197.out 0).trans rfl; have hcz9_1 : w8.cell? ⟨gb197, 1, none⟩ = some (.int .i64 a0_1) := (blk_cell BK197.out 1).trans rfl; have hcz9_2 : w8.cell? ⟨gb197, 2, none⟩ = some (.int .i64 a0_2) := (blk_cell BK197.out 2).trans rfl; have hfz9_0 := blk_frozen BK197.out 0; have hfz9_1 := blk_frozen BK197.out 1; have hfz9_2 := blk_frozen BK197.out 2) | ((with_reducible refine gate_callee (f := 67) rfl ?_); refine goesL_ (some 12) rfl rfl Try.func67 (by kernel_rfl) rfl #[.agg #[.int .i64 a0_0, .int .i64 a0_1, .int .i64 a0_2], .slice A1 l1.length c1] rfl (by (try simp only [List.map_toArray, List.map_cons, List.map_nil]); first | done | rfl | (simp only [List.length_drop, List.length_take]; rfl)) ?_; (with_reducible refine (impl_starts.calls a0_0 a0_1 a0_2 _ _ l1 t199 _ ?side1 ?side2 A5.out).mono ?_); (case side1 => repeat (first | exact (Kd.C_below HR1.out HB.out) | (with_reducible refine Kd.C_alloc ?_ _) | (with_reducible refine Kd.C_drewN ?_ _) | (with_reducible refine Kd.C_drew ?_))); (case side2 => exact HC1.out); rintro e w10 ⟨v200, rfl, ho0, hb⟩; refine ⟨_, rfl, ?_⟩; have n0_ := Aside0.mk (Kd.R_lower ho0 (below_size (by repeat (first | (with_reducible first | exact HB.out | apply below_alloc | apply pw_below_drewN | apply below_drew1 | refine below_set ?_ GE197.out) | exact HB.out)))); have n1_ := Aside0.mk (blk_below (g := gb197) (o := .cells #[.int .i64 a0_0, .int .i64 a0_1, .int .i64 a0_2] 29 (0, 0)) (by (with_reducible repeat (first | refine blk_drewN ?_ _ | refine blk_drew ?_ | refine blk_alloc ?_ _)); exact BK197.out) hb); have n2_ := Aside0.mk (below_step (by repeat (first | (with_reducible first | exact HB.out | apply below_alloc | apply pw_below_drewN | apply below_drew1 | refine below_set ?_ GE197.out) | exact HB.out)) hb); clear BK197; clear HB; have HO201 := n0_; have BK197 := n1_; have HB := n2_; clear n0_ n1_ n2_; (try clear hb); (try clear hb2); (try clear hk); (try clear hi); (try clear ho0)))
    go_ret2
    exact ⟨_, by first | rfl | (simp [errW_none, errW_some] <;> rfl) | (simp [*, errW_none, errW_some] <;> rfl), by (with_reducible repeat (first | apply Kd.R_alloc | apply Kd.R_drewN | apply Kd.R_drew)); exact HO201.out, by repeat (first | (with_reducible first | exact HB.out | apply below_alloc | apply pw_below_drewN | apply below_drew1 | refine below_set ?_ GE197.out) | exact HB.out)⟩
  · replace c4 := Bool.eq_false_iff.mpr c4
    subst c4
    have H1 : (some (([] : List Int), false)) = some (r1, r2) := by rw [if_neg (show ¬ (false = true) by decide)] at H; exact H
    clear H
    have H := H1
    clear H1
    simp only [Option.some.injEq, Prod.mk.injEq] at H
    obtain ⟨rfl, rfl⟩ := H
    go_enter Try.func43, Try.ntmps43
    go_wp2_with (first | ((with_reducible refine gate_dst (N := 2) rfl ?_); refine box_event ?hg (N := 2) ?hd (cs := #[.int .i64 a0_0, .int .i64 a0_1, .int .i64 a0_2]) (t := 29) ?hr ?_; (case hd => rfl); (case hg => rfl); (case hr => first | (go_simp; done) | (go_simp; rfl)); intro gb197 hg w11 hbox hb; have n0_ := Aside0.mk (below_step (by repeat (first | (with_reducible first | exact HB.out | apply below_alloc | apply pw_below_drewN | apply below_drew1) | exact HB.out)) hb); have n1_ := Aside0.mk (hbox); have n2_ := Aside0.mk ((by rw [hg]; exact (below_size (by repeat (first | (with_reducible first | exact HB.out | apply below_alloc | apply pw_below_drewN | apply below_drew1) | exact HB.out))) : w.heap.size ≤ gb197)); have n3_ := Aside0.mk ((by rw [hg]; exact (below_size (by repeat (first | (with_reducible first | exact HB.out | apply below_alloc | apply pw_below_drewN | apply below_drew1) | exact HB.out))) : w.heap.size ≤ gb197)); clear HB; have HB := n0_; have BK197 := n1_; have GW197 := n2_; have GE197 := n3_; clear n0_ n1_ n2_ n3_; clear hb hbox hg; have hcz12_0 : w11.cell? ⟨gb197, 0, none⟩ = some (.int .i64 a0_0) := (blk_cell BK197.out 0).trans rfl; have hcz12_1 : w11.cell? ⟨gb197, 1, none⟩ = some (.int .i64 a0_1) := (blk_cell BK197.out 1).trans rfl; have hcz12_2 : w11.cell? ⟨gb197, 2, none⟩ = some (.int .i64 a0_2) := (blk_cell BK197.out 2).trans rfl; have hfz12_0 := blk_frozen BK197.out 0; have hfz12_1 := blk_frozen BK197.out 1; have hfz12_2 := blk_frozen BK197.out 2) | ((with_reducible refine gate_callee (f := 62) rfl ?_); refine goesL_ (some 8) rfl rfl Try.func62 (by kernel_rfl) rfl #[.agg #[.int .i64 a0_0, .int .i64 a0_1, .int .i64 a0_2], .slice A1 l1.length c1] rfl (by (try simp only [List.map_toArray, List.map_cons, List.map_nil]); first | done | rfl | (simp only [List.length_drop, List.length_take]; rfl)) ?_; (with_reducible refine (impl_isCalled.calls k a0_0 a0_1 a0_2 _ _ l1 false _ ?side1 ?side2 A3.out).mono ?_); (case side1 => repeat (first | exact (Kd.C_below HR1.out HB.out) | (with_reducible refine Kd.C_alloc ?_ _) | (with_reducible refine Kd.C_drewN ?_ _) | (with_reducible refine Kd.C_drew ?_))); (case side2 => exact HC1.out); rintro e w13 ⟨rfl, hb⟩; refine ⟨_, rfl, ?_⟩; have n0_ := Aside0.mk (blk_below (g := gb197) (o := .cells #[.int .i64 a0_0, .int .i64 a0_1, .int .i64 a0_2] 29 (0, 0)) (by (with_reducible repeat (first | refine blk_drewN ?_ _ | refine blk_drew ?_ | refine blk_alloc ?_ _)); exact BK197.out) hb); have n1_ := Aside0.mk (below_step (by repeat (first | (with_reducible first | exact HB.out | apply below_alloc | apply pw_below_drewN | apply below_drew1 | refine below_set ?_ GE197.out) | exact HB.out)) hb); clear BK197; clear HB; have BK197 := n0_; have HB := n1_; clear n0_ n1_; (try clear hb); (try clear hb2); (try clear hk); (try clear hi)))
    go_ret2
    exact ⟨_, by first | rfl | (simp [errW_none, errW_some] <;> rfl) | (simp [*, errW_none, errW_some] <;> rfl), by first | exact Kd.R_nil _ _ _ _ _ | exact Kd.N_nil _ _ _ _ _ | exact Kd.V_nil _ _ _ _ _ | exact Kd.Q_nil _ _ _ _ _ | exact Kd.S_nil _ _ _ _ _, by repeat (first | (with_reducible first | exact HB.out | apply below_alloc | apply pw_below_drewN | apply below_drew1 | refine below_set ?_ GE197.out) | exact HB.out)⟩

end Go.Proofs.Ytgminjippechkaa.PFnExactOrderOfArrival
