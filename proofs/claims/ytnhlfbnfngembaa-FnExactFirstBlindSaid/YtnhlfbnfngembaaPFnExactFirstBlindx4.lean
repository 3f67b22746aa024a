/- Printed by wip/tools/pr.py: the walks of the functions that a law reaches; not trusted, Lean checks it. No condition. -/
import Derived.Test.YtnhlfbnfngembaaPFnExactFirstBlindx0
import Derived.Test.YtnhlfbnfngembaaPFnExactFirstBlindx3
namespace Go.Proofs.Ytnhlfbnfngembaa.PFnExactFirstBlind
open Go.RowKit Go.Proofs.YtnhlfbnfngembaaW.PrintWords Go.Proofs.YtnhlfbnfngembaaW.PrintLast Go.Proofs.YtnhlfbnfngembaaW.PrintMore
attribute [local go_sem] max2_int min2_int max_two min_two max_three min_three max_four min_four   -- for this text's walks alone
set_option linter.unusedVariables false
set_option linter.unusedSimpArgs false

/-! ### impl_FirstBlind: function 8 -/
section
variable {P : Program} {ops : Array Oper} {o : Oper} {a : Act} {Q' : Exit → Act → World → Prop} {Kc : Act → World → Prop}
/-- append to a row whose room is full: a new row; nothing old is turned. -/
theorem full_run {W : World} (t ty e : TypeId) (ht : P.underlying t = some (.slice e)) (hinfo : (P.info? e).map (fun i => (i.zero, i.size, i.bytes)) = some (some (.int .i64 0), 1, 8))
    (A : Option Addr) (n : Nat) (xs : List Int) (p : Int) (ax : Addr) (hx : W.cell? ax = some (.int .i64 p)) (HC : Kd.C (Kd.int .i64) W A n xs) (hn : xs.length = n) (hl : (n + 1) * 8 ≤ 140737488355328) :
    ∃ A1 c1 w1, (Builtin.append_ #[t, t] ty #[.slice A n n, .slice (some ax) 1 1]).run P W = .ok (.slice A1 (n + 1) c1) w1 ∧ Kd.C (Kd.int .i64) w1 A1 (n + 1) (xs ++ [p]) ∧ n + 1 ≤ c1 ∧ Below W.heap.size W w1 ∧ ∀ ad, A1 = some ad → W.heap.size ≤ ad.block := by
  obtain ⟨i, hi, hi2⟩ := Option.map_eq_some_iff.1 hinfo
  simp only [Prod.mk.injEq] at hi2
  obtain ⟨e1, e2, e3⟩ := hi2
  have hnew : ∀ j u, [Value.int .i64 p][j]? = some u → W.cell? (ax.add j) = some u := by
    intro j u hj
    obtain ⟨rfl, rfl⟩ : j = 0 ∧ u = .int .i64 p := by
      cases j with
      | zero => simpa using hj.symm
      | succ j => simp at hj
    exact hx
  have fin : ∀ v' w', w'.ownsRow W.heap.size e 1 v' (n + 1) (nums .i64 xs ++ [.int .i64 p]) → ∃ A1 c1, v' = .slice A1 (n + 1) c1 ∧ Kd.C (Kd.int .i64) w' A1 (n + 1) (xs ++ [p]) ∧ n + 1 ≤ c1 ∧ ∀ ad, A1 = some ad → W.heap.size ≤ ad.block := by
    intro v' w' ho
    have e5 : (xs ++ [p]).length = n + 1 := by simp [hn]
    have e4 : encs (Value.int .i64) (xs ++ [p]) = nums .i64 xs ++ [.int .i64 p] := by simp [encs, nums]
    have hR : (Kd.int .i64).R e w' W.heap.size (fun _ => True) v' (xs ++ [p]) :=
      Kd.R_of_own (ok := fun _ => True) (enc := Value.int .i64) (h1 := fun _ => rfl) (by rw [e4, e5]; exact ho) (fun _ _ => trivial)
    have hb := Kd.R_base hR
    obtain ⟨A1, c1, rfl, h4, h5⟩ := Kd.R_reads hR
    rw [e5] at h4 h5 hb ⊢
    exact ⟨A1, c1, rfl, h5, h4, fun ad he => hb ad.block (by rw [he]; rfl)⟩
  cases A with
  | none =>
    have h0 : n = 0 := by
      rcases Nat.eq_zero_or_pos n with h0 | h0
      · exact h0
      · obtain ⟨ad, he, _⟩ := HC.2.2 h0
        cases he
    subst h0
    obtain rfl := List.eq_nil_of_length_eq_zero hn
    obtain ⟨v', w', hr, ho', hg, _, _⟩ := run_append_own_at (P := P) W W.heap.size t ty e i (.int .i64 0) 1 8 ht hi e1 e2 e3 rfl (by decide) (.slice none 0 0) 0 [] ⟨rfl, .inl ⟨rfl, rfl⟩⟩ ax 1 1 [.int .i64 p] (by simp) hnew (by simp; rfl) (by unfold maxLen; omega) (by simp) (Nat.le_refl _)
    obtain ⟨A1, c1, rfl, h5, h4, h6⟩ := fin v' w' (by simpa [nums] using ho')
    exact ⟨A1, c1, w', hr, h5, h4, pw_below_grown (Below.refl _ _) none (Nat.le_refl _) (by simpa [Value.ownBlock] using hg) (by simp), h6⟩
  | some ad =>
    have hcells : ∀ j u, (nums .i64 xs)[j]? = some u → W.cell? (ad.add j) = some u := by
      intro j u hj
      simp only [nums, List.getElem?_map, Option.map_eq_some_iff] at hj
      obtain ⟨y, hy, rfl⟩ := hj
      have hlt : j < xs.length := (List.getElem?_eq_some_iff.1 hy).1
      obtain ⟨ad2, he, hc⟩ := Kd.at_int HC (j : Int) (by omega) (by omega)
      cases he
      rw [Int.toNat_natCast] at hc
      have : rd xs (j : Int) = y := by simp [rd, List.getD_eq_getElem?_getD, hy]
      rw [this] at hc
      exact hc
    obtain ⟨v', w', hr, hown, hg⟩ := run_append_arg_grows (P := P) (w := W) t ty e i (.int .i64 0) 1 8 ht hi e1 e2 e3 rfl (by decide) ad n n (nums .i64 xs) (by simp [nums]; omega) hcells ax 1 1 [.int .i64 p] (by simp) hnew (by omega) (by unfold maxLen; omega) hl
    obtain ⟨A1, c1, rfl, h5, h4, h6⟩ := fin v' w' hown
    exact ⟨A1, c1, w', hr, h5, h4, pw_below_grown (Below.refl _ _) none (Nat.le_refl _) hg (by simp), h6⟩
theorem full_append_step {W : World} (hw : Region.wanted o (yielded ops a.tmps) = true) (s x : Operand) (t e : TypeId)
    (ho : o.op = .call { callee := .builtin .append, args := #[s, x], argTypes := #[t, t] })
    (ht : P.underlying t = some (.slice e)) (hinfo : (P.info? e).map (fun i => (i.zero, i.size, i.bytes)) = some (some (.int .i64 0), 1, 8))
    (A : Option Addr) (n : Nat) (xs : List Int) (p : Int) (ax : Addr) (hs : a.eval s = .slice A n n) (hx : a.eval x = .slice (some ax) 1 1) (hc : W.cell? ax = some (.int .i64 p))
    (HC : Kd.C (Kd.int .i64) W A n xs) (hn : xs.length = n) (hl : (n + 1) * 8 ≤ 140737488355328)
    (h : ∀ A1 c1 w1, Kd.C (Kd.int .i64) w1 A1 (n + 1) (xs ++ [p]) → n + 1 ≤ c1 → Below W.heap.size W w1 → (∀ ad, A1 = some ad → W.heap.size ≤ ad.block) → Kc (a.put o.dst (.slice A1 (n + 1) c1)) w1) :
    if Region.wanted o (yielded ops a.tmps) = true then Oper.wp P o a W Kc Q' else Kc (a.put o.dst undef) W := by
  obtain ⟨A1, c1, w', hr, hC, hc, hB, hb⟩ := full_run (P := P) t o.type e ht hinfo A n xs p ax hc HC hn hl
  rw [if_pos hw]
  unfold Oper.wp execOp
  simp only [ho, resolve, invoke, builtin, Sem.run_bind, Sem.run_pure, Result.andThen_ok, List.map_toArray, List.map_cons, List.map_nil, hs, hx, hr]
  exact h A1 c1 w' hC hc hB hb
end
/-- What blind makes of a state, the closure's step given. -/
def blindF {S : Type} (rem : List Int) (step : S → List Int → S) : Nat → Int → List Int → Nat → S → S
  | 0, rest, xs, _, σ => if rest = 0 then step σ xs else σ
  | m + 1, rest, xs, from_, σ => (List.range' from_ (rem.length - from_)).foldl (fun σ (p : Nat) => blindF rem step m (Go.bits .xor .i64 rest (rd rem (p : Int))) (xs ++ [(p : Int)]) (p + 1) σ) σ
/-- What changes: the closure's own block, and new ones. -/
def Moved (gb B : Nat) (W W' : World) : Prop := KeepBut W W' gb none ∧ Below B W W'
theorem Moved.refl (gb B : Nat) (W : World) : Moved gb B W W := ⟨KeepBut.refl _ _ _, Below.refl _ _⟩
theorem Moved.below {gb B : Nat} {W w w' : World} (h : Moved gb B W w) (hB : B ≤ w.heap.size) (hb : Below w.heap.size w w') : Moved gb B W w' :=
  ⟨⟨Nat.le_trans h.1.1 hb.size, fun i hi hg hr => (hb.block i (Nat.lt_of_lt_of_le hi h.1.1)).trans (h.1.2 i hi hg hr)⟩, below_then h.2 hB hb⟩
theorem Moved.trans {gb B : Nat} {W w w' : World} (h : Moved gb B W w) (h2 : Moved gb B w w') : Moved gb B W w' :=
  ⟨⟨Nat.le_trans h.1.1 h2.1.1, fun i hi hg hr => (h2.1.2 i (Nat.lt_of_lt_of_le hi h.1.1) hg hr).trans (h.1.2 i hi hg hr)⟩, h.2.trans h2.2⟩
/-- A row that lies elsewhere than the closure's block stays as it is. -/
theorem Moved.row {gb B : Nat} {W w : World} {A : Option Addr} {n : Nat} {xs : List Int} (h : Moved gb B W w) (hc : Kd.C (Kd.int .i64) W A n xs) (hf : ∀ ad, A = some ad → 0 < n → ad.block ≠ gb) : Kd.C (Kd.int .i64) w A n xs :=
  Kd.C_foot_ne (d := Kd.int .i64) (fun h => h) hc hf w h.1
/-- The goal is a call of this function (a cheap look). -/
theorem blind_gate {P : Program} (U : FuncId) {args : Array Value} {w : World} {Q : Ending → World → Prop} (h : Calls P U args w Q) : Calls P U args w Q := h
/-- What stands in every world of the region. -/
theorem BlS.step {a : Addr} {v : Value} {w w1 : World} (h : w.cell? a = some v) (hb : Below w.heap.size w w1) : w1.cell? a = some v := pw_cell_below hb h
theorem BlS.alloc {a : Addr} {v : Value} {w : World} (h : w.cell? a = some v) (o : Obj) : (w.alloc o).cell? a = some v := BlS.step h (below_alloc (Below.refl _ _) o)
theorem BlS.new (W : World) (p : Int) (e : TypeId) : (W.alloc (.cells #[.int .i64 p] e)).cell? ⟨W.heap.size, 0, none⟩ = some (.int .i64 p) := (blk_cell (blk_new W _) 0).trans rfl
theorem BlS.moved {a : Addr} {i gb B : Nat} {v : Value} {w w1 : World} (h : w.cell? (a.add i) = some v) (hm : Moved gb B w w1) (hne : a.block ≠ gb) : w1.cell? (a.add i) = some v := keep_cell hm.1 h (by rw [add_block]; exact hne)
set_option maxHeartbeats 8000000 in
set_option maxRecDepth 100000 in
theorem blind_calls {S : Type} (Inv : S → World → Prop) (step : S → List Int → S) (gb B U : Nat) (fn : Func) (caps : Array Value) (rem : List Int) (Ar : Option Addr) (cr : Nat)
    (hf : Try.prog.funcs[U]? = some fn) (hname : (fn.name == "runtime.NumGoroutine") = false) (hbd : fn.body.isSome = true) (hN : rem.length ≤ 1000) (hcr : rem.length ≤ cr)
    (hmove : ∀ σ W W', Inv σ W → Below W.heap.size W W' → Inv σ W') (hfar : ∀ ad, Ar = some ad → 0 < rem.length → ad.block ≠ gb)
    (HU : ∀ σ (W : World) A n c xs, Inv σ W → B ≤ W.heap.size → gb < W.heap.size → Kd.C (Kd.int .i64) W A n xs → xs.length = n → (0 < n ∧ n ≤ 1000) → n ≤ c → Calls Try.prog U (#[.slice A n c] ++ caps) W fun e W' => e = .returned (.tuple #[]) ∧ Inv (step σ xs) W' ∧ Moved gb B W W') :
    ∀ (m : Nat) (rest : Int) (xs : List Int) (from_ : Nat) (σ : S) (A : Option Addr) (n c : Nat) (W : World), Inv σ W → Kd.C (Kd.int .i64) W A n xs → xs.length = n → n ≤ c → n + m ≤ 1000 → 0 < n + m → (∀ ad, A = some ad → 0 < n → ad.block ≠ gb) → Kd.C (Kd.int .i64) W Ar rem.length rem → from_ ≤ rem.length → B ≤ W.heap.size → gb < W.heap.size →
      Calls Try.prog 24 #[.slice Ar rem.length cr, .slice A n c, .int .i64 (from_ : Int), .int .i64 (m : Int), .int .i64 rest, .func (.func U) #[] caps] W fun e W' => e = .returned (.tuple #[]) ∧ Inv (blindF rem step m rest xs from_ σ) W' ∧ Moved gb B W W' := by
  have HE := enters_ hf hname hbd
  have HUU := Aside0.mk HU
  have HMV := Aside0.mk hmove
  have HFR := Aside0.mk hfar
  have HNN := Aside0.mk (And.intro hN hcr)
  have hu25 := Try.underlying25
  clear hf hname hbd hN hcr HU hmove hfar
  intro m
  induction m with
  | zero =>
    intro rest xs from_ σ A n c W hI hC hn hc hnm hpos hA hR hfr hB hg
    have HI := Aside0.mk (And.intro hI (And.intro hC (And.intro hn (And.intro hc (And.intro hB hg)))))
    have HPOS : Aside0 (0 < n ∧ n ≤ 1000) := ⟨by omega⟩
    clear hpos
    clear hI hC hn hc hnm hA hR hfr hB hg
    by_cases h0 : rest = 0
    · have d0 : (rest == 0) = true := beq_iff_eq.mpr h0
      have HF := Aside0.mk (show blindF rem step 0 rest xs from_ σ = step σ xs by simp [blindF, h0])
      clear h0
      go_enter Try.func24, Try.ntmps24
      go_wp2_with (first | ((with_reducible refine blind_gate U ?_); (with_reducible refine (HUU.out σ _ A n c xs HI.out.1 HI.out.2.2.2.2.1 HI.out.2.2.2.2.2 HI.out.2.1 HI.out.2.2.1 HPOS.out HI.out.2.2.2.1).mono ?_); rintro e w2 ⟨rfl, hi, hm⟩; have HX := Aside0.mk (And.intro hi hm); clear hi hm))
      (try simp only [Exit.inBlock, Exit.then])
      refine bodyPost_ret (results_none rfl _ _ _) rfl ?_
      exact ⟨rfl, by rw [HF.out]; exact HX.out.1, HX.out.2⟩
    · have d0 : (rest == 0) = false := beq_eq_false_iff_ne.mpr h0
      have HF := Aside0.mk (show blindF rem step 0 rest xs from_ σ = σ by simp [blindF, h0])
      clear h0
      go_enter Try.func24, Try.ntmps24
      go_wp2
      (try simp only [Exit.inBlock, Exit.then])
      refine bodyPost_ret (results_none rfl _ _ _) rfl ?_
      exact ⟨rfl, by rw [HF.out]; exact HI.out.1, Moved.refl _ _ _⟩
  | succ m ih =>
    intro rest xs from_ σ A n c W hI hC hn hc hnm hpos hA hR hfr hB hg
    have HI := Aside0.mk (And.intro hC (And.intro hn (And.intro hc (And.intro hnm (And.intro hA hR)))))
    clear hpos
    have HB := Aside0.mk (And.intro hB hg)
    have HI0 := Aside0.mk hI
    have HIH := Aside0.mk ih
    clear hI hC hn hc hnm hA hR hB hg ih
    have d0 : (((m + 1 : Nat) : Int) == 0) = false := beq_eq_false_iff_ne.mpr (by omega)
    have d0' : ((m : Int) + 1 == 0) = false := beq_eq_false_iff_ne.mpr (by omega)
    have hwm : IntKind.i64.wrap ((m : Int) + 1 - 1) = (m : Int) := by have := HI.out.2.2.2.1; rw [i64_w]; unfold wrap64; omega
    obtain ⟨N, hN⟩ : ∃ N, rem.length = N := ⟨_, rfl⟩
    have HN := Aside0.mk hN
    rw [hN] at hfr ⊢
    clear hN
    go_enter Try.func24, Try.ntmps24
    go_wp2
    go_loopg [12] (N - from_) (fun k v12 wr => ∃ p : Nat, v12 = .int .i64 (p : Int) ∧ from_ ≤ p ∧ p + k = N ∧ Aside0 (Inv ((List.range' from_ (p - from_)).foldl (fun σ (p : Nat) => blindF rem step m (Go.bits .xor .i64 rest (rd rem (p : Int))) (xs ++ [(p : Int)]) (p + 1) σ) σ) wr ∧ Moved gb B W wr))
    case atStart => exact ⟨from_, rfl, Nat.le_refl _, by omega, ⟨by rw [Nat.sub_self]; exact HI0.out, Moved.refl _ _ _⟩⟩
    case round =>
      obtain ⟨p, rfl, hfp, hpk, HR⟩ := hrel
      clear HI0
      have hpb : (p : Int) ≤ 1000 := by have h1 := HNN.out.1; rw [HN.out] at h1; omega
      by_cases hlt : p < N
      · have d1 : decide ((p : Int) < (N : Int)) = true := decide_eq_true (by omega)
        have d2 : decide (p < N) = true := decide_eq_true hlt
        have hrp : Kd.C (Kd.int .i64) wr Ar rem.length rem := Moved.row HR.out.2 HI.out.2.2.2.2.2 HFR.out
        have hrx : Kd.C (Kd.int .i64) wr A n xs := Moved.row HR.out.2 HI.out.1 HI.out.2.2.2.2.1
        have hsz : B ≤ wr.heap.size ∧ gb < wr.heap.size := by have h1 := HR.out.2.1.1; have h2 := HB.out; omega
        obtain ⟨ad, e1, hx0⟩ := Kd.at_int hrp (p : Int) (by omega) (by rw [HN.out]; omega)
        cases e1
        rw [Int.toNat_natCast] at hx0
        obtain ⟨y, hy⟩ : ∃ y, rd rem (p : Int) = y := ⟨_, rfl⟩
        rw [hy] at hx0
        have HY := Aside0.mk hy
        have HRX := Aside0.mk (And.intro hrx (And.intro hrp hsz))
        have hnb : (n : Int) ≤ 1000 ∧ (m : Int) ≤ 1000 := by have := HI.out.2.2.2.1; omega
        have hwp : IntKind.i64.wrap ((p : Int) + 1) = (p : Int) + 1 := by rw [i64_w]; unfold wrap64; omega
        have p1 : (0 : Int) ≤ (p : Int) := by omega
        have q1 : (p : Int) < (N : Int) := by omega
        have hcn : n ≤ c := HI.out.2.2.1
        have hcn2 : (n : Int) ≤ (c : Int) := by omega
        have n1 : (0 : Int) ≤ (n : Int) := by omega
        clear hrx hrp hy hlt hsz hnb hpb
        have HFP : Aside0 (ad.block ≠ gb) := ⟨HFR.out ad rfl (by rw [HN.out]; omega)⟩
        have hgb : Aside0 (Below wr.heap.size wr wr) := ⟨Below.refl _ _⟩
        have hwm2 : IntKind.i64.wrap (m : Int) = (m : Int) := by have := HI.out.2.2.2.1; rw [i64_w]; unfold wrap64; omega
        have hih : ∀ (A1 : Option Addr) (c1 : Nat) (W1 : World), Below wr.heap.size wr W1 → Kd.C (Kd.int .i64) W1 A1 (n + 1) (xs ++ [(p : Int)]) → n + 1 ≤ c1 → (∀ a_, A1 = some a_ → wr.heap.size ≤ a_.block) →
            Calls Try.prog 24 #[.slice (some ad) N cr, .slice A1 (n + 1) c1, .int .i64 ((p : Int) + 1), .int .i64 (m : Int), .int .i64 (Go.bits .xor .i64 rest y), .func (.func U) #[] caps] W1 fun e W' => e = .returned (.tuple #[]) ∧ Inv ((List.range' from_ (p + 1 - from_)).foldl (fun σ (p : Nat) => blindF rem step m (Go.bits .xor .i64 rest (rd rem (p : Int))) (xs ++ [(p : Int)]) (p + 1) σ) σ) W' ∧ Moved gb B W1 W' ∧ Moved gb B W W' := by
          intro A1 c1 W1 hb1 hC1 hc1 hA1
          have hsz := HRX.out.2.2
          have hm1 : Moved gb B W W1 := Moved.below HR.out.2 hsz.1 hb1
          have h := HIH.out (Go.bits .xor .i64 rest (rd rem (p : Int))) (xs ++ [(p : Int)]) (p + 1) _ A1 (n + 1) c1 W1 (HMV.out _ _ _ HR.out.1 hb1) hC1 (by simp [HI.out.2.1]) hc1 (by have := HI.out.2.2.2.1; omega) (by omega) (fun a_ ha _ => by have := hA1 a_ ha; omega) (Kd.C_below HRX.out.2.1 hb1) (by rw [HN.out]; omega) (Nat.le_trans hsz.1 hb1.size) (Nat.lt_of_lt_of_le hsz.2 hb1.size)
          rw [HN.out, HY.out, show ((p + 1 : Nat) : Int) = (p : Int) + 1 by omega] at h
          refine h.mono ?_
          rintro e W' ⟨he, hi, hm⟩
          refine ⟨he, ?_, hm, hm1.trans hm⟩
          have hrg : List.range' from_ (p + 1 - from_) = List.range' from_ (p - from_) ++ [p] := by
            rw [show p + 1 - from_ = (p - from_) + 1 by omega, List.range'_1_concat, show from_ + (p - from_) = p by omega]
          rw [hrg, List.foldl_append]
          simp only [List.foldl_cons, List.foldl_nil]
          rw [HY.out]
          exact hi
        have HIH2 := Aside0.mk hih
        clear hih
        go_wp2
        go_region_held3 (fun w' => w'.cell? (ad.add p) = some (.int .i64 y)) (first | assumption | exact BlS.alloc (by assumption) _ | exact BlS.step (by assumption) (by assumption) | exact BlS.moved (by assumption) hk48 HFP.out) (first | (refine full_append_step (by rfl) (.tmp 33) (.tmp 35) 25 3 rfl Try.underlying25 info3 A n xs (p : Int) _ rfl rfl ?hc ?HC HI.out.2.1 ?hl ?_; (case hc => exact BlS.new _ _ _); (case HC => exact Kd.C_below HRX.out.1 (by repeat (first | exact Below.refl _ _ | apply below_drew1 | apply below_alloc))); (case hl => have h_ := HI.out.2.2.2.1; omega); intro A1 c1 w36 hC1 hc1 hb36 hn36; have HB36 := Aside0.mk (below_step (w := wr) (by repeat (first | exact Below.refl _ _ | apply below_drew1 | apply below_alloc)) hb36); have HN36 := Aside0.mk (fun (a_ : Addr) (ha : A1 = some a_) => Nat.le_trans (below_size (w := wr) (by repeat (first | exact Below.refl _ _ | apply below_drew1 | apply below_alloc))) (hn36 a_ ha))) | (go_at_call 24; (with_reducible refine (HIH2.out A1 c1 _ (by repeat (first | exact HB36.out | apply below_drew1 | apply below_alloc)) ?k1 hc1 HN36.out).mono ?_); (case k1 => exact hC1); rintro e w48 ⟨rfl, hi48, hk48, hm48⟩; have HX48 := Aside0.mk (And.intro hi48 hm48)))
        all_goals go_wp2
        go_roundg (gk - 1)
        case measure => omega
        case rel => exact ⟨p + 1, by first | rfl | go_num, by omega, by omega, HX48⟩
      · have d1 : decide ((p : Int) < (N : Int)) = false := decide_eq_false (by omega)
        have d2 : decide (p < N) = false := decide_eq_false hlt
        have HF := Aside0.mk (show blindF rem step (m + 1) rest xs from_ σ = (List.range' from_ (p - from_)).foldl (fun σ (p : Nat) => blindF rem step m (Go.bits .xor .i64 rest (rd rem (p : Int))) (xs ++ [(p : Int)]) (p + 1) σ) σ by
          have e : p = N := by omega
          rw [blindF, HN.out, e])
        clear hlt
        go_wp2
        go_end0
        exact ⟨rfl, by rw [HF.out]; exact HR.out.1, HR.out.2⟩
def stepI (x : Int) : Int := if wrap64 (x * 2) > 255 then Go.bits .xor .i64 (wrap64 (x * 2)) 263 else wrap64 (x * 2)
/-- The rest of a bit so many places from the end. -/
def restI : Nat → Int
  | 0 => 1
  | k + 1 => stepI (restI k)
/-- The list of rests behind so many rounds. -/
def remsAt (N k : Nat) : List Int := (List.range N).map fun j => if N - k ≤ j then restI (N - 1 - j) else 0
theorem remsAt_len (N k : Nat) : (remsAt N k).length = N := by simp [remsAt]
theorem remsAt_zero (N : Nat) : remsAt N 0 = List.replicate N 0 := by
  refine List.ext_getElem (by simp [remsAt]) (fun i h1 h2 => ?_)
  simp only [remsAt, List.getElem_map, List.getElem_range, List.getElem_replicate]
  rw [if_neg (by simp [remsAt] at h1; omega)]
theorem remsAt_set (N k q : Nat) (h : N = q + k + 1) : (remsAt N k).set q (restI k) = remsAt N (k + 1) := by
  refine List.ext_getElem (by simp [remsAt]) (fun i h1 h2 => ?_)
  rw [List.getElem_set]
  simp only [remsAt, List.getElem_map, List.getElem_range]
  by_cases e : q = i
  · subst e
    rw [if_pos rfl, if_pos (by omega), show N - 1 - q = k by omega]
  · rw [if_neg e]
    by_cases c : N - k ≤ i
    · rw [if_pos c, if_pos (by omega)]
    · rw [if_neg c, if_neg (by omega)]
set_option maxHeartbeats 8000000 in
set_option maxRecDepth 100000 in
theorem allBlind_calls {S : Type} (Inv : S → World → Prop) (step : S → List Int → S) (gb B U : Nat) (fn : Func) (caps : Array Value) (n m : Nat) (σ : S) (W : World)
    (hf : Try.prog.funcs[U]? = some fn) (hname : (fn.name == "runtime.NumGoroutine") = false) (hbd : fn.body.isSome = true) (hn : n ≤ 6) (hm : 1 ≤ m ∧ m ≤ 4)
    (hmove : ∀ σ W W', Inv σ W → Below W.heap.size W W' → Inv σ W')
    (HU : ∀ σ (W : World) A n c xs, Inv σ W → B ≤ W.heap.size → gb < W.heap.size → Kd.C (Kd.int .i64) W A n xs → xs.length = n → (0 < n ∧ n ≤ 1000) → n ≤ c → Calls Try.prog U (#[.slice A n c] ++ caps) W fun e W' => e = .returned (.tuple #[]) ∧ Inv (step σ xs) W' ∧ Moved gb B W W')
    (hI : Inv σ W) (hB : B ≤ W.heap.size) (hg : gb < W.heap.size) :
    Calls Try.prog 15 #[.int .i64 (n : Int), .int .i64 (m : Int), .func (.func U) #[] caps] W fun e W' => e = .returned (.tuple #[]) ∧ Inv (blindF (remsAt (8 * n) (8 * n)) step m 0 [] 0 σ) W' ∧ Moved gb B W W' := by
  obtain ⟨N, hN⟩ : ∃ N, 8 * n = N := ⟨_, rfl⟩
  have hNb : N ≤ 48 := by omega
  have hw8 : IntKind.i64.wrap (8 * (n : Int)) = (N : Int) := by rw [i64_w]; unfold wrap64; omega
  have hw9 : IntKind.i64.wrap ((N : Int) - 1) = (N : Int) - 1 := by rw [i64_w]; unfold wrap64; omega
  have HMM := Aside0.mk (And.intro hm hNb)
  have HUU := Aside0.mk HU
  have HMV := Aside0.mk hmove
  have HFN := Aside0.mk (And.intro hf (And.intro hname hbd))
  have HII := Aside0.mk (And.intro hI (And.intro hB hg))
  have hu25 := Try.underlying25
  have N0 : (0 : Int) ≤ (N : Int) := by omega
  rw [hN]
  clear hf hname hbd hI hB hg HU hmove hn hm
  go_enter Try.func15, Try.ntmps15
  go_wp2_with (first
    | ((with_reducible refine gate_dst (N := 11) rfl ?_); refine Kd.R_make (Kd.int .i64) _ 3 rfl (N := 11) rfl 25 _ _ rfl (N : Int) rfl rfl Try.underlying25 (.int .i64 0) 8 info3 rfl (by decide) (by omega) 0 (ok := fun _ => True) (okp := fun _ => True) rfl (fun _ hk => hk) trivial ?m0 ?m1 (Below.refl _ _) (Nat.le_refl _) ?_; (case m0 => omega); (case m1 => have := HMM.out.2; omega); intro v11 w11 ho hb hg_ hnew_; obtain ⟨A11, c11, e11⟩ := Kd.R_slice ho; rw [List.length_replicate, Int.toNat_natCast] at e11; subst e11; have HO := Aside0.mk (And.intro ho hb); clear ho hb hg_ hnew_))
  go_loopg [7, 8] N (fun k v7 v8 wr => ∃ j : Nat, v7 = .int .i64 ((N : Int) - 1 - (j : Int)) ∧ v8 = .int .i64 (restI j) ∧ j + k = N ∧ Aside0 (Kd.R (Kd.int .i64) 3 wr W.heap.size (fun _ => True) (.slice A11 N c11) (remsAt N j) ∧ Below W.heap.size W wr))
  case atStart => exact ⟨0, by first | rfl | go_num | simp, rfl, by omega, ⟨by rw [remsAt_zero]; simpa using HO.out.1, HO.out.2⟩⟩
  case round =>
    obtain ⟨j, rfl, rfl, hjk, HR⟩ := hrel
    clear HO
    by_cases hlt : j < N
    · obtain ⟨q, hq⟩ : ∃ q, N = q + j + 1 := ⟨N - 1 - j, by omega⟩
      have eq1 : (N : Int) - 1 - (j : Int) = (q : Int) := by omega
      rw [eq1]
      obtain ⟨g, cap, ev, hg1, hg2, _⟩ := Kd.R_form HR.out.1 (by rw [remsAt_len]; omega)
      rw [remsAt_len] at ev
      obtain rfl : A11 = some ⟨g, 0, none⟩ := by injection ev
      clear ev
      have cq := Kd.R_celln (0 : Int) HR.out.1 (q : Int) (by omega) (by omega)
      rw [Int.toNat_natCast] at cq
      obtain ⟨cq1, cq2⟩ := cq
      have HP := Aside0.mk (Kd.R_putn HR.out.1 (q : Int) (restI j))
      have p0 : (0 : Int) ≤ (q : Int) := by omega
      have q0 : (q : Int) < (N : Int) := by omega
      have d1 : decide ((0 : Int) ≤ (q : Int)) = true := decide_eq_true p0
      have hwq : IntKind.i64.wrap ((q : Int) - 1) = (q : Int) - 1 := by have := HMM.out.2; rw [i64_w]; unfold wrap64; omega
      have HBN := Aside0.mk (below_set (g := g) (j := q) (v := .int .i64 (restI j)) HR.out.2 hg1)
      have HQ := Aside0.mk (And.intro hq hlt)
      have HNX := Aside0.mk (show restI (j + 1) = stepI (restI j) from rfl)
      clear hlt eq1 hg1 hg2
      have HS := Aside0.mk (remsAt_set N j q hq)
      generalize restI j = x at HP HS HBN HNX ⊢
      unfold stepI at HNX
      by_cases hc : wrap64 (x * 2) > 255
      · have HNX2 := Aside0.mk (HNX.out.trans (if_pos hc))
        have d2 : decide (255 < wrap64 (x * 2)) = true := decide_eq_true hc
        clear hc HNX
        go_wp2
        go_roundg (gk - 1)
        case measure => omega
        case rel =>
          refine ⟨j + 1, by have := HQ.out.1; first | rfl | (congr 1; omega) | go_num, by (rw [HNX2.out]) <;> first | rfl | (simp; done), by omega, ⟨?_, ?_⟩⟩
          · have h := HP.out
            rw [Int.toNat_natCast, HS.out] at h
            exact h
          · exact HBN.out
      · have HNX2 := Aside0.mk (HNX.out.trans (if_neg hc))
        have d2 : decide (255 < wrap64 (x * 2)) = false := decide_eq_false hc
        clear hc HNX
        go_wp2
        go_roundg (gk - 1)
        case measure => omega
        case rel =>
          refine ⟨j + 1, by have := HQ.out.1; first | rfl | (congr 1; omega) | go_num, by (rw [HNX2.out]) <;> first | rfl | (simp; done), by omega, ⟨?_, ?_⟩⟩
          · have h := HP.out
            rw [Int.toNat_natCast, HS.out] at h
            exact h
          · exact HBN.out
    · have eN : j = N := by omega
      rw [eN] at HR ⊢
      have eq1 : (N : Int) - 1 - (N : Int) = -1 := by omega
      rw [eq1]
      have HC := Aside0.mk (Kd.R_reads' HR.out.1)
      have HBS := Aside0.mk (Kd.R_base HR.out.1)
      have HFIN : Aside0 (∀ A1, A1 = A11 → Calls Try.prog 24 #[.slice A11 N c11, .slice none 0 0, .int .i64 0, .int .i64 (m : Int), .int .i64 0, .func (.func U) #[] caps] wr fun e W' => e = .returned (.tuple #[]) ∧ Inv (blindF (remsAt N N) step m 0 [] 0 σ) W' ∧ Moved gb B wr W') := ⟨fun _ _ => by
        have h := blind_calls Inv step gb B U fn caps (remsAt N N) A11 c11 HFN.out.1 HFN.out.2.1 HFN.out.2.2 (by rw [remsAt_len]; have := HMM.out.2; omega) (by rw [remsAt_len]; exact HC.out.2.1) HMV.out (fun ad he _ => by have h1 := HBS.out ad.block (by rw [he]; rfl); have h2 := HII.out.2.2; omega) HUU.out m 0 [] 0 σ none 0 0 wr (HMV.out _ _ _ HII.out.1 HR.out.2) (Kd.C_nil _ _) rfl (Nat.le_refl _) (by have := HMM.out.1; omega) (by have := HMM.out.1; omega) (fun _ he _ => by cases he) HC.out.2.2 (Nat.zero_le _) (Nat.le_trans HII.out.2.1 HR.out.2.size) (Nat.lt_of_lt_of_le HII.out.2.2 HR.out.2.size)
        rw [remsAt_len] at h
        exact h⟩
      clear hlt eN
      go_wp2_with (first
        | (go_at_call 24; (with_reducible refine (HFIN.out A11 rfl).mono ?_); rintro e w32 ⟨rfl, hi, hm⟩; have HX := Aside0.mk (And.intro hi (Moved.trans (Moved.below (Moved.refl gb B W) HII.out.2.1 HR.out.2) hm)); clear hi hm))
      go_end0
      exact ⟨rfl, HX.out.1, HX.out.2⟩
/-- The first list stands in its box. -/
def FstAt (gb B : Nat) (σ : List Int) (W : World) : Prop := ∃ v, W.heap[gb]? = some (.cells #[v] 25 (0, 0)) ∧ Kd.R (Kd.int .i64) 3 W B (fun k => k ≠ gb) v σ ∧ (σ = [] → v = .slice none 0 0)
theorem FstAt.move {gb B : Nat} (σ : List Int) (W W' : World) (h : FstAt gb B σ W) (hb : Below W.heap.size W W') : FstAt gb B σ W' := by
  obtain ⟨v, h1, h2, h3⟩ := h
  exact ⟨v, blk_below h1 hb, Kd.R_below h2 hb, h3⟩
theorem FstAt.put {gb B : Nat} {σ xs : List Int} {W W1 : World} {v : Value} (h : FstAt gb B σ W1) (hx : xs ≠ []) (hB : B ≤ W.heap.size) (hg : gb < W.heap.size) (hr : Kd.R (Kd.int .i64) 3 W1 W.heap.size (fun _ => True) v xs) : FstAt gb B xs (W1.setCell ⟨gb, 0, none⟩ v) := by
  obtain ⟨v0, h1, h2, h3⟩ := h
  have hb := Kd.R_base hr
  refine ⟨v, blk_set h1 0 v, ?_, fun e => absurd e hx⟩
  exact Kd.R_far (p := ⟨gb, 0, none⟩) (Kd.R_lower (Kd.R_mono (Kd.R_tight rfl hr) (fun k hk => by have := hb k hk.symm; show k ≠ gb; omega)) hB) (fun _ hk => hk) v
theorem my_eql_nil {P : Program} (w : World) (t e : TypeId) (a : Option Addr) (n c : Nat) (h : P.underlying t = some (.slice e)) : (binOp .eql t (.slice a n c) (.slice none 0 0)).run P w = .ok (.bool a.isNone) w := Lib.run_eql_slice_nil (P := P) w t e a n c 0 0 h
theorem my_neq_nil {P : Program} (w : World) (t e : TypeId) (a : Option Addr) (n c : Nat) (h : P.underlying t = some (.slice e)) : (binOp .neq t (.slice a n c) (.slice none 0 0)).run P w = .ok (.bool (!a.isNone)) w := by
  simp only [binOp]
  simp [Op.equal, Op.maxDepth, Lib.run_equalIn_slice_nil w 9999 t e a n c 0 0 h]
def fstStep (σ xs : List Int) : List Int := if σ = [] then xs else σ
set_option maxHeartbeats 8000000 in
set_option maxRecDepth 100000 in
theorem first_step (gb B : Nat) (hB : B ≤ gb) (σ : List Int) (W : World) (A : Option Addr) (n c : Nat) (xs : List Int) (h : FstAt gb B σ W) (hBW : B ≤ W.heap.size) (hg : gb < W.heap.size) (hC : Kd.C (Kd.int .i64) W A n xs) (hx : xs.length = n) (hn : 0 < n ∧ n ≤ 1000) (hc : n ≤ c) :
    Calls Try.prog 17 #[.slice A n c, .pointer (some ⟨gb, 0, none⟩)] W fun e W' => e = .returned (.tuple #[]) ∧ FstAt gb B (fstStep σ xs) W' ∧ Moved gb B W W' := by
  subst hx
  by_cases hs : σ = []
  · obtain ⟨v, h1, h2, h3⟩ := h
    obtain rfl := h3 hs
    have hcz := (blk_cell h1 0).trans rfl
    have heq := fun (w : World) => my_eql_nil (P := Try.prog) w 25 3 none 0 0 Try.underlying25
    simp only [Option.isNone_none] at heq
    have HH := Aside0.mk (show FstAt gb B σ W from ⟨_, h1, h2, h3⟩)
    have HB1 := Aside0.mk h1
    have HF : Aside0 (fstStep σ xs = xs ∧ xs ≠ []) := ⟨by rw [fstStep, if_pos hs], by intro e; rw [e] at hn; simp at hn⟩
    have HCC := Aside0.mk (And.intro hC hc)
    have HG := Aside0.mk (And.intro hB (And.intro hBW hg))
    have HCL : Aside0 (slices_Clone_int_int.f xs = some xs) := ⟨by unfold slices_Clone_int_int.f; rw [if_pos (by omega)]⟩
    clear h1 h2 h3 hs hC hc hB hBW hg hn
    go_enter Try.func17, Try.ntmps17
    go_wp2_with (first
      | (go_at_call 18; (with_reducible refine (slices_Clone_int_int.calls A c xs xs _ HCC.out.1 HCC.out.2 HCL.out).mono ?_); rintro e w2 ⟨v2, rfl, ho, hb⟩; obtain ⟨A2, c2, e2⟩ := Kd.R_slice ho; subst e2; have hfz := blk_frozen (blk_below HB1.out hb) 0; have hcz2 := (blk_cell (blk_below HB1.out hb) 0).trans rfl; have HX := Aside0.mk (And.intro ho hb); clear ho hb))
    go_end0
    refine ⟨rfl, ?_, ?_⟩
    · rw [HF.out.1]
      exact FstAt.put (FstAt.move σ W _ HH.out HX.out.2) HF.out.2 HG.out.2.1 HG.out.2.2 HX.out.1
    · have hm := Moved.below (Moved.refl gb B W) HG.out.2.1 HX.out.2
      exact ⟨KeepBut.set_ hm.1 0 _, hm.2.setCell HG.out.1 _⟩
  · obtain ⟨v, h1, h2, h3⟩ := h
    obtain ⟨g, cap, rfl, hg1, hg2, _⟩ := Kd.R_form h2 (by rcases σ with _ | ⟨a, l⟩; · exact absurd rfl hs
                                                          · simp)
    have hcz := (blk_cell h1 0).trans rfl
    have heq := fun (w : World) => my_eql_nil (P := Try.prog) w 25 3 (some ⟨g, 0, none⟩) σ.length cap Try.underlying25
    simp only [Option.isNone_some] at heq
    have HF : Aside0 (fstStep σ xs = σ) := ⟨by rw [fstStep, if_neg hs]⟩
    have HH := Aside0.mk (show FstAt gb B σ W from ⟨_, h1, h2, h3⟩)
    clear h1 h2 h3 hs hC hc hB hBW hg hn hg1 hg2
    go_enter Try.func17, Try.ntmps17
    go_wp2
    go_end0
    exact ⟨rfl, by rw [HF.out]; exact HH.out, Moved.refl _ _ _⟩
def fstOf (n m : Nat) : List Int := blindF (remsAt (8 * n) (8 * n)) fstStep m 0 [] 0 []
def impl_FirstBlind.f (a0 : Int) (a1 : Int) : Option (List Int × Bool) := (impl_isBlind.f a0 a1).bind fun t => if t = true then (if 1 ≤ a0 ∧ a0 ≤ 6 ∧ 1 ≤ a1 ∧ a1 ≤ 4 then some (fstOf a0.toNat a1.toNat, !(fstOf a0.toNat a1.toNat).isEmpty) else none) else some ([], false)
set_option maxHeartbeats 8000000 in
set_option maxRecDepth 100000 in
theorem impl_FirstBlind.calls (a0 : Int) (a1 : Int) (r1 : List Int) (r2 : Bool) (w : World) (h : impl_FirstBlind.f a0 a1 = some (r1, r2)) :
    Calls Try.prog 8 #[.int .i64 a0, .int .i64 a1] w fun e w' => ∃ v0_ : Value, e = .returned (.tuple #[v0_, .bool r2]) ∧ Kd.R (Kd.int .i64) 3 w' w.heap.size (fun _ => True) v0_ r1 ∧ Below w.heap.size w w' := by
  unfold impl_FirstBlind.f at h
  obtain ⟨t, ht, h⟩ := Option.bind_eq_some_iff.mp h
  have HT := Aside0.mk ht
  clear ht
  cases t with
  | false =>
    obtain ⟨rfl, rfl⟩ : ([] : List Int) = r1 ∧ false = r2 := by rw [if_neg (by simp)] at h; simpa using h
    clear h
    go_enter Try.func8, Try.ntmps8
    go_wp2_with (first
      | (go_at_call 14; (with_reducible refine (impl_isBlind.calls a0 a1 false _ HT.out).mono ?_); rintro e w2 ⟨rfl, hd⟩; have HB := Aside0.mk hd.below; clear hd))
    go_ret2
    exact ⟨_, rfl, Kd.R_nil _ _ _ _ _, HB.out⟩
  | true =>
    rw [if_pos rfl] at h
    by_cases hin : 1 ≤ a0 ∧ a0 ≤ 6 ∧ 1 ≤ a1 ∧ a1 ≤ 4
    case neg => rw [if_neg hin] at h; cases h
    rw [if_pos hin] at h
    obtain ⟨n, rfl⟩ : ∃ n : Nat, a0 = (n : Int) := ⟨a0.toNat, by omega⟩
    obtain ⟨m, rfl⟩ : ∃ m : Nat, a1 = (m : Int) := ⟨a1.toNat, by omega⟩
    rw [Int.toNat_natCast, Int.toNat_natCast] at h
    obtain ⟨hL, h2⟩ : fstOf n m = r1 ∧ (!(fstOf n m).isEmpty) = r2 := by simpa only [Option.some.injEq, Prod.mk.injEq] using h
    rw [hL] at h2
    have HIN := Aside0.mk hin
    have H2 := Aside0.mk h2
    have HLS := Aside0.mk hL
    clear h hin h2 hL
    cases r1 with
    | nil =>
      obtain rfl : false = r2 := by simpa using H2.out
      go_enter Try.func8, Try.ntmps8
      go_upto_region 4 with (first
        | (go_at_call 14; (with_reducible refine (impl_isBlind.calls (n : Int) (m : Int) true _ HT.out).mono ?_); rintro e w2 ⟨rfl, hd⟩; have HB := Aside0.mk hd.below; clear hd))
      have HST := Aside0.mk (And.intro (show FstAt w2.heap.size w2.heap.size [] (w2.alloc (.cells #[.slice none 0 0] 25)) from ⟨_, blk_new _ _, Kd.R_nil _ _ _ _ _, fun _ => rfl⟩) (below_alloc (Below.refl w2.heap.size w2) (.cells #[.slice none 0 0] 25)))
      have HGS : Aside0 (w2.heap.size < (w2.alloc (.cells #[.slice none 0 0] 25)).heap.size) := ⟨by obtain ⟨_, h1, _⟩ := HST.out.1; exact blk_lt h1⟩
      generalize w2.alloc (.cells #[.slice none 0 0] 25) = w3 at HST HGS ⊢
      have HC := Aside0.mk (allBlind_calls (FstAt w2.heap.size w2.heap.size) fstStep w2.heap.size w2.heap.size 17 Try.f17 #[.pointer (some ⟨w2.heap.size, 0, none⟩)] n m [] w3 (by kernel_rfl) (by kernel_rfl) (by kernel_rfl) (by have := HIN.out; omega) (by have := HIN.out; omega) (FstAt.move) (fun σ W A n c xs h h1 h2 h3 h4 h5 h6 => first_step w2.heap.size w2.heap.size (Nat.le_refl _) σ W A n c xs h h1 h2 h3 h4 h5 h6) HST.out.1 (Nat.le_of_lt HGS.out) HGS.out)
      go_upto_region 5 with (first
        | (go_at_call 15; (with_reducible refine (HC.out).mono ?_); rintro e w4 ⟨rfl, hi, hm⟩; have HX := Aside0.mk (And.intro hi (And.intro (below_step HB.out (Below.trans HST.out.2 hm.2)) HB.out.size)); clear hi hm))
      replace HX : Aside0 (FstAt w2.heap.size w2.heap.size (fstOf n m) w4 ∧ Below w.heap.size w w4 ∧ w.heap.size ≤ w2.heap.size) := ⟨HX.out⟩
      rw [HLS.out] at HX
      clear HC HST HGS HIN HT HLS
      obtain ⟨v, h1, h3, h4⟩ := HX.out.1
      have hcz := (blk_cell h1 0).trans rfl
      have HR := Aside0.mk (Kd.R_lower (Kd.R_mono h3 (ok' := fun _ => True) (fun _ _ => trivial)) HX.out.2.2)
      obtain rfl := h4 rfl
      have hne := fun (w : World) => my_neq_nil (P := Try.prog) w 25 3 none 0 0 Try.underlying25
      simp only [Option.isNone_none, Bool.not_true] at hne
      clear h1 h3 h4
      go_quiet (fail)
      go_wp2
      go_ret2
      exact ⟨(.slice none 0 0 : Value), rfl, Kd.R_nil _ _ _ _ _, by first | exact HX.out.2.1 | exact pw_below_drewN HX.out.2.1 _⟩
    | cons a l =>
      obtain rfl : true = r2 := by simpa using H2.out
      go_enter Try.func8, Try.ntmps8
      go_upto_region 4 with (first
        | (go_at_call 14; (with_reducible refine (impl_isBlind.calls (n : Int) (m : Int) true _ HT.out).mono ?_); rintro e w2 ⟨rfl, hd⟩; have HB := Aside0.mk hd.below; clear hd))
      have HST := Aside0.mk (And.intro (show FstAt w2.heap.size w2.heap.size [] (w2.alloc (.cells #[.slice none 0 0] 25)) from ⟨_, blk_new _ _, Kd.R_nil _ _ _ _ _, fun _ => rfl⟩) (below_alloc (Below.refl w2.heap.size w2) (.cells #[.slice none 0 0] 25)))
      have HGS : Aside0 (w2.heap.size < (w2.alloc (.cells #[.slice none 0 0] 25)).heap.size) := ⟨by obtain ⟨_, h1, _⟩ := HST.out.1; exact blk_lt h1⟩
      generalize w2.alloc (.cells #[.slice none 0 0] 25) = w3 at HST HGS ⊢
      have HC := Aside0.mk (allBlind_calls (FstAt w2.heap.size w2.heap.size) fstStep w2.heap.size w2.heap.size 17 Try.f17 #[.pointer (some ⟨w2.heap.size, 0, none⟩)] n m [] w3 (by kernel_rfl) (by kernel_rfl) (by kernel_rfl) (by have := HIN.out; omega) (by have := HIN.out; omega) (FstAt.move) (fun σ W A n c xs h h1 h2 h3 h4 h5 h6 => first_step w2.heap.size w2.heap.size (Nat.le_refl _) σ W A n c xs h h1 h2 h3 h4 h5 h6) HST.out.1 (Nat.le_of_lt HGS.out) HGS.out)
      go_upto_region 5 with (first
        | (go_at_call 15; (with_reducible refine (HC.out).mono ?_); rintro e w4 ⟨rfl, hi, hm⟩; have HX := Aside0.mk (And.intro hi (And.intro (below_step HB.out (Below.trans HST.out.2 hm.2)) HB.out.size)); clear hi hm))
      replace HX : Aside0 (FstAt w2.heap.size w2.heap.size (fstOf n m) w4 ∧ Below w.heap.size w w4 ∧ w.heap.size ≤ w2.heap.size) := ⟨HX.out⟩
      rw [HLS.out] at HX
      clear HC HST HGS HIN HT HLS
      obtain ⟨v, h1, h3, h4⟩ := HX.out.1
      have hcz := (blk_cell h1 0).trans rfl
      have HR := Aside0.mk (Kd.R_lower (Kd.R_mono h3 (ok' := fun _ => True) (fun _ _ => trivial)) HX.out.2.2)
      obtain ⟨g, cap, rfl, hg1, hg2, _⟩ := Kd.R_form h3 (by simp)
      have hne := fun (w : World) => my_neq_nil (P := Try.prog) w 25 3 (some ⟨g, 0, none⟩) (a :: l).length cap Try.underlying25
      simp only [Option.isNone_some, Bool.not_false] at hne
      clear h1 h3 h4 hg1 hg2
      generalize hN : (a :: l).length = N at HR hcz hne
      go_quiet (fail)
      go_wp2
      go_ret2
      refine ⟨(.slice (some ⟨g, 0, none⟩) N cap : Value), rfl, ?_, by first | exact HX.out.2.1 | exact pw_below_drewN HX.out.2.1 _⟩
      first | exact HR.out | exact Kd.R_below HR.out (pw_below_drewN (Below.refl _ _) _)

/-! ### laws_eqIntS: function 9 -/
def laws_eqIntS.l0 : Nat → List Int → List Int → Int → Option (Bool)
  | 0, _, _, _ => none
  | k + 1, x0, x1, x5 => if x5 < (x0.length : Int) then (if 0 ≤ x5 then (if x5 < (x1.length : Int) then (if (rd x0 x5) = (rd x1 x5) then (laws_eqIntS.l0 k x0 x1 (wrap64 (x5 + 1))) else (some false)) else (none)) else (none)) else (some true)
def laws_eqIntS.f (k : Nat) (l0 : List Int) (l1 : List Int) : Option (Bool) := if (l0.length : Int) = (l1.length : Int) then (laws_eqIntS.l0 k l0 l1 0) else (some false)
theorem laws_eqIntS.mono_l : ∀ k, (∀ y0 y1 y2, LeO (laws_eqIntS.l0 k y0 y1 y2) (laws_eqIntS.l0 (k + 1) y0 y1 y2))
  | 0 => fun _ _ _ r h => by simp [laws_eqIntS.l0] at h
  | k + 1 => by
    have ih0 := laws_eqIntS.mono_l k
    · intro y0 y1 y2
      unfold laws_eqIntS.l0
      repeat' first
      | (with_reducible exact ih0 _ _ _)
      | (with_reducible exact LeO.refl _)
      | (with_reducible exact LeO.none _)
      | (with_reducible refine LeO.ite ?_ ?_)
      | (with_reducible refine LeO.bind ?_ (fun _ => ?_))
      | exact ih0 _ _ _
      | exact LeO.none _
      | refine LeO.ite ?_ ?_
      | refine LeO.bind ?_ (fun _ => ?_)
theorem laws_eqIntS.mono : ∀ a0 a1 k, LeO (laws_eqIntS.f k a0 a1) (laws_eqIntS.f (k + 1) a0 a1) := by
  intro a0 a1 k
  have ih0 := laws_eqIntS.mono_l k
  unfold laws_eqIntS.f
  repeat' first
      | (with_reducible exact ih0 _ _ _)
      | (with_reducible exact LeO.refl _)
      | (with_reducible exact LeO.none _)
      | (with_reducible refine LeO.ite ?_ ?_)
      | (with_reducible refine LeO.bind ?_ (fun _ => ?_))
      | exact ih0 _ _ _
      | exact LeO.none _
      | refine LeO.ite ?_ ?_
      | refine LeO.bind ?_ (fun _ => ?_)
set_option maxHeartbeats 8000000 in
set_option maxRecDepth 100000 in
theorem laws_eqIntS.calls (k : Nat) (A0 : Option Addr) (c0 : Nat) (l0 : List Int) (A1 : Option Addr) (c1 : Nat) (l1 : List Int) (r : Bool) (w : World) (hr0 : Kd.C (Kd.int .i64) w A0 l0.length l0) (hc0 : l0.length ≤ c0) (hr1 : Kd.C (Kd.int .i64) w A1 l1.length l1) (hc1 : l1.length ≤ c1) (h : laws_eqIntS.f k l0 l1 = some r) :
    Calls Try.prog 9 #[.slice A0 l0.length c0, .slice A1 l1.length c1] w fun e w' => e = .returned (.bool r) ∧ Drawn0 w w' := by
  have HR0 := Aside0.mk hr0
  have HC0 := Aside0.mk hc0
  clear hr0 hc0
  have HR1 := Aside0.mk hr1
  have HC1 := Aside0.mk hc1
  clear hr1 hc1
  have H : (if (l0.length : Int) = (l1.length : Int) then (laws_eqIntS.l0 k l0 l1 0) else (some false)) = some r := h
  clear h
  by_cases c3 : (l0.length : Int) = (l1.length : Int)
  · rw [if_pos c3] at H
    have c3b0 : ((l0.length : Int) == (l1.length : Int)) = true := beq_iff_eq.mpr c3
    have c3b1 : ((l0.length : Int) != (l1.length : Int)) = false := bne_eq_false_iff_eq.mpr c3
    have c3b2 : (l0.length == l1.length) = true := by first | simpa using c3 | (simp at c3 ⊢; omega)
    clear c3
    have H' := Aside0.mk H
    clear H
    go_enter Try.func9, Try.ntmps9
    go_wp2
    repeat (go_quiet (fail); try go_wp2)
    go_loopg [5] k (fun kq v5 w' => ∃ (x5_1 : Int), v5 = .int .i64 x5_1 ∧ Aside0 (laws_eqIntS.l0 kq l0 l1 x5_1 = some r) ∧ Aside0 (kq ≤ k) ∧ Drawn0 w w')
    case atStart => exact ⟨(0), (by first | rfl | (simp; done) | (simp [*]; done)), H', ⟨Nat.le_refl _⟩, by repeat (first | exact Drawn0.refl _ | apply Drawn0.step)⟩
    case round =>
      clear H'
      try clear c1
      try clear p2
      try clear c3
      try clear c3b0
      try clear c3b1
      try clear c3b2
      obtain ⟨x5_1, rfl, HA, HK1, ⟨m1, rfl⟩⟩ := hrel
      cases gk with
      | zero => exact absurd HA.out (by simp [laws_eqIntS.l0])
      | succ k1 =>
        have H := HA.out
        clear HA
        simp only [laws_eqIntS.l0] at H
        by_cases c4 : x5_1 < (l0.length : Int)
        · rw [if_pos c4] at H
          have c4b0 : decide (x5_1 < (l0.length : Int)) = true := decide_eq_true c4
          clear c4
          by_cases c5 : 0 ≤ x5_1
          · rw [if_pos c5] at H
            have c5b0 : decide (0 ≤ x5_1) = true := decide_eq_true c5
            clear c5
            by_cases c6 : x5_1 < (l1.length : Int)
            · rw [if_pos c6] at H
              have c6b0 : decide (x5_1 < (l1.length : Int)) = true := decide_eq_true c6
              clear c6
              by_cases c7 : (rd l0 x5_1) = (rd l1 x5_1)
              · rw [if_pos c7] at H
                have c7b0 : ((rd l0 x5_1) == (rd l1 x5_1)) = true := beq_iff_eq.mpr c7
                have c7b1 : ((rd l0 x5_1) != (rd l1 x5_1)) = false := bne_eq_false_iff_eq.mpr c7
                clear c7
                have H' := Aside0.mk H
                clear H
                have p169 : 0 ≤ (x5_1 : Int) := of_decide_eq_true (by first | (with_reducible assumption) | assumption)
                have q169 : x5_1 < (l0.length : Int) := of_decide_eq_true (by first | (with_reducible assumption) | assumption)
                obtain ⟨ad169, e169, hx169_0⟩ := Kd.at_int HR0.out x5_1 p169 q169
                cases e169
                replace p169 := eq_true p169
                replace q169 := eq_true q169
                have p170 : 0 ≤ (x5_1 : Int) := of_decide_eq_true (by first | (with_reducible assumption) | assumption)
                have q170 : x5_1 < (l1.length : Int) := of_decide_eq_true (by first | (with_reducible assumption) | assumption)
                obtain ⟨ad170, e170, hx170_0⟩ := Kd.at_int HR1.out x5_1 p170 q170
                cases e170
                replace p170 := eq_true p170
                replace q170 := eq_true q170
                go_wp2
                repeat (go_quiet (fail); try go_wp2)
                go_roundg k1
                case measure => have := HK1.out; omega
                case rel => exact ⟨(wrap64 (x5_1 + 1)), (by first | rfl | (simp; done) | (simp [*]; done)), H', ⟨by have := HK1.out; omega⟩, by repeat (first | exact Drawn0.refl _ | apply Drawn0.step)⟩
              · rw [if_neg c7] at H
                have c7b0 : ((rd l0 x5_1) == (rd l1 x5_1)) = false := beq_eq_false_iff_ne.mpr c7
                have c7b1 : ((rd l0 x5_1) != (rd l1 x5_1)) = true := bne_iff_ne.mpr c7
                obtain rfl := Option.some.inj H
                have p169 : 0 ≤ (x5_1 : Int) := of_decide_eq_true (by first | (with_reducible assumption) | assumption)
                have q169 : x5_1 < (l0.length : Int) := of_decide_eq_true (by first | (with_reducible assumption) | assumption)
                obtain ⟨ad169, e169, hx169_0⟩ := Kd.at_int HR0.out x5_1 p169 q169
                cases e169
                replace p169 := eq_true p169
                replace q169 := eq_true q169
                have p170 : 0 ≤ (x5_1 : Int) := of_decide_eq_true (by first | (with_reducible assumption) | assumption)
                have q170 : x5_1 < (l1.length : Int) := of_decide_eq_true (by first | (with_reducible assumption) | assumption)
                obtain ⟨ad170, e170, hx170_0⟩ := Kd.at_int HR1.out x5_1 p170 q170
                cases e170
                replace p170 := eq_true p170
                replace q170 := eq_true q170
                go_wp2
                repeat (go_quiet (fail); try go_wp2)
                go_ret
                exact ⟨by first | rfl | (simp; done) | (simp [*]; done), by repeat (first | exact Drawn0.refl _ | apply Drawn0.step)⟩
            · rw [if_neg c6] at H
              exact absurd H (by simp)
          · rw [if_neg c5] at H
            exact absurd H (by simp)
        · rw [if_neg c4] at H
          have c4b0 : decide (x5_1 < (l0.length : Int)) = false := decide_eq_false c4
          clear c4
          obtain rfl := Option.some.inj H
          go_wp2
          repeat (go_quiet (fail); try go_wp2)
          go_ret
          exact ⟨by first | rfl | (simp; done) | (simp [*]; done), by repeat (first | exact Drawn0.refl _ | apply Drawn0.step)⟩
  · rw [if_neg c3] at H
    have c3b0 : ((l0.length : Int) == (l1.length : Int)) = false := beq_eq_false_iff_ne.mpr c3
    have c3b1 : ((l0.length : Int) != (l1.length : Int)) = true := bne_iff_ne.mpr c3
    have c3b2 : (l0.length == l1.length) = false := by first | simpa using c3 | (simp at c3 ⊢; omega)
    obtain rfl := Option.some.inj H
    go_enter Try.func9, Try.ntmps9
    go_wp2
    repeat (go_quiet (fail); try go_wp2)
    go_ret
    exact ⟨by first | rfl | (simp; done) | (simp [*]; done), by repeat (first | exact Drawn0.refl _ | apply Drawn0.step)⟩

/-! ### laws_markIntS: function 10 -/
def laws_markIntS.l0 : Nat → List Int → Int → Int → Option (Int × List Int)
  | 0, _, _, _ => none
  | k + 1, x0, x1, x5 => if x5 < (x0.length : Int) then (if 0 ≤ x5 then (laws_markIntS.l0 k (x0.set (x5 : Int).toNat x1) (wrap64 (x1 + 1)) (wrap64 (x5 + 1))) else (none)) else (some (x1, x0))
def laws_markIntS.f (k : Nat) (l0 : List Int) (a1 : Int) : Option (Int × List Int) := laws_markIntS.l0 k l0 a1 0
theorem laws_markIntS.mono_l : ∀ k, (∀ y0 y1 y2, LeO (laws_markIntS.l0 k y0 y1 y2) (laws_markIntS.l0 (k + 1) y0 y1 y2))
  | 0 => fun _ _ _ r h => by simp [laws_markIntS.l0] at h
  | k + 1 => by
    have ih0 := laws_markIntS.mono_l k
    · intro y0 y1 y2
      unfold laws_markIntS.l0
      repeat' first
      | (with_reducible exact ih0 _ _ _)
      | (with_reducible exact LeO.refl _)
      | (with_reducible exact LeO.none _)
      | (with_reducible refine LeO.ite ?_ ?_)
      | (with_reducible refine LeO.bind ?_ (fun _ => ?_))
      | exact ih0 _ _ _
      | exact LeO.none _
      | refine LeO.ite ?_ ?_
      | refine LeO.bind ?_ (fun _ => ?_)
theorem laws_markIntS.mono : ∀ a0 a1 k, LeO (laws_markIntS.f k a0 a1) (laws_markIntS.f (k + 1) a0 a1) := by
  intro a0 a1 k
  have ih0 := laws_markIntS.mono_l k
  unfold laws_markIntS.f
  repeat' first
      | (with_reducible exact ih0 _ _ _)
      | (with_reducible exact LeO.refl _)
      | (with_reducible exact LeO.none _)
      | (with_reducible refine LeO.ite ?_ ?_)
      | (with_reducible refine LeO.bind ?_ (fun _ => ?_))
      | exact ih0 _ _ _
      | exact LeO.none _
      | refine LeO.ite ?_ ?_
      | refine LeO.bind ?_ (fun _ => ?_)
set_option maxHeartbeats 8000000 in
set_option maxRecDepth 100000 in
theorem laws_markIntS.calls (k : Nat) (P0_ : Nat → Prop) (u9000_ : Value) (l0 : List Int) (a1 : Int) (r1 : Int) (r2 : List Int) (w0 w : World) (hB : Below w0.heap.size w0 w) (ho0 : Kd.R (Kd.int .i64) 3 w w0.heap.size P0_ u9000_ l0) (h : laws_markIntS.f k l0 a1 = some (r1, r2)) :
    Calls Try.prog 10 #[u9000_, .int .i64 a1] w fun e w' => e = .returned (.int .i64 r1) ∧ Kd.R (Kd.int .i64) 3 w' w0.heap.size (fun k_ => (P0_ k_ ∨ w.heap.size ≤ k_)) u9000_ r2 ∧ Below w0.heap.size w0 w' ∧ Kept w w' (fun k_ => P0_ k_) := by
  have HO0 := Aside0.mk (show Kd.R (Kd.int .i64) 3 w w0.heap.size (fun k_ => (P0_ k_ ∨ w.heap.size ≤ k_)) u9000_ l0 from Kd.R_mono ho0 (fun k_ hk => (.inl hk)))
  have HK := Aside0.mk (Kept.refl w (fun k_ => P0_ k_))
  have HW0 := Aside0.mk hB.size
  have HB := Aside0.mk hB
  clear hB
  have H : (laws_markIntS.l0 k l0 a1 0) = some (r1, r2) := h
  clear h
  have H' := Aside0.mk H
  clear H
  go_enter Try.func10, Try.ntmps10
  go_wp2
  go_loopg [1, 5] k (fun kq v1 v5 w' => ∃ (x0_1 : List Int) (x1_1 : Int) (x5_1 : Int), v1 = .int .i64 x1_1 ∧ v5 = .int .i64 x5_1 ∧ Aside0 (laws_markIntS.l0 kq x0_1 x1_1 x5_1 = some (r1, r2)) ∧ Aside0 (kq ≤ k) ∧ Aside0 (Kd.R (Kd.int .i64) 3 w' w0.heap.size (fun k_ => (P0_ k_ ∨ w.heap.size ≤ k_)) u9000_ x0_1) ∧ Aside0 (Kept w w' (fun k_ => P0_ k_)) ∧ Aside0 (Below w0.heap.size w0 w'))
  case atStart => exact ⟨(l0), (a1), (0), (by first | rfl | (simp; done) | (simp [*]; done)), (by first | rfl | (simp; done) | (simp [*]; done)), H', ⟨Nat.le_refl _⟩, ⟨by (with_reducible repeat (first | apply Kd.R_alloc | apply Kd.R_drewN | apply Kd.R_drew)); exact HO0.out⟩, ⟨by repeat (first | (with_reducible first | exact HK.out | apply Kept.alloc | apply Kept.drewN | apply Kept.drew) | exact HK.out)⟩, ⟨by repeat (first | (with_reducible first | exact HB.out | apply below_alloc | apply pw_below_drewN | apply below_drew1) | exact HB.out)⟩⟩
  case round =>
    clear H'
    try clear c1
    try clear p2
    obtain ⟨x0_1, x1_1, x5_1, rfl, rfl, HA, HK1, HO_0, HK, HB⟩ := hrel
    cases gk with
    | zero => exact absurd HA.out (by simp [laws_markIntS.l0])
    | succ k1 =>
      have H := HA.out
      clear HA
      simp only [laws_markIntS.l0] at H
      by_cases c3 : x5_1 < (x0_1.length : Int)
      · rw [if_pos c3] at H
        have c3b0 : decide (x5_1 < (x0_1.length : Int)) = true := decide_eq_true c3
        clear c3
        by_cases c4 : 0 ≤ x5_1
        · rw [if_pos c4] at H
          have c4b0 : decide (0 ≤ x5_1) = true := decide_eq_true c4
          clear c4
          obtain ⟨y171, hy171⟩ : ∃ y_ : List Int, y_ = (x0_1.set (x5_1 : Int).toNat x1_1) := ⟨_, rfl⟩
          replace H : (laws_markIntS.l0 k1 y171 (wrap64 (x1_1 + 1)) (wrap64 (x5_1 + 1))) = some (r1, r2) := by first | (rw [hy171]; with_reducible exact H) | (have H2_ := (Option.bind_some _ _).symm.trans H; rw [hy171]; with_reducible exact H2_) | (have H2_ := (Option.bind_some _ _).symm.trans H; with_reducible exact H2_) | with_reducible exact H | (rw [hy171]; exact H) | exact H
          have Ny171 := Aside0.mk hy171
          clear hy171
          have H' := Aside0.mk H
          clear H
          obtain ⟨Ao6, co6, eo6⟩ := Kd.R_slice HO_0.out
          subst eo6
          have p5 : 0 ≤ (x5_1 : Int) := of_decide_eq_true (by first | (with_reducible assumption) | assumption)
          have q5 : (x5_1 : Int) < ((x0_1.length : Int) : Int) := of_decide_eq_true (by first | (with_reducible assumption) | assumption)
          obtain ⟨go5, co5, eo5, gb5, gl5, cl5, HG5⟩ := Kd.R_form HO_0.out (by omega)
          (first | cases eo5 | (injection eo5 with ea_ en_ ec_; (first | subst ea_ | (injection ea_ with ea_; subst ea_)); subst ec_; clear en_))
          have GB5 := Aside0.mk gb5
          have GG5 := Aside0.mk HG5
          clear gb5 gl5 HG5
          have HMgo5 := Aside0.mk (show (P0_ go5 ∨ w.heap.size ≤ go5) from (HO_0.out.1 _ rfl))
          obtain ⟨hx5_0, hf5_0⟩ := Kd.R_celln 0 HO_0.out (x5_1 : Int) p5 q5
          replace p5 := eq_true p5
          replace q5 := eq_true q5
          have HP7 := Kd.R_putg HO_0.out (x5_1 : Int) x1_1
          go_wp2_with (first | ((with_reducible refine gate_store (t := 3) (p := 15) rfl ?_); refine store_event (t := 3) (p := 15) (v := ?vo_w8) (w1 := (wr.setCell ⟨go5, (x5_1 : Int).toNat, none⟩ (.int .i64 x1_1))) ?hg ?ho ?hn ?hr ?_; (case ho => rfl); (case hg => rfl); (case hn => rfl); (case hr => first | (go_simp; done) | (go_simp; rfl)); intro w8 hw; have hg : wr.grownBy w8 (some go5) := (by rw [hw]; exact HP7.2); have hp_ : Kd.R (Kd.int .i64) 3 w8 w0.heap.size (fun k_ => (P0_ k_ ∨ w.heap.size ≤ k_)) (.slice (some ⟨go5, 0, none⟩) x0_1.length co6) y171 := (by rw [hw, Ny171.out]; exact HP7.1); clear HP7; have n0_ := Aside0.mk (hp_); have n1_ := Aside0.mk ((by rw [hw]; exact below_set (HB.out) GB5.out : Below w0.heap.size w0 w8)); have n2_ := Aside0.mk (Kept.of_grown (S := (fun k_ => P0_ k_)) hg (by repeat (first | (with_reducible first | exact HK.out | apply Kept.alloc | apply Kept.drewN | apply Kept.drew) | exact HK.out)) (fun k_ e_ => (HO_0.out.1 k_ e_))); clear HO_0; clear HB; clear HK; have HO_0 := n0_; have HB := n1_; have HK := n2_; clear n0_ n1_ n2_; clear hg hw hp_))
          go_roundg k1
          case measure => have := HK1.out; omega
          case rel => exact ⟨(y171), (wrap64 (x1_1 + 1)), (wrap64 (x5_1 + 1)), (by first | rfl | (simp; done) | (simp [*]; done)), (by first | rfl | (simp; done) | (simp [*]; done)), H', ⟨by have := HK1.out; omega⟩, ⟨by (with_reducible repeat (first | apply Kd.R_alloc | apply Kd.R_drewN | apply Kd.R_drew)); exact HO_0.out⟩, ⟨by repeat (first | (with_reducible first | exact HK.out | apply Kept.alloc | apply Kept.drewN | apply Kept.drew) | exact HK.out)⟩, ⟨by repeat (first | (with_reducible first | exact HB.out | apply below_alloc | apply pw_below_drewN | apply below_drew1) | exact HB.out)⟩⟩
        · rw [if_neg c4] at H
          exact absurd H (by simp)
      · rw [if_neg c3] at H
        have c3b0 : decide (x5_1 < (x0_1.length : Int)) = false := decide_eq_false c3
        clear c3
        simp only [Option.some.injEq, Prod.mk.injEq] at H
        obtain ⟨rfl, rfl⟩ := H
        obtain ⟨Ao9, co9, eo9⟩ := Kd.R_slice HO_0.out
        subst eo9
        go_wp2
        go_ret
        exact ⟨by first | rfl | (simp [errW_none, errW_some] <;> rfl) | (simp [*, errW_none, errW_some] <;> rfl), by (with_reducible repeat (first | apply Kd.R_alloc | apply Kd.R_drewN | apply Kd.R_drew)); exact HO_0.out, by repeat (first | (with_reducible first | exact HB.out | apply below_alloc | apply pw_below_drewN | apply below_drew1) | exact HB.out), by repeat (first | (with_reducible first | exact HK.out | apply Kept.alloc | apply Kept.drewN | apply Kept.drew) | exact HK.out)⟩

/-! ### laws_heldIntS: function 11 -/
def laws_heldIntS.l0 : Nat → List Int → Int → Int → Option (Int)
  | 0, _, _, _ => none
  | k + 1, x0, x1, x5 => if x5 < (x0.length : Int) then (if 0 ≤ x5 then (if (rd x0 x5) = x1 then (laws_heldIntS.l0 k x0 (wrap64 (x1 + 1)) (wrap64 (x5 + 1))) else (some (-1))) else (none)) else (some x1)
def laws_heldIntS.f (k : Nat) (l0 : List Int) (a1 : Int) : Option (Int) := laws_heldIntS.l0 k l0 a1 0
theorem laws_heldIntS.mono_l : ∀ k, (∀ y0 y1 y2, LeO (laws_heldIntS.l0 k y0 y1 y2) (laws_heldIntS.l0 (k + 1) y0 y1 y2))
  | 0 => fun _ _ _ r h => by simp [laws_heldIntS.l0] at h
  | k + 1 => by
    have ih0 := laws_heldIntS.mono_l k
    · intro y0 y1 y2
      unfold laws_heldIntS.l0
      repeat' first
      | (with_reducible exact ih0 _ _ _)
      | (with_reducible exact LeO.refl _)
      | (with_reducible exact LeO.none _)
      | (with_reducible refine LeO.ite ?_ ?_)
      | (with_reducible refine LeO.bind ?_ (fun _ => ?_))
      | exact ih0 _ _ _
      | exact LeO.none _
      | refine LeO.ite ?_ ?_
      | refine LeO.bind ?_ (fun _ => ?_)
theorem laws_heldIntS.mono : ∀ a0 a1 k, LeO (laws_heldIntS.f k a0 a1) (laws_heldIntS.f (k + 1) a0 a1) := by
  intro a0 a1 k
  have ih0 := laws_heldIntS.mono_l k
  unfold laws_heldIntS.f
  repeat' first
      | (with_reducible exact ih0 _ _ _)
      | (with_reducible exact LeO.refl _)
      | (with_reducible exact LeO.none _)
      | (with_reducible refine LeO.ite ?_ ?_)
      | (with_reducible refine LeO.bind ?_ (fun _ => ?_))
      | exact ih0 _ _ _
      | exact LeO.none _
      | refine LeO.ite ?_ ?_
      | refine LeO.bind ?_ (fun _ => ?_)
set_option maxHeartbeats 8000000 in
set_option maxRecDepth 100000 in
theorem laws_heldIntS.calls (k : Nat) (A0 : Option Addr) (c0 : Nat) (l0 : List Int) (a1 : Int) (r : Int) (w : World) (hr0 : Kd.C (Kd.int .i64) w A0 l0.length l0) (hc0 : l0.length ≤ c0) (h : laws_heldIntS.f k l0 a1 = some r) :
    Calls Try.prog 11 #[.slice A0 l0.length c0, .int .i64 a1] w fun e w' => e = .returned (.int .i64 r) ∧ Drawn0 w w' := by
  have HR0 := Aside0.mk hr0
  have HC0 := Aside0.mk hc0
  clear hr0 hc0
  have H : (laws_heldIntS.l0 k l0 a1 0) = some r := h
  clear h
  have H' := Aside0.mk H
  clear H
  go_enter Try.func11, Try.ntmps11
  go_wp2
  go_loopg [1, 5] k (fun kq v1 v5 w' => ∃ (x1_1 : Int) (x5_1 : Int), v1 = .int .i64 x1_1 ∧ v5 = .int .i64 x5_1 ∧ Aside0 (laws_heldIntS.l0 kq l0 x1_1 x5_1 = some r) ∧ Aside0 (kq ≤ k) ∧ Drawn0 w w')
  case atStart => exact ⟨(a1), (0), (by first | rfl | (simp; done) | (simp [*]; done)), (by first | rfl | (simp; done) | (simp [*]; done)), H', ⟨Nat.le_refl _⟩, by repeat (first | exact Drawn0.refl _ | apply Drawn0.step)⟩
  case round =>
    clear H'
    try clear c1
    try clear p2
    obtain ⟨x1_1, x5_1, rfl, rfl, HA, HK1, ⟨m1, rfl⟩⟩ := hrel
    cases gk with
    | zero => exact absurd HA.out (by simp [laws_heldIntS.l0])
    | succ k1 =>
      have H := HA.out
      clear HA
      simp only [laws_heldIntS.l0] at H
      by_cases c3 : x5_1 < (l0.length : Int)
      · rw [if_pos c3] at H
        have c3b0 : decide (x5_1 < (l0.length : Int)) = true := decide_eq_true c3
        clear c3
        by_cases c4 : 0 ≤ x5_1
        · rw [if_pos c4] at H
          have c4b0 : decide (0 ≤ x5_1) = true := decide_eq_true c4
          clear c4
          by_cases c5 : (rd l0 x5_1) = x1_1
          · rw [if_pos c5] at H
            have c5b0 : ((rd l0 x5_1) == x1_1) = true := beq_iff_eq.mpr c5
            have c5b1 : ((rd l0 x5_1) != x1_1) = false := bne_eq_false_iff_eq.mpr c5
            clear c5
            have H' := Aside0.mk H
            clear H
            have p172 : 0 ≤ (x5_1 : Int) := of_decide_eq_true (by first | (with_reducible assumption) | assumption)
            have q172 : x5_1 < (l0.length : Int) := of_decide_eq_true (by first | (with_reducible assumption) | assumption)
            obtain ⟨ad172, e172, hx172_0⟩ := Kd.at_int HR0.out x5_1 p172 q172
            cases e172
            replace p172 := eq_true p172
            replace q172 := eq_true q172
            go_wp2
            go_roundg k1
            case measure => have := HK1.out; omega
            case rel => exact ⟨(wrap64 (x1_1 + 1)), (wrap64 (x5_1 + 1)), (by first | rfl | (simp; done) | (simp [*]; done)), (by first | rfl | (simp; done) | (simp [*]; done)), H', ⟨by have := HK1.out; omega⟩, by repeat (first | exact Drawn0.refl _ | apply Drawn0.step)⟩
          · rw [if_neg c5] at H
            have c5b0 : ((rd l0 x5_1) == x1_1) = false := beq_eq_false_iff_ne.mpr c5
            have c5b1 : ((rd l0 x5_1) != x1_1) = true := bne_iff_ne.mpr c5
            obtain rfl := Option.some.inj H
            have p172 : 0 ≤ (x5_1 : Int) := of_decide_eq_true (by first | (with_reducible assumption) | assumption)
            have q172 : x5_1 < (l0.length : Int) := of_decide_eq_true (by first | (with_reducible assumption) | assumption)
            obtain ⟨ad172, e172, hx172_0⟩ := Kd.at_int HR0.out x5_1 p172 q172
            cases e172
            replace p172 := eq_true p172
            replace q172 := eq_true q172
            go_wp2
            go_ret
            exact ⟨by first | rfl | (simp; done) | (simp [*]; done), by repeat (first | exact Drawn0.refl _ | apply Drawn0.step)⟩
        · rw [if_neg c4] at H
          exact absurd H (by simp)
      · rw [if_neg c3] at H
        have c3b0 : decide (x5_1 < (l0.length : Int)) = false := decide_eq_false c3
        clear c3
        obtain rfl := Option.some.inj H
        go_wp2
        go_ret
        exact ⟨by first | rfl | (simp; done) | (simp [*]; done), by repeat (first | exact Drawn0.refl _ | apply Drawn0.step)⟩

end Go.Proofs.Ytnhlfbnfngembaa.PFnExactFirstBlind
