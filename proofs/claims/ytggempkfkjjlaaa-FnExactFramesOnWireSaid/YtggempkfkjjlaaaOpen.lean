/- What an argument that comes in holds (a whole number, a struct of one-cell fields, a slice of either), told as the kinds of the printed contracts; no condition. -/
import Derived.Lib.SmallJoins
import Derived.Deep.Slices
import Derived.Deep.Fields
import Derived.ChangeSame
import Derived.Test.YtggempkfkjjlaaaWWords
set_option linter.unusedVariables false
namespace Go.Proofs.Ytggempkfkjjlaaa.Open
open Go.Joins Go.ChangeShapes Go.WideShapes Go.RowKit Go.Deep Go.Proofs.YtggempkfkjjlaaaW.PrintWords

/-- Whatever reads at the type t is a value of the kind d for which WF holds. -/
def Rd (P : Program) (t : TypeId) {α : Type} (d : Kd α) (WF : α → Prop) : Prop :=
  ∀ (H : Type) (enc : TypeId × Value → H) (w : World) (base : Nat) (spare : Nat → Bool) (held : Bool) (fuel : Nat) (cs : List Value) (x : DataW H × List MemPlace),
    DataW.trod enc P w base spare held fuel t cs = some x → ∃ y, d.K w y cs ∧ WF y

theorem rd_int {P : Program} {t : TypeId} {k : IntKind} (ht : P.underlying t = some (.int k)) : Rd P t (Kd.int k) (fun n => (Lit.int k n).wf = true) := by
  intro H enc w base spare held fuel cs x h
  obtain ⟨n, rfl, _, hw⟩ := DataW.trod_int ht h
  exact ⟨n, rfl, hw⟩

theorem rd_iso {P : Program} {t : TypeId} {α β : Type} {d : Kd α} {WF : α → Prop} {f : β → α} (g : α → β) (hg : ∀ a, f (g a) = a) (h : Rd P t d WF) : Rd P t (Kd.iso d f) (fun y => WF (f y)) := by
  intro H enc w base spare held fuel cs x hx
  obtain ⟨y, hy, hw⟩ := h H enc w base spare held fuel cs x hx
  refine ⟨g y, ?_, ?_⟩
  · show d.K w (f (g y)) cs
    rw [hg]; exact hy
  · show WF (f (g y))
    rw [hg]; exact hw

theorem rd_struct3 {P : Program} {t : TypeId} {f0 f1 f2 : Field} {α β γ : Type} {a : Kd α} {b : Kd β} {c : Kd γ} {WA : α → Prop} {WB : β → Prop} {WC : γ → Prop}
    (ht : P.underlying t = some (.struct #[f0, f1, f2])) (hone : oneCellFields P #[f0, f1, f2] = true) (hC : P.cellsOf t = 3)
    (h0 : Rd P f0.type a WA) (h1 : Rd P f1.type b WB) (h2 : Rd P f2.type c WC) :
    Rd P t (Kd.pair a (Kd.pair b c)) (fun x => WA x.1 ∧ WB x.2.1 ∧ WC x.2.2) := by
  intro H enc w base spare held fuel cs x hx
  obtain ⟨y0, y1, y2, n, _, hl, g0, g1, g2⟩ := trod_struct3 ht hx
  obtain ⟨o0, k0⟩ := hone_of hone 0 f0 rfl
  obtain ⟨o1, k1⟩ := hone_of hone 1 f1 rfl
  obtain ⟨o2, k2⟩ := hone_of hone 2 f2 rfl
  rw [hC] at hl
  match cs, hl with
  | [c0, c1, c2], _ =>
    have g0' : DataW.trod enc P w base spare held n f0.type [c0] = some y0 := by simpa [o0, k0] using g0
    have g1' : DataW.trod enc P w base spare held n f1.type [c1] = some y1 := by simpa [o1, k1] using g1
    have g2' : DataW.trod enc P w base spare held n f2.type [c2] = some y2 := by simpa [o2, k2] using g2
    obtain ⟨z0, r0, e0⟩ := h0 H enc w base spare held n _ _ g0'
    obtain ⟨z1, r1, e1⟩ := h1 H enc w base spare held n _ _ g1'
    obtain ⟨z2, r2, e2⟩ := h2 H enc w base spare held n _ _ g2'
    exact ⟨(z0, z1, z2), ⟨[c0], [c1, c2], rfl, r0, ⟨[c1], [c2], rfl, r1, r2⟩⟩, e0, e1, e2⟩

theorem list_of {α : Type} {Q : Nat → α → Prop} : ∀ n : Nat, (∀ i, i < n → ∃ y, Q i y) → ∃ l : List α, l.length = n ∧ ∀ (i : Nat) (y : α), l[i]? = some y → Q i y
  | 0, _ => ⟨[], rfl, fun i y h => by simp at h⟩
  | n + 1, h => by
    obtain ⟨l, hl, hq⟩ := list_of n (fun i hi => h i (by omega))
    obtain ⟨y, hy⟩ := h n (by omega)
    refine ⟨l ++ [y], by simp [hl], fun i z hz => ?_⟩
    by_cases hi : i < l.length
    · rw [List.getElem?_append_left hi] at hz
      exact hq i z hz
    · rw [List.getElem?_append_right (by omega)] at hz
      have hi2 : i - l.length = 0 := by
        rcases Nat.eq_zero_or_pos (i - l.length) with h0 | h0
        · exact h0
        · rw [List.getElem?_eq_none (by simp; omega)] at hz
          cases hz
      rw [hi2] at hz
      simp at hz
      obtain rfl : i = n := by omega
      rw [← hz]; exact hy

theorem rd_slice {P : Program} {t e : TypeId} {q : Nat} {α : Type} {d : Kd α} {WF : α → Prop} (ht : P.underlying t = some (.slice e)) (hs : P.cellsOf e = d.sz) (he : Rd P e d WF) :
    Rd P t (Kd.slice q d) (fun l => l.length ≤ maxLen ∧ ∀ x ∈ l, WF x) := by
  intro H enc w base spare held fuel cs x hx
  rcases open_slice ht hx with ⟨rfl, _⟩ | ⟨a, len, cap, m, n, D, Pl, rfl, hb, hl, hm, hmm, _, hi⟩
  · refine ⟨[], ⟨none, 0, rfl, Nat.le_refl _, ?_⟩, by simp, by simp⟩
    exact ⟨rfl, by simp, fun h => absurd h (by simp)⟩
  · have hlm : len ≤ m := by rw [hmm]; split <;> omega
    have each : ∀ i, i < len → ∃ y, ((∃ c, c.length = d.sz ∧ d.K w y c ∧ ∀ j u, c[j]? = some u → w.cell? (a.add (i * d.sz + j)) = some u) ∧ WF y) := by
      intro i hlt
      obtain ⟨cs', hc, ht'⟩ := hi i (by omega)
      obtain ⟨y, hk, hw⟩ := he H enc w base spare held n _ _ ht'
      rw [hs] at hc
      obtain ⟨_, hcl, hat⟩ := World.cells?_some hc
      refine ⟨y, ⟨cs', hcl, hk, fun j u hu => ?_⟩, hw⟩
      obtain ⟨hj, _⟩ := List.getElem?_eq_some_iff.1 hu
      have := hat j (by omega)
      rw [← Go.Deep.add_add, this, hu]
    obtain ⟨l, hll, hq⟩ := list_of len each
    refine ⟨l, ⟨some a, cap, by rw [hll], by omega, ?_⟩, by omega, fun z hz => ?_⟩
    · refine ⟨rfl, by rw [hll]; unfold maxLen at hm; omega, fun _ => ⟨a, rfl, fun j p hp => (hq j p hp).1⟩⟩
    · obtain ⟨i, hi2⟩ := List.getElem?_of_mem hz
      exact (hq i z hi2).2

/-- A whole number that came in. -/
theorem at_int {P : Program} {t : TypeId} {k : IntKind} {H : Type} {enc : TypeId × Value → H} {w : World} {base : Nat} {spare : Nat → Bool} {held : Bool} {n : Nat} {v : Value} {x : DataW H × List MemPlace}
    (ht : P.underlying t = some (.int k)) (h : DataW.trod enc P w base spare held n t [v] = some x) : ∃ a, v = .int k a ∧ (Lit.int k a).wf = true := by
  obtain ⟨a, ha, hw⟩ := rd_int ht H enc w base spare held n _ _ h
  exact ⟨a, by simpa using (show [v] = [Value.int k a] from ha), hw⟩
/-- A slice that came in, by one cell (an argument's, or a field's). -/
theorem at_slice {P : Program} {t e : TypeId} {α : Type} {d : Kd α} {WF : α → Prop} {H : Type} {enc : TypeId × Value → H} {w : World} {base : Nat} {spare : Nat → Bool} {held : Bool} {n : Nat} {v : Value} {x : DataW H × List MemPlace}
    (ht : P.underlying t = some (.slice e)) (hs : P.cellsOf e = d.sz) (he : Rd P e d WF) (h : DataW.trod enc P w base spare held n t [v] = some x) :
    ∃ (A : Option Addr) (c : Nat) (l : List α), v = .slice A l.length c ∧ Kd.C d w A l.length l ∧ l.length ≤ c ∧ l.length ≤ maxLen ∧ ∀ y ∈ l, WF y := by
  obtain ⟨l, ⟨A, c, hc, hlc, hC⟩, hm, hw⟩ := rd_slice (q := 0) ht hs he H enc w base spare held n _ _ h
  exact ⟨A, c, l, by simpa using hc, hC, hlc, hm, hw⟩
end Go.Proofs.Ytggempkfkjjlaaa.Open
