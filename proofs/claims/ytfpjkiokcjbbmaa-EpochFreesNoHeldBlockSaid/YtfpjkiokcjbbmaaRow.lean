/- Rows of integers of the law's own, beside the epochs. -/
import Derived.Test.YtfpjkiokcjbbmaaMatch
namespace Go.Proofs.Ytfpjkiokcjbbmaa
open Go.RowKit Go.Maps Go.MapKept Go.Proofs.YtfpjkiokcjbbmaaW.PrintWords Go.Proofs.YtfpjkiokcjbbmaaW.PrintLast Go.Proofs.YtfpjkiokcjbbmaaW.PrintMore

/-- A row of integers of the call's own. -/
def Row (w : World) (base : Nat) (v : Value) (xs : List Int) : Prop := dI.R 3 w base (fun k => some k = v.ownBlock) v xs
/-- Two rows lie apart. -/
def Apart (v u : Value) : Prop := ∀ k, v.ownBlock = some k → u.ownBlock ≠ some k
section
variable {w w1 : World} {base p m1 m2 : Nat} {E : Ep} {u v v1 : Value} {xs ys : List Int}
theorem Row.nil : Row w base (.slice none 0 0) [] := Kd.R_nil _ _ _ _ _
theorem Row.form (h : Row w base v xs) : ∃ A c, v = .slice A xs.length c ∧ xs.length ≤ c ∧ dI.C w A xs.length xs := by
  obtain ⟨A, c, e, h1, h2⟩ := Kd.R_reads h
  exact ⟨A, c, e, h1, h2⟩
theorem Row.typed (h : Row w base v xs) : ∀ k, v.ownBlock = some k → ∃ cs, w.heap[k]? = some (.cells cs 3 (0, 0)) := Kd.Q_typed (Kd.Q_of_R h)
theorem Row.base_le (h : Row w base v xs) : ∀ k, v.ownBlock = some k → base ≤ k := Kd.R_base h
theorem Row.lt (h : Row w base v xs) : ∀ k, v.ownBlock = some k → k < w.heap.size := Kd.R_lt h
theorem Row.below (h : Row w base v xs) (hb : Below w.heap.size w w1) : Row w1 base v xs := Kd.R_below h hb
theorem Row.lower {base' : Nat} (h : Row w base v xs) (hb : base' ≤ base) : Row w base' v xs := Kd.R_lower h hb
theorem Row.grown (h : Row w base v xs) {row : Option Nat} (hg : w.grownBy w1 row) (hne : ∀ k, v.ownBlock = some k → row ≠ some k) : Row w1 base v xs :=
  Kd.R_grown h hg (fun k hk e => hne k hk.symm e.symm)
theorem Row.turn (h : Row w base v xs) (hE : EpAt w base p m1 m2 E) (hT : Turn (SE base p m1 m2 w) w w1) : Row w1 base v xs := by
  obtain ⟨h1, h2, h3, h4, h5, h6, v', hp, hq'⟩ := hE
  have ht := h.typed
  refine Kd.R_step h (fun k hk hlt => hT.kept.2 k hlt ?_)
  obtain ⟨cs, hc⟩ := ht k hk.symm
  rintro ⟨_, rfl | rfl | rfl | ⟨cs', hc'⟩⟩
  · rw [hp] at hc; injection hc with hc; injection hc with _ hc; cases hc
  · obtain ⟨es, clk, hb, _⟩ := h5; rw [hb] at hc; cases hc
  · obtain ⟨es, clk, hb, _⟩ := h6; rw [hb] at hc; cases hc
  · rw [hc'] at hc; injection hc with hc; injection hc with _ hc; cases hc
theorem EpAt.grow (h : EpAt w base p m1 m2 E) {row : Option Nat} (hg : w.grownBy w1 row) (ht : ∀ k, row = some k → ∃ cs, w.heap[k]? = some (.cells cs 3 (0, 0))) : EpAt w1 base p m1 m2 E := by
  obtain ⟨h1, h2, h3, h4, h5, h6, v', hp, hq'⟩ := h
  have hn : ∀ k o, w.heap[k]? = some o → (∀ cs, o ≠ .cells cs 3 (0, 0)) → some k ≠ row := by
    intro k o ho hno e
    obtain ⟨cs, hc⟩ := ht k e.symm
    rw [ho] at hc
    injection hc with hc
    exact hno cs hc
  have hplt : p < w.heap.size := (Array.getElem?_eq_some_iff.1 hp).1
  refine ⟨h1, h2, h3, h4, ?_, ?_, v', (hg.block p hplt (hn p _ hp (by simp))).trans hp, ?_⟩
  · obtain ⟨es, clk, hb, _⟩ := id h5; exact h5.keep (hg.block m1 h5.lt (hn m1 _ hb (by simp)))
  · obtain ⟨es, clk, hb, _⟩ := id h6; exact h6.keep (hg.block m2 h6.lt (hn m2 _ hb (by simp)))
  · refine Kd.Q_step (Kd.Q_mono (Kd.Q_bound hq') (ok' := fun k => some k ≠ row) ?_) (fun k hk hlt => hg.block k hlt hk) |> fun h => Kd.Q_mono h (fun _ _ => trivial)
    rintro k ⟨_, _, _, t, ht2, cs, hc⟩
    have : t = 68 := by simpa [Kd.pair, Kd.int, Kd.scalar] using ht2
    subst this
    exact hn k _ hc (by simp)
theorem Apart.next (h : Apart u v) (hu : Row w base u ys) (hat : v1.ownBlock = v.ownBlock ∨ ∃ b, v1.ownBlock = some b ∧ w.heap.size ≤ b) : Apart u v1 := by
  intro k hk e
  rcases hat with hat | ⟨b, hb, hle⟩
  · rw [hat] at e; exact h k hk e
  · rw [hb] at e; injection e with e; subst e; have := hu.lt b hk; omega
theorem Apart.symm (h : Apart u v) : Apart v u := fun k hk e => h k e hk
theorem dI_KM {W w : World} {base : Nat} {okp : Nat → Prop} (x : Int) (cs : List Value) (h : dI.K w x cs) : dI.M W base okp x cs := h
theorem R_free (h : Row w base v xs) : dI.R 3 w base (fun _ => True) v xs := Kd.R_mono h (fun _ _ => trivial)
theorem Row.of (h : dI.R 3 w base (fun _ => True) v xs) : Row w base v xs := Kd.R_tight rfl h
end
end Go.Proofs.Ytfpjkiokcjbbmaa
