/- An argument's data, opened by its kind: what reads as data of a type is a value of the kind. -/
import Derived.Test.YtfpjkiokcjbbmaaWMore
import Derived.Deep.Slices
import Derived.OpenShut
namespace Go.Proofs.Ytfpjkiokcjbbmaa
open Go.RowKit Go.Deep Go.Proofs.YtfpjkiokcjbbmaaW.PrintWords

/-- Whatever reads as data of type t is of the kind d, and good. -/
structure Opens (P : Program) (t : TypeId) {α : Type} (d : Kd α) (good : α → Prop) : Prop where
  sz : P.cellsOf t = d.sz
  get : ∀ {H : Type} {enc : TypeId × Value → H} {w : World} {held : Bool} {fuel : Nat} {cs : List Value} {x : DataW H × List MemPlace},
    DataW.trod enc P w 0 (fun _ => true) held fuel t cs = some x → ∃ y : α, d.K w y cs ∧ good y
/-- .. of a row of fields, from an offset on. -/
structure OpensFs (P : Program) (fs : List Field) (off : Nat) {α : Type} (d : Kd α) (good : α → Prop) : Prop where
  get : ∀ {H : Type} {enc : TypeId × Value → H} {w : World} {held : Bool} {n : Nat} {cs : List Value},
    cs.length = off + d.sz → (∀ f ∈ fs, ∃ x, DataW.trod enc P w 0 (fun _ => true) held n f.type ((cs.drop f.offset).take (P.cellsOf f.type)) = some x) → ∃ y : α, d.K w y (cs.drop off) ∧ good y

section
variable {P : Program} {t e : TypeId} {α β : Type}
theorem Opens.imp {d : Kd α} {good good' : α → Prop} (h : Opens P t d good) (hg : ∀ y, good y → good' y) : Opens P t d good' :=
  ⟨h.sz, fun h2 => by obtain ⟨y, h1, h3⟩ := h.get h2; exact ⟨y, h1, hg y h3⟩⟩
theorem opens_int {k : IntKind} (ht : P.underlying t = some (.int k)) (hc : P.cellsOf t = 1) : Opens P t (Kd.int k) (fun n => (Lit.int k n).wf = true) :=
  ⟨hc, fun h => by obtain ⟨n, rfl, _, hw⟩ := DataW.trod_int ht h; exact ⟨n, rfl, hw⟩⟩
theorem opens_bool (ht : P.underlying t = some .bool) (hc : P.cellsOf t = 1) : Opens P t Kd.bool (fun _ => True) :=
  ⟨hc, fun h => by obtain ⟨n, rfl, _⟩ := DataW.trod_bool ht h; exact ⟨n, rfl, trivial⟩⟩
theorem opens_string (ht : P.underlying t = some .string) (hc : P.cellsOf t = 1) : Opens P t Kd.string (fun s => s.size ≤ maxLen) :=
  ⟨hc, fun h => by obtain ⟨n, rfl, _, hw⟩ := DataW.trod_string ht h; exact ⟨n, rfl, hw⟩⟩
theorem opens_slice {d : Kd α} {good : α → Prop} (ht : P.underlying t = some (.slice e)) (hc : P.cellsOf t = 1) (he : Opens P e d good) : Opens P t (Kd.slice e d) (fun l => l.length ≤ maxLen ∧ ∀ x ∈ l, good x) := by
  refine ⟨hc, fun {H enc w held fuel cs x} h => ?_⟩
  rcases open_slice ht h with ⟨rfl, _⟩ | ⟨a, len, cap, m, n, D, Pl, rfl, _, hl, hm, hmm, _, hx⟩
  · exact ⟨[], ⟨none, 0, rfl, Nat.le_refl _, Kd.C_nil d w⟩, by simp, by simp⟩
  · have hm' : m = cap := by simpa using hmm
    subst hm'
    have hall : ∀ i, i < len → ∃ y : α, good y ∧ ∃ c, c.length = d.sz ∧ d.K w y c ∧ ∀ j u, c[j]? = some u → w.cell? (a.add (i * d.sz + j)) = some u := by
      intro i hi
      obtain ⟨cs', h1, h2⟩ := hx i (by omega)
      obtain ⟨y, hy, hg⟩ := he.get h2
      obtain ⟨_, hlen, hcell⟩ := World.cells?_some h1
      refine ⟨y, hg, cs', d.K_len hy, hy, fun j u hu => ?_⟩
      have := hcell j (by have := (List.getElem?_eq_some_iff.1 hu).1; omega)
      rw [Go.Deep.add_add, he.sz, hu] at this
      exact this
    clear hx hc
    have hch : ∀ (k : Nat), k ≤ len → ∃ l : List α, l.length = k ∧ (∀ x ∈ l, good x) ∧ ∀ j p, l[j]? = some p → ∃ c, c.length = d.sz ∧ d.K w p c ∧ ∀ i u, c[i]? = some u → w.cell? (a.add (j * d.sz + i)) = some u := by
      intro k
      induction k with
      | zero => exact fun _ => ⟨[], rfl, by simp, by simp⟩
      | succ k ih =>
        intro hk
        obtain ⟨l, h1, h2, h3⟩ := ih (by omega)
        obtain ⟨y, hg, hy⟩ := hall k (by omega)
        refine ⟨l ++ [y], by simp [h1], ?_, ?_⟩
        · intro x hx
          rcases List.mem_append.1 hx with hx | hx
          · exact h2 x hx
          · simp at hx; subst hx; exact hg
        · intro j p hp
          by_cases hj : j < k
          · rw [List.getElem?_append_left (by omega)] at hp
            exact h3 j p hp
          · have hlt := (List.getElem?_eq_some_iff.1 hp).1
            simp [h1] at hlt
            have : j = k := by omega
            subst this
            rw [List.getElem?_append_right (by omega)] at hp
            simp [h1] at hp
            subst hp
            exact hy
    obtain ⟨l, h1, h2, h3⟩ := hch len (Nat.le_refl _)
    subst h1
    exact ⟨l, ⟨some a, m, rfl, hl, rfl, by simp only [maxLen] at hm; omega, fun _ => ⟨a, rfl, h3⟩⟩, by omega, h2⟩
theorem opens_one {f : Field} {off : Nat} {d : Kd α} {good : α → Prop} (ho : f.offset = off) (h : Opens P f.type d good) : OpensFs P [f] off d good := by
  refine ⟨fun {H enc w held n cs} hl hf => ?_⟩
  obtain ⟨x, hx⟩ := hf f (List.mem_singleton.2 rfl)
  obtain ⟨y, hy, hg⟩ := h.get hx
  refine ⟨y, ?_, hg⟩
  rw [ho, List.take_of_length_le (by rw [List.length_drop, h.sz]; omega)] at hy
  exact hy
theorem opens_more {f : Field} {fs : List Field} {off off1 : Nat} {d : Kd α} {d1 : Kd β} {good : α → Prop} {good1 : β → Prop} (ho : f.offset = off) (h : Opens P f.type d good) (ho1 : off1 = off + d.sz) (h1 : OpensFs P fs off1 d1 good1) :
    OpensFs P (f :: fs) off (Kd.pair d d1) (fun y => good y.1 ∧ good1 y.2) := by
  refine ⟨fun {H enc w held n cs} hl hf => ?_⟩
  obtain ⟨x, hx⟩ := hf f (List.mem_cons_self ..)
  obtain ⟨y, hy, hg⟩ := h.get hx
  have hsz : (Kd.pair d d1).sz = d.sz + d1.sz := rfl
  obtain ⟨z, hz, hgz⟩ := h1.get (cs := cs) (by rw [hl, hsz]; omega) (fun f hf1 => hf f (List.mem_cons_of_mem _ hf1))
  refine ⟨(y, z), ⟨_, _, ?_, hy, hz⟩, hg, hgz⟩
  rw [ho, h.sz, ho1, ← List.drop_drop, List.take_append_drop]
theorem opens_struct {fs : Array Field} {d : Kd α} {good : α → Prop} (ht : P.underlying t = some (.struct fs)) (hc : P.cellsOf t = d.sz) (h : OpensFs P fs.toList 0 d good) : Opens P t d good := by
  refine ⟨hc, fun {H enc w held fuel cs x} hx => ?_⟩
  obtain ⟨xs, n, _, _, hl, hn, hf⟩ := DataW.trod_struct ht hx
  obtain ⟨y, hy, hg⟩ := h.get (enc := enc) (w := w) (held := held) (n := n) (cs := cs) (by rw [hl, hc]; omega) (fun f hm => by
    obtain ⟨i, hi, rfl⟩ := List.mem_iff_getElem.1 hm
    have hi' : i < fs.size := by simpa using hi
    have := hf i fs[i] (by simp [hi'])
    rw [List.getElem?_eq_getElem (by omega)] at this
    exact ⟨_, by simpa using this⟩)
  exact ⟨y, by simpa using hy, hg⟩
theorem opens_iso {d : Kd α} {good : α → Prop} (h : Opens P t d good) (f : β → α) (g : α → β) (hfg : ∀ y, f (g y) = y) : Opens P t (Kd.iso d f) (fun y => good (f y)) :=
  ⟨h.sz, fun h2 => by obtain ⟨y, hy, hg⟩ := h.get h2; exact ⟨g y, by show d.K _ (f (g y)) _; rw [hfg]; exact hy, by show good (f (g y)); rw [hfg]; exact hg⟩⟩
/-- A slice that came in. -/
theorem Opens.arg {H : Type} {enc : TypeId × Value → H} {w : World} {held : Bool} {d : Kd α} {good : List α → Prop} {a : Option Addr} {len cap : Nat} {x : DataW H} {ps : List MemPlace} (h : Opens P t (Kd.slice e d) good)
    (hx : DataW.Trod enc P w 0 (fun _ => true) held t (.slice a len cap) x ps) : ∃ l : List α, len = l.length ∧ l.length ≤ cap ∧ d.C w a l.length l ∧ good l := by
  obtain ⟨fuel, hx⟩ := hx
  obtain ⟨l, ⟨A, c, e1, hl, hC⟩, hg⟩ := h.get hx
  simp [Value.cells] at e1
  obtain ⟨rfl, rfl, rfl⟩ := e1
  exact ⟨l, rfl, hl, hC, hg⟩
end
end Go.Proofs.Ytfpjkiokcjbbmaa
