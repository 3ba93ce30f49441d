/- The plain law of EpochFreesNoHeldBlock: what eight readers hold of 16 blocks. -/
import Derived.Test.YtfpjkiokcjbbmaaWaits
namespace Go.Proofs.Ytfpjkiokcjbbmaa
open Go.RowKit

/-- The law's four tables beside the epochs. -/
structure Hd (E : Ep) (ac li wa he : List Bool) : Prop where
  inv : E.Inv
  la : ac.length = 8
  ll : li.length = 16
  lw : wa.length = 16
  lh : he.length = 128
  act : ∀ r : Nat, r < 8 → (ac.getD r false = true ↔ (r : Int) ∈ E.rd.map (·.1))
  wai : ∀ n : Nat, n < 16 → (wa.getD n false = true ↔ (n : Int) ∈ E.q.map (·.1))
  qr : ∀ x ∈ E.q, ∃ n : Nat, n < 16 ∧ x.1 = n
  lk : ∀ n : Nat, n < 16 → li.getD n false = true → wa.getD n false = false
  hel : ∀ r n : Nat, r < 8 → n < 16 → he.getD (r * 16 + n) false = true → ∃ e, ((r : Int), e) ∈ E.rd ∧ ∀ m, ((n : Int), m) ∈ E.q → e ≤ m

theorem getD_set' (l : List Bool) (i j : Nat) (v : Bool) (hi : i < l.length) : (l.set i v).getD j false = if i = j then v else l.getD j false := by
  simp only [List.getD_eq_getElem?_getD, List.getElem?_set]
  split
  · simp [hi]
  · rfl
theorem getD_rep (n j : Nat) : (List.replicate n false).getD j false = false := by
  simp only [List.getD_eq_getElem?_getD, List.getElem?_replicate]
  split <;> rfl
theorem Hd.start : Hd ⟨[], [], [], 1⟩ (List.replicate 8 false) (List.replicate 16 false) (List.replicate 16 false) (List.replicate 128 false) :=
  ⟨Ep.Inv.start, by simp, by simp, by simp, by simp, fun r _ => by rw [getD_rep]; simp, fun r _ => by rw [getD_rep]; simp, by simp, fun n _ h => absurd h (by rw [getD_rep]; simp), fun r n _ _ h => absurd h (by rw [getD_rep]; simp)⟩

/-- Stores in a row. -/
def setMany : List Bool → Nat → List Bool → List Bool
  | l, _, [] => l
  | l, o, v :: vs => setMany (l.set o v) (o + 1) vs
theorem setMany_length : ∀ (vs l : List Bool) (o : Nat), (setMany l o vs).length = l.length
  | [], _, _ => rfl
  | v :: vs, l, o => by rw [setMany, setMany_length vs]; simp
theorem setMany_getD : ∀ (vs l : List Bool) (o j : Nat), o + vs.length ≤ l.length → (setMany l o vs).getD j false = if o ≤ j ∧ j < o + vs.length then vs.getD (j - o) false else l.getD j false
  | [], l, o, j, _ => by rw [setMany, if_neg (by simp)]
  | v :: vs, l, o, j, h => by
    simp only [List.length_cons] at h
    rw [setMany, setMany_getD vs _ (o + 1) j (by simp; omega), getD_set' _ _ _ _ (by omega)]
    simp only [List.length_cons]
    by_cases e : o = j
    · subst e
      rw [if_neg (by omega), if_pos rfl, if_pos (by omega)]
      simp
    · rw [if_neg e]
      by_cases h1 : o + 1 ≤ j ∧ j < o + 1 + vs.length
      · rw [if_pos h1, if_pos (by omega)]
        have : j - o = (j - (o + 1)) + 1 := by omega
        rw [this]; simp
      · rw [if_neg h1, if_neg (by omega)]
/-- The row of a reader, cleared. -/
def clr (he : List Bool) (r : Nat) : List Bool := setMany he (r * 16) (List.replicate 16 false)
theorem clr_length (he : List Bool) (r : Nat) (h : he.length = 128) (_hr : r < 8) : (clr he r).length = 128 := by rw [clr, setMany_length, h]
theorem clr_getD (he : List Bool) (r : Nat) (h : he.length = 128) (hr : r < 8) (q n : Nat) (hn : n < 16) : (clr he r).getD (q * 16 + n) false = if q = r then false else he.getD (q * 16 + n) false := by
  rw [clr, setMany_getD _ _ _ _ (by simp; omega)]
  simp only [List.length_replicate]
  by_cases hq : q = r
  · subst hq
    rw [if_pos (by omega), if_pos rfl, getD_rep]
  · rw [if_neg (by omega), if_neg hq]

section
variable {E : Ep} {ac li wa he : List Bool} (h : Hd E ac li wa he)
include h
theorem Hd.enter {r : Nat} (hr : r < 8) (ha : ac.getD r false = false) : (E.enter r).1 = 0 ∧ Hd (E.enter r).2 (ac.set r true) li wa he := by
  have hn : mget (r : Int) E.rd = none := by
    rw [mget_none]
    intro hm
    rw [(h.act r hr).2 hm] at ha; cases ha
  have hinv := h.inv.enter r
  have e1 : E.enter r = (0, { E with rd := E.rd ++ [((r : Int), E.now)] }) := by unfold Ep.enter; rw [hn]; dsimp only; rw [mput_of_none _ hn]
  rw [e1] at hinv ⊢
  refine ⟨rfl, hinv, by simp [h.la], h.ll, h.lw, h.lh, ?_, h.wai, h.qr, h.lk, ?_⟩
  · intro q hq
    rw [getD_set' _ _ _ _ (by rw [h.la]; exact hr)]
    simp only [List.map_append, List.map_cons, List.map_nil, List.mem_append, List.mem_singleton]
    by_cases e : r = q
    · subst e; simp
    · rw [if_neg e, h.act q hq]
      constructor
      · exact .inl
      · rintro (h1 | h1)
        · exact h1
        · omega
  · intro q n hq hn h1
    obtain ⟨e, he, hle⟩ := h.hel q n hq hn h1
    exact ⟨e, List.mem_append_left _ he, hle⟩
theorem Hd.twice {r : Nat} (hr : r < 8) (ha : ac.getD r false = true) : E.enter r = (6, E) := by
  have hm := (h.act r hr).1 ha
  unfold Ep.enter
  cases hg : mget (r : Int) E.rd with
  | none => exact absurd hm (mget_none.1 hg)
  | some v => rfl
theorem Hd.leave {r : Nat} (hr : r < 8) (ha : ac.getD r false = true) : (E.leave r).1 = 0 ∧ Hd (E.leave r).2 (ac.set r false) li wa (clr he r) := by
  have hm := (h.act r hr).1 ha
  have hinv := h.inv.leave r
  have e1 : E.leave r = (0, { E with rd := E.rd.filter fun x => x.1 != (r : Int) }) := by
    unfold Ep.leave
    cases hg : mget (r : Int) E.rd with
    | none => exact absurd hm (mget_none.1 hg)
    | some v => dsimp only; rw [mdel_filter _ _ h.inv.rdn]
  rw [e1] at hinv ⊢
  refine ⟨rfl, hinv, by simp [h.la], h.ll, h.lw, clr_length he r h.lh hr, ?_, h.wai, h.qr, h.lk, ?_⟩
  · intro q hq
    rw [getD_set' _ _ _ _ (by rw [h.la]; exact hr)]
    simp only [List.mem_map, List.mem_filter, bne_iff_ne, ne_eq]
    by_cases e : r = q
    · subst e
      simp only [if_true, Bool.false_eq_true, false_iff]
      rintro ⟨x, ⟨_, h2⟩, h3⟩
      exact h2 h3
    · rw [if_neg e, h.act q hq, List.mem_map]
      constructor
      · rintro ⟨x, h1, h2⟩
        exact ⟨x, ⟨h1, by rw [h2]; omega⟩, h2⟩
      · rintro ⟨x, ⟨h1, _⟩, h2⟩
        exact ⟨x, h1, h2⟩
  · intro q n hq hn h1
    rw [clr_getD he r h.lh hr q n hn] at h1
    split at h1
    · cases h1
    · rename_i hne
      obtain ⟨e, he, hle⟩ := h.hel q n hq hn h1
      exact ⟨e, List.mem_filter.2 ⟨he, by simp; omega⟩, hle⟩
theorem Hd.link {n : Nat} (hn : n < 16) : Hd E ac (li.set n (li.getD n false || !wa.getD n false)) wa he := by
  refine ⟨h.inv, h.la, by simp [h.ll], h.lw, h.lh, h.act, h.wai, h.qr, ?_, h.hel⟩
  intro k hk h1
  rw [getD_set' _ _ _ _ (by rw [h.ll]; exact hn)] at h1
  split at h1
  · rename_i e
    subst e
    rcases Bool.or_eq_true_iff.1 h1 with h1 | h1
    · exact h.lk n hn h1
    · simpa using h1
  · exact h.lk k hk h1
theorem Hd.retire {n : Nat} (hn : n < 16) (hl : li.getD n false = true) : (E.retire [(n : Int)]).1 = 0 ∧ Hd (E.retire [(n : Int)]).2 ac (li.set n false) (wa.set n true) he := by
  have hw := h.lk n hn hl
  have hnm : (n : Int) ∉ E.q.map (·.1) := fun hm => by rw [(h.wai n hn).2 hm] at hw; cases hw
  have hb := (h.inv.bad [(n : Int)]).2 ⟨by simpa using hnm, by simp⟩
  have e1 : E.retire [(n : Int)] = (0, { E with bl := mputs [(n : Int)] E.bl, q := qpush E.q E.now [(n : Int)], now := E.now + 1 }) := by
    unfold Ep.retire; rw [hb, if_neg (by simp)]
  have hinv := h.inv.retire [(n : Int)]
  rw [e1] at hinv ⊢
  refine ⟨rfl, hinv, h.la, by simp [h.ll], by simp [h.lw], h.lh, h.act, ?_, ?_, ?_, ?_⟩
  · intro k hk
    rw [getD_set' _ _ _ _ (by rw [h.lw]; exact hn)]
    simp only [qpush, List.map_append, List.map_cons, List.map_nil, List.mem_append, List.mem_singleton]
    by_cases e : n = k
    · subst e; simp
    · rw [if_neg e, h.wai k hk]
      constructor
      · exact .inl
      · rintro (h1 | h1)
        · exact h1
        · omega
  · intro x hx
    simp only [qpush, List.map_cons, List.map_nil, List.mem_append, List.mem_singleton] at hx
    rcases hx with hx | rfl
    · exact h.qr x hx
    · exact ⟨n, hn, rfl⟩
  · intro k hk h1
    rw [getD_set' _ _ _ _ (by rw [h.ll]; exact hn)] at h1
    rw [getD_set' _ _ _ _ (by rw [h.lw]; exact hn)]
    split at h1
    · cases h1
    · rename_i e
      rw [if_neg e]; exact h.lk k hk h1
  · intro q k hq hk h1
    obtain ⟨e, he, hle⟩ := h.hel q k hq hk h1
    refine ⟨e, he, fun m hm => ?_⟩
    simp only [qpush, List.map_cons, List.map_nil, List.mem_append, List.mem_singleton] at hm
    rcases hm with hm | hm
    · exact hle m hm
    · injection hm with _ hm
      subst hm
      exact h.inv.rde _ he
theorem Hd.hold {r n : Nat} (hr : r < 8) (hn : n < 16) : Hd E ac li wa (he.set (r * 16 + n) (he.getD (r * 16 + n) false || (ac.getD r false && li.getD n false))) := by
  refine ⟨h.inv, h.la, h.ll, h.lw, by simp [h.lh], h.act, h.wai, h.qr, h.lk, ?_⟩
  intro q k hq hk h1
  rw [getD_set' _ _ _ _ (by rw [h.lh]; omega)] at h1
  split at h1
  · rename_i e
    have e1 : r = q := by omega
    have e2 : n = k := by omega
    subst e1 e2
    rcases Bool.or_eq_true_iff.1 h1 with h1 | h1
    · exact h.hel r n hr hn h1
    · obtain ⟨h2, h3⟩ := Bool.and_eq_true_iff.1 h1
      obtain ⟨x, hx, hxr⟩ := List.mem_map.1 ((h.act r hr).1 h2)
      have hw := h.lk n hn h3
      refine ⟨x.2, by rw [← hxr]; exact hx, fun m hm => ?_⟩
      have := (h.wai n hn).2 (List.mem_map_of_mem (f := fun x : Int × Int => x.1) hm)
      rw [this] at hw; cases hw
  · exact h.hel q k hq hk h1
/-- What Free gives back. -/
theorem Hd.freed {x : Int} (hx : x ∈ E.free.1) : ∃ n : Nat, n < 16 ∧ x = n ∧ wa.getD n false = true ∧ ∀ q : Nat, q < 8 → he.getD (q * 16 + n) false = false := by
  obtain ⟨m, hm, hlt⟩ := (mem_free h.inv x).1 hx
  obtain ⟨n, hn, hxn⟩ := h.qr _ hm
  dsimp only at hxn
  subst hxn
  refine ⟨n, hn, rfl, (h.wai n hn).2 (List.mem_map_of_mem (f := fun x : Int × Int => x.1) hm), fun q hq => ?_⟩
  cases hh : he.getD (q * 16 + n) false with
  | false => rfl
  | true =>
    obtain ⟨e, he, hle⟩ := h.hel q n hq hn hh
    have h1 := hle m hm
    have h2 := least_le he
    dsimp only at h2
    omega
end
/-- The tables behind the blocks that are given back. -/
def unw (wa : List Bool) (l : List Int) : List Bool := l.foldl (fun wa x => wa.set x.toNat false) wa
theorem unw_length : ∀ (l : List Int) (wa : List Bool), (unw wa l).length = wa.length
  | [], _ => rfl
  | x :: l, wa => by rw [show unw wa (x :: l) = unw (wa.set x.toNat false) l from rfl, unw_length l]; simp
theorem unw_getD : ∀ (l : List Int) (wa : List Bool) (n : Nat), n < wa.length → (∀ x ∈ l, 0 ≤ x ∧ x < wa.length) → (unw wa l).getD n false = (wa.getD n false && decide ((n : Int) ∉ l))
  | [], wa, n, _, _ => by simp [unw]
  | x :: l, wa, n, hn, hl => by
    obtain ⟨h0, h1⟩ := hl x (List.mem_cons_self ..)
    rw [show unw wa (x :: l) = unw (wa.set x.toNat false) l from rfl, unw_getD l _ n (by simpa using hn) (fun y hy => by simpa using hl y (List.mem_cons_of_mem _ hy)), getD_set' _ _ _ _ (by omega)]
    by_cases e : x.toNat = n
    · rw [if_pos e]
      have : (n : Int) = x := by omega
      simp [this]
    · rw [if_neg e]
      have : (n : Int) ≠ x := by omega
      simp [this]
theorem Hd.free {E : Ep} {ac li wa he : List Bool} (h : Hd E ac li wa he) : Hd E.free.2 ac li (unw wa E.free.1) he := by
  have hb : ∀ x ∈ E.free.1, 0 ≤ x ∧ x < wa.length := fun x hx => by
    obtain ⟨n, hn, rfl, _⟩ := h.freed hx
    rw [h.lw]; omega
  have hg : ∀ n : Nat, n < 16 → (unw wa E.free.1).getD n false = (wa.getD n false && decide ((n : Int) ∉ E.free.1)) := fun n hn => unw_getD _ wa n (by rw [h.lw]; exact hn) hb
  refine ⟨h.inv.free, h.la, h.ll, by rw [unw_length, h.lw], h.lh, h.act, ?_, ?_, ?_, ?_⟩
  · intro n hn
    rw [hg n hn, Bool.and_eq_true, h.wai n hn, decide_eq_true_eq, mem_free h.inv]
    simp only [List.mem_map]
    constructor
    · rintro ⟨⟨x, hx, hxn⟩, h2⟩
      refine ⟨x, (mem_left h.inv x).2 ⟨hx, fun hlt => h2 ⟨x.2, by rw [← hxn]; exact hx, hlt⟩⟩, hxn⟩
    · rintro ⟨x, hx, hxn⟩
      obtain ⟨h1, h2⟩ := (mem_left h.inv x).1 hx
      refine ⟨⟨x, h1, hxn⟩, ?_⟩
      rintro ⟨m, hm, hlt⟩
      have : x.2 = m := same_name h.inv.qn (b := (n : Int)) (by rw [← hxn]; exact h1) hm
      omega
  · exact fun x hx => h.qr x ((mem_left h.inv x).1 hx).1
  · intro n hn h1
    rw [hg n hn, h.lk n hn h1]; rfl
  · intro q n hq hn h1
    obtain ⟨e, he, hle⟩ := h.hel q n hq hn h1
    exact ⟨e, he, fun m hm => hle m ((mem_left h.inv _).1 hm).1⟩
end Go.Proofs.Ytfpjkiokcjbbmaa
