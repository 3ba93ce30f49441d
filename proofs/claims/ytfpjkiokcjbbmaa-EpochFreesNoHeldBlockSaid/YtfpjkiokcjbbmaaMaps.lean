/- Ordered maps: a map's block reads as a list of keys and values, in the order of insertion. Laws for look-up, store, delete, length. -/
import Derived.Maps.OwnSet
import Derived.WalkKit
namespace Go.Proofs.Ytfpjkiokcjbbmaa
open Go.RowKit Go.Maps Go.MapKept

section
variable {K α : Type} [DecidableEq K]

/-- The value at a key. -/
def mget (k : K) : List (K × α) → Option α
  | [] => none
  | p :: l => if p.1 = k then some p.2 else mget k l
/-- A store. -/
def mput (k : K) (v : α) : List (K × α) → List (K × α)
  | [] => [(k, v)]
  | p :: l => if p.1 = k then (k, v) :: l else p :: mput k v l
/-- A deletion. -/
def mdel (k : K) : List (K × α) → List (K × α)
  | [] => []
  | p :: l => if p.1 = k then l else p :: mdel k l

theorem mget_some_mem {k : K} {v : α} : ∀ {l : List (K × α)}, mget k l = some v → (k, v) ∈ l
  | [], h => by simp [mget] at h
  | p :: l, h => by
    unfold mget at h
    split at h
    · rename_i e
      cases h
      subst e
      exact List.mem_cons_self
    · exact List.mem_cons_of_mem _ (mget_some_mem h)
theorem mget_none {k : K} : ∀ {l : List (K × α)}, mget k l = none ↔ k ∉ l.map (·.1)
  | [] => by simp [mget]
  | p :: l => by
    unfold mget
    split
    · rename_i e
      subst e
      simp
    · rename_i e
      rw [mget_none (l := l)]
      simp only [List.map_cons, List.mem_cons, not_or]
      exact ⟨fun h => ⟨fun x => e x.symm, h⟩, fun h => h.2⟩
theorem mput_keys (k : K) (v : α) : ∀ (l : List (K × α)), (mput k v l).map (·.1) = if k ∈ l.map (·.1) then l.map (·.1) else l.map (·.1) ++ [k]
  | [] => by simp [mput]
  | p :: l => by
    unfold mput
    by_cases e : p.1 = k
    · rw [if_pos e]; subst e; simp
    · rw [if_neg e]
      simp only [List.map_cons, mput_keys k v l]
      by_cases h : k ∈ l.map (·.1)
      · rw [if_pos h, if_pos (by simp; exact .inr (by simpa using h))]
      · rw [if_neg h, if_neg (by
          intro hx
          rcases List.mem_cons.1 hx with hx | hx
          · exact e hx.symm
          · exact h hx)]
        rfl
theorem mput_length (k : K) (v : α) (l : List (K × α)) : (mput k v l).length ≤ l.length + 1 := by
  have h := congrArg List.length (mput_keys k v l)
  split at h <;> simp at h <;> omega
theorem mdel_sublist (k : K) : ∀ (l : List (K × α)), (mdel k l).Sublist l
  | [] => List.Sublist.refl _
  | p :: l => by
    unfold mdel
    split
    · exact List.sublist_cons_self _ _
    · exact (mdel_sublist k l).cons_cons _
theorem mget_mput_same (k : K) (v : α) : ∀ (l : List (K × α)), mget k (mput k v l) = some v
  | [] => by simp [mput, mget]
  | p :: l => by
    unfold mput
    split
    · simp [mget]
    · rename_i e
      simp [mget, e, mget_mput_same k v l]
theorem mget_mput_other {k j : K} (v : α) (hne : j ≠ k) : ∀ (l : List (K × α)), mget j (mput k v l) = mget j l
  | [] => by simp [mput, mget, Ne.symm hne]
  | p :: l => by
    unfold mput
    split
    · rename_i e
      simp [mget, e, Ne.symm hne]
    · simp only [mget]
      split
      · rfl
      · exact mget_mput_other v hne l
theorem mget_mput (k j : K) (v : α) (l : List (K × α)) : mget j (mput k v l) = if j = k then some v else mget j l := by
  split
  · rename_i e; subst e; exact mget_mput_same _ _ _
  · rename_i e; exact mget_mput_other v e l
theorem mget_mdel (k j : K) : ∀ (l : List (K × α)), (l.map (·.1)).Nodup → mget j (mdel k l) = if j = k then none else mget j l
  | [], _ => by simp [mdel, mget]
  | p :: l, hd => by
    simp only [List.map_cons, List.nodup_cons] at hd
    unfold mdel
    split
    · rename_i e
      subst e
      split
      · rename_i e; subst e
        exact mget_none.2 hd.1
      · rename_i e
        simp [mget, Ne.symm e]
    · rename_i e
      simp only [mget]
      split
      · rename_i e2
        rw [if_neg (by intro e3; exact e (e2.trans e3))]
      · exact mget_mdel k j l hd.2

theorem mget_of_mem {k : K} {v : α} : ∀ {l : List (K × α)}, (l.map (·.1)).Nodup → (k, v) ∈ l → mget k l = some v
  | [], _, h => by simp at h
  | p :: l, hd, h => by
    simp only [List.map_cons, List.nodup_cons] at hd
    unfold mget
    rcases List.mem_cons.1 h with h | h
    · subst h; simp
    · rw [if_neg (by intro e; subst e; exact hd.1 (List.mem_map.2 ⟨_, h, rfl⟩))]
      exact mget_of_mem hd.2 h
theorem mdel_of_none {k : K} : ∀ {l : List (K × α)}, mget k l = none → mdel k l = l
  | [], _ => rfl
  | p :: l, h => by
    unfold mget at h
    split at h
    · cases h
    · rename_i e
      unfold mdel
      rw [if_neg e, mdel_of_none h]
theorem mput_of_none {k : K} (v : α) : ∀ {l : List (K × α)}, mget k l = none → mput k v l = l ++ [(k, v)]
  | [], _ => rfl
  | p :: l, h => by
    unfold mget at h
    split at h
    · cases h
    · rename_i e
      unfold mput
      rw [if_neg e, mput_of_none v h]
      rfl
theorem mput_at {k : K} (v : α) : ∀ {l : List (K × α)} {j : Nat} {u : α}, (l.map (·.1)).Nodup → l[j]? = some (k, u) → mput k v l = l.set j (k, v)
  | [], _, _, _, h => by simp at h
  | p :: l, 0, u, hd, h => by
    simp at h
    subst h
    simp [mput]
  | p :: l, j + 1, u, hd, h => by
    simp only [List.map_cons, List.nodup_cons] at hd
    simp only [List.getElem?_cons_succ] at h
    unfold mput
    rw [if_neg (by intro e; subst e; exact hd.1 (List.mem_map.2 ⟨_, List.mem_of_getElem? h, rfl⟩))]
    rw [mput_at v hd.2 h]
    rfl
theorem mdel_at {k : K} : ∀ {l : List (K × α)} {j : Nat} {u : α}, (l.map (·.1)).Nodup → l[j]? = some (k, u) → mdel k l = l.eraseIdx j
  | [], _, _, _, h => by simp at h
  | p :: l, 0, u, hd, h => by
    simp at h
    subst h
    simp [mdel]
  | p :: l, j + 1, u, hd, h => by
    simp only [List.map_cons, List.nodup_cons] at hd
    simp only [List.getElem?_cons_succ] at h
    unfold mdel
    rw [if_neg (by intro e; subst e; exact hd.1 (List.mem_map.2 ⟨_, List.mem_of_getElem? h, rfl⟩))]
    rw [mdel_at hd.2 h]
    rfl
end

section
variable {K α : Type}
/-- Block b of w is a map that holds these keys and values, in this order. -/
def MapOf (P : Program) (kt : TypeId) (ek : K → Value) (ev : α → Value) (w : World) (b : Nat) (l : List (K × α)) : Prop :=
  ∃ es clk, w.heap[b]? = some (.map es clk) ∧ Stamped es clk ∧ (es.toList.map fun e => (e.key, e.val)) = l.map (fun p => (ek p.1, ev p.2)) ∧ (∀ p ∈ l, ∃ lt, keyOf P kt (ek p.1) = some lt) ∧ (l.map (·.1)).Nodup

variable {P : Program} {kt et t : TypeId} {ek : K → Value} {ev : α → Value} {w w1 : World} {b : Nat} {l : List (K × α)}

theorem MapOf.made (w : World) : MapOf P kt ek ev (w.alloc (.map #[] 0)) w.heap.size [] :=
  ⟨#[], 0, (MapKept.heap_alloc w _).1, stamped_empty 0, rfl, by simp, by simp⟩
theorem MapOf.lt (h : MapOf P kt ek ev w b l) : b < w.heap.size := by
  obtain ⟨es, clk, hb, _⟩ := h
  exact (Array.getElem?_eq_some_iff.1 hb).1
theorem MapOf.keep (h : MapOf P kt ek ev w b l) (hk : w1.heap[b]? = w.heap[b]?) : MapOf P kt ek ev w1 b l := by
  obtain ⟨es, clk, hb, r⟩ := h
  exact ⟨es, clk, hk.trans hb, r⟩
theorem MapOf.nodup (h : MapOf P kt ek ev w b l) : (l.map (·.1)).Nodup := by
  obtain ⟨es, clk, hb, _, _, _, h⟩ := h
  exact h

theorem map_eraseIdx' {A B : Type} (f : A → B) : ∀ (l : List A) (j : Nat), (l.map f).eraseIdx j = (l.eraseIdx j).map f
  | [], _ => rfl
  | _ :: _, 0 => rfl
  | x :: l, j + 1 => by simp [map_eraseIdx' f l j]

variable [DecidableEq K]
theorem findKey_in (L : Keyed P kt) (hinj : ∀ x y, ek x = ek y → x = y) (w : World) {k : K} (hk : ∃ lt, keyOf P kt (ek k) = some lt)
    (es : List MapEntry) (l : List (K × α)) (he : (es.map fun e => (e.key, e.val)) = l.map (fun p => (ek p.1, ev p.2))) (hl : ∀ p ∈ l, ∃ lt, keyOf P kt (ek p.1) = some lt) (hd : (l.map (·.1)).Nodup) :
    (mget k l = none ∧ (Instr.findKey kt (ek k) es).run P w = .ok none w ∧ ∀ e ∈ es, e.key ≠ ek k) ∨
    ∃ j v e, mget k l = some v ∧ (Instr.findKey kt (ek k) es).run P w = .ok (some (j, ev v)) w ∧ es[j]? = some e ∧ e.key = ek k ∧ l[j]? = some (k, v) := by
  obtain ⟨lt, hlt⟩ := hk
  have hes : ∀ e ∈ es, ∃ l0, keyOf P kt e.key = some l0 := by
    intro e hm
    have : (e.key, e.val) ∈ es.map fun e => (e.key, e.val) := List.mem_map.2 ⟨e, hm, rfl⟩
    rw [he] at this
    obtain ⟨p, hp, hpe⟩ := List.mem_map.1 this
    have h1 : e.key = ek p.1 := (congrArg Prod.fst hpe).symm
    rw [h1]; exact hl p hp
  rcases L.find w hlt es hes with ⟨h1, h2⟩ | ⟨j, e, h1, h2, h3⟩
  · refine .inl ⟨?_, h1, h2⟩
    cases hm : mget k l with
    | none => rfl
    | some v =>
      exfalso
      have hmem := mget_some_mem hm
      have : (ek k, ev v) ∈ es.map fun e => (e.key, e.val) := by
        rw [he]; exact List.mem_map.2 ⟨_, hmem, rfl⟩
      obtain ⟨e, hme, hee⟩ := List.mem_map.1 this
      exact h2 e hme (congrArg Prod.fst hee)
  · have hj : (es.map fun e => (e.key, e.val))[j]? = some (e.key, e.val) := by rw [List.getElem?_map, h2]; rfl
    rw [he, List.getElem?_map] at hj
    obtain ⟨p, hp, hpe⟩ := Option.map_eq_some_iff.1 hj
    have hk1 : p.1 = k := hinj _ _ ((congrArg Prod.fst hpe).trans h3)
    have hv1 : ev p.2 = e.val := congrArg Prod.snd hpe
    have hp' : l[j]? = some (k, p.2) := by rw [hp, ← hk1]
    refine .inr ⟨j, p.2, e, mget_of_mem hd (List.mem_of_getElem? hp'), ?_, h2, h3, hp'⟩
    rw [h1, hv1]

/-- A look-up. -/
theorem MapOf.lookup (h : MapOf P kt ek ev w b l) (L : Keyed P kt) (hinj : ∀ x y, ek x = ek y → x = y) (ht : P.underlying t = some (.map kt et)) {z : Value} (hz : (zeroValue et).run P w = .ok z w) {k : K} (hk : ∃ lt, keyOf P kt (ek k) = some lt) (ok : Bool) :
    (Instr.lookup t (.map (some b)) (ek k) ok).run P w = .ok (if ok then .tuple #[((mget k l).map ev).getD z, .bool (mget k l).isSome] else ((mget k l).map ev).getD z) w := by
  obtain ⟨es, clk, hb, hs, he, hl, hd⟩ := h
  obtain ⟨lt, hlt⟩ := hk
  have hck := L.check w es.isEmpty hlt
  rcases findKey_in L hinj w ⟨lt, hlt⟩ es.toList l he hl hd with ⟨h1, h2, _⟩ | ⟨j, v, e, h1, h2, _⟩
  · simp [Instr.lookup, run_underlying ht, MapKept.run_getObj_map hb, hck, h2, h1, hz, Result.andThen]
  · simp [Instr.lookup, run_underlying ht, MapKept.run_getObj_map hb, hck, h2, h1, Result.andThen]

/-- A store. -/
theorem MapOf.update (h : MapOf P kt ek ev w b l) (L : Keyed P kt) (hinj : ∀ x y, ek x = ek y → x = y) (ht : P.underlying t = some (.map kt et)) {k : K} (hk : ∃ lt, keyOf P kt (ek k) = some lt) (v : α) :
    ∃ w', (Instr.mapUpdate t (.map (some b)) (ek k) (ev v)).run P w = .ok () w' ∧ MapOf P kt ek ev w' b (mput k v l) ∧ w.grownBy w' (some b) := by
  obtain ⟨es, clk, hb, hs, he, hl, hd⟩ := h
  obtain ⟨lt, hlt⟩ := hk
  have hck := L.check w false hlt
  have hgrow : ∀ o, w.grownBy { w with heap := w.heap.setIfInBounds b o } (some b) := fun o =>
    ⟨rfl, rfl, rfl, by simp, fun i hi hne => (heap_set hb).2 i (fun e => hne (by rw [e]))⟩
  have hkeys : ∀ p ∈ mput k v l, ∃ lt, keyOf P kt (ek p.1) = some lt := by
    intro p hp
    have : p.1 ∈ (mput k v l).map (·.1) := List.mem_map.2 ⟨p, hp, rfl⟩
    rw [mput_keys] at this
    split at this
    · obtain ⟨q, hq, hqe⟩ := List.mem_map.1 this
      rw [← hqe]; exact hl q hq
    · rcases List.mem_append.1 this with this | this
      · obtain ⟨q, hq, hqe⟩ := List.mem_map.1 this
        rw [← hqe]; exact hl q hq
      · rw [List.mem_singleton.1 this]; exact ⟨lt, hlt⟩
  have hnd : ((mput k v l).map (·.1)).Nodup := by
    rw [mput_keys]
    split
    · exact hd
    · rename_i hnot
      refine List.nodup_append.2 ⟨hd, by simp, ?_⟩
      intro a ha b hb e
      rw [List.mem_singleton.1 hb] at e
      subst e
      exact hnot ha
  rcases findKey_in L hinj w ⟨lt, hlt⟩ es.toList l he hl hd with ⟨h1, h2, h3⟩ | ⟨j, u, e, h1, h2, h3, h4, h5⟩
  · refine ⟨_, ?_, ⟨es.push { key := ek k, val := ev v, born := clk }, clk + 1, (heap_set hb).1, stamped_push hs h3, ?_, hkeys, hnd⟩, hgrow _⟩
    · simp [Instr.mapUpdate, run_underlying ht, MapKept.run_getObj_map hb, hck, h2, MapKept.run_setObj_map _ hb, Result.andThen]
    · rw [mput_of_none v h1]
      simp [he]
  · have hj : es[j]? = some e := by simpa using h3
    have hst := L.stays w hlt
    have hkey : ∀ e', es[j]? = some e' → ({ e' with key := ek k, val := ev v } : MapEntry).key = e'.key := fun e' he' => by rw [hj] at he'; cases he'; exact h4.symm
    refine ⟨_, ?_, ⟨es.modify j fun e => { e with key := ek k, val := ev v }, clk, (heap_set hb).1, stamped_modify hs _ _ (fun _ _ => rfl) (fun e' _ he' => hkey e' he'), ?_, hkeys, hnd⟩, hgrow _⟩
    · simp [Instr.mapUpdate, run_underlying ht, MapKept.run_getObj_map hb, hck, h2, hj, h4, hst, MapKept.run_setObj_map _ hb, Result.andThen]
    · rw [mput_at v hd h5]
      apply List.ext_getElem?
      intro i
      have hi := congrArg (fun x => x[i]?) he
      simp only [List.getElem?_map] at hi
      simp only [List.getElem?_map, List.getElem?_set, Array.getElem?_toList, Array.getElem?_modify] at hi ⊢
      by_cases hij : j = i
      · subst hij
        have hlen : j < l.length := (List.getElem?_eq_some_iff.1 h5).1
        simp [hj, hlen]
      · simp [hij]
        exact hi

/-- A deletion. -/
theorem MapOf.delete {ty : TypeId} (h : MapOf P kt ek ev w b l) (L : Keyed P kt) (hinj : ∀ x y, ek x = ek y → x = y) (ht : P.underlying t = some (.map kt et)) {k : K} (hk : ∃ lt, keyOf P kt (ek k) = some lt) :
    ∃ w', (Builtin.delete_ #[t, kt] ty #[.map (some b), ek k]).run P w = .ok (.tuple #[]) w' ∧ MapOf P kt ek ev w' b (mdel k l) ∧ w.grownBy w' (some b) := by
  obtain ⟨es, clk, hb, hs, he, hl, hd⟩ := h
  obtain ⟨lt, hlt⟩ := hk
  have hck := L.check w es.isEmpty hlt
  have hgrow : ∀ o, w.grownBy { w with heap := w.heap.setIfInBounds b o } (some b) := fun o =>
    ⟨rfl, rfl, rfl, by simp, fun i hi hne => (heap_set hb).2 i (fun e => hne (by rw [e]))⟩
  have hkeys : ∀ p ∈ mdel k l, ∃ lt, keyOf P kt (ek p.1) = some lt := fun p hp => hl p ((mdel_sublist k l).subset hp)
  have hnd : ((mdel k l).map (·.1)).Nodup := ((mdel_sublist k l).map _).nodup hd
  rcases findKey_in L hinj w ⟨lt, hlt⟩ es.toList l he hl hd with ⟨h1, h2, h3⟩ | ⟨j, u, e, h1, h2, h3, h4, h5⟩
  · refine ⟨_, ?_, ⟨es, clk, (heap_set hb).1, hs, ?_, hkeys, hnd⟩, hgrow _⟩
    · simp [Builtin.delete_, run_underlying ht, MapKept.run_getObj_map hb, hck, h2, MapKept.run_setObj_map _ hb, Result.andThen]
    · rw [mdel_of_none h1]; exact he
  · refine ⟨_, ?_, ⟨es.eraseIdxIfInBounds j, clk, (heap_set hb).1, stamped_erase hs _, ?_, hkeys, hnd⟩, hgrow _⟩
    · simp [Builtin.delete_, run_underlying ht, MapKept.run_getObj_map hb, hck, h2, MapKept.run_setObj_map _ hb, Result.andThen]
    · rw [mdel_at hd h5, ← map_eraseIdx', ← he]
      have hlt2 : j < es.size := by
        have := (List.getElem?_eq_some_iff.1 h3).1
        simpa using this
      unfold Array.eraseIdxIfInBounds
      rw [dif_pos hlt2]
      rw [Array.toList_eraseIdx, map_eraseIdx']
end


/-! ### A range over a map that doesn't change meanwhile -/
section
variable {K α : Type}
/-- Block r is an iterator over the map of block m, which holds l; left has not come yet; last came last. -/
def IterOf (ek : K → Value) (ev : α → Value) (w : World) (r m : Nat) (l left : List (K × α)) (last : Option (K × α)) : Prop :=
  ∃ es clk seen, w.heap[m]? = some (.map es clk) ∧ Stamped es clk ∧ (es.toList.map fun e => (e.key, e.val)) = l.map (fun p => (ek p.1, ev p.2)) ∧
    w.heap[r]? = some (.mapIter (some m) clk seen clk) ∧ ((es.filter fun e => !seen.contains e.born).toList.map fun e => (e.key, e.val)) = left.map (fun p => (ek p.1, ev p.2)) ∧
    (∀ b, seen.contains b = true → ∃ e ∈ es.toList, e.born = b) ∧
    (∀ p, last = some p → ∃ e, e ∈ es.toList ∧ seen.back? = some e.born ∧ e.key = ek p.1 ∧ e.val = ev p.2)

variable {P : Program} {kt et t ty : TypeId} {ek : K → Value} {ev : α → Value} {w w1 : World} {b r m : Nat} {l left : List (K × α)} {last : Option (K × α)}

theorem IterOf.keep (h : IterOf ek ev w r m l left last) (hr : w1.heap[r]? = w.heap[r]?) (hm : w1.heap[m]? = w.heap[m]?) : IterOf ek ev w1 r m l left last := by
  obtain ⟨es, clk, seen, h1, h2, h3, h4, r'⟩ := h
  exact ⟨es, clk, seen, hm.trans h1, h2, h3, hr.trans h4, r'⟩
theorem IterOf.lt (h : IterOf ek ev w r m l left last) : r < w.heap.size := by
  obtain ⟨es, clk, seen, h1, h2, h3, h4, r'⟩ := h
  exact (Array.getElem?_eq_some_iff.1 h4).1
theorem IterOf.ltm (h : IterOf ek ev w r m l left last) : m < w.heap.size := by
  obtain ⟨es, clk, seen, h1, h2, h3, h4, r'⟩ := h
  exact (Array.getElem?_eq_some_iff.1 h1).1

/-- The range begins. -/
theorem MapOf.range (h : MapOf P kt ek ev w m l) (ht : P.underlying t = some (.map kt et)) :
    ∃ o, (Instr.range t (.map (some m))).run P w = .ok (.pointer (some ⟨w.heap.size, 0, none⟩)) (w.alloc o) ∧ IterOf ek ev (w.alloc o) w.heap.size m l l none := by
  have hlt := h.lt
  obtain ⟨es, clk, hb, hs, he, hl, hd⟩ := h
  refine ⟨.mapIter (some m) clk #[] clk, ?_, ⟨es, clk, #[], (Below.heap_alloc w _ m hlt).trans hb, hs, he, (MapKept.heap_alloc w _).1, ?_, ?_, ?_⟩⟩
  · simp [Instr.range, run_underlying ht, MapKept.run_getObj_map hb, Result.andThen]
  · have : (es.filter fun e => !(#[] : Array Nat).contains e.born) = es := by
      apply Array.filter_eq_self.2
      intro a _
      simp
    rw [this]; exact he
  · intro b hb2; simp at hb2
  · intro p hp; cases hp

theorem filter_ne_erase {A B : Type} [DecidableEq B] (f : A → B) : ∀ (L : List A) (i : Nat) (x : A), (L.map f).Nodup → L[i]? = some x → L.filter (fun y => !(f y == f x)) = L.eraseIdx i
  | [], _, _, _, h => by simp at h
  | y :: L, 0, x, hd, h => by
    simp at h
    subst h
    simp only [List.map_cons, List.nodup_cons] at hd
    simp only [List.filter_cons, beq_self_eq_true, Bool.not_true, List.eraseIdx_cons_zero]
    rw [if_neg (by simp)]
    refine List.filter_eq_self.2 (fun z hz => ?_)
    simp only [Bool.not_eq_true', beq_eq_false_iff_ne, ne_eq]
    intro e
    exact hd.1 (e ▸ List.mem_map.2 ⟨z, hz, rfl⟩)
  | y :: L, i + 1, x, hd, h => by
    simp only [List.map_cons, List.nodup_cons] at hd
    simp only [List.getElem?_cons_succ] at h
    have hyx : f y ≠ f x := fun e => hd.1 (e ▸ List.mem_map.2 ⟨x, List.mem_of_getElem? h, rfl⟩)
    simp only [List.filter_cons, List.eraseIdx_cons_succ]
    rw [if_pos (by simp [hyx]), filter_ne_erase f L i x hd.2 h]

theorem iter_run {es L : Array MapEntry} {clk : Nat} {seen : Array Nat} (h1 : w.heap[m]? = some (.map es clk)) (hs : Stamped es clk) (h4 : w.heap[r]? = some (.mapIter (some m) clk seen clk))
    (hL : (es.filter fun e => !seen.contains e.born) = L) {i : Nat} {w0 : World} (hc : (choose (.mapNext ((if L.isEmpty then #[none] else #[]) ++ L.map some).size)).run P w = .ok i w0) :
    (Instr.next (.pointer (some ⟨r, 0, none⟩)) false ty).run P w = (match ((if L.isEmpty then #[none] else #[]) ++ L.map some)[i]? with
      | some (some e) => do
        setObj r (.mapIter (some m) clk (seen.push e.born) clk)
        pure (.tuple #[.bool true, e.key, e.val])
      | some none => pure (.tuple #[.bool false])
      | none => stuck "Next: no such candidate" : Sem Value).run P w0 := by
  have hborn : ∀ e ∈ es.toList, e.born < clk := hs.1
  have hgo : (getObj r).run P w = .ok (.mapIter (some m) clk seen clk) w := by simp [getObj, Sem.run, h4]
  have hcond : (!seen.isEmpty && !es.isEmpty && es.all (fun e => decide (e.born ≥ clk))) = false := by
    cases hes : es.isEmpty with
    | true => simp
    | false =>
      have hsz : 0 < es.size := by
        rcases Nat.eq_zero_or_pos es.size with h | h
        · simp [Array.isEmpty, h] at hes
        · exact h
      have h0 := hborn es[0] (by simp)
      have : es.all (fun e => decide (e.born ≥ clk)) = false := by
        rw [Array.all_eq_false]
        exact ⟨0, hsz, by simp; omega⟩
      rw [this]; simp
  have hold : L.filter (fun e => decide (e.born < clk)) = L := by
    apply Array.filter_eq_self.2
    intro a ha
    rw [← hL] at ha
    have := (Array.mem_filter.1 ha).1
    simpa using hborn a (Array.mem_toList_iff.2 this)
  have hnew : L.filter (fun e => decide (e.born ≥ clk)) = #[] := by
    apply Array.filter_eq_empty_iff.2
    intro a ha
    rw [← hL] at ha
    have := (Array.mem_filter.1 ha).1
    have := hborn a (Array.mem_toList_iff.2 this)
    simp; omega
  unfold Instr.next
  simp only [Sem.run_bind, Sem.run_pure, hgo, Result.andThen, MapKept.run_getObj_map h1, hcond, hL, hold, hnew, Array.append_empty]
  simp only [Bool.false_eq_true, if_false, Sem.run_bind, Sem.run_pure, hc, Result.andThen]
  rfl

theorem run_choose_forced {q : Question} (h : q.forced = true) : (choose q).run P w = .ok 0 w := by simp [choose, Sem.run, h]
theorem run_choose_free {q : Question} (h : q.forced = false) : (choose q).run P w = .ok (q.cut (w.tape w.drawn q)) { w with drawn := w.drawn + 1 } := by simp [choose, Sem.run, h]

theorem IterOf.next_done (h : IterOf ek ev w r m l [] last) : (Instr.next (.pointer (some ⟨r, 0, none⟩)) false ty).run P w = .ok (.tuple #[.bool false]) w := by
  obtain ⟨es, clk, seen, h1, h2, h3, h4, h5, h6, h7⟩ := h
  have hnil : (es.filter fun e => !seen.contains e.born) = #[] := by
    have : (es.filter fun e => !seen.contains e.born).toList = [] := by
      have := congrArg List.length h5
      simp only [List.length_map, List.length_nil] at this
      exact List.eq_nil_of_length_eq_zero this
    exact Array.toList_eq_nil_iff.1 this
  rw [iter_run h1 h2 h4 hnil (i := 0) (w0 := w) (run_choose_forced (by simp [Question.forced]))]
  simp

theorem IterOf.next_step (h : IterOf ek ev w r m l left last) (hne : left ≠ []) :
    ∃ i p w', left[i]? = some p ∧ (Instr.next (.pointer (some ⟨r, 0, none⟩)) false ty).run P w = .ok (.tuple #[.bool true, ek p.1, ev p.2]) w' ∧ IterOf ek ev w' r m l (left.eraseIdx i) (some p) ∧ w.grownBy w' (some r) := by
  obtain ⟨es, clk, seen, h1, h2, h3, h4, h5, h6, h7⟩ := h
  obtain ⟨L, hL⟩ : ∃ L, (es.filter fun e => !seen.contains e.born) = L := ⟨_, rfl⟩
  rw [hL] at h5
  have hlen : L.size = left.length := by
    have := congrArg List.length h5
    simpa using this
  have hpos : 0 < left.length := List.length_pos_iff.2 hne
  have hemp : L.isEmpty = false := by
    rw [Array.isEmpty_eq_false_iff]
    intro e
    rw [e] at hlen
    simp at hlen
    omega
  have hmr : m ≠ r := by
    rintro rfl
    rw [h1] at h4
    cases h4
  have hcs : ((if L.isEmpty then #[none] else #[]) ++ L.map some) = L.map some := by rw [hemp]; simp
  -- the choice
  have hch : ∃ i w0, i < left.length ∧ (choose (.mapNext ((if L.isEmpty then #[none] else #[]) ++ L.map some).size)).run P w = .ok i w0 ∧ w0.heap = w.heap ∧ w0.os = w.os ∧ w0.tape = w.tape ∧ w0.output = w.output := by
    rw [hcs, Array.size_map, hlen]
    cases hf : Question.forced (.mapNext left.length) with
    | true => exact ⟨0, w, hpos, run_choose_forced hf, rfl, rfl, rfl, rfl⟩
    | false => exact ⟨_, _, Nat.mod_lt _ hpos, run_choose_free hf, rfl, rfl, rfl, rfl⟩
  obtain ⟨i, w0, hi, hrun, e1, e2, e3, e4⟩ := hch
  have hi' : i < L.size := by omega
  obtain ⟨e, he⟩ : ∃ e, L[i]? = some e := ⟨_, Array.getElem?_eq_getElem hi'⟩
  have he' : L.toList[i]? = some e := by rw [Array.getElem?_toList]; exact he
  have hp : left[i]? = some left[i] := List.getElem?_eq_getElem hi
  have hkv : (e.key, e.val) = (ek left[i].1, ev left[i].2) := by
    have := congrArg (fun x => x[i]?) h5
    simp only [List.getElem?_map, he', hp, Option.map_some] at this
    exact Option.some.inj this
  have hset : (setObj r (.mapIter (some m) clk (seen.push e.born) clk)).run P w0 = .ok () { w0 with heap := w0.heap.setIfInBounds r (.mapIter (some m) clk (seen.push e.born) clk) } := by
    simp [setObj, Sem.run, e1, h4]
  have hmem : e ∈ es.toList := by
    have := Array.mem_of_getElem? he
    rw [← hL] at this
    exact Array.mem_toList_iff.2 (Array.mem_filter.1 this).1
  have hhr : (w0.heap.setIfInBounds r (.mapIter (some m) clk (seen.push e.born) clk))[r]? = some (.mapIter (some m) clk (seen.push e.born) clk) := by
    rw [e1]; exact (heap_set h4).1
  have hho : ∀ k, k ≠ r → (w0.heap.setIfInBounds r (.mapIter (some m) clk (seen.push e.born) clk))[k]? = w.heap[k]? := by
    intro k hk
    rw [e1]; exact (heap_set h4).2 k hk
  refine ⟨i, left[i], { w0 with heap := w0.heap.setIfInBounds r (.mapIter (some m) clk (seen.push e.born) clk) }, hp, ?_, ⟨es, clk, seen.push e.born, (hho m hmr).trans h1, h2, h3, hhr, ?_, ?_, ?_⟩, ⟨e2, e3, e4, by simp [e1], fun k _ hk => hho k (fun e => hk (by rw [e]))⟩⟩
  · rw [iter_run h1 h2 h4 hL hrun, hcs, Array.getElem?_map, he]
    have k1 : e.key = ek left[i].1 := congrArg Prod.fst hkv
    have k2 : e.val = ev left[i].2 := congrArg Prod.snd hkv
    simp only [Option.map_some, Sem.run_bind, hset, Result.andThen, Sem.run_pure, k1, k2]
  · have hnd : (L.toList.map (·.born)).Nodup := by
      rw [← hL, Array.toList_filter]
      exact (((List.filter_sublist (l := es.toList)).map _).nodup h2.2.1)
    have hfe := filter_ne_erase (fun e : MapEntry => e.born) _ i e hnd he'
    have hfil : (es.filter fun x => !(seen.push e.born).contains x.born).toList = L.toList.eraseIdx i := by
      rw [← hfe, ← hL, Array.toList_filter, Array.toList_filter, List.filter_filter]
      congr 1
      funext x
      rw [Array.contains_push]
      cases h1 : (x.born == e.born) <;> cases h2 : seen.contains x.born <;> simp
    rw [hfil, ← map_eraseIdx', h5, map_eraseIdx']
  · intro b hb
    rw [Array.contains_push] at hb
    simp only [Bool.or_eq_true, beq_iff_eq] at hb
    rcases hb with hb | hb
    · first | exact h6 b hb | exact ⟨e, hmem, hb.symm⟩ | exact ⟨e, hmem, hb⟩
    · first | exact h6 b hb | exact ⟨e, hmem, hb.symm⟩ | exact ⟨e, hmem, hb⟩
  · intro p hp2
    cases hp2
    exact ⟨e, hmem, by simp, congrArg Prod.fst hkv, congrArg Prod.snd hkv⟩

theorem find_born : ∀ (es : List MapEntry) (e : MapEntry), (es.map (·.born)).Nodup → e ∈ es → es.find? (·.born == e.born) = some e
  | [], _, _, h => by simp at h
  | y :: es, e, hd, h => by
    simp only [List.map_cons, List.nodup_cons] at hd
    rcases List.mem_cons.1 h with h | h
    · subst h; simp
    · have : y.born ≠ e.born := fun x => hd.1 (x ▸ List.mem_map.2 ⟨e, h, rfl⟩)
      rw [List.find?_cons_of_neg (by simpa using this)]
      exact find_born es e hd.2 h

theorem IterOf.entry {p : K × α} (h : IterOf ek ev w r m l left (some p)) : (Instr.entry (.pointer (some ⟨r, 0, none⟩))).run P w = .ok (.tuple #[ek p.1, ev p.2]) w := by
  obtain ⟨es, clk, seen, h1, h2, h3, h4, h5, h6, h7⟩ := h
  obtain ⟨e, he, hback, hk, hv⟩ := h7 p rfl
  have hfind : es.find? (·.born == e.born) = some e := by
    rw [← Array.find?_toList]
    exact find_born es.toList e h2.2.1 he
  have hgo : (getObj r).run P w = .ok (.mapIter (some m) clk seen clk) w := by simp [getObj, Sem.run, h4]
  simp [Instr.entry, hgo, MapKept.run_getObj_map h1, hback, hfind, hk, hv, Result.andThen]
end

/-! ### keys that are ints -/
def ekI (x : Int) : Value := .int .i64 x
theorem ekI_inj : ∀ x y, ekI x = ekI y → x = y := fun x y h => by unfold ekI at h; injection h
end Go.Proofs.Ytfpjkiokcjbbmaa
