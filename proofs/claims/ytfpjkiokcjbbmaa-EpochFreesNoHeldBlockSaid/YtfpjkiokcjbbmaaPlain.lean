/- The plain law of the epochs: what the program's epochs do is what the specification's do. No program in sight. -/
import Derived.Test.YtfpjkiokcjbbmaaRDo
namespace Go.Proofs.Ytfpjkiokcjbbmaa
open Go.RowKit

structure Ep.Inv (E : Ep) : Prop where
  rdn : (E.rd.map (·.1)).Nodup
  rde : ∀ x ∈ E.rd, x.2 ≤ E.now
  bln : (E.bl.map (·.1)).Nodup
  blq : ∀ b, (mget b E.bl).getD false = true ↔ b ∈ E.q.map (·.1)
  qn : (E.q.map (·.1)).Nodup
  qs : E.q.Pairwise (fun a b => a.2 ≤ b.2)
  qe : ∀ x ∈ E.q, x.2 < E.now

theorem cutn_split (ep : Int) : ∀ (q : List (Int × Int)), q.Pairwise (fun a b => a.2 ≤ b.2) → q.take (cutn ep q) = q.filter (fun x => decide (x.2 < ep)) ∧ q.drop (cutn ep q) = q.filter (fun x => !decide (x.2 < ep))
  | [], _ => by simp
  | x :: q, h => by
    obtain ⟨h1, h2⟩ := List.pairwise_cons.1 h
    obtain ⟨i1, i2⟩ := cutn_split ep q h2
    by_cases hx : x.2 < ep
    · simp [cutn, hx, i1, i2]
    · simp only [cutn, if_neg hx, List.take_zero, List.drop_zero]
      constructor
      · symm
        rw [List.filter_eq_nil_iff]
        intro y hy
        rcases List.mem_cons.1 hy with rfl | hy
        · simpa using hx
        · have := h1 y hy
          simp; omega
      · symm
        rw [List.filter_eq_self]
        intro y hy
        rcases List.mem_cons.1 hy with rfl | hy
        · simpa using hx
        · have := h1 y hy
          simp; omega

theorem minr_min (a b : Int) : ∀ l, minr (min a b) l = min b (minr a l)
  | [] => by simp [minr]; omega
  | x :: l => by simp only [minr, minr_min a b l]; omega
theorem foldl_minr : ∀ (l : List (Int × Int)) (a : Int), l.foldl (fun a x => min a x.2) a = minr a l
  | [], a => rfl
  | x :: l, a => by rw [List.foldl_cons, foldl_minr l, minr_min]; rfl
theorem minr_perm (a : Int) {l l' : List (Int × Int)} (h : l.Perm l') : minr a l = minr a l' := by
  induction h with
  | nil => rfl
  | cons x _ ih => simp only [minr, ih]
  | swap x y l => simp only [minr]; omega
  | trans _ _ i1 i2 => exact i1.trans i2
theorem minr_le (a : Int) : ∀ l, minr a l ≤ a
  | [] => by simp [minr]
  | x :: l => by have := minr_le a l; simp only [minr]; omega
theorem minr_mem (a : Int) : ∀ l, ∀ x ∈ l, minr a l ≤ x.2
  | [], _, h => by simp at h
  | y :: l, x, h => by
    simp only [minr]
    rcases List.mem_cons.1 h with rfl | h
    · omega
    · have := minr_mem a l x h; omega
theorem minr_ge (a n : Int) : ∀ l, n ≤ a → (∀ x ∈ l, n ≤ x.2) → n ≤ minr a l
  | [], h, _ => h
  | y :: l, h, h2 => by
    simp only [minr]
    have := minr_ge a n l h (fun x hx => h2 x (List.mem_cons_of_mem _ hx))
    have := h2 y (List.mem_cons_self ..)
    omega

theorem hasn_iff (l : List (Int × Int)) (n : Int) : hasn l n = true ↔ n ∈ l.map (·.1) := by
  simp only [hasn, List.any_eq_true, beq_iff_eq, List.mem_map]
theorem mdel_filter (r : Int) : ∀ (l : List (Int × Int)), (l.map (·.1)).Nodup → mdel r l = l.filter fun x => x.1 != r
  | [], _ => rfl
  | p :: l, hd => by
    simp only [List.map_cons, List.nodup_cons] at hd
    unfold mdel
    split
    · rename_i e
      subst e
      simp only [bne_self_eq_false, Bool.false_eq_true, not_false_eq_true, List.filter_cons_of_neg]
      symm
      rw [List.filter_eq_self]
      intro y hy
      simp only [bne_iff_ne, ne_eq]
      intro h
      exact hd.1 (h ▸ List.mem_map_of_mem hy)
    · rename_i e
      rw [List.filter_cons_of_pos (by simpa using e), mdel_filter r l hd.2]
theorem insr_perm (r n : Int) (l : List (Int × Int)) : (insr r n l).Perm ((r, n) :: l) := by
  unfold insr
  refine (List.perm_middle).trans ?_
  rw [List.take_append_drop]
theorem insr_sorted (r n : Int) : ∀ (l : List (Int × Int)), l.Pairwise (fun a b => a.1 < b.1) → r ∉ l.map (·.1) → (insr r n l).Pairwise (fun a b => a.1 < b.1)
  | [], _, _ => by simp [insr, before]
  | x :: l, h, hr => by
    obtain ⟨h1, h2⟩ := List.pairwise_cons.1 h
    simp only [List.map_cons, List.mem_cons, not_or] at hr
    by_cases hx : x.1 < r
    · have ih := insr_sorted r n l h2 hr.2
      have e : insr r n (x :: l) = x :: insr r n l := by simp [insr, before, hx]
      rw [e, List.pairwise_cons]
      refine ⟨fun y hy => ?_, ih⟩
      rcases List.mem_cons.1 ((insr_perm r n l).mem_iff.1 hy) with rfl | hy
      · exact hx
      · exact h1 y hy
    · have e : insr r n (x :: l) = (r, n) :: x :: l := by simp [insr, before, hx]
      rw [e, List.pairwise_cons]
      refine ⟨fun y hy => ?_, h⟩
      have hlt : r < x.1 := by have := hr.1; omega
      rcases List.mem_cons.1 hy with rfl | hy
      · exact hlt
      · have := h1 y hy; dsimp only; omega

/-- What retire asks. -/
theorem rbad_iff (bl : List (Int × Bool)) : ∀ (xs pre : List Int), rbad bl pre xs = false ↔ (∀ x ∈ xs, (mget x bl).getD false = false ∧ x ∉ pre) ∧ xs.Nodup
  | [], pre => by simp [rbad]
  | x :: xs, pre => by
    have ih := rbad_iff bl xs (pre ++ [x])
    simp only [rbad, Bool.or_eq_false_iff, ih, List.mem_cons, List.nodup_cons, List.mem_append, List.not_mem_nil, or_false]
    constructor
    · rintro ⟨⟨h1, h2⟩, h3, h4⟩
      refine ⟨?_, ?_, h4⟩
      · rintro y (rfl | hy)
        · exact ⟨h1, by simpa using h2⟩
        · exact ⟨(h3 y hy).1, fun h => (h3 y hy).2 (.inl h)⟩
      · exact fun h => (h3 x h).2 (.inr rfl)
    · rintro ⟨h1, h2, h3⟩
      refine ⟨⟨(h1 x (.inl rfl)).1, by simpa using (h1 x (.inl rfl)).2⟩, fun y hy => ⟨(h1 y (.inr hy)).1, ?_⟩, h3⟩
      rintro (h | rfl)
      · exact (h1 y (.inr hy)).2 h
      · exact h2 hy
theorem rwait_eq (now : Int) : ∀ (xs : List Int) (out : List (Int × Int)), rwait now out xs = if (∀ x ∈ xs, x ∉ out.map (·.1)) ∧ xs.Nodup then some (out ++ xs.map fun x => (x, now)) else none
  | [], out => by simp [rwait]
  | x :: xs, out => by
    have ih := rwait_eq now xs (out ++ [(x, now)])
    unfold rwait
    cases hh : hasn out x with
    | true =>
      rw [if_pos rfl, if_neg]
      intro h
      exact h.1 x (List.mem_cons_self ..) ((hasn_iff _ _).1 hh)
    | false =>
      rw [if_neg (by simp), ih]
      have hx : x ∉ out.map (·.1) := fun h => by rw [(hasn_iff _ _).2 h] at hh; cases hh
      have hiff : ((∀ y ∈ xs, y ∉ (out ++ [(x, now)]).map (·.1)) ∧ xs.Nodup) ↔ ((∀ y ∈ x :: xs, y ∉ out.map (·.1)) ∧ (x :: xs).Nodup) := by
        simp only [List.map_append, List.mem_append, List.map_cons, List.map_nil, List.mem_singleton, List.mem_cons, List.nodup_cons, not_or]
        constructor
        · rintro ⟨h1, h2⟩
          refine ⟨?_, fun h => (h1 x h).2.1 rfl, h2⟩
          rintro y (rfl | hy)
          · exact hx
          · exact (h1 y hy).1
        · rintro ⟨h1, h2, h3⟩
          exact ⟨fun y hy => ⟨h1 y (.inr hy), fun e => h2 (e ▸ hy), by simp⟩, h3⟩
      by_cases hc : (∀ y ∈ xs, y ∉ (out ++ [(x, now)]).map (·.1)) ∧ xs.Nodup
      · rw [if_pos hc, if_pos (hiff.1 hc)]; simp
      · rw [if_neg hc, if_neg (fun h => hc (hiff.2 h))]

theorem mputs_nodup : ∀ (xs : List Int) (l : List (Int × Bool)), (l.map (·.1)).Nodup → ((mputs xs l).map (·.1)).Nodup
  | [], _, h => h
  | x :: xs, l, h => by
    have : ((mput x true l).map (·.1)).Nodup := by
      rw [mput_keys]
      split
      · exact h
      · rename_i hn
        rw [List.nodup_append]
        exact ⟨h, by simp, fun a ha b hb => by simp at hb; subst hb; rintro rfl; exact hn ha⟩
    exact mputs_nodup xs _ this
theorem mget_mputs (b : Int) : ∀ (xs : List Int) (l : List (Int × Bool)), (mget b (mputs xs l)).getD false = true ↔ b ∈ xs ∨ (mget b l).getD false = true
  | [], l => by simp [mputs]
  | x :: xs, l => by
    have ih := mget_mputs b xs (mput x true l)
    rw [show mputs (x :: xs) l = mputs xs (mput x true l) from rfl, ih, mget_mput]
    by_cases e : b = x
    · subst e; simp
    · simp [e]
theorem mdels_nodup : ∀ (xs : List Int) (l : List (Int × Bool)), (l.map (·.1)).Nodup → ((mdels xs l).map (·.1)).Nodup
  | [], _, h => h
  | x :: xs, l, h => mdels_nodup xs _ ((mdel_sublist x l).map _ |>.nodup h)
theorem mget_mdels (b : Int) : ∀ (xs : List Int) (l : List (Int × Bool)), (l.map (·.1)).Nodup → ((mget b (mdels xs l)).getD false = true ↔ b ∉ xs ∧ (mget b l).getD false = true)
  | [], l, _ => by simp [mdels]
  | x :: xs, l, h => by
    have ih := mget_mdels b xs (mdel x l) ((mdel_sublist x l).map _ |>.nodup h)
    rw [show mdels (x :: xs) l = mdels xs (mdel x l) from rfl, ih, mget_mdel _ _ _ h]
    by_cases e : b = x
    · subst e; simp
    · simp [e]

theorem Ep.Inv.start : Ep.Inv ⟨[], [], [], 1⟩ := ⟨by simp, by simp, by simp, by simp [mget], by simp, by simp, by simp⟩
theorem Ep.Inv.enter {E : Ep} (h : E.Inv) (r : Int) : (E.enter r).2.Inv := by
  unfold Ep.enter
  split
  · exact h
  · rename_i hn
    rw [mput_of_none _ hn]
    have hr := mget_none.1 hn
    refine ⟨?_, ?_, h.bln, h.blq, h.qn, h.qs, h.qe⟩
    · simp only [List.map_append, List.map_cons, List.map_nil]
      rw [List.nodup_append]
      exact ⟨h.rdn, by simp, fun a ha b hb => by simp at hb; subst hb; rintro rfl; exact hr ha⟩
    · intro x hx
      rcases List.mem_append.1 hx with hx | hx
      · exact h.rde x hx
      · simp at hx; subst hx; exact Int.le_refl _
theorem Ep.Inv.leave {E : Ep} (h : E.Inv) (r : Int) : (E.leave r).2.Inv := by
  unfold Ep.leave
  split
  · exact ⟨((mdel_sublist r E.rd).map _).nodup h.rdn, fun x hx => h.rde x ((mdel_sublist r E.rd).mem hx), h.bln, h.blq, h.qn, h.qs, h.qe⟩
  · exact h
theorem Ep.Inv.bad {E : Ep} (h : E.Inv) (xs : List Int) : rbad E.bl [] xs = false ↔ (∀ x ∈ xs, x ∉ E.q.map (·.1)) ∧ xs.Nodup := by
  rw [rbad_iff]
  constructor
  · rintro ⟨h1, h2⟩
    refine ⟨fun x hx hq => ?_, h2⟩
    have := (h1 x hx).1
    rw [(h.blq x).2 hq] at this
    cases this
  · rintro ⟨h1, h2⟩
    refine ⟨fun x hx => ⟨?_, by simp⟩, h2⟩
    cases hb : (mget x E.bl).getD false with
    | false => rfl
    | true => exact absurd ((h.blq x).1 hb) (h1 x hx)
theorem Ep.Inv.retire {E : Ep} (h : E.Inv) (xs : List Int) : (E.retire xs).2.Inv := by
  unfold Ep.retire
  split
  · exact h
  · rename_i hb
    obtain ⟨h1, h2⟩ := (h.bad xs).1 (by simpa using hb)
    refine ⟨h.rdn, fun x hx => by have := h.rde x hx; dsimp only; omega, mputs_nodup xs _ h.bln, fun b => ?_, ?_, ?_, ?_⟩
    · rw [mget_mputs, h.blq]
      simp only [qpush, List.map_append, List.mem_append, List.map_map]
      rw [show ((fun x : Int × Int => x.1) ∘ fun x => (x, E.now)) = id from rfl, List.map_id]
      exact or_comm
    · simp only [qpush, List.map_append, List.map_map]
      rw [show ((fun x : Int × Int => x.1) ∘ fun x => (x, E.now)) = id from rfl, List.map_id, List.nodup_append]
      exact ⟨h.qn, h2, fun a ha b hb => by rintro rfl; exact h1 a hb ha⟩
    · simp only [qpush]
      rw [List.pairwise_append]
      refine ⟨h.qs, ?_, ?_⟩
      · rw [List.pairwise_map]
        exact List.Pairwise.imp (fun _ => Int.le_refl _) h2
      · intro a ha b hb
        simp only [List.mem_map] at hb
        obtain ⟨y, hy, rfl⟩ := hb
        have := h.qe a ha
        dsimp only; omega
    · intro x hx
      simp only [qpush, List.mem_append, List.mem_map] at hx
      rcases hx with hx | ⟨y, hy, rfl⟩
      · have := h.qe x hx; dsimp only; omega
      · dsimp only; omega
theorem Ep.Inv.free {E : Ep} (h : E.Inv) : E.free.2.Inv := by
  unfold Ep.free
  dsimp only
  have hsp := cutn_split E.least E.q h.qs
  have hta := List.take_append_drop (cutn E.least E.q) E.q
  refine ⟨h.rdn, h.rde, mdels_nodup _ _ h.bln, fun b => ?_, ?_, ?_, ?_⟩
  · rw [mget_mdels b _ _ h.bln, h.blq]
    have hn := h.qn
    rw [← hta, List.map_append, List.nodup_append] at hn
    obtain ⟨_, _, hn⟩ := hn
    have hm : b ∈ E.q.map (·.1) ↔ b ∈ (E.q.take (cutn E.least E.q)).map (·.1) ∨ b ∈ (E.q.drop (cutn E.least E.q)).map (·.1) := by
      rw [← List.mem_append, ← List.map_append, hta]
    rw [hm]
    constructor
    · rintro ⟨h1, h2 | h2⟩
      · exact absurd h2 h1
      · exact h2
    · intro h2
      exact ⟨fun h1 => hn b h1 b h2 rfl, .inr h2⟩
  · exact ((List.drop_sublist _ _).map _).nodup h.qn
  · exact h.qs.sublist (List.drop_sublist _ _)
  · exact fun x hx => h.qe x (List.mem_of_mem_drop hx)
theorem Ep.Inv.run {E : Ep} (h : E.Inv) (c : Cl) : (E.run c).2.2.Inv := by
  unfold Ep.run
  split
  · exact h.enter _
  · split
    · exact h.leave _
    · split
      · exact h.retire _
      · split
        · exact h.free
        · exact h

structure Rel (E : Ep) (R : Rf) : Prop where
  inv : E.Inv
  now : R.now = E.now
  wt : R.wt = E.q
  rd : E.rd.Perm R.rd
  sorted : R.rd.Pairwise (fun a b => a.1 < b.1)
theorem Rel.start : Rel ⟨[], [], [], 1⟩ ⟨[], [], 1⟩ := ⟨Ep.Inv.start, rfl, rfl, List.Perm.refl _, by simp⟩
theorem Rel.least {E : Ep} {R : Rf} (h : Rel E R) : E.least = R.least := by
  unfold Ep.least Rf.least
  rw [foldl_minr, h.now]
  exact minr_perm _ h.rd
theorem Rel.has {E : Ep} {R : Rf} (h : Rel E R) (r : Int) : hasn R.rd r = (mget r E.rd).isSome := by
  rw [Bool.eq_iff_iff, hasn_iff, ← (h.rd.map (·.1)).mem_iff]
  cases hg : mget r E.rd with
  | none => simpa using mget_none.1 hg
  | some v => simp only [Option.isSome_some, iff_true]; exact List.mem_map_of_mem (f := fun x : Int × Int => x.1) (mget_some_mem hg)
theorem Rel.readers {E : Ep} {R : Rf} (h : Rel E R) : srt (E.rd.map (·.1)) = R.rd.map (·.1) := by
  unfold srt
  have hp : ((E.rd.map (·.1)).mergeSort fun x y => decide (x ≤ y)).Perm (R.rd.map (·.1)) := (List.mergeSort_perm _ _).trans (h.rd.map _)
  refine List.Perm.eq_of_pairwise (le := fun a b => a ≤ b) (fun a b _ _ h1 h2 => by omega) ?_ ?_ hp
  · have := List.pairwise_mergeSort (le := fun x y : Int => decide (x ≤ y)) (fun a b c h1 h2 => by simp at *; omega) (fun a b => by simp; omega) (E.rd.map (·.1))
    exact this.imp (fun h => by simpa using h)
  · rw [List.pairwise_map]
    exact h.sorted.imp (fun h => by omega)
theorem Rel.run {E : Ep} {R : Rf} (h : Rel E R) (c : Cl) : (E.run c).1 = (R.run c).1 ∧ (E.run c).2.1 = (R.run c).2.1 ∧ Rel (E.run c).2.2 (R.run c).2.2 := by
  have hinv := h.inv.run c
  revert hinv
  unfold Ep.run Rf.run
  split
  · intro hinv
    refine ⟨rfl, ?_⟩
    revert hinv
    unfold Ep.enter Rf.enter
    rw [h.has]
    split
    · rename_i v hg
      intro hinv
      rw [hg, if_pos (show (some v).isSome = true from rfl)]
      exact ⟨rfl, h⟩
    · rename_i hg
      intro hinv
      rw [hg, if_neg (by simp)]
      refine ⟨rfl, hinv, h.now, h.wt, ?_, ?_⟩
      · dsimp only
        rw [mput_of_none _ hg, h.now]
        exact (List.perm_append_comm.trans (List.Perm.cons _ h.rd)).trans (insr_perm _ _ _).symm
      · exact insr_sorted _ _ _ h.sorted (by
          intro hm
          have := (hasn_iff _ _).2 hm
          rw [h.has, hg] at this
          cases this)
  · split
    · intro hinv
      refine ⟨rfl, ?_⟩
      revert hinv
      unfold Ep.leave Rf.leave
      rw [h.has]
      split
      · rename_i v hg
        intro hinv
        rw [hg, if_pos (show (some v).isSome = true from rfl)]
        refine ⟨rfl, hinv, h.now, h.wt, ?_, ?_⟩
        · dsimp only
          rw [mdel_filter _ _ h.inv.rdn]
          exact h.rd.filter _
        · exact h.sorted.sublist List.filter_sublist
      · rename_i hg
        intro hinv
        rw [hg, if_neg (by simp)]
        exact ⟨rfl, h⟩
    · split
      · intro hinv
        refine ⟨rfl, ?_⟩
        revert hinv
        unfold Ep.retire Rf.retire
        rw [rwait_eq, h.wt]
        by_cases hb : rbad E.bl [] c.l = false
        · have hc := (h.inv.bad c.l).1 hb
          rw [if_pos hc, hb]
          intro hinv
          exact ⟨rfl, hinv, by simp [h.now], by simp [qpush, h.now], h.rd, h.sorted⟩
        · have hc := fun hc => hb ((h.inv.bad c.l).2 hc)
          rw [if_neg hc, if_pos (by simpa using hb)]
          intro _
          exact ⟨rfl, h⟩
      · split
        · intro hinv
          have hsp := cutn_split E.least E.q h.inv.qs
          have hl := h.least
          refine ⟨?_, rfl, hinv, h.now, ?_, h.rd, h.sorted⟩
          · simp only [Ep.free, Rf.free, ← hl, h.wt, hsp.1]
          · simp only [Ep.free, Rf.free, ← hl, h.wt, hsp.2]
        · intro _
          exact ⟨rfl, rfl, h⟩

theorem Rf.Ok.run {R : Rf} {n : Nat} (h : R.Ok n) (c : Cl) (hc : c.ok) : (R.run c).2.2.Ok (n + 1) := by
  obtain ⟨h1, h2, h3, h4⟩ := h
  unfold Rf.run
  split
  · unfold Rf.enter
    split
    · exact ⟨by dsimp only; omega, by dsimp only; omega, h3, by dsimp only; omega⟩
    · exact ⟨by have := (insr_perm c.a R.now R.rd).length_eq; simp only [List.length_cons] at this; dsimp only; omega, by dsimp only; omega, h3, by dsimp only; omega⟩
  · split
    · unfold Rf.leave
      split
      · exact ⟨by have := List.length_filter_le (fun x : Int × Int => x.1 != c.a) R.rd; dsimp only; omega, by dsimp only; omega, h3, by dsimp only; omega⟩
      · exact ⟨by dsimp only; omega, by dsimp only; omega, h3, by dsimp only; omega⟩
    · split
      · unfold Rf.retire
        rw [rwait_eq]
        split
        · rename_i hh
          exact ⟨by dsimp only; omega, by dsimp only; omega, h3, by dsimp only; omega⟩
        · rename_i out hh
          split at hh
          · injection hh with hh
            subst hh
            refine ⟨by dsimp only; omega, ?_, by dsimp only; omega, by dsimp only; omega⟩
            have := hc.2.2.2
            simp; omega
          · cases hh
      · split
        · exact ⟨by simp only [Rf.free]; omega, by have := List.length_filter_le (fun x : Int × Int => !decide (x.2 < R.least)) R.wt; simp only [Rf.free]; omega, h3, by simp only [Rf.free]; omega⟩
        · exact ⟨by dsimp only; omega, by dsimp only; omega, h3, by dsimp only; omega⟩
end Go.Proofs.Ytfpjkiokcjbbmaa
