/- The contracts of do and of Do: a call of a script. -/
import Derived.Test.YtfpjkiokcjbbmaaReaders
namespace Go.Proofs.Ytfpjkiokcjbbmaa
open Go.RowKit Go.Maps Go.MapKept Go.Proofs.YtfpjkiokcjbbmaaW.PrintWords Go.Proofs.YtfpjkiokcjbbmaaW.PrintLast Go.Proofs.YtfpjkiokcjbbmaaW.PrintMore

/-- A call of a script. -/
structure Cl where
  kind : Int
  a : Int
  l : List Int
abbrev dC : Kd Cl := Kd.iso (Kd.pair (Kd.int .i64) (Kd.pair (Kd.int .i64) (Kd.slice 3 (Kd.int .i64)))) (fun x : Cl => (x.kind, x.a, x.l))
def Cl.ok (c : Cl) : Prop := wf64 c.kind ∧ wf64 c.a ∧ (∀ x ∈ c.l, wf64 x) ∧ c.l.length ≤ 10

/-- What holds of the epochs behind n calls. -/
structure Ep.Ok (E : Ep) (n : Nat) : Prop where
  rd : E.rd.length ≤ n
  q : E.q.length ≤ 10 * n
  now0 : 1 ≤ E.now
  now1 : E.now ≤ n + 1
  wf : ∀ x ∈ E.q, wf64 x.1
def Ep.run (E : Ep) (c : Cl) : List Int × Int × Ep :=
  if c.kind = 0 then ([], E.enter c.a)
  else if c.kind = 1 then ([], E.leave c.a)
  else if c.kind = 2 then ([], E.retire c.l)
  else if c.kind = 3 then (E.free.1, 0, E.free.2)
  else ([], 0, E)

theorem mdel_length {K α : Type} [DecidableEq K] (k : K) (l : List (K × α)) : (mdel k l).length ≤ l.length := (mdel_sublist k l).length_le
theorem Ep.Ok.run {E : Ep} {n : Nat} (h : E.Ok n) (c : Cl) (hc : c.ok) : (E.run c).2.2.Ok (n + 1) := by
  obtain ⟨h1, h2, h3, h4, h5⟩ := h
  unfold Ep.run
  split
  · unfold Ep.enter
    split
    · exact ⟨by dsimp only; omega, by dsimp only; omega, h3, by dsimp only; omega, h5⟩
    · exact ⟨by have := mput_length c.a E.now E.rd; dsimp only; omega, by dsimp only; omega, h3, by dsimp only; omega, h5⟩
  · split
    · unfold Ep.leave
      split
      · exact ⟨by have := mdel_length c.a E.rd; dsimp only; omega, by dsimp only; omega, h3, by dsimp only; omega, h5⟩
      · exact ⟨by dsimp only; omega, by dsimp only; omega, h3, by dsimp only; omega, h5⟩
    · split
      · unfold Ep.retire
        split
        · exact ⟨by dsimp only; omega, by dsimp only; omega, h3, by dsimp only; omega, h5⟩
        · refine ⟨by dsimp only; omega, ?_, by dsimp only; omega, by dsimp only; omega, ?_⟩
          · have := hc.2.2.2; simp [qpush]; omega
          · intro x hx
            simp only [qpush, List.mem_append, List.mem_map] at hx
            rcases hx with hx | ⟨y, hy, rfl⟩
            · exact h5 x hx
            · exact hc.2.2.1 y hy
      · split
        · refine ⟨by simp only [Ep.free]; omega, ?_, h3, by simp only [Ep.free]; omega, ?_⟩
          · simp [Ep.free]; omega
          · intro x hx
            exact h5 x (List.mem_of_mem_drop hx)
        · exact ⟨by dsimp only; omega, by dsimp only; omega, h3, by dsimp only; omega, h5⟩

theorem Stays.mono {S S' : Nat → Prop} {w w1 : World} {A : Option Addr} {xs : List Int} (h : Stays S w dI A xs) (hb : Turn S' w w1) (hs : ∀ W', Turn S' w W' → Turn S w W') (ht : ∀ W', Turn S' w1 W' → Turn S' w W') : Stays S' w1 dI A xs := fun W' hW => h W' (hs _ (ht _ hW))

set_option maxHeartbeats 4000000 in
set_option maxRecDepth 100000 in
theorem do_calls {w : World} {base p m1 m2 : Nat} {E : Ep} {n : Nat} (h : EpAt w base p m1 m2 E) (hE : E.Ok n) (hn : n ≤ 1000) (k a : Int) (A : Option Addr) (c : Nat) (xs : List Int) (hk : Cl.ok ⟨k, a, xs⟩) (hx : Stays (SE base p m1 m2 w) w dI A xs) (hc : xs.length ≤ c) :
    Calls Try.prog 11 #[.pointer (some ⟨p, 0, none⟩), .agg #[.int .i64 k, .int .i64 a, .slice A xs.length c]] w fun e w' => ∃ v, e = .returned (.tuple #[v, .int .i64 (E.run ⟨k, a, xs⟩).2.1]) ∧ dI.Q 3 w' w.heap.size (fun _ => True) v (E.run ⟨k, a, xs⟩).1 ∧ EpAt w' base p m1 m2 (E.run ⟨k, a, xs⟩).2.2 ∧ Turn (SE base p m1 m2 w) w w' := by
  have H0 := Aside0.mk h
  have HE := Aside0.mk hE
  have HX := Aside0.mk hx
  have HK := Aside0.mk hk
  have HL : Aside0 (E.q.length + xs.length ≤ 1000000) := ⟨by have := hE.q; have := hk.2.2.2; dsimp only at this; omega⟩
  have HB : Aside0 (Below w.heap.size w (w.alloc (.cells #[.int .i64 k, .int .i64 a, .slice A xs.length c] 34))) := ⟨below_alloc (Below.refl _ _) _⟩
  have HX2 : Aside0 (Stays (SE base p m1 m2 (w.alloc (.cells #[.int .i64 k, .int .i64 a, .slice A xs.length c] 34))) (w.alloc (.cells #[.int .i64 k, .int .i64 a, .slice A xs.length c] 34)) dI A xs) := ⟨fun W' hW => hx _ (SE.trans (Turn.of_below HB.out) hW)⟩
  clear h hE hx hk
  by_cases k0 : k = 0
  · subst k0
    have HR : Aside0 (E.run ⟨0, a, xs⟩ = ([], E.enter a)) := ⟨rfl⟩
    go_enter Try.func11, Try.ntmps11
    go_wp2_with (go_at_call 20; refine (Enter_calls (H0.out.below HB.out) a HK.out.2.1).mono ?_; rintro e w2 ⟨rfl, hE2, hT2⟩; have HE2 := Aside0.mk hE2; have HT2 := Aside0.mk (SE.trans (Turn.of_below HB.out) hT2); clear hE2 hT2)
    go_ret2
    rw [HR.out]
    exact ⟨.slice none 0 0, rfl, Kd.Q_nil _ _ _ _ _, HE2.out, HT2.out⟩
  · have b0 : (k == 0) = false := by simpa using k0
    by_cases k1 : k = 1
    · subst k1
      have HR : Aside0 (E.run ⟨1, a, xs⟩ = ([], E.leave a)) := ⟨rfl⟩
      clear k0
      go_enter Try.func11, Try.ntmps11
      go_wp2_with (go_at_call 21; refine (Leave_calls (H0.out.below HB.out) a HK.out.2.1).mono ?_; rintro e w2 ⟨rfl, hE2, hT2⟩; have HE2 := Aside0.mk hE2; have HT2 := Aside0.mk (SE.trans (Turn.of_below HB.out) hT2); clear hE2 hT2)
      go_ret2
      rw [HR.out]
      exact ⟨.slice none 0 0, rfl, Kd.Q_nil _ _ _ _ _, HE2.out, HT2.out⟩
    · have b1 : (k == 1) = false := by simpa using k1
      by_cases k2 : k = 2
      · subst k2
        have HR : Aside0 (E.run ⟨2, a, xs⟩ = ([], E.retire xs)) := ⟨rfl⟩
        clear k0 k1
        go_enter Try.func11, Try.ntmps11
        go_wp2_with (go_at_call 22; refine (Retire_calls (H0.out.below HB.out) A c xs HX2.out hc HL.out HK.out.2.2.1 (by have := HE.out.now0; omega) (by have := HE.out.now1; omega)).mono ?_; rintro e w2 ⟨rfl, hE2, hT2⟩; have HE2 := Aside0.mk hE2; have HT2 := Aside0.mk (SE.trans (Turn.of_below HB.out) hT2); clear hE2 hT2)
        go_ret2
        rw [HR.out]
        exact ⟨.slice none 0 0, rfl, Kd.Q_nil _ _ _ _ _, HE2.out, HT2.out⟩
      · have b2 : (k == 2) = false := by simpa using k2
        by_cases k3 : k = 3
        · subst k3
          have HR : Aside0 (E.run ⟨3, a, xs⟩ = (E.free.1, 0, E.free.2)) := ⟨rfl⟩
          clear k0 k1 k2
          go_enter Try.func11, Try.ntmps11
          go_wp2_with (go_at_call 23; refine (Free_calls (H0.out.below HB.out) (by have := HL.out; omega) HE.out.wf).mono ?_; rintro e w2 ⟨v2, rfl, hQ2, hE2, hT2⟩; have HQ2 := Aside0.mk (Kd.Q_lower hQ2 HB.out.size); have HE2 := Aside0.mk hE2; have HT2 := Aside0.mk (SE.trans (Turn.of_below HB.out) hT2); clear hE2 hT2 hQ2)
          go_ret2
          rw [HR.out]
          exact ⟨v2, rfl, HQ2.out, HE2.out, HT2.out⟩
        · have b3 : (k == 3) = false := by simpa using k3
          have HR : Aside0 (E.run ⟨k, a, xs⟩ = ([], 0, E)) := ⟨by simp only [Ep.run, if_neg k0, if_neg k1, if_neg k2, if_neg k3]⟩
          clear k0 k1 k2 k3
          go_enter Try.func11, Try.ntmps11
          go_wp2_with fail
          go_ret2
          rw [HR.out]
          exact ⟨.slice none 0 0, rfl, Kd.Q_nil _ _ _ _ _, H0.out.below HB.out, Turn.of_below HB.out⟩
end Go.Proofs.Ytfpjkiokcjbbmaa
