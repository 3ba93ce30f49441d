/- The contract of Do of package alumref17, and of few. -/
import Derived.Test.YtfpjkiokcjbbmaaDo
import Derived.Test.YtfpjkiokcjbbmaaRfFree
namespace Go.Proofs.Ytfpjkiokcjbbmaa
open Go.RowKit Go.Maps Go.MapKept Go.Proofs.YtfpjkiokcjbbmaaW.PrintWords Go.Proofs.YtfpjkiokcjbbmaaW.PrintLast Go.Proofs.YtfpjkiokcjbbmaaW.PrintMore

/-- What holds of the specification's epochs behind n calls. -/
structure Rf.Ok (R : Rf) (n : Nat) : Prop where
  rd : R.rd.length ≤ n
  wt : R.wt.length ≤ 10 * n
  now0 : 1 ≤ R.now
  now1 : R.now ≤ n + 1
def Rf.run (R : Rf) (c : Cl) : List Int × Int × Rf :=
  if c.kind = 0 then ([], R.enter c.a)
  else if c.kind = 1 then ([], R.leave c.a)
  else if c.kind = 2 then ([], R.retire c.l)
  else if c.kind = 3 then (R.free.1, 0, R.free.2)
  else ([], 0, R)

set_option maxHeartbeats 4000000 in
set_option maxRecDepth 100000 in
theorem RDo_calls {w : World} {base p : Nat} {R : Rf} {n : Nat} (h : RfAt w base p R) (hR : R.Ok n) (hn : n ≤ 1000) (k a : Int) (A : Option Addr) (c : Nat) (xs : List Int) (hk : Cl.ok ⟨k, a, xs⟩) (hx : Stays (SR p) w dI A xs) (hc : xs.length ≤ c) :
    Calls Try.prog 12 #[.pointer (some ⟨p, 0, none⟩), .agg #[.int .i64 k, .int .i64 a, .slice A xs.length c]] w fun e w' => ∃ v, e = .returned (.tuple #[v, .int .i64 (R.run ⟨k, a, xs⟩).2.1]) ∧ dI.Q 3 w' w.heap.size (fun _ => True) v (R.run ⟨k, a, xs⟩).1 ∧ RfAt w' base p (R.run ⟨k, a, xs⟩).2.2 ∧ Turn (SR p) w w' := by
  have H0 := Aside0.mk h
  have HE := Aside0.mk hR
  have HX := Aside0.mk hx
  have HK := Aside0.mk hk
  have HL : Aside0 (R.wt.length + xs.length ≤ 1000000 ∧ R.rd.length ≤ 1000000) := ⟨by have := hR.wt; have := hR.rd; have := hk.2.2.2; dsimp only at this; omega⟩
  have HB : Aside0 (Below w.heap.size w (w.alloc (.cells #[.int .i64 k, .int .i64 a, .slice A xs.length c] 34))) := ⟨below_alloc (Below.refl _ _) _⟩
  have HX2 : Aside0 (Stays (SR p) (w.alloc (.cells #[.int .i64 k, .int .i64 a, .slice A xs.length c] 34)) dI A xs) := ⟨fun W' hW => hx _ (SR.trans (Turn.of_below HB.out) hW)⟩
  clear h hR hx hk
  by_cases k0 : k = 0
  · subst k0
    have HR : Aside0 (R.run ⟨0, a, xs⟩ = ([], R.enter a)) := ⟨rfl⟩
    go_enter Try.func12, Try.ntmps12
    go_wp2_with (go_at_call 25; refine (REnter_calls (H0.out.below HB.out) a HL.out.2).mono ?_; rintro e w2 ⟨rfl, hE2, hT2⟩; have HE2 := Aside0.mk hE2; have HT2 := Aside0.mk (SR.trans (Turn.of_below HB.out) hT2); clear hE2 hT2)
    go_ret2
    rw [HR.out]
    exact ⟨.slice none 0 0, rfl, Kd.Q_nil _ _ _ _ _, HE2.out, HT2.out⟩
  · have b0 : (k == 0) = false := by simpa using k0
    by_cases k1 : k = 1
    · subst k1
      have HR : Aside0 (R.run ⟨1, a, xs⟩ = ([], R.leave a)) := ⟨rfl⟩
      clear k0
      go_enter Try.func12, Try.ntmps12
      go_wp2_with (go_at_call 26; refine (RLeave_calls (H0.out.below HB.out) a HL.out.2).mono ?_; rintro e w2 ⟨rfl, hE2, hT2⟩; have HE2 := Aside0.mk hE2; have HT2 := Aside0.mk (SR.trans (Turn.of_below HB.out) hT2); clear hE2 hT2)
      go_ret2
      rw [HR.out]
      exact ⟨.slice none 0 0, rfl, Kd.Q_nil _ _ _ _ _, HE2.out, HT2.out⟩
    · have b1 : (k == 1) = false := by simpa using k1
      by_cases k2 : k = 2
      · subst k2
        have HR : Aside0 (R.run ⟨2, a, xs⟩ = ([], R.retire xs)) := ⟨rfl⟩
        clear k0 k1
        go_enter Try.func12, Try.ntmps12
        go_wp2_with (go_at_call 27; refine (RRetire_calls (H0.out.below HB.out) A c xs HX2.out hc HL.out.1 (by have := HE.out.now0; omega) (by have := HE.out.now1; omega)).mono ?_; rintro e w2 ⟨rfl, hE2, hT2⟩; have HE2 := Aside0.mk hE2; have HT2 := Aside0.mk (SR.trans (Turn.of_below HB.out) hT2); clear hE2 hT2)
        go_ret2
        rw [HR.out]
        exact ⟨.slice none 0 0, rfl, Kd.Q_nil _ _ _ _ _, HE2.out, HT2.out⟩
      · have b2 : (k == 2) = false := by simpa using k2
        by_cases k3 : k = 3
        · subst k3
          have HR : Aside0 (R.run ⟨3, a, xs⟩ = (R.free.1, 0, R.free.2)) := ⟨rfl⟩
          clear k0 k1 k2
          go_enter Try.func12, Try.ntmps12
          go_wp2_with (go_at_call 28; refine (RFree_calls (H0.out.below HB.out) (by have := HL.out; omega)).mono ?_; rintro e w2 ⟨v2, rfl, hQ2, hE2, hT2⟩; have HQ2 := Aside0.mk (Kd.Q_lower hQ2 HB.out.size); have HE2 := Aside0.mk hE2; have HT2 := Aside0.mk (SR.trans (Turn.of_below HB.out) hT2); clear hE2 hT2 hQ2)
          go_ret2
          rw [HR.out]
          exact ⟨v2, rfl, HQ2.out, HE2.out, HT2.out⟩
        · have b3 : (k == 3) = false := by simpa using k3
          have HR : Aside0 (R.run ⟨k, a, xs⟩ = ([], 0, R)) := ⟨by simp only [Rf.run, if_neg k0, if_neg k1, if_neg k2, if_neg k3]⟩
          clear k0 k1 k2 k3
          go_enter Try.func12, Try.ntmps12
          go_wp2_with fail
          go_ret2
          rw [HR.out]
          exact ⟨.slice none 0 0, rfl, Kd.Q_nil _ _ _ _ _, H0.out.below HB.out, Turn.of_below HB.out⟩
end Go.Proofs.Ytfpjkiokcjbbmaa
