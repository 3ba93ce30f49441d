/- The contract of sanity: the examples of the documentation, one by one. -/
import Derived.Test.YtfpjkiokcjbbmaaFew
namespace Go.Proofs.Ytfpjkiokcjbbmaa
open Go.RowKit Go.Maps Go.MapKept Go.Proofs.YtfpjkiokcjbbmaaW.PrintWords Go.Proofs.YtfpjkiokcjbbmaaW.PrintLast Go.Proofs.YtfpjkiokcjbbmaaW.PrintMore

/-- The world behind a literal of integers. -/
abbrev litW (W : World) (xs : List Int) : World := W.alloc (.cells (xs.map (Value.int .i64)).toArray 3)
theorem newI (W : World) (xs : List Int) (hm : xs.length ≤ 1000) : dI.Q 3 (litW W xs) W.heap.size (fun _ => True) (.slice (some ⟨W.heap.size, 0, none⟩) xs.length xs.length) xs := by
  have h2 := World.ownsRow_lit (base := W.heap.size) (e := 3) (size := 1) W (xs.map (Value.int .i64)).toArray xs.length (Nat.le_refl _) (by simp [maxLen]; omega) (by simp)
  exact Kd.Q_of_R (Kd.R_of_own (by simpa [encs] using h2) (fun _ _ => trivial))
theorem litW_below (W : World) (xs : List Int) : Below W.heap.size W (litW W xs) := below_alloc (Below.refl _ _) _

theorem retire_lit {w : World} {base p m1 m2 : Nat} {E : Ep} (h : EpAt w base p m1 m2 E) (xs : List Int) (hl : xs.length ≤ 1000) (hq : E.q.length ≤ 1000) (hw : ∀ x ∈ xs, wf64 x) (hn0 : 0 ≤ E.now) (hn : E.now ≤ 1000000) :
    Calls Try.prog 22 #[.pointer (some ⟨p, 0, none⟩), .slice (some ⟨w.heap.size, 0, none⟩) xs.length xs.length] (litW w xs) fun e w' => e = .returned (.int .i64 (E.retire xs).1) ∧ EpAt w' base p m1 m2 (E.retire xs).2 ∧ Turn (SE base p m1 m2 w) w w' := by
  have hb := litW_below w xs
  obtain ⟨A, c, e, hc, hst⟩ := stays_new (h.below hb) (newI w xs hl)
  injection e with e1 e2 e3
  subst e1 e3
  refine (Retire_calls (h.below hb) _ _ xs hst hc (by omega) hw hn0 hn).mono ?_
  rintro e w' ⟨rfl, h1, h2⟩
  exact ⟨rfl, h1, SE.trans (Turn.of_below hb) h2⟩
theorem same_lit {w : World} {B : Nat} {A : Option Addr} {n c : Nat} {zs : List Int} (h : dI.Q 3 w B (fun _ => True) (.slice A n c) zs) (xs : List Int) (hl : xs.length ≤ 1000) :
    Calls Try.prog 13 #[.slice A n c, .slice (some ⟨w.heap.size, 0, none⟩) xs.length xs.length] (litW w xs) fun e w' => e = .returned (.bool (zs == xs)) ∧ Below w.heap.size w w' := by
  have hb := litW_below w xs
  obtain ⟨A', c', e, hc, hC⟩ := Kd.Q_reads (Kd.Q_below h hb)
  injection e with e1 e2 e3
  subst e1 e2 e3
  have hn := newI w xs hl
  obtain ⟨A2, c2, e, hc2, hC2⟩ := Kd.Q_reads hn
  injection e with e1 e2 e3
  subst e1 e3
  refine (Same_calls hC hc hC2 hc2).mono ?_
  rintro e w' ⟨rfl, h1⟩
  exact ⟨rfl, hb.trans (h1.below.mono hb.size)⟩
abbrev s0 : Ep := ⟨[], [], [], 1⟩
abbrev s1 : Ep := ⟨[(7, 1)], [], [], 1⟩
abbrev s2 : Ep := ⟨[(7, 1)], [(1, true), (2, true)], [(1, 1), (2, 1)], 2⟩
abbrev s3 : Ep := ⟨[(7, 1), (8, 2)], [(1, true), (2, true)], [(1, 1), (2, 1)], 2⟩
abbrev s4 : Ep := ⟨[(7, 1), (8, 2)], [(1, true), (2, true), (3, true)], [(1, 1), (2, 1), (3, 2)], 3⟩
abbrev s5 : Ep := ⟨[(8, 2)], [(1, true), (2, true), (3, true)], [(1, 1), (2, 1), (3, 2)], 3⟩
abbrev s6 : Ep := ⟨[(8, 2)], [(3, true)], [(3, 2)], 3⟩
abbrev s7 : Ep := ⟨[], [(3, true)], [(3, 2)], 3⟩
abbrev s8 : Ep := ⟨[], [], [], 3⟩

theorem tb {w w1 w2 : World} {p m1 m2 : Nat} (h : Below w.heap.size w w1) (k : Turn (SE w.heap.size p m1 m2 w1) w1 w2) : Below w.heap.size w w2 := h.trans (k.below (fun _ h => h.1) h.size)

set_option maxHeartbeats 4000000 in
set_option maxRecDepth 100000 in
theorem sanity_calls (w : World) : Calls Try.prog 7 #[] w fun e w' => e = .returned (.bool true) ∧ Below w.heap.size w w' := by
  have HNW : Aside0 (w.heap.size ≤ w.heap.size) := ⟨Nat.le_refl _⟩
  go_enter Try.func7, Try.ntmps7
  go_wp2_with (first
    | (go_at_call 9; refine (New_calls (base := w.heap.size) HNW.out).mono ?_; rintro e w1 ⟨p, m1, m2, rfl, hE1, hb1, hp1, hm1, hm2⟩; have HA0 : Aside0 (EpAt w1 w.heap.size p m1 m2 s0) := ⟨hE1⟩; have HT0 := Aside0.mk hb1; clear hE1 hb1 hp1 hm1 hm2 HNW)
    | (go_at_call 20; refine (Enter_calls HA0.out 7 (by rfl)).mono ?_; rintro e w2 ⟨he, hE2, hT2⟩; obtain rfl : e = .returned (.int .i64 0) := he; have HA1 : Aside0 (EpAt w2 w.heap.size p m1 m2 s1) := ⟨hE2⟩; have HT1 := Aside0.mk (tb HT0.out hT2); clear hE2 hT2 HA0 HT0)
    | (go_at_call 22; refine (retire_lit HA1.out [1, 2] (by decide) (by decide) (by decide) (by decide) (by decide)).mono ?_; rintro e w3 ⟨he, hE2, hT2⟩; obtain rfl : e = .returned (.int .i64 0) := he; have HA2 : Aside0 (EpAt w3 w.heap.size p m1 m2 s2) := ⟨hE2⟩; have HT2 := Aside0.mk (tb HT1.out hT2); clear hE2 hT2 HA1 HT1)
    | (go_at_call 20; refine (Enter_calls HA2.out 8 (by rfl)).mono ?_; rintro e w4 ⟨he, hE2, hT2⟩; obtain rfl : e = .returned (.int .i64 0) := he; have HA3 : Aside0 (EpAt w4 w.heap.size p m1 m2 s3) := ⟨hE2⟩; have HT3 := Aside0.mk (tb HT2.out hT2); clear hE2 hT2 HA2 HT2)
    | (go_at_call 22; refine (retire_lit HA3.out [3] (by decide) (by decide) (by decide) (by decide) (by decide)).mono ?_; rintro e w5 ⟨he, hE2, hT2⟩; obtain rfl : e = .returned (.int .i64 0) := he; have HA4 : Aside0 (EpAt w5 w.heap.size p m1 m2 s4) := ⟨hE2⟩; have HT4 := Aside0.mk (tb HT3.out hT2); clear hE2 hT2 HA3 HT3)
    | (go_at_call 23; refine (Free_calls HA4.out (by decide) (by decide)).mono ?_; rintro e w6 ⟨v6, he, hQ6, hE2, hT2⟩; obtain rfl : e = .returned v6 := he; obtain ⟨A6, c6, e6, _, _⟩ := Kd.Q_reads hQ6; have e6' : v6 = .slice A6 0 c6 := e6; subst e6'; have HA5 : Aside0 (EpAt w6 w.heap.size p m1 m2 s4) := ⟨hE2⟩; have HT5 := Aside0.mk (tb HT4.out hT2); clear hE2 hT2 HA4 HT4 hQ6 e6)
    | (go_at_call 21; refine (Leave_calls HA5.out 7 (by rfl)).mono ?_; rintro e w7 ⟨he, hE2, hT2⟩; obtain rfl : e = .returned (.int .i64 0) := he; have HA6 : Aside0 (EpAt w7 w.heap.size p m1 m2 s5) := ⟨hE2⟩; have HT6 := Aside0.mk (tb HT5.out hT2); clear hE2 hT2 HA5 HT5)
    | (go_at_call 23; refine (Free_calls HA6.out (by decide) (by decide)).mono ?_; rintro e w8 ⟨v8, he, hQ8, hE2, hT2⟩; obtain rfl : e = .returned v8 := he; obtain ⟨A8, c8, e8, _, _⟩ := Kd.Q_reads hQ8; have e8' : v8 = .slice A8 2 c8 := e8; subst e8'; have HQ8 : Aside0 (dI.Q 3 w8 w7.heap.size (fun _ => True) (.slice A8 2 c8) [1, 2]) := ⟨hQ8⟩; have HA7 : Aside0 (EpAt w8 w.heap.size p m1 m2 s6) := ⟨hE2⟩; have HT7 := Aside0.mk (tb HT6.out hT2); clear hE2 hT2 HA6 HT6 hQ8 e8; have HC := HA7; have HTC : Aside0 (Turn (SE w.heap.size p m1 m2 w8) w8 w8) := ⟨Turn.refl _ _⟩)
    | (go_at_call 19; refine (Waiting_calls HA7.out (by decide)).mono ?_; rintro e w9 ⟨v9, he, hQ9, hb9⟩; obtain rfl : e = .returned v9 := he; obtain ⟨A9, c9, e9, _, _⟩ := Kd.Q_reads hQ9; have e9' : v9 = .slice A9 1 c9 := e9; subst e9'; have HQ9 : Aside0 (dI.Q 3 w9 w8.heap.size (fun _ => True) (.slice A9 1 c9) [3]) := ⟨hQ9⟩; have HA8 := Aside0.mk (HA7.out.below hb9); have HT8 := Aside0.mk (tb HT7.out (Turn.of_below (S := SE w.heap.size p m1 m2 w8) hb9)); have HTC2 := Aside0.mk (SE.trans HTC.out (Turn.of_below hb9)); clear hb9 hQ9 e9 HA7 HT7 HTC)
    | (go_at_call 13; refine (same_lit HQ9.out [3] (by decide)).mono ?_; rintro e w10 ⟨he, hb9⟩; obtain rfl : e = .returned (.bool true) := he; have HA9 := Aside0.mk (HA8.out.below hb9); have HT9 := Aside0.mk (tb HT8.out (Turn.of_below (S := SE w.heap.size p m1 m2 w9) hb9)); have HTC := Aside0.mk (SE.trans HTC2.out (Turn.of_below hb9)); clear hb9 HA8 HT8 HTC2 HQ9)
    | (go_at_call 17; refine (Readers_calls HA9.out (by decide)).mono ?_; rintro e w11 ⟨v9, he, hQ9, hb9⟩; obtain rfl : e = .returned v9 := he; have e8s : srt (s6.rd.map (·.1)) = [8] := (by simp [srt] : srt [8] = [8]); rw [e8s] at hQ9; obtain ⟨A11, c11, e9, _, _⟩ := Kd.Q_reads hQ9; have e9' : v9 = .slice A11 1 c11 := e9; subst e9'; have HQ11 : Aside0 (dI.Q 3 w11 w10.heap.size (fun _ => True) (.slice A11 1 c11) [8]) := ⟨hQ9⟩; have HA10 := Aside0.mk (HA9.out.below hb9); have HT10 := Aside0.mk (tb HT9.out (Turn.of_below (S := SE w.heap.size p m1 m2 w10) hb9)); have HTC2 := Aside0.mk (SE.trans HTC.out (Turn.of_below hb9)); clear hb9 hQ9 e9 HA9 HT9 HTC e8s)
    | (go_at_call 13; refine (same_lit HQ11.out [8] (by decide)).mono ?_; rintro e w12 ⟨he, hb9⟩; obtain rfl : e = .returned (.bool true) := he; have HA11 := Aside0.mk (HA10.out.below hb9); have HT11 := Aside0.mk (tb HT10.out (Turn.of_below (S := SE w.heap.size p m1 m2 w11) hb9)); have HTC := Aside0.mk (SE.trans HTC2.out (Turn.of_below hb9)); clear hb9 HA10 HT10 HTC2 HQ11)
    | (go_at_call 15; refine (Least_calls HA11.out).mono ?_; rintro e w13 ⟨he, hb9⟩; obtain rfl : e = .returned (.int .i64 2) := he; have HA12 := Aside0.mk (HA11.out.below hb9); have HT12 := Aside0.mk (tb HT11.out (Turn.of_below (S := SE w.heap.size p m1 m2 w12) hb9)); have HTC2 := Aside0.mk (SE.trans HTC.out (Turn.of_below hb9)); clear hb9 HA11 HT11 HTC)
    | (go_at_call 14; refine (Now_calls HA12.out).mono ?_; rintro e w14 ⟨he, rfl⟩; obtain rfl : e = .returned (.int .i64 3) := he; have HA13 := HA12; clear HA12)
    | (go_at_call 20; refine (Enter_calls HA13.out 8 (by rfl)).mono ?_; rintro e w15 ⟨he, hE2, hT2⟩; obtain rfl : e = .returned (.int .i64 6) := he; have HA14 : Aside0 (EpAt w15 w.heap.size p m1 m2 s6) := ⟨hE2⟩; have HT14 := Aside0.mk (tb HT12.out hT2); have HTC := Aside0.mk (SE.trans HTC2.out hT2); clear hE2 hT2 HA13 HT12 HTC2)
    | (go_at_call 21; refine (Leave_calls HA14.out 7 (by rfl)).mono ?_; rintro e w16 ⟨he, hE2, hT2⟩; obtain rfl : e = .returned (.int .i64 5) := he; have HA15 : Aside0 (EpAt w16 w.heap.size p m1 m2 s6) := ⟨hE2⟩; have HT15 := Aside0.mk (tb HT14.out hT2); have HTC2 := Aside0.mk (SE.trans HTC.out hT2); clear hE2 hT2 HA14 HT14 HTC)
    | (go_at_call 22; refine (retire_lit HA15.out [3] (by decide) (by decide) (by decide) (by decide) (by decide)).mono ?_; rintro e w17 ⟨he, hE2, hT2⟩; obtain rfl : e = .returned (.int .i64 6) := he; have HA16 : Aside0 (EpAt w17 w.heap.size p m1 m2 s6) := ⟨hE2⟩; have HT16 := Aside0.mk (tb HT15.out hT2); have HTC := Aside0.mk (SE.trans HTC2.out hT2); clear hE2 hT2 HA15 HT15 HTC2)
    | (go_at_call 22; refine (retire_lit HA16.out [4, 4] (by decide) (by decide) (by decide) (by decide) (by decide)).mono ?_; rintro e w18 ⟨he, hE2, hT2⟩; obtain rfl : e = .returned (.int .i64 6) := he; have HA17 : Aside0 (EpAt w18 w.heap.size p m1 m2 s6) := ⟨hE2⟩; have HT17 := Aside0.mk (tb HT16.out hT2); have HTC2 := Aside0.mk (SE.trans HTC.out hT2); clear hE2 hT2 HA16 HT16 HTC)
    | (go_at_call 21; refine (Leave_calls HA17.out 8 (by rfl)).mono ?_; rintro e w19 ⟨he, hE2, hT2⟩; obtain rfl : e = .returned (.int .i64 0) := he; have HA18 : Aside0 (EpAt w19 w.heap.size p m1 m2 s7) := ⟨hE2⟩; have HT18 := Aside0.mk (tb HT17.out hT2); have HTC := Aside0.mk (SE.trans HTC2.out hT2); clear hE2 hT2 HA17 HT17 HTC2)
    | (go_at_call 13; refine (same_lit (hqKeep HQ8.out HC.out HTC.out) [1, 2] (by decide)).mono ?_; rintro e w20 ⟨he, hb9⟩; obtain rfl : e = .returned (.bool true) := he; have HA19 := Aside0.mk (HA18.out.below hb9); have HT19 := Aside0.mk (tb HT18.out (Turn.of_below (S := SE w.heap.size p m1 m2 w19) hb9)); clear hb9 HA18 HT18 HTC)
    | (go_at_call 23; refine (Free_calls HA19.out (by decide) (by decide)).mono ?_; rintro e w21 ⟨v8, he, hQ8, hE2, hT2⟩; obtain rfl : e = .returned v8 := he; obtain ⟨A21, c21, e8, _, _⟩ := Kd.Q_reads hQ8; have e8' : v8 = .slice A21 1 c21 := e8; subst e8'; have HQ21 : Aside0 (dI.Q 3 w21 w20.heap.size (fun _ => True) (.slice A21 1 c21) [3]) := ⟨hQ8⟩; have HT20 := Aside0.mk (tb HT19.out hT2); clear hE2 hT2 HA19 HT19 hQ8 e8)
    | (go_at_call 13; refine (same_lit HQ21.out [3] (by decide)).mono ?_; rintro e w22 ⟨he, hb9⟩; obtain rfl : e = .returned (.bool true) := he; have HT21 := Aside0.mk (tb HT20.out (Turn.of_below (S := SE w.heap.size p m1 m2 w21) hb9)); clear hb9 HT20 HQ21))
  go_ret
  exact ⟨rfl, HT21.out⟩
end Go.Proofs.Ytfpjkiokcjbbmaa
