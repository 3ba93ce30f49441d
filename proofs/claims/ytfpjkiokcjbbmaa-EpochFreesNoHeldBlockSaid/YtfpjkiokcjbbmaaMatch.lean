/- The walk of EpochMatchesSpec: it returns true. -/
import Derived.Test.YtfpjkiokcjbbmaaSanity
import Derived.Test.YtfpjkiokcjbbmaaPlain
import Derived.Deep.RegionHeld3
namespace Go.Proofs.Ytfpjkiokcjbbmaa
open Go.RowKit Go.Maps Go.MapKept Go.Proofs.YtfpjkiokcjbbmaaW.PrintWords Go.Proofs.YtfpjkiokcjbbmaaW.PrintLast Go.Proofs.YtfpjkiokcjbbmaaW.PrintMore

def Cl.wf (c : Cl) : Prop := wf64 c.kind ∧ wf64 c.a ∧ ∀ x ∈ c.l, wf64 x
theorem few_ok {xs : List Cl} (h : few xs = true) (hw : ∀ c ∈ xs, c.wf) : xs.length ≤ 40 ∧ ∀ c ∈ xs, c.ok := by
  unfold few at h
  rw [Bool.and_eq_true, List.all_eq_true] at h
  exact ⟨by simpa using h.2, fun c hc => ⟨(hw c hc).1, (hw c hc).2.1, (hw c hc).2.2, by simpa using h.1 c hc⟩⟩
theorem stays_arg {w w' : World} {S : Nat → Prop} {A : Option Addr} {xs : List Int} (h : dI.C w A xs.length xs) (hB : Below w.heap.size w w') (hS : ∀ k, S k → w.heap.size ≤ k) : Stays S w' dI A xs :=
  fun _ hW => Kd.C_below h (hB.trans (hW.below hS hB.size))
theorem RfAt.now_ {w : World} {base p : Nat} {R : Rf} (h : RfAt w base p R) : w.cell? ⟨p, 2, none⟩ = some (.int .i64 R.now) := by
  obtain ⟨A1, c1, A2, c2, d0, d1, d2, _⟩ := h.cells
  exact d2
theorem RfAt.rd_ {w : World} {base p : Nat} {R : Rf} (h : RfAt w base p R) : ∃ A c, w.cell? ⟨p, 0, none⟩ = some (.slice A R.rd.length c) ∧ R.rd.length ≤ c ∧ dP.C w A R.rd.length R.rd := by
  obtain ⟨A1, c1, A2, c2, d0, d1, d2, _, h1, h2, q1, q2⟩ := h.cells
  exact ⟨A1, c1, d0, h1, (Kd.Q_reads' q1).2.2⟩
theorem RfAt.wt_ {w : World} {base p : Nat} {R : Rf} (h : RfAt w base p R) : ∃ A c, w.cell? ⟨p, 1, none⟩ = some (.slice A R.wt.length c) ∧ R.wt.length ≤ c ∧ dP.C w A R.wt.length R.wt := by
  obtain ⟨A1, c1, A2, c2, d0, d1, d2, _, h1, h2, q1, q2⟩ := h.cells
  exact ⟨A2, c2, d1, h2, (Kd.Q_reads' q2).2.2⟩

theorem qKeepR {w W' : World} {base p B : Nat} {R : Rf} {v : Value} {xs : List Int} (hq : dI.Q 3 w B (fun _ => True) v xs) (h : RfAt w base p R) (hW : Turn (SR p) w W') : dI.Q 3 W' B (fun _ => True) v xs := by
  obtain ⟨h1, v1, v2, hp, hq1, hq2⟩ := h
  refine Kd.Q_step (Kd.Q_mono (Kd.Q_bound hq) (ok' := fun k => ∃ cells, w.heap[k]? = some (.cells cells 3 (0, 0))) ?_) ?_ |> fun h => Kd.Q_mono h (fun _ _ => trivial)
  · rintro k ⟨_, _, _, t, ht, cs, hc⟩
    have : t = 3 := by simpa [Kd.int, Kd.scalar] using ht
    subst this
    exact ⟨cs, hc⟩
  · rintro k ⟨cs, hc⟩ hlt
    refine hW.kept.2 k hlt ?_
    intro e
    have e : k = p := e
    subst e
    rw [hp] at hc
    injection hc with hc
    injection hc with _ hc
    cases hc

set_option maxHeartbeats 8000000 in
set_option maxRecDepth 100000 in
theorem match_calls {w : World} {A : Option Addr} {c : Nat} {xs : List Cl} (hx : dC.C w A xs.length xs) (hc : xs.length ≤ c) (hw : ∀ c ∈ xs, c.wf) :
    Calls Try.prog 3 #[.slice A xs.length c] w fun e w' => e = .returned (.bool true) ∧ Below w.heap.size w w' := by
  have HX := Aside0.mk hx
  have HW := Aside0.mk hw
  clear hx hw
  cases hf : few xs with
  | false =>
    go_enter Try.func3, Try.ntmps3
    go_wp2_with (first
      | (go_at_call 7; refine (sanity_calls w).mono ?_; rintro e w1 ⟨rfl, hb⟩; have HB := Aside0.mk hb; clear hb)
      | (go_at_call 8; refine (few_calls (Kd.C_below HX.out HB.out) hc).mono ?_; rintro e w2 ⟨he, rfl⟩; rw [hf] at he; subst he))
    go_ret
    exact ⟨rfl, HB.out⟩
  | true =>
    have HF := Aside0.mk (few_ok hf HW.out)
    have hlen := HF.out.1
    go_enter Try.func3, Try.ntmps3
    go_wp2_with (first
      | (go_at_call 7; refine (sanity_calls w).mono ?_; rintro e w1 ⟨rfl, hb⟩; have HB := Aside0.mk hb; clear hb)
      | (go_at_call 8; refine (few_calls (Kd.C_below HX.out HB.out) hc).mono ?_; rintro e w2 ⟨he, rfl⟩; rw [hf] at he; subst he)
      | (go_at_call 9; refine (New_calls (base := w.heap.size) HB.out.size).mono ?_; rintro e w3 ⟨p, m1, m2, rfl, hE, hb, _, _, _⟩; have HE := Aside0.mk hE; have HB3 := Aside0.mk (HB.out.trans (hb.mono HB.out.size)); clear hE hb HB)
      | (go_at_call 10; refine (RNew_calls (base := w.heap.size) HB3.out.size).mono ?_; rintro e w4 ⟨q, rfl, hR, hb, _⟩; have HR := Aside0.mk hR; have HE4 := Aside0.mk (HE.out.below hb); have HB4 := Aside0.mk (HB3.out.trans (hb.mono HB3.out.size)); clear hR hb HB3 HE))
    go_loopg [6, 7, 8, 9, 10] xs.length (fun kq v6 v7 v8 v9 v10 w' => ∃ (k : Nat) (E : Ep) (R : Rf), v6 = .int .i64 k ∧ k ≤ xs.length ∧ Aside0 (kq = xs.length - k) ∧ Aside0 (EpAt w' w.heap.size p m1 m2 E) ∧ Aside0 (RfAt w' w.heap.size q R) ∧ Aside0 (Rel E R) ∧ Aside0 (E.Ok k ∧ R.Ok k) ∧ Aside0 (Below w.heap.size w w'))
    case atStart => exact ⟨0, _, _, rfl, by omega, ⟨by omega⟩, HE4, HR, ⟨Rel.start⟩, ⟨⟨by simp, by simp, by simp, by simp, by simp⟩, ⟨by simp, by simp, by simp, by simp⟩⟩, HB4⟩
    case round =>
      clear HE4 HR HB4
      obtain ⟨k, E, R, rfl, hk, HK, HE, HR, HL, HO, HB⟩ := hrel
      by_cases hlt : k < xs.length
      · obtain ⟨⟨kd, a, l⟩, hxk⟩ : ∃ x, xs[k]? = some x := ⟨_, List.getElem?_eq_getElem hlt⟩
        obtain ⟨ad, A2, c2, e0, h0, h1, h2, h3, h4⟩ := dC_at HX.out k _ hxk
        dsimp only at h0 h1 h2 h3 h4
        subst e0
        have HC := Aside0.mk (And.intro h0 (And.intro h1 h2))
        have HK2 := Aside0.mk (HF.out.2 _ (List.mem_of_getElem? hxk))
        have HC4 := Aside0.mk h4
        have HRUN := Aside0.mk (HL.out.run ⟨kd, a, l⟩)
        have HOE := Aside0.mk (HO.out.1.run _ HK2.out)
        have HOR := Aside0.mk (HO.out.2.run _ HK2.out)
        have g0 := pw_cell_below HB.out h0
        have g1 := pw_cell_below HB.out h1
        have g2 := pw_cell_below HB.out h2
        clear h0 h1 h2 h4 hxk
        go_upto_region 11 with (first
          | (go_at_call 11; refine (do_calls HE.out HO.out.1 (by omega) kd a A2 c2 l HK2.out (stays_arg HC4.out HB.out (fun k h => h.1)) h3).mono ?_; rintro e w2 ⟨v, rfl, hQ, hE2, hT2⟩; have HB2 := Aside0.mk (HB.out.trans (hT2.below (fun k h => h.1) HB.out.size)); have HR2 := Aside0.mk (HR.out.other HE.out hT2); have HE2 := Aside0.mk hE2; have HQ := Aside0.mk hQ; clear g0 g1 g2; have g0 := pw_cell_below HB2.out HC.out.1; have g1 := pw_cell_below HB2.out HC.out.2.1; have g2 := pw_cell_below HB2.out HC.out.2.2; clear hE2 hQ HB)
          | (go_at_call 12; refine (RDo_calls HR2.out HO.out.2 (by omega) kd a A2 c2 l HK2.out (stays_arg HC4.out HB2.out (fun k h => by rw [show k = q from h]; exact HR2.out.1)) h3).mono ?_; rintro e w3 ⟨u, he, hQ3, hR3, hT3⟩; rw [← HRUN.out.2.1] at he; subst he; rw [← HRUN.out.1] at hQ3; have HQ4 := Aside0.mk (qKeepR HQ.out HR2.out hT3); clear HQ; have HE3 := Aside0.mk (HE2.out.other HR2.out hT3); have HT3 := Aside0.mk hT3; have HB3 := Aside0.mk (HB2.out.trans (hT3.below (fun k h => by rw [show k = q from h]; exact HR2.out.1) HB2.out.size)); have HR3 := Aside0.mk hR3; have HQ3 := Aside0.mk hQ3; clear hR3 hQ3 hT3))
        have HL3 := Aside0.mk HRUN.out.2.2
        clear HRUN HC HC4 HK2 HL g0 g1 g2 HO HE HE2 HR2 HB2 HR HT3
        generalize (E.run ⟨kd, a, l⟩).1 = ls at *
        generalize (E.run ⟨kd, a, l⟩).2.1 = en at *
        generalize (E.run ⟨kd, a, l⟩).2.2 = E1 at *
        generalize (R.run ⟨kd, a, l⟩).2.2 = R1 at *
        obtain ⟨Av, cv, rfl, hcv, _⟩ := Kd.Q_reads HQ4.out
        obtain ⟨Au, cu, rfl, hcu, _⟩ := Kd.Q_reads HQ3.out
        have HA := Aside0.mk (Kd.Q_reads' HQ4.out).2.2
        have HA2 := Aside0.mk (Kd.Q_reads' HQ3.out).2.2
        have gq := HR3.out.now_
        rw [HL3.out.now] at gq
        clear HQ4 HQ3
        go_region_held3 (fun w' => Below w3.heap.size w3 w' ∧ w'.cell? ⟨q, 2, none⟩ = some (.int .i64 E1.now))
          (first
            | assumption
            | exact ⟨HBW.out, gq2⟩
            | exact ⟨below_drew (Below.refl _ _), gq⟩)
          (first
            | (go_at_call 13; obtain ⟨hS1, hS2⟩ := ‹Below w3.heap.size w3 _ ∧ _›; refine (Same_calls (Kd.C_below HA.out hS1) hcv (Kd.C_below HA2.out hS1) hcu).mono ?_; rintro e w4 ⟨he, hb⟩; rw [beq_self_eq_true] at he; subst he; have HBW := Aside0.mk (below_step hS1 hb.below); have gq2 := (HR3.out.below HBW.out).now_; rw [HL3.out.now] at gq2; clear hb hS1 hS2)
            | (go_at_call 14; refine (Now_calls (HE3.out.below (And.left ‹Below w3.heap.size w3 _ ∧ _›))).mono ?_; rintro e w4 ⟨rfl, rfl⟩)
            | (go_at_call 15; obtain ⟨hS1, hS2⟩ := ‹Below w3.heap.size w3 _ ∧ _›; refine (Least_calls (HE3.out.below hS1)).mono ?_; rintro e w4 ⟨rfl, hb⟩; have HBW := Aside0.mk (below_step hS1 hb); have gq2 := (HR3.out.below HBW.out).now_; rw [HL3.out.now] at gq2; clear hb hS1 hS2)
            | (go_at_call 16; refine (RLeast_calls (HR3.out.below (And.left ‹Below w3.heap.size w3 _ ∧ _›))).mono ?_; rintro e w4 ⟨he, rfl⟩; rw [← HL3.out.least] at he; subst he))
        obtain ⟨hS1, hS2⟩ := ‹Below w3.heap.size w3 _ ∧ _›
        have HE5 := Aside0.mk (HE3.out.below hS1)
        have HR5 := Aside0.mk (HR3.out.below hS1)
        have HB5 := Aside0.mk (below_then HB3.out HB3.out.size hS1)
        clear hS1 hS2 HE3 HR3 HB3 HA HA2 HBW gq gq2
        obtain ⟨A5, c5, k5, hc5, hC5⟩ := HR5.out.rd_
        obtain ⟨A6, c6, k6, hc6, hC6⟩ := HR5.out.wt_
        have HC5 := Aside0.mk hC5
        have HC6 := Aside0.mk hC6
        obtain ⟨nr, hnr⟩ : ∃ nr, nr = R1.rd.map (·.1) := ⟨_, rfl⟩
        obtain ⟨nw, hnw⟩ : ∃ nw, nw = E1.q.map (·.1) := ⟨_, rfl⟩
        have HN1 : Aside0 (srt (E1.rd.map (·.1)) = nr) := ⟨by rw [hnr]; exact HL3.out.readers⟩
        have HN2 : Aside0 (R1.rd.map (·.1) = nr) := ⟨hnr.symm⟩
        have HN3 : Aside0 (E1.q.map (·.1) = nw) := ⟨hnw.symm⟩
        have HN4 : Aside0 (R1.wt.map (·.1) = nw) := ⟨by rw [hnw, HL3.out.wt]⟩
        have HLE : Aside0 (E1.rd.length ≤ 1000000 ∧ R1.rd.length ≤ 1000000 ∧ E1.q.length ≤ 1000000 ∧ R1.wt.length ≤ 1000000) := ⟨by
          have := HOE.out.rd; have := HOE.out.q; have := HOR.out.rd; have := HOR.out.wt; omega⟩
        clear hC5 hC6 hnr hnw
        obtain ⟨wq, rfl⟩ : ∃ wq : World, wq = w4 := ⟨_, rfl⟩
        go_upto_region 13 with fail
        go_region_held3 (fun w' => Below wq.heap.size wq w' ∧ w'.cell? ⟨q, 0, none⟩ = some (.slice A5 R1.rd.length c5) ∧ w'.cell? ⟨q, 1, none⟩ = some (.slice A6 R1.wt.length c6))
          (first
            | assumption
            | exact ⟨HBW.out, pw_cell_below HBW.out k5, pw_cell_below HBW.out k6⟩
            | exact ⟨below_drew (Below.refl _ _), k5, k6⟩)
          (first
            | (go_at_call 17; obtain ⟨hS1, hS2, hS3⟩ := ‹Below wq.heap.size wq _ ∧ _›; refine (Readers_calls (HE5.out.below hS1) HLE.out.1).mono ?_; rintro e w6 ⟨v6, rfl, hQ, hb⟩; rw [HN1.out] at hQ; obtain ⟨Ar, cr, rfl, hcr, _⟩ := Kd.Q_reads hQ; have HCr := Aside0.mk (Kd.Q_reads' hQ).2.2; have HBW := Aside0.mk (below_step hS1 hb); clear hb hS1 hS2 hS3 hQ)
            | (go_at_call 18; have hz_ := HCr.out; clear hz_; obtain ⟨hS1, hS2, hS3⟩ := ‹Below wq.heap.size wq _ ∧ _›; refine (Names_calls (Kd.C_below HC5.out hS1) hc5 HLE.out.2.1).mono ?_; rintro e w7 ⟨v7, rfl, hQ, hb⟩; rw [HN2.out] at hQ; obtain ⟨An, cn, rfl, hcn, _⟩ := Kd.Q_reads hQ; have HCn := Aside0.mk (Kd.Q_reads' hQ).2.2; have HCs := Aside0.mk (Kd.C_below HCr.out hb); have HBW := Aside0.mk (below_step hS1 hb); clear hb hS1 hS2 hS3 hQ HCr)
            | (go_at_call 13; have hz_ := HCs.out; clear hz_; obtain ⟨hS1, hS2, hS3⟩ := ‹Below wq.heap.size wq _ ∧ _›; refine (Same_calls HCs.out hcr HCn.out hcn).mono ?_; rintro e w8 ⟨he, hb⟩; rw [beq_self_eq_true] at he; subst he; have HBW := Aside0.mk (below_step hS1 hb.below); clear hb hS1 hS2 hS3 HCs HCn)
            | (go_at_call 19; obtain ⟨hS1, hS2, hS3⟩ := ‹Below wq.heap.size wq _ ∧ _›; refine (Waiting_calls (HE5.out.below hS1) HLE.out.2.2.1).mono ?_; rintro e w9 ⟨v9, rfl, hQ, hb⟩; rw [HN3.out] at hQ; obtain ⟨Aw, cw, rfl, hcw, _⟩ := Kd.Q_reads hQ; have HCw := Aside0.mk (Kd.Q_reads' hQ).2.2; have HBW := Aside0.mk (below_step hS1 hb); clear hb hS1 hS2 hS3 hQ)
            | (go_at_call 18; have hz_ := HCw.out; clear hz_; obtain ⟨hS1, hS2, hS3⟩ := ‹Below wq.heap.size wq _ ∧ _›; refine (Names_calls (Kd.C_below HC6.out hS1) hc6 HLE.out.2.2.2).mono ?_; rintro e w10 ⟨v7, rfl, hQ, hb⟩; rw [HN4.out] at hQ; obtain ⟨Am, cm, rfl, hcm, _⟩ := Kd.Q_reads hQ; have HCm := Aside0.mk (Kd.Q_reads' hQ).2.2; have HCv := Aside0.mk (Kd.C_below HCw.out hb); have HBW := Aside0.mk (below_step hS1 hb); clear hb hS1 hS2 hS3 hQ HCw)
            | (go_at_call 13; obtain ⟨hS1, hS2, hS3⟩ := ‹Below wq.heap.size wq _ ∧ _›; refine (Same_calls HCv.out hcw HCm.out hcm).mono ?_; rintro e w11 ⟨he, hb⟩; rw [beq_self_eq_true] at he; subst he; have HBW := Aside0.mk (below_step hS1 hb.below); clear hb hS1 hS2 hS3 HCv HCm))
        obtain ⟨hS1, hS2, hS3⟩ := ‹Below wq.heap.size wq _ ∧ _›
        have HE6 := Aside0.mk (HE5.out.below hS1)
        have HR6 := Aside0.mk (HR5.out.below hS1)
        have HB6 := Aside0.mk (below_then HB5.out HB5.out.size hS1)
        clear hS1 hS2 hS3 k5 k6 HBW
        go_wp2_with fail
        go_roundg (xs.length - (k + 1))
        case measure => have := HK.out; omega
        case rel => exact ⟨k + 1, E1, R1, by go_num, by omega, ⟨rfl⟩, HE6, HR6, HL3, ⟨HOE.out, HOR.out⟩, HB6⟩
      · go_wp2_with fail
        go_ret
        exact ⟨rfl, HB.out⟩
end Go.Proofs.Ytfpjkiokcjbbmaa
