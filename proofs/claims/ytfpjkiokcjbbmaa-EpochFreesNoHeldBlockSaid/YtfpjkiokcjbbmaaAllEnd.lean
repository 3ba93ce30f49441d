/- The walk of EpochFreesAllInTheEnd: it returns true. -/
import Derived.Test.YtfpjkiokcjbbmaaRow
namespace Go.Proofs.Ytfpjkiokcjbbmaa
open Go.RowKit Go.Maps Go.MapKept Go.Proofs.YtfpjkiokcjbbmaaW.PrintWords Go.Proofs.YtfpjkiokcjbbmaaW.PrintLast Go.Proofs.YtfpjkiokcjbbmaaW.PrintMore

theorem ends_run {E : Ep} {ret fr : List Int} (h : fr ++ E.q.map (·.1) = ret) (c : Cl) :
    (fr ++ (E.run c).1) ++ (E.run c).2.2.q.map (·.1) = if c.kind = 2 ∧ (E.run c).2.1 = 0 then ret ++ c.l else ret := by
  subst h
  unfold Ep.run
  split
  · rename_i hk
    rw [if_neg (fun h => by have := h.1; omega)]
    unfold Ep.enter; split <;> simp
  · split
    · rename_i hk
      rw [if_neg (fun h => by have := h.1; omega)]
      unfold Ep.leave; split <;> simp
    · split
      · rename_i hk
        unfold Ep.retire
        split
        · rw [if_neg (fun h => by have := h.2; simp at this)]; simp
        · rw [if_pos ⟨hk, rfl⟩]
          simp [qpush, Function.comp_def]
      · split
        · rename_i hk
          rw [if_neg (fun h => by have := h.1; omega)]
          simp only [Ep.free, List.append_assoc, ← List.map_append, List.take_append_drop]
        · rename_i h0 h1 h2 h3
          rw [if_neg (fun h => h2 h.1)]; simp
/-- A reader leaves. -/
theorem leave_one {E : Ep} (h : E.Inv) {r : Int} {rs : List Int} (hp : (E.rd.map (·.1)).Perm (r :: rs)) : (E.leave r).1 = 0 ∧ ((E.leave r).2.rd.map (·.1)).Perm rs ∧ (E.leave r).2.q = E.q ∧ (E.leave r).2.now = E.now := by
  have hm : r ∈ E.rd.map (·.1) := hp.mem_iff.2 (List.mem_cons_self ..)
  unfold Ep.leave
  cases hg : mget r E.rd with
  | none => exact absurd hm (mget_none.1 hg)
  | some v =>
    refine ⟨rfl, ?_, rfl, rfl⟩
    dsimp only
    rw [mdel_filter _ _ h.rdn]
    have e : (E.rd.filter fun x => x.1 != r).map (·.1) = (E.rd.map (·.1)).filter fun x => x != r := by
      rw [List.filter_map]; rfl
    rw [e]
    have hn := (hp.nodup_iff.1 h.rdn)
    rw [List.nodup_cons] at hn
    have h2 := hp.filter fun x => x != r
    simp only [bne_self_eq_false, Bool.false_eq_true, not_false_eq_true, List.filter_cons_of_neg] at h2
    have e2 : rs.filter (fun x => x != r) = rs := List.filter_eq_self.2 (fun y hy => by simp; rintro rfl; exact hn.1 hy)
    rw [e2] at h2
    exact h2
theorem rdw_run {E : Ep} (h : ∀ x ∈ E.rd, wf64 x.1) (c : Cl) (hc : c.ok) : ∀ x ∈ (E.run c).2.2.rd, wf64 x.1 := by
  unfold Ep.run
  split
  · unfold Ep.enter
    split
    · exact h
    · rename_i hn
      rw [mput_of_none _ hn]
      intro x hx
      rcases List.mem_append.1 hx with hx | hx
      · exact h x hx
      · simp at hx; subst hx; exact hc.2.1
  · split
    · unfold Ep.leave
      split
      · exact fun x hx => h x ((mdel_sublist c.a E.rd).mem hx)
      · exact h
    · split
      · unfold Ep.retire; split <;> exact h
      · split
        · exact h
        · exact h
theorem srt_perm (l : List Int) : l.Perm (srt l) := (List.mergeSort_perm _ _).symm
theorem free_all {E : Ep} (h : E.Inv) (hr : E.rd = []) : E.free.1 = E.q.map (·.1) ∧ E.free.2.q = [] ∧ E.free.2.least = E.now ∧ E.free.2.now = E.now := by
  have hl : E.least = E.now := by simp [Ep.least, hr, minr]
  have hsp := cutn_split E.least E.q h.qs
  have hall : E.q.filter (fun x => decide (x.2 < E.least)) = E.q := by
    rw [List.filter_eq_self]; intro x hx; have := h.qe x hx; rw [hl]; simpa using this
  have hnone : E.q.filter (fun x => !decide (x.2 < E.least)) = [] := by
    rw [List.filter_eq_nil_iff]; intro x hx; have := h.qe x hx; rw [hl]; simpa using this
  refine ⟨?_, ?_, ?_, rfl⟩
  · simp only [Ep.free, hsp.1, hall]
  · simp only [Ep.free, hsp.2, hnone]
  · simp [Ep.free, Ep.least, hr, minr]

set_option maxHeartbeats 8000000 in
set_option maxRecDepth 100000 in
theorem allend_calls {w : World} {A : Option Addr} {c : Nat} {xs : List Cl} (hx : dC.C w A xs.length xs) (hc : xs.length ≤ c) (hw : ∀ c ∈ xs, c.wf) :
    Calls Try.prog 5 #[.slice A xs.length c] w fun e w' => e = .returned (.bool true) ∧ Below w.heap.size w w' := by
  have HX := Aside0.mk hx
  have HW := Aside0.mk hw
  clear hx hw
  cases hf : few xs with
  | false =>
    go_enter Try.func5, Try.ntmps5
    go_wp2_with (first
      | (go_at_call 7; refine (sanity_calls w).mono ?_; rintro e w1 ⟨rfl, hb⟩; have HB := Aside0.mk hb; clear hb)
      | (go_at_call 8; refine (few_calls (Kd.C_below HX.out HB.out) hc).mono ?_; rintro e w2 ⟨he, rfl⟩; rw [hf] at he; subst he))
    go_ret
    exact ⟨rfl, HB.out⟩
  | true =>
    have HF := Aside0.mk (few_ok hf HW.out)
    have hlen := HF.out.1
    go_enter Try.func5, Try.ntmps5
    go_wp2_with (first
      | (go_at_call 7; refine (sanity_calls w).mono ?_; rintro e w1 ⟨rfl, hb⟩; have HB := Aside0.mk hb; clear hb)
      | (go_at_call 8; refine (few_calls (Kd.C_below HX.out HB.out) hc).mono ?_; rintro e w2 ⟨he, rfl⟩; rw [hf] at he; subst he)
      | (go_at_call 9; refine (New_calls (base := w.heap.size) HB.out.size).mono ?_; rintro e w3 ⟨p, m1, m2, rfl, hE, hb, _, _, _⟩; have HE0 := Aside0.mk hE; have HB3 := Aside0.mk (HB.out.trans (hb.mono HB.out.size)); clear hE hb HB))
    go_loopg [5, 6, 7, 8, 9] xs.length (fun kq v5 v6 v7 v8 v9 w' => ∃ (k : Nat) (E : Ep) (ret fr : List Int), v7 = .int .i64 k ∧ k ≤ xs.length ∧ Aside0 (kq = xs.length - k) ∧ Aside0 (EpAt w' w.heap.size p m1 m2 E) ∧ Aside0 (Row w' w.heap.size v5 ret) ∧ Aside0 (Row w' w.heap.size v6 fr) ∧ Aside0 (Apart v5 v6) ∧ Aside0 (E.Inv ∧ E.Ok k ∧ fr ++ E.q.map (·.1) = ret ∧ ret.length ≤ 10 * k) ∧ Aside0 (∀ x ∈ E.rd, wf64 x.1) ∧ Aside0 (Below w.heap.size w w'))
    case atStart => exact ⟨0, _, [], [], rfl, by omega, ⟨by omega⟩, HE0, ⟨Row.nil⟩, ⟨Row.nil⟩, ⟨fun k h => by simp [Value.ownBlock] at h⟩, ⟨Ep.Inv.start, ⟨by simp, by simp, by simp, by simp, by simp⟩, rfl, by simp⟩, ⟨by simp⟩, HB3⟩
    case round =>
      clear HE0 HB3
      obtain ⟨k, E, ret, fr, rfl, hk, HK, HE, HRT, HFR, HAP, HO, HRW, HB⟩ := hrel
      by_cases hlt : k < xs.length
      · obtain ⟨⟨kd, a, l⟩, hxk⟩ : ∃ x, xs[k]? = some x := ⟨_, List.getElem?_eq_getElem hlt⟩
        obtain ⟨ad, A2, c2, e0, h0, h1, h2, h3, h4⟩ := dC_at HX.out k _ hxk
        dsimp only at h0 h1 h2 h3 h4
        subst e0
        have HC := Aside0.mk (And.intro h0 (And.intro h1 h2))
        have HK2 := Aside0.mk (HF.out.2 _ (List.mem_of_getElem? hxk))
        have HC4 := Aside0.mk h4
        have HEN := Aside0.mk (ends_run HO.out.2.2.1 ⟨kd, a, l⟩)
        have HOE := Aside0.mk (And.intro (HO.out.1.run ⟨kd, a, l⟩) (HO.out.2.1.run _ HK2.out))
        have HRW2 := Aside0.mk (rdw_run HRW.out ⟨kd, a, l⟩ HK2.out)
        have HLL : Aside0 (l.length ≤ 10 ∧ ret.length ≤ 10 * k ∧ fr.length ≤ ret.length) := ⟨HK2.out.2.2.2, HO.out.2.2.2, by rw [← HO.out.2.2.1, List.length_append]; omega⟩
        have g0 := pw_cell_below HB.out h0
        have g1 := pw_cell_below HB.out h1
        have g2 := pw_cell_below HB.out h2
        obtain ⟨A5, c5, rfl, hc5, _⟩ := HRT.out.form
        obtain ⟨A6, c6, rfl, hc6, _⟩ := HFR.out.form
        have HLT := Aside0.mk HRT.out.lt
        clear h0 h1 h2 h4 hxk
        go_upto_region 10 with (first
          | (go_at_call 11; refine (do_calls HE.out HO.out.2.1 (by omega) kd a A2 c2 l HK2.out (stays_arg HC4.out HB.out (fun k h => h.1)) h3).mono ?_; rintro e w2 ⟨v, rfl, hQ, hE2, hT2⟩; have HB2 := Aside0.mk (HB.out.trans (hT2.below (fun k h => h.1) HB.out.size)); have HE2 := Aside0.mk hE2; have HQ := Aside0.mk hQ; have HRT2 := Aside0.mk (HRT.out.turn HE.out hT2); have HFR2 := Aside0.mk (HFR.out.turn HE.out hT2); clear g0 g1 g2; have g0 := pw_cell_below HB2.out HC.out.1; have g1 := pw_cell_below HB2.out HC.out.2.1; have g2 := pw_cell_below HB2.out HC.out.2.2; clear hE2 hQ hT2 HRT HFR HE))
        clear HB HO
        have HLS : Aside0 ((E.run ⟨kd, a, l⟩).1.length ≤ 100000) := ⟨by
          have h1 := HEN.out
          have h2 := congrArg List.length h1
          have h3 := HLL.out
          rw [List.length_append, List.length_append] at h2
          split at h2
          · rw [List.length_append] at h2; omega
          · omega⟩
        generalize (E.run ⟨kd, a, l⟩).1 = ls at *
        generalize (E.run ⟨kd, a, l⟩).2.1 = en at *
        generalize (E.run ⟨kd, a, l⟩).2.2 = E1 at *
        obtain ⟨Av, cv, rfl, hcv, _⟩ := Kd.Q_reads HQ.out
        have HCV := Aside0.mk (Kd.Q_reads' HQ.out).2.2
        have HNV := Aside0.mk (Kd.Q_base HQ.out)
        have HQT := Aside0.mk (Kd.Q_tight rfl HQ.out)
        have HCL := Aside0.mk (Kd.C_below HC4.out HB2.out)
        clear HQ HC4
        by_cases hret : kd = 2 ∧ en = 0
        · obtain ⟨rfl, rfl⟩ := hret
          have HEN2 : Aside0 ((fr ++ ls) ++ E1.q.map (·.1) = ret ++ l) := ⟨by rw [HEN.out, if_pos ⟨rfl, rfl⟩]⟩
          clear HEN
          go_wp2_with (first
            | ((with_reducible refine gate_builtin (b := .append) (xs := #[.tmp 43, .tmp 48]) rfl ?_); at_builtin
               refine Kd.R_append_rows dI (w0 := w2) (Rr := dI.K w2) w.heap.size rfl (.tmp 43) (.tmp 48) 29 3 (.int .i64 0) 8 rfl Try.underlying29 info3 rfl (by decide) (by omega) (.slice A5 ret.length c5) ret l A2 l.length c2 (fun _ => True) (fun _ => False) rfl rfl (R_free HRT2.out) HCL.out dI_KM (fun _ hk => hk.elim) (fun _ _ => trivial) (Below.refl _ _) HB2.out.size ?aL ?_
               case aL => have := HLL.out; omega
               intro v5 w5 hq1 hb1 hg1 hat1
               have HRT3 := Aside0.mk (Row.of hq1)
               have HFR3 := Aside0.mk (HFR2.out.grown hg1 (fun k hk => HAP.out.symm k hk))
               have HE3 := Aside0.mk (HE2.out.grow hg1 HRT2.out.typed)
               have HB3 := Aside0.mk (HB2.out.trans hb1)
               have HAP3 := Aside0.mk (Apart.symm (Apart.next HAP.out.symm HFR2.out hat1))
               have HCV3 := Aside0.mk (Kd.Q_reads' (Kd.Q_grown HQT.out hg1 (fun k hk e => by have h1 := HLT.out k e.symm; have h2 := HNV.out k hk.symm; omega))).2.2
               clear hq1 hb1 hg1 hat1)
            | ((with_reducible refine gate_builtin (b := .append) (xs := #[.tmp 50, .tmp 51]) rfl ?_); at_builtin
               refine Kd.R_append_rows dI (w0 := w5) (Rr := dI.K w5) w.heap.size rfl (.tmp 50) (.tmp 51) 29 3 (.int .i64 0) 8 rfl Try.underlying29 info3 rfl (by decide) (by omega) (.slice A6 fr.length c6) fr ls Av ls.length cv (fun _ => True) (fun _ => False) rfl rfl (R_free HFR3.out) HCV3.out dI_KM (fun _ hk => hk.elim) (fun _ _ => trivial) (Below.refl _ _) HB3.out.size ?aF ?_
               case aF => have := HLL.out; have := HLS.out; omega
               intro v6 w6 hq1 hb1 hg1 hat1
               have HFR4 := Aside0.mk (Row.of hq1)
               have HRT4 := Aside0.mk (HRT3.out.grown hg1 (fun k hk => HAP3.out k hk))
               have HE4 := Aside0.mk (HE3.out.grow hg1 HFR3.out.typed)
               have HB4 := Aside0.mk (HB3.out.trans hb1)
               have HAP4 := Aside0.mk (Apart.next HAP3.out HRT3.out hat1)
               clear hq1 hb1 hg1 hat1))
          go_roundg (xs.length - (k + 1))
          case measure => have := HK.out; omega
          case rel => exact ⟨k + 1, E1, ret ++ l, fr ++ ls, by go_num, by omega, ⟨rfl⟩, HE4, HRT4, HFR4, HAP4, ⟨HOE.out.1, HOE.out.2, HEN2.out, by have := HLL.out; rw [List.length_append]; omega⟩, HRW2, HB4⟩
        · have HEN2 : Aside0 ((fr ++ ls) ++ E1.q.map (·.1) = ret) := ⟨by rw [HEN.out, if_neg hret]⟩
          clear HEN
          by_cases hk2 : kd = 2
          · have he0 : (en == 0) = false := by simpa using fun e => hret ⟨hk2, e⟩
            clear hret
            subst hk2
            go_wp2_with (first
              | ((with_reducible refine gate_builtin (b := .append) (xs := #[.tmp 50, .tmp 51]) rfl ?_); at_builtin
                 refine Kd.R_append_rows dI (w0 := w2) (Rr := dI.K w2) w.heap.size rfl (.tmp 50) (.tmp 51) 29 3 (.int .i64 0) 8 rfl Try.underlying29 info3 rfl (by decide) (by omega) (.slice A6 fr.length c6) fr ls Av ls.length cv (fun _ => True) (fun _ => False) rfl rfl (R_free HFR2.out) HCV.out dI_KM (fun _ hk => hk.elim) (fun _ _ => trivial) (Below.refl _ _) HB2.out.size ?aF ?_
                 case aF => have := HLL.out; have := HLS.out; omega
                 intro v6 w6 hq1 hb1 hg1 hat1
                 have HFR4 := Aside0.mk (Row.of hq1)
                 have HRT4 := Aside0.mk (HRT2.out.grown hg1 (fun k hk => HAP.out k hk))
                 have HE4 := Aside0.mk (HE2.out.grow hg1 HFR2.out.typed)
                 have HB4 := Aside0.mk (HB2.out.trans hb1)
                 have HAP4 := Aside0.mk (Apart.next HAP.out HRT2.out hat1)
                 clear hq1 hb1 hg1 hat1))
            go_roundg (xs.length - (k + 1))
            case measure => have := HK.out; omega
            case rel => exact ⟨k + 1, E1, ret, fr ++ ls, by go_num, by omega, ⟨rfl⟩, HE4, HRT4, HFR4, HAP4, ⟨HOE.out.1, HOE.out.2, HEN2.out, by have := HLL.out; omega⟩, HRW2, HB4⟩
          · have he0 : (kd == 2) = false := by simpa using hk2
            clear hret hk2
            go_wp2_with (first
              | ((with_reducible refine gate_builtin (b := .append) (xs := #[.tmp 50, .tmp 51]) rfl ?_); at_builtin
                 refine Kd.R_append_rows dI (w0 := w2) (Rr := dI.K w2) w.heap.size rfl (.tmp 50) (.tmp 51) 29 3 (.int .i64 0) 8 rfl Try.underlying29 info3 rfl (by decide) (by omega) (.slice A6 fr.length c6) fr ls Av ls.length cv (fun _ => True) (fun _ => False) rfl rfl (R_free HFR2.out) HCV.out dI_KM (fun _ hk => hk.elim) (fun _ _ => trivial) (Below.refl _ _) HB2.out.size ?aF ?_
                 case aF => have := HLL.out; have := HLS.out; omega
                 intro v6 w6 hq1 hb1 hg1 hat1
                 have HFR4 := Aside0.mk (Row.of hq1)
                 have HRT4 := Aside0.mk (HRT2.out.grown hg1 (fun k hk => HAP.out k hk))
                 have HE4 := Aside0.mk (HE2.out.grow hg1 HFR2.out.typed)
                 have HB4 := Aside0.mk (HB2.out.trans hb1)
                 have HAP4 := Aside0.mk (Apart.next HAP.out HRT2.out hat1)
                 clear hq1 hb1 hg1 hat1))
            go_roundg (xs.length - (k + 1))
            case measure => have := HK.out; omega
            case rel => exact ⟨k + 1, E1, ret, fr ++ ls, by go_num, by omega, ⟨rfl⟩, HE4, HRT4, HFR4, HAP4, ⟨HOE.out.1, HOE.out.2, HEN2.out, by have := HLL.out; omega⟩, HRW2, HB4⟩
      · have hke : k = xs.length := by omega
        subst hke
        have HLL : Aside0 (ret.length ≤ 400 ∧ fr.length ≤ ret.length) := ⟨by have := HO.out.2.2.2; omega, by rw [← HO.out.2.2.1, List.length_append]; omega⟩
        have HLE : Aside0 (E.rd.length ≤ 1000000 ∧ E.q.length ≤ 1000000) := ⟨by have := HO.out.2.1.rd; have := HO.out.2.1.q; omega⟩
        obtain ⟨rs, hrs⟩ : ∃ rs, rs = srt (E.rd.map (·.1)) := ⟨_, rfl⟩
        have HRS : Aside0 ((E.rd.map (·.1)).Perm rs) := ⟨by rw [hrs]; exact srt_perm _⟩
        have HRS2 : Aside0 (srt (E.rd.map (·.1)) = rs) := ⟨hrs.symm⟩
        have HRSW : Aside0 (∀ x ∈ rs, wf64 x) := ⟨fun x hx => by
          obtain ⟨y, hy, rfl⟩ := List.mem_map.1 (HRS.out.mem_iff.2 hx)
          exact HRW.out y hy⟩
        have HRSL : Aside0 (rs.length ≤ 1000000) := ⟨by have := HRS.out.length_eq; rw [List.length_map] at this; have := HLE.out; omega⟩
        have hrsl := HRSL.out
        clear hrs hlt
        go_wp2_with (first
          | (go_at_call 17; refine (Readers_calls HE.out HLE.out.1).mono ?_; rintro e wb ⟨v10, rfl, hQ, hb⟩; rw [HRS2.out] at hQ; obtain ⟨Ar, cr, rfl, hcr, _⟩ := Kd.Q_reads hQ; have HQ := Aside0.mk hQ; have HE1 := Aside0.mk (HE.out.below hb); have HRT1 := Aside0.mk (HRT.out.below hb); have HFR1 := Aside0.mk (HFR.out.below hb); have HB1 := Aside0.mk (below_then HB.out HB.out.size hb); clear hQ hb HE HRT HFR HB))
        go_loopg [11] rs.length (fun kq v11 w' => ∃ (k : Nat) (E' : Ep), v11 = .int .i64 k ∧ k ≤ rs.length ∧ Aside0 (kq = rs.length - k) ∧ Aside0 (EpAt w' w.heap.size p m1 m2 E') ∧ Aside0 (Turn (SE w.heap.size p m1 m2 wb) wb w') ∧ Aside0 (E'.Inv ∧ (E'.rd.map (·.1)).Perm (rs.drop k) ∧ E'.q = E.q ∧ E'.now = E.now))
        case atStart => exact ⟨0, E, rfl, by omega, ⟨by omega⟩, HE1, ⟨Turn.refl _ _⟩, ⟨HO.out.1, HRS.out, rfl, rfl⟩⟩
        case round =>
          obtain ⟨j, E', rfl, hj, HJ, HEJ, HTJ, HOJ⟩ := hrel
          by_cases hjl : j < rs.length
          · obtain ⟨r, hrj⟩ : ∃ r, rs[j]? = some r := ⟨_, List.getElem?_eq_getElem hjl⟩
            obtain ⟨ad, e0, h0⟩ := dI_at (Kd.Q_reads' (hqKeep HQ.out HE1.out HTJ.out)).2.2 j r hrj
            subst e0
            have hdr : rs.drop j = r :: rs.drop (j + 1) := by rw [List.drop_eq_getElem_cons hjl]; congr 1; exact (List.getElem?_eq_some_iff.1 hrj).2
            have HLV : Aside0 _ := ⟨leave_one HOJ.out.1 (r := r) (rs := rs.drop (j + 1)) (by rw [← hdr]; exact HOJ.out.2.1)⟩
            have HLI := Aside0.mk (HOJ.out.1.leave r)
            have HRWJ := Aside0.mk (HRSW.out r (List.mem_of_getElem? hrj))
            clear hrj hdr
            go_wp2_with (first
              | (go_at_call 21; refine (Leave_calls HEJ.out r HRWJ.out).mono ?_; rintro e w2 ⟨he, hE2, hT2⟩; rw [HLV.out.1] at he; subst he; have HE2 := Aside0.mk hE2; have HT2 := Aside0.mk (SE.trans HTJ.out hT2); clear hE2 hT2))
            go_roundg (rs.length - (j + 1))
            case measure => have := HJ.out; omega
            case rel => exact ⟨j + 1, (E'.leave r).2, by go_num, by omega, ⟨rfl⟩, HE2, HT2, ⟨HLI.out, HLV.out.2.1, HLV.out.2.2.1.trans HOJ.out.2.2.1, HLV.out.2.2.2.trans HOJ.out.2.2.2⟩⟩
          · have hje : j = rs.length := by omega
            subst hje
            have HRD : Aside0 (E'.rd = []) := ⟨by
              have := HOJ.out.2.1.length_eq
              rw [List.length_map, List.drop_length] at this
              exact List.eq_nil_of_length_eq_zero this⟩
            have HFA := Aside0.mk (free_all HOJ.out.1 HRD.out)
            have HQL : Aside0 (E'.q.length ≤ 1000000 ∧ ∀ x ∈ E'.q, wf64 x.1) := ⟨by rw [HOJ.out.2.2.1]; exact ⟨HLE.out.2, HO.out.2.1.wf⟩⟩
            obtain ⟨ms, hms⟩ : ∃ ms, ms = E.q.map (·.1) := ⟨_, rfl⟩
            have HMS : Aside0 (E'.free.1 = ms) := ⟨by rw [HFA.out.1, HOJ.out.2.2.1, hms]⟩
            have HMS2 : Aside0 (fr ++ ms = ret) := ⟨by rw [hms]; exact HO.out.2.2.1⟩
            have HML : Aside0 (ms.length ≤ 400) := ⟨by have := congrArg List.length HMS2.out; rw [List.length_append] at this; have := HLL.out; omega⟩
            have HRT2 := Aside0.mk (HRT1.out.turn HE1.out HTJ.out)
            have HFR2 := Aside0.mk (HFR1.out.turn HE1.out HTJ.out)
            have HB2 := Aside0.mk (HB1.out.trans (HTJ.out.below (fun k h => h.1) HB1.out.size))
            obtain ⟨A6, c6, rfl, hc6, _⟩ := HFR2.out.form
            clear hms HRT1 HFR1 HB1 hjl
            go_wp2_with (first
              | (go_at_call 23; refine (Free_calls HEJ.out HQL.out.1 HQL.out.2).mono ?_; rintro e w3 ⟨v, rfl, hQ, hE2, hT2⟩; rw [HMS.out] at hQ; obtain ⟨Af, cf, rfl, hcf, _⟩ := Kd.Q_reads hQ; have HCF := Aside0.mk (Kd.Q_reads' hQ).2.2; have HE3 := Aside0.mk hE2; have HRT3 := Aside0.mk (HRT2.out.turn HEJ.out hT2); have HFR3 := Aside0.mk (HFR2.out.turn HEJ.out hT2); have HB3 := Aside0.mk (HB2.out.trans (hT2.below (fun k h => h.1) HB2.out.size)); clear hQ hE2 hT2 HRT2 HFR2 HB2)
              | ((with_reducible refine gate_builtin (b := .append) (xs := #[.tmp 68, .tmp 70]) rfl ?_); at_builtin
                 refine Kd.R_append_rows dI (w0 := w3) (Rr := dI.K w3) w.heap.size rfl (.tmp 68) (.tmp 70) 29 3 (.int .i64 0) 8 rfl Try.underlying29 info3 rfl (by decide) (by omega) (.slice A6 fr.length c6) fr ms Af ms.length cf (fun _ => True) (fun _ => False) rfl rfl (R_free HFR3.out) HCF.out dI_KM (fun _ hk => hk.elim) (fun _ _ => trivial) (Below.refl _ _) HB3.out.size ?aF ?_
                 case aF => have := HLL.out; have := HML.out; omega
                 intro v6 w4 hq1 hb1 hg1 hat1
                 rw [HMS2.out] at hq1
                 have HFR4 := Aside0.mk (Row.of hq1)
                 have HRT4 := Aside0.mk (HRT3.out.grown hg1 (fun k hk => HAP.out k hk))
                 have HE4 := Aside0.mk (HE3.out.grow hg1 HFR3.out.typed)
                 have HB4 := Aside0.mk (HB3.out.trans hb1)
                 obtain ⟨A7, c7, rfl, hc7, hC7⟩ := HFR4.out.form
                 obtain ⟨A8, c8, rfl, hc8, hC8⟩ := HRT4.out.form
                 have HC7 := Aside0.mk hC7
                 have HC8 := Aside0.mk hC8
                 clear hq1 hb1 hg1 hat1 HFR3 HRT3 HE3 HB3 hC7 hC8)
              | (go_at_call 13; refine (Same_calls HC7.out hc7 HC8.out hc8).mono ?_; rintro e w5 ⟨he, hb⟩; rw [beq_self_eq_true] at he; subst he; have HE5 := Aside0.mk (HE4.out.below hb.below); have HB5 := Aside0.mk (below_then HB4.out HB4.out.size hb.below); clear hb HE4 HB4)
              | (go_at_call 19; refine (Waiting_calls HE5.out (by rw [HFA.out.2.1]; simp)).mono ?_; rintro e w6 ⟨v, rfl, hQ, hb⟩; rw [HFA.out.2.1] at hQ; obtain ⟨Ag, cg, e1, _, _⟩ := Kd.Q_reads hQ; have e2 : v = .slice Ag 0 cg := e1; subst e2; have HE6 := Aside0.mk (HE5.out.below hb); have HB6 := Aside0.mk (below_then HB5.out HB5.out.size hb); clear hb e1 hQ HE5 HB5)
              | (go_at_call 15; refine (Least_calls HE6.out).mono ?_; rintro e w7 ⟨he, hb⟩; rw [HFA.out.2.2.1] at he; subst he; have HE7 := Aside0.mk (HE6.out.below hb); have HB7 := Aside0.mk (below_then HB6.out HB6.out.size hb); clear hb HE6 HB6)
              | (go_at_call 14; refine (Now_calls HE7.out).mono ?_; rintro e w8 ⟨he, rfl⟩; rw [HFA.out.2.2.2] at he; subst he))
            go_ret
            exact ⟨by simp, HB7.out⟩
end Go.Proofs.Ytfpjkiokcjbbmaa
