/- The contract of Enter of package alumref17. -/
import Derived.Test.YtfpjkiokcjbbmaaRf
import Derived.Deep.CutBlock
namespace Go.Proofs.Ytfpjkiokcjbbmaa
open Go.RowKit Go.Maps Go.MapKept Go.Proofs.YtfpjkiokcjbbmaaW.PrintWords Go.Proofs.YtfpjkiokcjbbmaaW.PrintLast Go.Proofs.YtfpjkiokcjbbmaaW.PrintMore

set_option maxHeartbeats 4000000 in
set_option maxRecDepth 100000 in
theorem REnter_calls {w : World} {base p : Nat} {R : Rf} (h : RfAt w base p R) (r : Int) (hlen : R.rd.length ≤ 1000000) :
    Calls Try.prog 25 #[.pointer (some ⟨p, 0, none⟩), .int .i64 r] w fun e w' => e = .returned (.int .i64 (R.enter r).1) ∧ RfAt w' base p (R.enter r).2 ∧ Turn (SR p) w w' := by
  obtain ⟨A1, c1, A2, c2, d0, d1, d2, hf, hl1, hl2, hq1, hq2⟩ := h.cells
  have H0 := Aside0.mk h
  have HX := Aside0.mk (Kd.Q_reads' hq1).2.2
  have HQ1 := Aside0.mk hq1
  have HH := Aside0.mk (Has_calls r HX.out hl1)
  have hf0 := hf 0
  clear h hf hq2 d1 hq1
  cases hh : hasn R.rd r with
  | true =>
    rw [hh] at HH
    have HR : Aside0 (R.enter r = (6, R)) := ⟨by unfold Rf.enter; rw [hh]; rfl⟩
    clear hh
    go_enter Try.func25, Try.ntmps25
    go_wp2_with ((with_reducible refine HH.out.mono ?_); rintro e w2 ⟨rfl, rfl⟩)
    go_ret
    rw [HR.out]
    exact ⟨rfl, H0.out, Turn.refl _ _⟩
  | false =>
    rw [hh] at HH
    have HR : Aside0 (R.enter r = (0, { R with rd := insr r R.now R.rd })) := ⟨by unfold Rf.enter; rw [hh]; rfl⟩
    clear hh
    have hbl := before_le r R.rd
    go_enter Try.func25, Try.ntmps25
    go_upto_block 0 with ((with_reducible refine HH.out.mono ?_); rintro e w2 ⟨rfl, rfl⟩)
    go_cut [6, 7] (fun v6 v7 wx => v7 = .int .i64 (before r R.rd : Nat) ∧ Aside0 (dP.R 62 wx w2.heap.size (fun _ => True) v6 (R.rd.take (before r R.rd)) ∧ Below w2.heap.size w2 wx))
    case rest =>
      obtain ⟨hs7, HC⟩ := hcut
      subst hs7
      have hbl2 : (R.rd.take (before r R.rd)).length = before r R.rd := by rw [List.length_take]; omega
      obtain ⟨A6, c6, h6, hl6, _⟩ := Kd.R_reads HC.out.1
      rw [hbl2] at h6
      subst h6
      have HBL := Aside0.mk hbl2
      have HO := Aside0.mk HC.out.1
      have HB := Aside0.mk HC.out.2
      have HX2 := Aside0.mk (Kd.C_drop (k := dP) (c := c1) HX.out hbl hl1)
      have HXL : Aside0 ((R.rd.drop (before r R.rd)).length = R.rd.length - before r R.rd) := ⟨by rw [List.length_drop]⟩
      have hsl := cut62 (A := A1) (n := R.rd.length) (c := c1) (before r R.rd) hbl
      have e0 := pw_cell_below HB.out d0
      have e2 := pw_cell_below HB.out d2
      have HWS : Aside0 (w2.heap.size ≤ wc.heap.size) := ⟨HB.out.size⟩
      have hsz : dP.sz = 2 := rfl
      rw [hsz, HXL.out] at HX2
      have HIN : Aside0 (insr r R.now R.rd = R.rd.take (before r R.rd) ++ [(r, R.now)] ++ R.rd.drop (before r R.rd)) := ⟨by simp [insr]⟩
      clear HC hbl2 hsz hl6
      generalize hys : R.rd.take (before r R.rd) = ys at *
      generalize hzs : R.rd.drop (before r R.rd) = zs at *
      generalize (if c1 = before r R.rd then A1 else Option.map (fun x => x.add (before r R.rd * 2)) A1) = A7 at *
      clear hys hzs
      generalize before r R.rd = k at *
      go_wp2_with (first
        | ((with_reducible refine gate_builtin (b := .append) (xs := #[.tmp 49, .tmp 56]) rfl ?_); at_builtin
           refine Kd.R_append dP (w0 := wc) (W := wc) w2.heap.size rfl (.tmp 49) (.tmp 56) 38 62 (.agg #[.int .i64 0, .int .i64 0]) 16 rfl Try.underlying38 info62 rfl (by decide) (by omega) (.slice A6 k c6) ys (r, R.now) [.int .i64 r, .int .i64 R.now] (fun _ => True) (fun _ => False) rfl rfl ⟨[.int .i64 r], [.int .i64 R.now], rfl, rfl, rfl⟩ (fun _ hk => hk.elim) (fun _ _ => trivial) HO.out (Below.refl _ _) HWS.out ?aL ?_
           case aL => have := HBL.out; omega
           intro v1 w4 hq1 hb1 hg1 hat1
           have HO2 := Aside0.mk hq1
           have HBW : Aside0 (Below w2.heap.size w2 w4) := ⟨HB.out.grown hg1 HWS.out (Kd.R_base HO.out)⟩
           have HGW := Aside0.mk hg1
           have f0 := pw_cell_below HBW.out d0
           clear hq1 hb1 hg1 hat1)
        | ((with_reducible refine gate_builtin (b := .append) (xs := #[.tmp 59, .tmp 65]) rfl ?_); at_builtin
           refine Kd.R_append_rows dP (w0 := w4) (Rr := dP.K w4) w2.heap.size rfl (.tmp 59) (.tmp 65) 38 62 (.agg #[.int .i64 0, .int .i64 0]) 16 rfl Try.underlying38 info62 rfl (by decide) (by omega) v1 (ys ++ [(r, R.now)]) zs A7 (R.rd.length - k) (c1 - k) (fun _ => True) (fun _ => False) rfl rfl HO2.out ?aC dP_KM (fun _ hk => hk.elim) (fun _ _ => trivial) (Below.refl _ _) HBW.out.size ?aL ?_
           case aC => exact Kd.C_below HX2.out HBW.out
           case aL => have := HBL.out; rw [List.length_append, List.length_singleton]; omega
           intro v5 w5 hq1 hb1 hg1 hat1
           have HO3 := Aside0.mk hq1
           have HBX : Aside0 (Below w2.heap.size w2 w5) := ⟨HBW.out.grown hg1 HBW.out.size (Kd.R_base HO2.out)⟩
           have g0 := pw_cell_below HBX.out d0
           have gf := (HBX.out.frozen (p := ⟨p, 0, none⟩) H0.out.size.2).trans hf0
           obtain ⟨q1, q2⟩ := RfAt.put0 (H0.out.below HBX.out) (Kd.Q_lower (Kd.Q_of_R hq1) H0.out.size.1)
           have HE5 := Aside0.mk q1
           have HT5 := Aside0.mk (SR.trans (Turn.of_below HBX.out) q2)
           obtain ⟨A5, c5, h5⟩ := Kd.R_slice hq1
           rw [show (ys ++ [(r, R.now)] ++ zs).length = ys.length + (zs.length + 1) from by simp] at h5
           subst h5
           clear hq1 hb1 hg1 hat1 q1 q2))
      go_ret
      rw [HR.out, HIN.out]
      exact ⟨rfl, HE5.out, HT5.out⟩
    case first =>
     go_wp2_with fail
     go_loopg [6, 7] R.rd.length (fun kq v6 v7 w' => ∃ k : Nat, v7 = .int .i64 k ∧ k ≤ R.rd.length ∧ Aside0 (kq = R.rd.length - k) ∧ Aside0 (k ≤ before r R.rd) ∧ Aside0 (dP.R 62 w' w2.heap.size (fun _ => True) v6 (R.rd.take k)) ∧ Aside0 (Below w2.heap.size w2 w'))
     case atStart => exact ⟨0, rfl, by omega, ⟨by omega⟩, ⟨by omega⟩, ⟨Kd.R_nil _ _ _ _ _⟩, ⟨Below.refl _ _⟩⟩
     case round =>
      obtain ⟨k, rfl, hk, HK, HE, HO, HB⟩ := hrel
      obtain ⟨wr, rfl⟩ : ∃ wo : World, wo = wr := ⟨_, rfl⟩
      have e0 := pw_cell_below HB.out d0
      by_cases hlt : k < R.rd.length
      · obtain ⟨y, hxk⟩ : ∃ y, R.rd[k]? = some y := ⟨_, List.getElem?_eq_getElem hlt⟩
        obtain ⟨ad, ea, h0, h1⟩ := dP_at (Kd.C_below HX.out HB.out) k y hxk
        subst ea
        have HS := Aside0.mk (before_step r R.rd k y hxk HE.out)
        have HTK : Aside0 (R.rd.take (k + 1) = R.rd.take k ++ [y]) := ⟨by rw [List.take_add_one, hxk]; rfl⟩
        have HTL : Aside0 ((R.rd.take k).length ≤ 1000000) := ⟨by rw [List.length_take]; omega⟩
        have HWS : Aside0 (w2.heap.size ≤ wr.heap.size) := ⟨HB.out.size⟩
        clear hxk HE
        by_cases hp : y.1 < r
        · have hd : decide (y.1 < r) = true := decide_eq_true hp
          have HP2 : Aside0 (k + 1 ≤ before r R.rd) := ⟨HS.out.1 hp⟩
          clear HS hp
          generalize hys : R.rd.take k = ys at *
          clear hys
          go_wp2_with (first
            | ((with_reducible refine gate_builtin (b := .append) (xs := #[.tmp 37, .tmp 45]) rfl ?_); at_builtin
               refine Kd.R_append dP (w0 := wr) (W := wr) w2.heap.size rfl (.tmp 37) (.tmp 45) 38 62 (.agg #[.int .i64 0, .int .i64 0]) 16 rfl Try.underlying38 info62 rfl (by decide) (by omega) u6 ys y [.int .i64 y.1, .int .i64 y.2] (fun _ => True) (fun _ => False) rfl rfl ⟨[.int .i64 y.1], [.int .i64 y.2], rfl, rfl, rfl⟩ (fun _ hk => hk.elim) (fun _ _ => trivial) HO.out (Below.refl _ _) HWS.out ?aL ?_
               case aL => have := HTL.out; omega
               intro v1 w4 hq1 hb1 hg1 hat1
               have HO2 := Aside0.mk hq1
               have HBW : Aside0 (Below w2.heap.size w2 w4) := ⟨HB.out.grown hg1 HWS.out (Kd.R_base HO.out)⟩
               clear HB HO
               clear hq1 hb1 hg1 hat1))
          go_roundg (R.rd.length - (k + 1))
          case measure => have := HK.out; omega
          case rel => exact ⟨k + 1, by go_num, by omega, ⟨rfl⟩, HP2, ⟨by rw [HTK.out]; exact HO2.out⟩, HBW⟩
        · have hd : decide (y.1 < r) = false := decide_eq_false hp
          have HP2 : Aside0 (k = before r R.rd) := ⟨HS.out.2 hp⟩
          clear HS hp
          go_wp2_with fail
          go_meet
          exact ⟨by rw [HP2.out], by rw [← HP2.out]; exact HO.out, HB.out⟩
      · have HP2 : Aside0 (k = before r R.rd) := ⟨by have := HE.out; omega⟩
        go_wp2_with fail
        go_meet
        exact ⟨by rw [HP2.out], by rw [← HP2.out]; exact HO.out, HB.out⟩
end Go.Proofs.Ytfpjkiokcjbbmaa
