/- The contract of Free of package alumref17. -/
import Derived.Test.YtfpjkiokcjbbmaaRfRetire
namespace Go.Proofs.Ytfpjkiokcjbbmaa
open Go.RowKit Go.Maps Go.MapKept Go.Proofs.YtfpjkiokcjbbmaaW.PrintWords Go.Proofs.YtfpjkiokcjbbmaaW.PrintLast Go.Proofs.YtfpjkiokcjbbmaaW.PrintMore

def Rf.free (R : Rf) : List Int × Rf :=
  ((R.wt.filter fun x => decide (x.2 < R.least)).map (·.1), { R with wt := R.wt.filter fun x => !decide (x.2 < R.least) })

set_option maxHeartbeats 4000000 in
set_option maxRecDepth 100000 in
theorem RFree_calls {w : World} {base p : Nat} {R : Rf} (h : RfAt w base p R) (hlen : R.wt.length ≤ 1000000) :
    Calls Try.prog 28 #[.pointer (some ⟨p, 0, none⟩)] w fun e w' => ∃ v, e = .returned v ∧ dI.Q 3 w' w.heap.size (fun _ => True) v R.free.1 ∧ RfAt w' base p R.free.2 ∧ Turn (SR p) w w' := by
  obtain ⟨A1, c1, A2, c2, d0, d1, d2, hf, hl1, hl2, hq1, hq2⟩ := h.cells
  have H0 := Aside0.mk h
  have HX := Aside0.mk (Kd.Q_reads' hq2).2.2
  have HH := Aside0.mk (RLeast_calls h)
  have hf1 := hf 1
  have HF1 : Aside0 (R.free.1 = (R.wt.filter fun x => decide (x.2 < R.least)).map (·.1)) := ⟨rfl⟩
  have HF2 : Aside0 (R.free.2 = { R with wt := R.wt.filter fun x => !decide (x.2 < R.least) }) := ⟨rfl⟩
  clear h hf hq2 hq1 d0 d2
  generalize hls : R.least = ls at *
  clear hls
  go_enter Try.func28, Try.ntmps28
  go_wp2_with ((with_reducible refine HH.out.mono ?_); rintro e w2 ⟨rfl, rfl⟩)
  go_loopg [3, 4, 6] R.wt.length (fun kq v3 v4 v6 w' => ∃ k : Nat, v6 = .int .i64 k ∧ k ≤ R.wt.length ∧ Aside0 (kq = R.wt.length - k) ∧ Aside0 (dI.R 3 w' w2.heap.size (fun _ => True) v3 (((R.wt.take k).filter fun x => decide (x.2 < ls)).map (·.1))) ∧ Aside0 (dP.R 62 w' w2.heap.size (fun _ => True) v4 ((R.wt.take k).filter fun x => !decide (x.2 < ls))) ∧ Aside0 (Below w2.heap.size w2 w'))
  case atStart => exact ⟨0, rfl, by omega, ⟨by omega⟩, ⟨Kd.R_nil _ _ _ _ _⟩, ⟨Kd.R_nil _ _ _ _ _⟩, ⟨Below.refl _ _⟩⟩
  case round =>
    obtain ⟨k, rfl, hk, HK, HA, HO, HB⟩ := hrel
    have e1 := pw_cell_below HB.out d1
    by_cases hlt : k < R.wt.length
    · obtain ⟨y, hxk⟩ : ∃ y, R.wt[k]? = some y := ⟨_, List.getElem?_eq_getElem hlt⟩
      obtain ⟨ad, ea, h0, h1⟩ := dP_at (Kd.C_below HX.out HB.out) k y hxk
      subst ea
      have HT1 : Aside0 (((R.wt.take (k + 1)).filter (fun x => decide (x.2 < ls))).map (·.1) = ((R.wt.take k).filter (fun x => decide (x.2 < ls))).map (·.1) ++ (if decide (y.2 < ls) then [y.1] else [])) := ⟨by rw [List.take_add_one, hxk, List.filter_append, List.map_append]; congr 1; cases hd : decide (y.2 < ls) <;> simp [List.filter_cons, hd]⟩
      have HT2 : Aside0 ((R.wt.take (k + 1)).filter (fun x => !decide (x.2 < ls)) = (R.wt.take k).filter (fun x => !decide (x.2 < ls)) ++ (if decide (y.2 < ls) then [] else [y])) := ⟨by rw [List.take_add_one, hxk, List.filter_append]; congr 1; cases hd : decide (y.2 < ls) <;> simp [List.filter_cons, hd]⟩
      have HL1 : Aside0 ((((R.wt.take k).filter fun x => decide (x.2 < ls)).map (·.1)).length ≤ 1000000) := ⟨by have h1 := List.length_filter_le (fun x : Int × Int => decide (x.2 < ls)) (R.wt.take k); have h2 := List.length_take_le k R.wt; rw [List.length_map]; omega⟩
      have HL2 : Aside0 (((R.wt.take k).filter fun x => !decide (x.2 < ls)).length ≤ 1000000) := ⟨by have h1 := List.length_filter_le (fun x : Int × Int => !decide (x.2 < ls)) (R.wt.take k); have h2 := List.length_take_le k R.wt; omega⟩
      have HWS : Aside0 (w2.heap.size ≤ wr.heap.size) := ⟨HB.out.size⟩
      clear hxk
      generalize hys : ((R.wt.take k).filter (fun x => decide (x.2 < ls))).map (·.1) = ys at *
      generalize hzs : (R.wt.take k).filter (fun x => !decide (x.2 < ls)) = zs at *
      clear hys hzs
      cases hp : decide (y.2 < ls) with
      | true =>
        rw [hp] at HT1 HT2
        simp only [if_true, List.append_nil] at HT1 HT2
        go_wp2_with (first
          | ((with_reducible refine gate_builtin (b := .append) (xs := #[.tmp 28, .tmp 37]) rfl ?_); at_builtin
             refine Kd.R_append dI (w0 := wr) (W := wr) w2.heap.size rfl (.tmp 28) (.tmp 37) 29 3 (.int .i64 0) 8 rfl Try.underlying29 info3 rfl (by decide) (by omega) u3 ys y.1 [.int .i64 y.1] (fun _ => True) (fun _ => False) rfl rfl rfl (fun _ hk => hk.elim) (fun _ _ => trivial) HA.out (Below.refl _ _) HWS.out ?aL ?_
             case aL => have := HL1.out; omega
             intro v1 w4 hq1 hb1 hg1 hat1
             have HA2 := Aside0.mk hq1
             have HO2 := Aside0.mk (Kd.R_over HO.out HA.out (by intro q hq; simp [Kd.pair, Kd.int, Kd.scalar] at hq; omega) hg1)
             have HBW : Aside0 (Below w2.heap.size w2 w4) := ⟨HB.out.grown hg1 HWS.out (Kd.R_base HA.out)⟩
             clear HB HO HA
             clear hq1 hb1 hg1 hat1))
        go_roundg (R.wt.length - (k + 1))
        case measure => have := HK.out; omega
        case rel => exact ⟨k + 1, by go_num, by omega, ⟨rfl⟩, ⟨by rw [HT1.out]; exact HA2.out⟩, ⟨by rw [HT2.out]; exact HO2.out⟩, HBW⟩
      | false =>
        rw [hp] at HT1 HT2
        simp only [Bool.false_eq_true, if_false, List.append_nil] at HT1 HT2
        go_wp2_with (first
          | ((with_reducible refine gate_builtin (b := .append) (xs := #[.tmp 39, .tmp 47]) rfl ?_); at_builtin
             refine Kd.R_append dP (w0 := wr) (W := wr) w2.heap.size rfl (.tmp 39) (.tmp 47) 38 62 (.agg #[.int .i64 0, .int .i64 0]) 16 rfl Try.underlying38 info62 rfl (by decide) (by omega) u4 zs y [.int .i64 y.1, .int .i64 y.2] (fun _ => True) (fun _ => False) rfl rfl ⟨[.int .i64 y.1], [.int .i64 y.2], rfl, rfl, rfl⟩ (fun _ hk => hk.elim) (fun _ _ => trivial) HO.out (Below.refl _ _) HWS.out ?aL ?_
             case aL => have := HL2.out; omega
             intro v1 w4 hq1 hb1 hg1 hat1
             have HO2 := Aside0.mk hq1
             have HA2 := Aside0.mk (Kd.R_over HA.out HO.out (by intro q hq; simp [Kd.pair, Kd.int, Kd.scalar] at hq; omega) hg1)
             have HBW : Aside0 (Below w2.heap.size w2 w4) := ⟨HB.out.grown hg1 HWS.out (Kd.R_base HO.out)⟩
             clear HB HO HA
             clear hq1 hb1 hg1 hat1))
        go_roundg (R.wt.length - (k + 1))
        case measure => have := HK.out; omega
        case rel => exact ⟨k + 1, by go_num, by omega, ⟨rfl⟩, ⟨by rw [HT1.out]; exact HA2.out⟩, ⟨by rw [HT2.out]; exact HO2.out⟩, HBW⟩
    · obtain rfl : k = R.wt.length := by omega
      have hO2 := HO.out
      have hA2 := HA.out
      rw [List.take_length] at hO2 hA2
      obtain ⟨A6, c6, h6⟩ := Kd.R_slice hO2
      subst h6
      obtain ⟨q1, q2⟩ := RfAt.put1 (H0.out.below HB.out) (Kd.Q_lower (Kd.Q_of_R hO2) H0.out.size.1)
      have gf := (HB.out.frozen (p := ⟨p, 1, none⟩) H0.out.size.2).trans hf1
      have HE5 := Aside0.mk q1
      have HT5 := Aside0.mk (SR.trans (Turn.of_below HB.out) q2)
      have HA5 : Aside0 (dI.Q 3 (wr.setCell ⟨p, 1, none⟩ (.slice A6 (List.filter (fun x => !decide (x.2 < ls)) R.wt).length c6)) w2.heap.size (fun _ => True) u3 (((R.wt.filter fun x => decide (x.2 < ls))).map (·.1))) := ⟨by
        obtain ⟨_, vv1, vv2, hpp, _⟩ := H0.out.below HB.out
        exact Kd.Q_set (Kd.Q_of_R hA2) hpp (by intro q hq; simp [Kd.int, Kd.scalar] at hq; omega) 1 _⟩
      clear hO2 hA2 q1 q2 HO HA
      generalize (List.filter (fun x => !decide (x.2 < ls)) R.wt).length = ln at *
      go_wp2_with fail
      go_ret
      refine ⟨u3, rfl, ?_, ?_, HT5.out⟩
      · rw [HF1.out]; exact HA5.out
      · rw [HF2.out]; exact HE5.out
end Go.Proofs.Ytfpjkiokcjbbmaa
