/- The contracts of Leave, Names, Retire, Free of package alumref17. -/
import Derived.Test.YtfpjkiokcjbbmaaRfEnter
namespace Go.Proofs.Ytfpjkiokcjbbmaa
open Go.RowKit Go.Maps Go.MapKept Go.Proofs.YtfpjkiokcjbbmaaW.PrintWords Go.Proofs.YtfpjkiokcjbbmaaW.PrintLast Go.Proofs.YtfpjkiokcjbbmaaW.PrintMore

def Rf.leave (R : Rf) (r : Int) : Int × Rf := if hasn R.rd r then (0, { R with rd := R.rd.filter fun x => x.1 != r }) else (5, R)

set_option maxHeartbeats 4000000 in
set_option maxRecDepth 100000 in
theorem RLeave_calls {w : World} {base p : Nat} {R : Rf} (h : RfAt w base p R) (r : Int) (hlen : R.rd.length ≤ 1000000) :
    Calls Try.prog 26 #[.pointer (some ⟨p, 0, none⟩), .int .i64 r] w fun e w' => e = .returned (.int .i64 (R.leave r).1) ∧ RfAt w' base p (R.leave r).2 ∧ Turn (SR p) w w' := by
  obtain ⟨A1, c1, A2, c2, d0, d1, d2, hf, hl1, hl2, hq1, hq2⟩ := h.cells
  have H0 := Aside0.mk h
  have HX := Aside0.mk (Kd.Q_reads' hq1).2.2
  have HH := Aside0.mk (Has_calls r HX.out hl1)
  have hf0 := hf 0
  clear h hf hq2 d1 d2 hq1
  cases hh : hasn R.rd r with
  | false =>
    rw [hh] at HH
    have HR : Aside0 (R.leave r = (5, R)) := ⟨by unfold Rf.leave; rw [hh]; rfl⟩
    clear hh
    go_enter Try.func26, Try.ntmps26
    go_wp2_with ((with_reducible refine HH.out.mono ?_); rintro e w2 ⟨rfl, rfl⟩)
    go_ret
    rw [HR.out]
    exact ⟨rfl, H0.out, Turn.refl _ _⟩
  | true =>
    rw [hh] at HH
    have HR : Aside0 (R.leave r = (0, { R with rd := R.rd.filter fun x => x.1 != r })) := ⟨by unfold Rf.leave; rw [hh]; rfl⟩
    clear hh
    go_enter Try.func26, Try.ntmps26
    go_wp2_with ((with_reducible refine HH.out.mono ?_); rintro e w2 ⟨rfl, rfl⟩)
    go_loopg [6, 7] R.rd.length (fun kq v6 v7 w' => ∃ k : Nat, v7 = .int .i64 k ∧ k ≤ R.rd.length ∧ Aside0 (kq = R.rd.length - k) ∧ Aside0 (dP.R 62 w' w2.heap.size (fun _ => True) v6 ((R.rd.take k).filter fun x => x.1 != r)) ∧ Aside0 (Below w2.heap.size w2 w'))
    case atStart => exact ⟨0, rfl, by omega, ⟨by omega⟩, ⟨Kd.R_nil _ _ _ _ _⟩, ⟨Below.refl _ _⟩⟩
    case round =>
      obtain ⟨k, rfl, hk, HK, HO, HB⟩ := hrel
      have e0 := pw_cell_below HB.out d0
      by_cases hlt : k < R.rd.length
      · obtain ⟨y, hxk⟩ : ∃ y, R.rd[k]? = some y := ⟨_, List.getElem?_eq_getElem hlt⟩
        obtain ⟨ad, ea, h0, h1⟩ := dP_at (Kd.C_below HX.out HB.out) k y hxk
        subst ea
        have HTK : Aside0 ((R.rd.take (k + 1)).filter (fun x => x.1 != r) = (R.rd.take k).filter (fun x => x.1 != r) ++ (if y.1 != r then [y] else [])) := ⟨by rw [List.take_add_one, hxk, List.filter_append]; congr 1; simp [List.filter_cons]⟩
        have HTL : Aside0 (((R.rd.take k).filter fun x => x.1 != r).length ≤ 1000000) := ⟨by have h1 := List.length_filter_le (fun x : Int × Int => x.1 != r) (R.rd.take k); have h2 := List.length_take_le k R.rd; omega⟩
        have HWS : Aside0 (w2.heap.size ≤ wr.heap.size) := ⟨HB.out.size⟩
        clear hxk
        generalize hys : (R.rd.take k).filter (fun x => x.1 != r) = ys at *
        clear hys
        by_cases hp : y.1 = r
        · have hd : (y.1 != r) = false := by simpa using hp
          have HY : Aside0 (ys ++ (if y.1 != r then [y] else []) = ys) := ⟨by rw [hd]; simp⟩
          clear hp
          go_wp2_with fail
          go_roundg (R.rd.length - (k + 1))
          case measure => have := HK.out; omega
          case rel => exact ⟨k + 1, by go_num, by omega, ⟨rfl⟩, ⟨by rw [HTK.out, HY.out]; exact HO.out⟩, HB⟩
        · have hd : (y.1 != r) = true := by simpa using hp
          have HY : Aside0 (ys ++ (if y.1 != r then [y] else []) = ys ++ [y]) := ⟨by rw [hd]; simp⟩
          clear hp
          go_wp2_with (first
            | ((with_reducible refine gate_builtin (b := .append) (xs := #[.tmp 35, .tmp 43]) rfl ?_); at_builtin
               refine Kd.R_append dP (w0 := wr) (W := wr) w2.heap.size rfl (.tmp 35) (.tmp 43) 38 62 (.agg #[.int .i64 0, .int .i64 0]) 16 rfl Try.underlying38 info62 rfl (by decide) (by omega) u6 ys y [.int .i64 y.1, .int .i64 y.2] (fun _ => True) (fun _ => False) rfl rfl ⟨[.int .i64 y.1], [.int .i64 y.2], rfl, rfl, rfl⟩ (fun _ hk => hk.elim) (fun _ _ => trivial) HO.out (Below.refl _ _) HWS.out ?aL ?_
               case aL => have := HTL.out; omega
               intro v1 w4 hq1 hb1 hg1 hat1
               have HO2 := Aside0.mk hq1
               have HBW : Aside0 (Below w2.heap.size w2 w4) := ⟨HB.out.grown hg1 HWS.out (Kd.R_base HO.out)⟩
               clear HB HO
               clear hq1 hb1 hg1 hat1))
          go_roundg (R.rd.length - (k + 1))
          case measure => have := HK.out; omega
          case rel => exact ⟨k + 1, by go_num, by omega, ⟨rfl⟩, ⟨by rw [HTK.out, HY.out]; exact HO2.out⟩, HBW⟩
      · obtain rfl : k = R.rd.length := by omega
        have HO2 := HO.out
        rw [List.take_length] at HO2
        obtain ⟨A6, c6, h6⟩ := Kd.R_slice HO2
        subst h6
        obtain ⟨q1, q2⟩ := RfAt.put0 (H0.out.below HB.out) (Kd.Q_lower (Kd.Q_of_R HO2) H0.out.size.1)
        have gf := (HB.out.frozen (p := ⟨p, 0, none⟩) H0.out.size.2).trans hf0
        have HE5 := Aside0.mk q1
        have HT5 := Aside0.mk (SR.trans (Turn.of_below HB.out) q2)
        clear HO2 q1 q2 HO
        go_wp2_with fail
        go_ret
        rw [HR.out]
        exact ⟨rfl, HE5.out, HT5.out⟩

set_option maxHeartbeats 4000000 in
set_option maxRecDepth 100000 in
theorem Names_calls {w : World} {A : Option Addr} {c : Nat} {xs : List (Int × Int)} (hx : dP.C w A xs.length xs) (hc : xs.length ≤ c) (hlen : xs.length ≤ 1000000) :
    Calls Try.prog 18 #[.slice A xs.length c] w fun e w' => ∃ v, e = .returned v ∧ dI.Q 3 w' w.heap.size (fun _ => True) v (xs.map (·.1)) ∧ Below w.heap.size w w' := by
  have HX := Aside0.mk hx
  clear hx
  go_enter Try.func18, Try.ntmps18
  go_wp2_with fail
  go_loopg [3, 4] xs.length (fun kq v3 v4 w' => ∃ k : Nat, v4 = .int .i64 k ∧ k ≤ xs.length ∧ Aside0 (kq = xs.length - k) ∧ Aside0 (dI.Q 3 w' w.heap.size (fun _ => True) v3 ((xs.take k).map (·.1))) ∧ Aside0 (Below w.heap.size w w'))
  case atStart => exact ⟨0, rfl, by omega, ⟨by omega⟩, ⟨Kd.Q_nil _ _ _ _ _⟩, ⟨Below.refl _ _⟩⟩
  case round =>
    obtain ⟨j, rfl, hj, HK, HQ, HB⟩ := hrel
    by_cases hjk : j < xs.length
    · obtain ⟨x, hxk⟩ : ∃ x, xs[j]? = some x := ⟨_, List.getElem?_eq_getElem hjk⟩
      obtain ⟨ad, e0, h0, h1⟩ := dP_at (Kd.C_below HX.out HB.out) j x hxk
      have HTK : Aside0 ((xs.take (j + 1)).map (·.1) = (xs.take j).map (·.1) ++ [x.1]) := ⟨by rw [List.take_add_one, hxk]; simp⟩
      have HQL : Aside0 (((xs.take j).map (·.1)).length ≤ 1000000) := ⟨by simp; omega⟩
      have HWS : Aside0 (w.heap.size ≤ wr.heap.size) := ⟨HB.out.size⟩
      subst e0
      clear hxk
      generalize hys : (xs.take j).map (·.1) = ys at *
      clear hys
      go_wp2_with (first
        | ((with_reducible refine gate_builtin (b := .append) (xs := #[.tmp 11, .tmp 17]) rfl ?_); at_builtin
           refine Kd.Q_append dI (w0 := wr) (W := wr) w.heap.size rfl (.tmp 11) (.tmp 17) 29 3 (.int .i64 0) 8 rfl Try.underlying29 info3 rfl (by decide) (by omega) u3 ys x.1 [.int .i64 x.1] (fun _ => True) (fun _ => False) rfl rfl rfl (fun _ hk => hk.elim) (fun _ _ => trivial) HQ.out (Below.refl _ _) HWS.out ?aL ?_
           case aL => have := HQL.out; omega
           intro v1 w4 hq1 hb1 hg1 hat1
           have HQ2 := Aside0.mk hq1
           have HBW : Aside0 (Below w.heap.size w w4) := ⟨HB.out.grown hg1 HWS.out (Kd.Q_base HQ.out)⟩
           clear HB HQ
           clear hq1 hb1 hg1 hat1))
      go_roundg (xs.length - (j + 1))
      case measure => have := HK.out; omega
      case rel => exact ⟨j + 1, by go_num, by omega, ⟨rfl⟩, ⟨by rw [HTK.out]; exact HQ2.out⟩, HBW⟩
    · obtain rfl : j = xs.length := by omega
      go_wp2_with fail
      go_ret
      refine ⟨u3, rfl, ?_, HB.out⟩
      have := HQ.out
      rwa [List.take_length] at this
end Go.Proofs.Ytfpjkiokcjbbmaa
