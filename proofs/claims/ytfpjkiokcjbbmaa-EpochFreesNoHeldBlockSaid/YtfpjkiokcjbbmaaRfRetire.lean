/- The contract of Retire of package alumref17. -/
import Derived.Test.YtfpjkiokcjbbmaaRfRest
import Derived.Deep.RegionLaw
namespace Go.Proofs.Ytfpjkiokcjbbmaa
open Go.RowKit Go.Maps Go.MapKept Go.Proofs.YtfpjkiokcjbbmaaW.PrintWords Go.Proofs.YtfpjkiokcjbbmaaW.PrintLast Go.Proofs.YtfpjkiokcjbbmaaW.PrintMore

/-- The waiting blocks behind some more; none if one of them waits already. -/
def rwait (now : Int) : List (Int × Int) → List Int → Option (List (Int × Int))
  | out, [] => some out
  | out, x :: xs => if hasn out x then none else rwait now (out ++ [(x, now)]) xs
def Rf.retire (R : Rf) (xs : List Int) : Int × Rf := match rwait R.now R.wt xs with
  | none => (6, R)
  | some out => (0, { R with wt := out, now := R.now + 1 })
theorem R_empty {w : World} {base : Nat} (hb : base ≤ w.heap.size) : dP.R 62 (w.alloc (.cells #[] 62)) base (fun _ => True) (.slice (some ⟨w.heap.size, 0, none⟩) 0 0) [] := by
  refine ⟨fun _ _ => trivial, [], ?_, by simp, fun j p h => by simp at h⟩
  have := World.ownsRow_lit (base := base) (e := 62) (size := 2) w #[] 0 hb (by simp [maxLen]) (by simp)
  exact this

set_option maxHeartbeats 4000000 in
set_option maxRecDepth 100000 in
theorem RRetire_calls {w : World} {base p : Nat} {R : Rf} (h : RfAt w base p R) (A : Option Addr) (c : Nat) (xs : List Int) (hx : Stays (SR p) w dI A xs) (hc : xs.length ≤ c)
    (hlen : R.wt.length + xs.length ≤ 1000000) (hn0 : 0 ≤ R.now) (hn : R.now ≤ 1000000) :
    Calls Try.prog 27 #[.pointer (some ⟨p, 0, none⟩), .slice A xs.length c] w fun e w' => e = .returned (.int .i64 (R.retire xs).1) ∧ RfAt w' base p (R.retire xs).2 ∧ Turn (SR p) w w' := by
  obtain ⟨A1, c1, A2, c2, d0, d1, d2, hf, hl1, hl2, hq1, hq2⟩ := h.cells
  have H0 := Aside0.mk h
  have HX2 := Aside0.mk (Kd.C_alloc (Kd.Q_reads' hq2).2.2 (.cells #[] 62))
  have HX := Aside0.mk hx
  have hf1 := hf 1
  have hf2 := hf 2
  have HL := Aside0.mk hlen
  have hxl : xs.length ≤ 1000000 := by omega
  have b1 := (World.cell?_alloc_lt w (.cells #[] 62) ⟨p, 1, none⟩ (World.block_lt_of_cell? w _ d1)).trans d1
  have HD := Aside0.mk (And.intro d1 d2)
  clear h hf hq2 hq1 hx hlen d0 d1 d2
  go_enter Try.func27, Try.ntmps27
  go_wp2_with (first
    | ((with_reducible refine gate_builtin (b := .append) (xs := #[.tmp 8, .tmp 12]) rfl ?_); at_builtin
       refine Kd.R_append_rows dP (w0 := w.alloc (.cells #[] 62)) (Rr := dP.K (w.alloc (.cells #[] 62))) w.heap.size rfl (.tmp 8) (.tmp 12) 38 62 (.agg #[.int .i64 0, .int .i64 0]) 16 rfl Try.underlying38 info62 rfl (by decide) (by omega) (.slice (some ⟨w.heap.size, 0, none⟩) 0 0) [] R.wt A2 R.wt.length c2 (fun _ => True) (fun _ => False) rfl rfl (R_empty (Nat.le_refl _)) HX2.out dP_KM (fun _ hk => hk.elim) (fun _ _ => trivial) (Below.refl _ _) (by simp) ?aL ?_
       case aL => have := HL.out; simp; omega
       intro v1 w4 hq1 hb1 hg1 hat1
       have HO2 := Aside0.mk hq1
       have HBW : Aside0 (Below w.heap.size w w4) := ⟨(below_alloc (Below.refl _ _) _).grown hg1 (by simp) (fun k e => by simp [Value.ownBlock] at e; omega)⟩
       clear hq1 hb1 hg1 hat1))
  have HRW : Aside0 (rwait R.now R.wt xs = rwait R.now R.wt xs) := ⟨rfl⟩
  go_loopg [5, 6, 7] xs.length (fun kq v5 v6 v7 w' => ∃ (k : Nat) (out : List (Int × Int)), v6 = .int .i64 k ∧ k ≤ xs.length ∧ Aside0 (kq = xs.length - k) ∧ Aside0 (out.length = R.wt.length + k) ∧ Aside0 (rwait R.now R.wt xs = rwait R.now out (xs.drop k)) ∧ Aside0 (dP.R 62 w' w.heap.size (fun _ => True) v5 out) ∧ Aside0 (Below w.heap.size w w'))
  case atStart => exact ⟨0, R.wt, rfl, by omega, ⟨by omega⟩, ⟨rfl⟩, ⟨rfl⟩, ⟨by have := HO2.out; simpa using this⟩, HBW⟩
  case round =>
    clear HO2 HBW
    obtain ⟨k, out, rfl, hk, HK, HOL, HE, HO, HB⟩ := hrel
    have e2 := pw_cell_below HB.out HD.out.2
    by_cases hlt : k < xs.length
    · obtain ⟨x, hxk⟩ : ∃ y, xs[k]? = some y := ⟨_, List.getElem?_eq_getElem hlt⟩
      obtain ⟨ad, ea, h0⟩ := dI_at (HX.out _ (Turn.of_below HB.out)) k x hxk
      subst ea
      obtain ⟨A5, c5, h5, hl5, hC5⟩ := Kd.R_reads HO.out
      subst h5
      have hdr : xs.drop k = x :: xs.drop (k + 1) := by rw [List.drop_eq_getElem_cons hlt]; congr 1; exact (List.getElem?_eq_some_iff.1 hxk).2
      have HS : Aside0 (rwait R.now R.wt xs = if hasn out x then none else rwait R.now (out ++ [(x, R.now)]) (xs.drop (k + 1))) := ⟨by rw [HE.out, hdr, rwait]⟩
      have HH := Aside0.mk (Has_calls x hC5 hl5)
      have HTL : Aside0 (out.length ≤ 1000000) := ⟨by have := HOL.out; have := HL.out; omega⟩
      have HWS : Aside0 (w.heap.size ≤ wr.heap.size) := ⟨HB.out.size⟩
      clear hxk hdr HE hC5 hl5
      cases hh : hasn out x with
      | true =>
        rw [hh] at HH HS
        have HR : Aside0 (R.retire xs = (6, R)) := ⟨by unfold Rf.retire; rw [HS.out]; rfl⟩
        clear hh
        go_wp2_with ((with_reducible refine HH.out.mono ?_); rintro e w2 ⟨rfl, rfl⟩)
        go_ret
        rw [HR.out]
        exact ⟨rfl, H0.out.below HB.out, Turn.of_below HB.out⟩
      | false =>
        rw [hh] at HH HS
        clear hh
        go_wp2_with ((with_reducible refine HH.out.mono ?_); rintro e w2 ⟨rfl, rfl⟩)
        go_region_law (refine Kd.R_append_step dP (w0 := w2.drew) (W := w2.drew) w.heap.size rfl (.tmp 27) (.tmp 37) 38 62 (.agg #[.int .i64 0, .int .i64 0]) 16 rfl Try.underlying38 info62 rfl (by decide) (by omega) (.slice A5 out.length c5) out (x, R.now) [.int .i64 x, .int .i64 R.now] (fun _ => True) (fun _ => False) (by simp [Act.eval, Act.put]) (by simp [Act.eval, Act.put]) ⟨[.int .i64 x], [.int .i64 R.now], rfl, rfl, rfl⟩ (fun _ hk => hk.elim) (fun _ _ => trivial) (Kd.R_drew HO.out) (Below.refl _ _) HWS.out (by have := HTL.out; omega) ?_; intro v1 w4 hq1 hb1 hg1 hat1; have HO2 := Aside0.mk hq1; have HBW : Aside0 (Below w.heap.size w w4) := ⟨(below_drew HB.out).grown hg1 HWS.out (Kd.R_base HO.out)⟩; clear hq1 hb1 hg1 hat1)
        all_goals
          go_wp2_with fail
          go_roundg (xs.length - (k + 1))
          case measure => have := HK.out; omega
          case rel => exact ⟨k + 1, _, by go_num, by omega, ⟨rfl⟩, ⟨by have := HOL.out; simp; omega⟩, ⟨HS.out⟩, HO2, HBW⟩
    · obtain rfl : k = xs.length := by omega
      have HR : Aside0 (R.retire xs = (0, { R with wt := out, now := R.now + 1 })) := ⟨by unfold Rf.retire; rw [HE.out, List.drop_length]; rfl⟩
      obtain ⟨A5, c5, h5⟩ := Kd.R_slice HO.out
      subst h5
      obtain ⟨q1, q2⟩ := RfAt.put1 (H0.out.below HB.out) (Kd.Q_lower (Kd.Q_of_R HO.out) H0.out.size.1)
      obtain ⟨q3, q4⟩ := RfAt.put2 q1 (R.now + 1)
      have HE5 := Aside0.mk q3
      have HT5 := Aside0.mk (SR.trans (SR.trans (Turn.of_below HB.out) q2) q4)
      have g1 := pw_cell_below HB.out HD.out.1
      have gf1 := (HB.out.frozen (p := ⟨p, 1, none⟩) H0.out.size.2).trans hf1
      obtain ⟨_, _, _, _, _, _, k2, kf, _⟩ := q1.cells
      have kf2 := kf 2
      clear q1 q2 q3 q4 HE HO kf
      go_wp2_with fail
      go_ret
      rw [HR.out]
      exact ⟨rfl, HE5.out, HT5.out⟩
end Go.Proofs.Ytfpjkiokcjbbmaa
