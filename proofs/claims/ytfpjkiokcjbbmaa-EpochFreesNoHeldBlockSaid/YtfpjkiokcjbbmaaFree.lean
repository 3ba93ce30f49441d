/- The contracts of Waiting and Free. -/
import Derived.Test.YtfpjkiokcjbbmaaCut
import Derived.Deep.DeepCutAuto
import Derived.Deep.RegionWith
namespace Go.Proofs.Ytfpjkiokcjbbmaa
open Go.RowKit Go.Maps Go.MapKept Go.Proofs.YtfpjkiokcjbbmaaW.PrintWords Go.Proofs.YtfpjkiokcjbbmaaW.PrintLast Go.Proofs.YtfpjkiokcjbbmaaW.PrintMore

set_option maxHeartbeats 4000000 in
set_option maxRecDepth 100000 in
theorem Waiting_calls {w : World} {base p m1 m2 : Nat} {E : Ep} (h : EpAt w base p m1 m2 E) (hlen : E.q.length ≤ 1000000) :
    Calls Try.prog 19 #[.pointer (some ⟨p, 0, none⟩)] w fun e w' => ∃ v, e = .returned v ∧ dI.Q 3 w' w.heap.size (fun _ => True) v (E.q.map (·.1)) ∧ Below w.heap.size w w' := by
  obtain ⟨v, c0, c1, c2, c3, hf, hq⟩ := h.cells
  obtain ⟨A, c, rfl, hcl, hC⟩ := Kd.Q_reads hq
  have HL := Aside0.mk hlen
  have HC3 := Aside0.mk hC
  clear h hq hC hlen c0 c1 c3 hf
  generalize hqq : E.q = q at *
  clear hqq
  have hql : q.length ≤ 1000000 := HL.out
  go_enter Try.func19, Try.ntmps19
  go_wp2_with fail
  go_loopg [3, 5, 12] q.length (fun kq v7 v9 v41 w' => ∃ j : Nat, v41 = .int .i64 j ∧ j ≤ q.length ∧ Aside0 (kq = q.length - j) ∧ Aside0 (dI.Q 3 w' w.heap.size (fun _ => True) v7 ((q.take j).map (·.1))) ∧ Aside0 (Below w.heap.size w w'))
  case atStart => exact ⟨0, rfl, by omega, ⟨by omega⟩, ⟨Kd.Q_nil _ _ _ _ _⟩, ⟨Below.refl _ _⟩⟩
  case round =>
    obtain ⟨j, rfl, hj, HK, HQ, HB⟩ := hrel
    by_cases hjk : j < q.length
    · obtain ⟨x, hxk⟩ : ∃ x, q[j]? = some x := ⟨_, List.getElem?_eq_getElem hjk⟩
      obtain ⟨ad, e0, h0, h1⟩ := dP_at (Kd.C_below HC3.out HB.out) j x hxk
      have HTK : Aside0 ((q.take (j + 1)).map (·.1) = (q.take j).map (·.1) ++ [x.1]) := ⟨by rw [List.take_add_one, hxk]; simp⟩
      have HQL : Aside0 (((q.take j).map (·.1)).length ≤ 1000000) := ⟨by simp; omega⟩
      have HWS : Aside0 (w.heap.size ≤ wr.heap.size) := ⟨HB.out.size⟩
      subst e0
      clear hxk
      generalize hys : (q.take j).map (·.1) = ys at *
      clear hys
      go_wp2_with (first
        | ((with_reducible refine gate_builtin (b := .append) (xs := #[.tmp 16, .tmp 19]) rfl ?_); at_builtin
           refine Kd.Q_append dI (w0 := wr.alloc (.cells #[.int .i64 x.1, .int .i64 x.2] 68)) (W := wr.alloc (.cells #[.int .i64 x.1, .int .i64 x.2] 68)) w.heap.size rfl (.tmp 16) (.tmp 19) 29 3 (.int .i64 0) 8 rfl Try.underlying29 info3 rfl (by decide) (by omega) u3 ys x.1 [.int .i64 x.1] (fun _ => True) (fun _ => False) rfl (by rw [World.size_alloc]; rfl) rfl (fun _ hk => hk.elim) (fun _ _ => trivial) (Kd.Q_alloc HQ.out _) (Below.refl _ _) ?aS ?aL ?_
           case aS => have := HWS.out; simp; omega
           case aL => have := HQL.out; omega
           intro v1 w4 hq1 hb1 hg1 hat1
           have HQ2 := Aside0.mk hq1
           have HBW : Aside0 (Below w.heap.size w w4) := ⟨(below_alloc HB.out _).grown hg1 (by have := HWS.out; simp; omega) (Kd.Q_base HQ.out)⟩
           clear HB HQ
           clear hq1 hb1 hg1 hat1))
      go_roundg (q.length - (j + 1))
      case measure => have := HK.out; omega
      case rel => exact ⟨j + 1, by go_num, by omega, ⟨rfl⟩, ⟨by rw [HTK.out]; exact HQ2.out⟩, HBW⟩
    · obtain rfl : j = q.length := by omega
      go_wp2_with fail
      go_ret
      refine ⟨u3, rfl, ?_, HB.out⟩
      have := HQ.out
      rwa [List.take_length] at this

def mdels (xs : List Int) (l : List (Int × Bool)) : List (Int × Bool) := xs.foldl (fun l x => mdel x l) l
def Ep.free (E : Ep) : List Int × Ep :=
  let k := cutn E.least E.q
  let out := (E.q.take k).map (·.1)
  (out, { E with bl := mdels out E.bl, q := E.q.drop k })

theorem EpAt.put2 {w w1 : World} {base p m1 m2 : Nat} {E : Ep} (h : EpAt w base p m1 m2 E) {l : List (Int × Bool)} (hm : MapOf Try.prog 3 ekI Value.bool w1 m2 l) (hg : w.grownBy w1 (some m2)) :
    EpAt w1 base p m1 m2 { E with bl := l } ∧ Turn (SE base p m1 m2 w) w w1 := by
  obtain ⟨h1, h2, h3, h4, h5, h6, v, hp, hq⟩ := h
  have hlt : p < w.heap.size := (Array.getElem?_eq_some_iff.1 hp).1
  have hne : p ≠ m2 := by
    rintro rfl
    obtain ⟨es, clk, hb, _⟩ := h6
    rw [hb] at hp
    cases hp
  refine ⟨⟨h1, h2, h3, h4, h5.keep (hg.block m1 h5.lt (by intro e; injection e with e; exact h4 e)), hm, v, (hg.block p hlt (by intro e; injection e with e; exact hne e)).trans hp, ?_⟩, ?_⟩
  · refine Kd.Q_step (Kd.Q_mono (Kd.Q_bound hq) (ok' := fun k => k ≠ m2) ?_) ?_ |> fun h => Kd.Q_mono h (fun _ _ => trivial)
    · rintro k ⟨_, _, _, t, _, cs, hc⟩ rfl
      obtain ⟨es, clk, hb, _⟩ := h6
      rw [hb] at hc
      cases hc
    · intro k hk hlt
      exact hg.block k hlt (by intro e; injection e with e; exact hk e)
  · exact Turn.of_grown hg (fun k e => by injection e with e; subst e; exact ⟨h3, .inr (.inr (.inl rfl))⟩)
theorem EpAt.turnBelow {w w1 : World} {base p m1 m2 : Nat} (h : Turn (SE base p m1 m2 w) w w1) (hb : base ≤ w.heap.size) : Below base w w1 := h.below (fun _ h => h.1) hb
/-- A row of whole numbers that is new since w stays what these epochs let turn. -/
theorem stays_new {w : World} {base p m1 m2 B : Nat} {E : Ep} {v : Value} {xs : List Int} (h : EpAt w base p m1 m2 E) (hq : dI.Q 3 w B (fun _ => True) v xs) : ∃ A c, v = .slice A xs.length c ∧ xs.length ≤ c ∧ Stays (SE base p m1 m2 w) w dI A xs := by
  obtain ⟨A, c, rfl, hl, _⟩ := Kd.Q_reads hq
  refine ⟨A, c, rfl, hl, fun W' hW => ?_⟩
  obtain ⟨h1, h2, h3, h4, h5, h6, v', hp, hq'⟩ := h
  have hs := Kd.Q_step (Kd.Q_mono (Kd.Q_bound hq) (ok' := fun k => ∃ cells, w.heap[k]? = some (.cells cells 3 (0, 0))) ?_) (w1 := W') ?_
  · exact (Kd.Q_reads' hs).2.2
  · rintro k ⟨_, _, _, t, ht, cs, hc⟩
    have : t = 3 := by simpa [Kd.int, Kd.scalar] using ht
    subst this
    exact ⟨cs, hc⟩
  · rintro k ⟨cs, hc⟩ hlt
    refine hW.kept.2 k hlt ?_
    rintro ⟨_, rfl | rfl | rfl | ⟨cs', hc'⟩⟩
    · rw [hp] at hc; injection hc with hc; injection hc with _ hc; cases hc
    · obtain ⟨es, clk, hb, _⟩ := h5; rw [hb] at hc; cases hc
    · obtain ⟨es, clk, hb, _⟩ := h6; rw [hb] at hc; cases hc
    · rw [hc'] at hc; injection hc with hc; injection hc with _ hc; cases hc

theorem Turn.ofDrew {S : Nat → Prop} {w w1 : World} (h : Turn S w.drew w1) : Turn S w w1 := ⟨h.os, h.tape, h.output, h.kept⟩
theorem SE.drew {base p m1 m2 : Nat} {w : World} : SE base p m1 m2 w.drew = SE base p m1 m2 w := rfl
theorem EpAt.size {w : World} {base p m1 m2 : Nat} {E : Ep} (h : EpAt w base p m1 m2 E) : base ≤ w.heap.size := by
  obtain ⟨h1, h2, h3, h4, h5, h6, v, hp, hq⟩ := h
  have := (Array.getElem?_eq_some_iff.1 hp).1
  omega

theorem dI_at {w : World} {A : Option Addr} {n : Nat} {xs : List Int} (h : dI.C w A n xs) (k : Nat) (x : Int) (hx : xs[k]? = some x) : ∃ ad, A = some ad ∧ w.cell? (ad.add k) = some (.int .i64 x) := by
  have hl := (List.getElem?_eq_some_iff.1 hx).1
  obtain ⟨ad, c, e, _, hK, hc0⟩ := Kd.C_get h (0 : Int) k (by omega) (by rw [← h.1]; omega)
  have hg : xs.getD (Int.toNat (k : Int)) 0 = x := by simp [hx]
  rw [hg] at hK
  refine ⟨ad, e, ?_⟩
  have := hc0 0 (.int .i64 x) (by rw [show c = [Value.int .i64 x] from hK]; rfl)
  simpa [Kd.int, Kd.scalar] using this
theorem hqKeep {w W' : World} {base p m1 m2 B : Nat} {E : Ep} {v : Value} {xs : List Int} (hq : dI.Q 3 w B (fun _ => True) v xs) (h : EpAt w base p m1 m2 E) (hW : Turn (SE base p m1 m2 w) w W') : dI.Q 3 W' B (fun _ => True) v xs := by
  obtain ⟨h1, h2, h3, h4, h5, h6, v', hp, hq'⟩ := h
  refine Kd.Q_step (Kd.Q_mono (Kd.Q_bound hq) (ok' := fun k => ∃ cells, w.heap[k]? = some (.cells cells 3 (0, 0))) ?_) ?_ |> fun h => Kd.Q_mono h (fun _ _ => trivial)
  · rintro k ⟨_, _, _, t, ht, cs, hc⟩
    have : t = 3 := by simpa [Kd.int, Kd.scalar] using ht
    subst this
    exact ⟨cs, hc⟩
  · rintro k ⟨cs, hc⟩ hlt
    refine hW.kept.2 k hlt ?_
    rintro ⟨_, rfl | rfl | rfl | ⟨cs', hc'⟩⟩
    · rw [hp] at hc; injection hc with hc; injection hc with _ hc; cases hc
    · obtain ⟨es, clk, hb, _⟩ := h5; rw [hb] at hc; cases hc
    · obtain ⟨es, clk, hb, _⟩ := h6; rw [hb] at hc; cases hc
    · rw [hc'] at hc; injection hc with hc; injection hc with _ hc; cases hc

set_option maxHeartbeats 4000000 in
set_option maxRecDepth 100000 in
theorem Free_calls {w : World} {base p m1 m2 : Nat} {E : Ep} (h : EpAt w base p m1 m2 E) (hlen : E.q.length ≤ 1000000) (hqw : ∀ x ∈ E.q, wf64 x.1) :
    Calls Try.prog 23 #[.pointer (some ⟨p, 0, none⟩)] w fun e w' => ∃ v, e = .returned v ∧ dI.Q 3 w' w.heap.size (fun _ => True) v E.free.1 ∧ EpAt w' base p m1 m2 E.free.2 ∧ Turn (SE base p m1 m2 w) w w' := by
  have H0 := Aside0.mk h
  have HL := Aside0.mk hlen
  have HW := Aside0.mk hqw
  clear h hlen hqw
  go_enter Try.func23, Try.ntmps23
  go_upto_region 1 with fail
  go_cut [3] (fun s3 wx => Aside0 (dI.Q 3 wx w.heap.size (fun _ => True) s3 E.free.1 ∧ EpAt wx base p m1 m2 { E with q := E.free.2.q } ∧ Turn (SE base p m1 m2 w) w wx))
  case first =>
    go_region_with (first
      | (go_at_call 15; refine (Least_calls (H0.out.below (below_drew (Below.refl _ _)))).mono ?_; rintro e w2 ⟨rfl, hb2⟩; have HB2 : Aside0 (Below w.heap.size w w2) := ⟨(below_drew (Below.refl w.heap.size w)).trans hb2⟩; clear hb2)
      | (go_at_call 33; refine (cut_calls (H0.out.below HB2.out) (Nat.le_trans H0.out.size HB2.out.size) E.least HL.out).mono ?_; rintro e w3 ⟨v3, rfl, hq3, hE3, hT3⟩; have HQ3 := Aside0.mk hq3; have HE3 := Aside0.mk hE3; have HT3 := Aside0.mk hT3; clear hq3 hE3 hT3))
    all_goals
      go_wp2_with fail
      go_meet
      exact ⟨Kd.Q_lower HQ3.out HB2.out.size, HE3.out, SE.trans (Turn.of_below HB2.out) HT3.out⟩
  case rest =>
    have HC := hcut
    clear hcut
    obtain ⟨A, c, rfl, hcl, hst⟩ := stays_new HC.out.2.1 HC.out.1
    have HS := Aside0.mk hst
    have HWX : Aside0 (∀ x ∈ E.free.1, wf64 x) := ⟨fun x hx => by
      simp only [Ep.free, List.mem_map] at hx
      obtain ⟨y, hy, rfl⟩ := hx
      exact HW.out y (List.mem_of_mem_take hy)⟩
    have hol : E.free.1.length ≤ 1000000 := by have := HL.out; simp [Ep.free]; omega
    clear hst
    generalize hout : E.free.1 = out at *
    have HO := Aside0.mk hout
    clear hout
    go_wp2_with fail
    go_loopg [5, 14] out.length (fun kq v5 v14 w' => ∃ j : Nat, v14 = .int .i64 j ∧ j ≤ out.length ∧ Aside0 (kq = out.length - j) ∧ Aside0 (EpAt w' base p m1 m2 { E with bl := mdels (out.take j) E.bl, q := E.free.2.q }) ∧ Aside0 (Turn (SE base p m1 m2 wc) wc w'))
    case atStart => exact ⟨0, rfl, by omega, ⟨by omega⟩, ⟨HC.out.2.1⟩, ⟨Turn.refl _ _⟩⟩
    case round =>
      obtain ⟨j, rfl, hj, HK, HE, HT⟩ := hrel
      by_cases hjk : j < out.length
      · obtain ⟨x, hxk⟩ : ∃ x, out[j]? = some x := ⟨_, List.getElem?_eq_getElem hjk⟩
        have hCr := HS.out _ HT.out
        obtain ⟨ad, e0, h0⟩ := dI_at hCr j x hxk
        have HTK : Aside0 (mdels (out.take (j + 1)) E.bl = mdel x (mdels (out.take j) E.bl)) := ⟨by rw [List.take_add_one, hxk]; simp [mdels, List.foldl_append]⟩
        have hwx := HWX.out x (List.mem_of_getElem? hxk)
        obtain ⟨w1, hu, hm1, hgr⟩ := MapOf.delete (ty := 0) HE.out.2.2.2.2.2.1 keyedI ekI_inj Try.underlying55 (keyI hwx)
        obtain ⟨v, c0, c1, c2, c3, hf, hq⟩ := HE.out.cells
        obtain ⟨hE2, hT2⟩ := EpAt.put2 HE.out hm1 hgr
        have HE2 := Aside0.mk hE2
        have HT2 := Aside0.mk (SE.trans HT.out hT2)
        subst e0
        clear hxk hCr hwx hm1 hgr hq hf c0 c2 c3 hE2 hT2
        change Sem.run _ (Builtin.delete_ _ _ #[_, (Value.int .i64 x)]) _ = _ at hu
        go_wp2_with fail
        go_roundg (out.length - (j + 1))
        case measure => have := HK.out; omega
        case rel => exact ⟨j + 1, by go_num, by omega, ⟨rfl⟩, ⟨by rw [HTK.out]; exact HE2.out⟩, HT2⟩
      · obtain rfl : j = out.length := by omega
        go_wp2_with fail
        go_ret
        have hE := HE.out
        rw [List.take_length] at hE
        refine ⟨.slice A out.length c, rfl, by rw [HO.out]; exact hqKeep HC.out.1 HC.out.2.1 HT.out, ?_, SE.trans HC.out.2.2 HT.out⟩
        have : E.free.2 = { E with bl := mdels out E.bl, q := E.free.2.q } := by rw [← HO.out]; rfl
        rw [this]; exact hE
end Go.Proofs.Ytfpjkiokcjbbmaa
