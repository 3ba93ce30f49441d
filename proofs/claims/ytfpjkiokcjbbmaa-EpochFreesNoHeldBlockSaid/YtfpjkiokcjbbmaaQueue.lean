/- The queue of package epoch: the contracts of push, cut and what they call. -/
import Derived.Test.YtfpjkiokcjbbmaaEp
namespace Go.Proofs.Ytfpjkiokcjbbmaa
open Go.RowKit Go.Maps Go.MapKept Go.Proofs.YtfpjkiokcjbbmaaW.PrintWords Go.Proofs.YtfpjkiokcjbbmaaW.PrintLast Go.Proofs.YtfpjkiokcjbbmaaW.PrintMore

theorem info3 : (Try.prog.info? 3).map (fun i => (i.zero, i.size, i.bytes)) = some (some (.int .i64 0), 1, 8) := by kernel_rfl
theorem info68 : (Try.prog.info? 68).map (fun i => (i.zero, i.size, i.bytes)) = some (some (.agg #[.int .i64 0, .int .i64 0]), 2, 16) := by kernel_rfl

/-- A row that is read: it stays whatever S lets turn. -/
def Stays {α : Type} (S : Nat → Prop) (w : World) (d : Kd α) (A : Option Addr) (xs : List α) : Prop := ∀ W', Turn S w W' → d.C W' A xs.length xs

section
variable {w w1 : World} {base p m1 m2 : Nat} {E : Ep}
theorem EpAt.blk (h : EpAt w base p m1 m2 E) : ∃ cs, w.heap[p]? = some (.cells cs 60 (0, 0)) := by
  obtain ⟨_, _, _, _, _, _, v, hp, _⟩ := h
  exact ⟨_, hp⟩
theorem EpAt.putq (h : EpAt w base p m1 m2 E) {v v1 : Value} {q' : List (Int × Int)} (hv : w.cell? ⟨p, 2, none⟩ = some v) (hq1 : dP.Q 68 w1 base (fun _ => True) v1 q') (hg : w.grownBy w1 v.ownBlock) :
    w1.cell? ⟨p, 2, none⟩ = some v ∧ w1.frozen? ⟨p, 2, none⟩ = false ∧ EpAt (w1.setCell ⟨p, 2, none⟩ v1) base p m1 m2 { E with q := q' } ∧ Turn (SE base p m1 m2 w) w (w1.setCell ⟨p, 2, none⟩ v1) := by
  obtain ⟨h1, h2, h3, h4, h5, h6, v', hp, hq⟩ := h
  have hv' : v' = v := by simp [World.cell?, hp] at hv; exact hv
  subst hv'
  have hlt : p < w.heap.size := (Array.getElem?_eq_some_iff.1 hp).1
  have hty := Kd.Q_typed hq
  have hbs := Kd.Q_base hq
  have hnp : some p ≠ v'.ownBlock := by
    intro e
    obtain ⟨cs, hc⟩ := hty p e.symm
    rw [hp] at hc
    injection hc with hc
    injection hc with _ hc
    cases hc
  have hnm : ∀ m l, (∃ es clk, w.heap[m]? = some (.map es clk)) → l = some m → l ≠ v'.ownBlock := by
    rintro m l ⟨es, clk, hm⟩ rfl e
    obtain ⟨cs, hc⟩ := hty m e.symm
    rw [hm] at hc
    cases hc
  have hm1 : ∃ es clk, w.heap[m1]? = some (.map es clk) := by obtain ⟨es, clk, hb, _⟩ := h5; exact ⟨es, clk, hb⟩
  have hm2 : ∃ es clk, w.heap[m2]? = some (.map es clk) := by obtain ⟨es, clk, hb, _⟩ := h6; exact ⟨es, clk, hb⟩
  have hp1 : w1.heap[p]? = some (.cells #[.map (some m1), .map (some m2), v', .int .i64 E.now] 60 (0, 0)) := (hg.block p hlt hnp).trans hp
  have hne1 : m1 ≠ p := by rintro rfl; obtain ⟨es, clk, hb⟩ := hm1; rw [hb] at hp; cases hp
  have hne2 : m2 ≠ p := by rintro rfl; obtain ⟨es, clk, hb⟩ := hm2; rw [hb] at hp; cases hp
  refine ⟨by simp [World.cell?, hp1], by simp [World.frozen?, hp1], ⟨h1, h2, h3, h4, ?_, ?_, v1, ?_, ?_⟩, ?_⟩
  · exact h5.keep ((Below.heap_setCell _ _ _ _ hne1).trans (hg.block m1 h5.lt (hnm m1 _ hm1 rfl)))
  · exact h6.keep ((Below.heap_setCell _ _ _ _ hne2).trans (hg.block m2 h6.lt (hnm m2 _ hm2 rfl)))
  · simp [World.setCell, Array.getElem?_modify, hp1]
  · exact Kd.Q_set hq1 hp1 (by intro q hq; simp [Kd.pair, Kd.int, Kd.scalar] at hq; omega) 2 v1
  · refine (Turn.of_grown (S := SE base p m1 m2 w) hg (fun k e => ⟨hbs k e, .inr (.inr (.inr (hty k e)))⟩)).trans (S2 := fun k => k = p) ?_ (fun k _ e => by rw [e]; exact ⟨h1, .inl rfl⟩)
    exact ⟨rfl, rfl, rfl, by simp [World.setCell], fun k _ hk => Below.heap_setCell _ _ _ _ hk⟩
end

def qpush (q : List (Int × Int)) (ep : Int) (xs : List Int) : List (Int × Int) := q ++ xs.map fun x => (x, ep)

set_option maxHeartbeats 4000000 in
set_option maxRecDepth 100000 in
theorem push_calls {w : World} {base p m1 m2 : Nat} {E : Ep} (h : EpAt w base p m1 m2 E) (hbase : base ≤ w.heap.size) (ep : Int) (A : Option Addr) (c : Nat) (xs : List Int) (hx : Stays (SE base p m1 m2 w) w dI A xs) (hc : xs.length ≤ c)
    (hlen : E.q.length + xs.length ≤ 1000000) :
    Calls Try.prog 32 #[.pointer (some ⟨p, 2, none⟩), .int .i64 ep, .slice A xs.length c] w fun e w' => e = .returned (.tuple #[]) ∧ EpAt w' base p m1 m2 { E with q := qpush E.q ep xs } ∧ Turn (SE base p m1 m2 w) w w' := by
  have HX := Aside0.mk hx
  have H0 := Aside0.mk h
  have hxl : xs.length ≤ 1000000 := by omega
  have HL := Aside0.mk hlen
  clear hx h hlen
  go_enter Try.func32, Try.ntmps32
  go_wp2_with fail
  go_loopg [7, 10] xs.length (fun kq v7 v10 w' => ∃ k : Nat, v10 = .int .i64 k ∧ k ≤ xs.length ∧ Aside0 (kq = xs.length - k) ∧ Aside0 (EpAt w' base p m1 m2 { E with q := qpush E.q ep (xs.take k) }) ∧ Aside0 (Turn (SE base p m1 m2 w) w w'))
  case atStart => exact ⟨0, rfl, by omega, ⟨by omega⟩, ⟨by simpa [qpush] using H0.out⟩, ⟨Turn.refl _ _⟩⟩
  case round =>
    obtain ⟨k, rfl, hk, HK, HE, HT⟩ := hrel
    by_cases hlt : k < xs.length
    · have hC := HX.out _ HT.out
      obtain ⟨x, hxk⟩ : ∃ x, xs[k]? = some x := ⟨_, List.getElem?_eq_getElem hlt⟩
      have htk : xs.take (k + 1) = xs.take k ++ [x] := by rw [List.take_add_one, hxk]; rfl
      obtain ⟨ad, c0, e0, _, hK0, hc0⟩ := Kd.C_get hC (0 : Int) k (by omega) (by omega)
      have hgx : xs.getD (Int.toNat (k : Int)) 0 = x := by simp [hxk]
      rw [hgx] at hK0
      have hck : wr.cell? (ad.add k) = some (.int .i64 x) := by
        have := hc0 0 (.int .i64 x) (by rw [show c0 = [Value.int .i64 x] from hK0]; rfl)
        simpa [Kd.int, Kd.scalar] using this
      subst e0
      obtain ⟨v, d0, d1, d2, d3, hf, hq⟩ := HE.out.cells
      have HQ := Aside0.mk hq
      have HD := Aside0.mk d2
      have HTK := Aside0.mk htk
      have HBS : Aside0 (base ≤ wr.heap.size) := ⟨Nat.le_trans hbase HT.out.kept.1⟩
      have HQL : Aside0 ((qpush E.q ep (xs.take k)).length ≤ 1000000) := ⟨by have := HL.out; simp [qpush]; omega⟩
      clear hC hK0 hc0 d0 d1 d3 hf hq htk hxk hgx
      generalize hqq : qpush E.q ep (xs.take k) = qq at *
      have HQQ := Aside0.mk hqq
      clear hqq
      go_wp2_with (first
        | ((with_reducible refine gate_builtin (b := .append) (xs := #[.tmp 18, .tmp 22]) rfl ?_); at_builtin
           refine Kd.Q_append dP (w0 := wr) (W := wr) base rfl (.tmp 18) (.tmp 22) 56 68 (.agg #[.int .i64 0, .int .i64 0]) 16 rfl Try.underlying56 info68 rfl (by decide) (by omega) v qq (x, ep) [.int .i64 x, .int .i64 ep] (fun _ => True) (fun _ => False) rfl rfl ?aP (fun _ hk => hk.elim) (fun _ _ => trivial) HQ.out (Below.refl _ _) HBS.out ?aL ?_
           case aP => exact ⟨[.int .i64 x], [.int .i64 ep], rfl, rfl, rfl⟩
           case aL => have := HQL.out; omega
           intro v1 w1 hq1 hb1 hg1 hat1
           obtain ⟨g1, g2, g3, g4⟩ := HE.out.putq HD.out hq1 hg1
           have HG := Aside0.mk g3
           have HT2 := Aside0.mk (SE.trans HT.out g4)
           obtain ⟨A1, c1, hv1, _⟩ := Kd.Q_slice hq1
           rw [List.length_append, List.length_singleton] at hv1
           subst hv1
           clear HE hq1 hb1 hg1 hat1 g3 g4 d2 HT))
      go_roundg (xs.length - (k + 1))
      case measure => have := HK.out; omega
      case rel => exact ⟨k + 1, by go_num, by omega, ⟨rfl⟩, ⟨by rw [HTK.out, show qpush E.q ep (xs.take k ++ [x]) = qq ++ [(x, ep)] from by rw [← HQQ.out]; simp [qpush, List.map_append]]; exact HG.out⟩, HT2⟩
    · obtain rfl : k = xs.length := by omega
      have HE' : Aside0 (EpAt wr base p m1 m2 { E with q := qpush E.q ep xs }) := ⟨by have := HE.out; rwa [List.take_length] at this⟩
      clear HE
      go_wp2_with fail
      go_end0
      exact ⟨rfl, HE'.out, HT.out⟩
end Go.Proofs.Ytfpjkiokcjbbmaa
