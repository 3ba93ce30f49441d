/- The queue of package epoch: the contracts of IndexFunc with its closure, and of cut. -/
import Derived.Test.YtfpjkiokcjbbmaaQueue
namespace Go.Proofs.Ytfpjkiokcjbbmaa
open Go.RowKit Go.Maps Go.MapKept Go.Proofs.YtfpjkiokcjbbmaaW.PrintWords Go.Proofs.YtfpjkiokcjbbmaaW.PrintLast Go.Proofs.YtfpjkiokcjbbmaaW.PrintMore

/-- How many elements come before an epoch. -/
def cutn (ep : Int) : List (Int × Int) → Nat
  | [] => 0
  | x :: l => if x.2 < ep then cutn ep l + 1 else 0
theorem cutn_le (ep : Int) : ∀ l, cutn ep l ≤ l.length
  | [] => by simp [cutn]
  | x :: l => by have := cutn_le ep l; simp only [cutn, List.length_cons]; split <;> omega
theorem cutn_step (ep : Int) : ∀ (l : List (Int × Int)) (k : Nat) (x : Int × Int), l[k]? = some x → k ≤ cutn ep l → (x.2 < ep → k + 1 ≤ cutn ep l) ∧ (¬ x.2 < ep → k = cutn ep l)
  | [], _, _, h, _ => by simp at h
  | y :: l, 0, x, h, _ => by
    simp at h
    subst h
    constructor
    · intro h; simp only [cutn, if_pos h]; omega
    · intro h; simp only [cutn, if_neg h]
  | y :: l, k + 1, x, h, hk => by
    simp only [List.getElem?_cons_succ] at h
    by_cases hy : y.2 < ep
    · simp only [cutn, if_pos hy] at hk ⊢
      have := cutn_step ep l k x h (by omega)
      exact ⟨fun h => by have := this.1 h; omega, fun h => by have := this.2 h; omega⟩
    · simp only [cutn, if_neg hy] at hk
      omega

theorem pred_calls {w : World} {B : Nat} {ep a b : Int} (hB : w.cell? ⟨B, 0, none⟩ = some (.int .i64 ep)) :
    Calls Try.prog 40 #[.agg #[.int .i64 a, .int .i64 b], .pointer (some ⟨B, 0, none⟩)] w fun e w' => e = .returned (.bool (decide (ep ≤ b))) ∧ Below w.heap.size w w' := by
  have hlt := World.block_lt_of_cell? w _ hB
  have hB2 : (w.alloc (.cells #[.int .i64 a, .int .i64 b] 68)).cell? ⟨B, 0, none⟩ = some (.int .i64 ep) := (World.cell?_alloc_lt w _ _ hlt).trans hB
  clear hB
  go_enter Try.func40, Try.ntmps40
  go_wp2_with fail
  go_ret
  exact ⟨rfl, (Below.refl _ _).alloc (Nat.le_refl _) _⟩

theorem dP_at {w : World} {A : Option Addr} {n : Nat} {xs : List (Int × Int)} (h : dP.C w A n xs) (k : Nat) (x : Int × Int) (hx : xs[k]? = some x) : ∃ ad, A = some ad ∧ w.cell? (ad.add (k * 2)) = some (.int .i64 x.1) ∧ w.cell? ⟨(ad.add (k * 2)).block, (ad.add (k * 2)).off + 1, none⟩ = some (.int .i64 x.2) := by
  have hl := (List.getElem?_eq_some_iff.1 hx).1
  obtain ⟨ad, c, e, _, hK, hc0⟩ := Kd.C_get h ((0, 0) : Int × Int) k (by omega) (by rw [← h.1]; omega)
  have hg : xs.getD (Int.toNat (k : Int)) (0, 0) = x := by simp [hx]
  rw [hg] at hK
  obtain ⟨_, _, rfl, rfl, rfl⟩ := hK
  have hsz : dP.sz = 2 := rfl
  rw [hsz] at hc0
  have h0 := hc0 0 _ rfl
  have h1 := hc0 1 _ rfl
  refine ⟨ad, e, by simpa using h0, ?_⟩
  have e1 : (Int.toNat (k : Int)) = k := by omega
  rw [e1] at h1
  rw [← add_field _ _ 1 (by omega)]; exact h1

def qidx (ep : Int) (l : List (Int × Int)) : Int := if cutn ep l < l.length then (cutn ep l : Int) else -1

set_option maxHeartbeats 4000000 in
set_option maxRecDepth 100000 in
theorem idxf_calls {w : World} {B : Nat} {ep : Int} (hB : w.cell? ⟨B, 0, none⟩ = some (.int .i64 ep)) {A : Option Addr} {c : Nat} {xs : List (Int × Int)} (hx : dP.C w A xs.length xs) (hc : xs.length ≤ c) (hxl : xs.length ≤ 1000000) :
    Calls Try.prog 39 #[.slice A xs.length c, .func (.func 40) #[] #[.pointer (some ⟨B, 0, none⟩)]] w fun e w' => e = .returned (.int .i64 (qidx ep xs)) ∧ Below w.heap.size w w' := by
  have HX := Aside0.mk hx
  have HC := Aside0.mk hB
  clear hx hB
  go_enter Try.func39, Try.ntmps39
  go_wp2_with fail
  go_loopg [5, 8] xs.length (fun kq v5 v8 w' => ∃ k : Nat, v8 = .int .i64 k ∧ k ≤ xs.length ∧ Aside0 (kq = xs.length - k) ∧ Aside0 (k ≤ cutn ep xs) ∧ Aside0 (Below w.heap.size w w'))
  case atStart => exact ⟨0, rfl, by omega, ⟨by omega⟩, ⟨by omega⟩, ⟨Below.refl _ _⟩⟩
  case round =>
    obtain ⟨k, rfl, hk, HK, HE, HT⟩ := hrel
    by_cases hlt : k < xs.length
    · obtain ⟨x, hxk⟩ : ∃ x, xs[k]? = some x := ⟨_, List.getElem?_eq_getElem hlt⟩
      obtain ⟨ad, e0, h0, h1⟩ := dP_at (Kd.C_below HX.out HT.out) k x hxk
      subst e0
      have HP := Aside0.mk (pred_calls (a := x.1) (b := x.2) (pw_cell_below HT.out HC.out))
      have HS := Aside0.mk (cutn_step ep xs k x hxk HE.out)
      clear hxk
      by_cases hp : x.2 < ep
      · have hd : decide (ep ≤ x.2) = false := decide_eq_false (by omega)
        have HP2 : Aside0 (k + 1 ≤ cutn ep xs) := ⟨HS.out.1 hp⟩
        clear HS HE hp
        go_wp2_with ((with_reducible refine HP.out.mono ?_); rintro e w2 ⟨rfl, hb2⟩; have HB2 := Aside0.mk (below_then HT.out HT.out.size hb2); clear hb2)
        go_roundg (xs.length - (k + 1))
        case measure => have := HK.out; omega
        case rel => exact ⟨k + 1, by go_num, by omega, ⟨rfl⟩, HP2, HB2⟩
      · have hd : decide (ep ≤ x.2) = true := decide_eq_true (by omega)
        have HP2 : Aside0 (k = cutn ep xs) := ⟨HS.out.2 hp⟩
        clear HS HE hp
        go_wp2_with ((with_reducible refine HP.out.mono ?_); rintro e w2 ⟨rfl, hb2⟩; have HB2 := Aside0.mk (below_then HT.out HT.out.size hb2); clear hb2)
        go_ret
        exact ⟨by have := HP2.out; simp [qidx, ← this, hlt], HB2.out⟩
    · have HP2 : Aside0 (qidx ep xs = -1) := ⟨by have := HE.out; have := cutn_le ep xs; unfold qidx; rw [if_neg (by omega)]⟩
      clear HE
      go_wp2_with fail
      go_ret
      exact ⟨by rw [HP2.out]; rfl, HT.out⟩

theorem cut_slices {A : Option Addr} {n c : Nat} (k : Nat) (hk : k ≤ n) (hn : n ≤ c) :
    (∀ W : World, (Instr.slice 56 (.slice A n c) none (some (.int .i64 k)) (some (.int .i64 k))).run Try.prog W = .ok (.slice A k k) W) ∧
    (∀ W : World, (Instr.slice 56 (.slice A n c) (some (.int .i64 k)) none none).run Try.prog W = .ok (.slice (if c = k then A else A.map (·.add (k * 2))) (n - k) (c - k)) W) := by
  have hi : ∀ W : World, (sizeOf 68).run Try.prog W = .ok 2 W := fun W => by kernel_rfl
  have ha : A.map (·.add 0) = A := by cases A <;> simp [Addr.add]
  constructor
  · intro W
    have h1 : ((0 : Int) ≤ (k : Int) ∧ (k : Int) ≤ (c : Int)) := by omega
    have h2 : ((0 : Int) ≤ (k : Int) ∧ (k : Int) ≤ (k : Int)) := by omega
    simp only [Instr.slice, Sem.run_bind, run_underlying Try.underlying56, Result.andThen, Instr.sliceBounds, Instr.sliceBound, asIntOf, Sem.run_pure, h1, h2, if_true, Int.toNat_natCast, hi, Nat.sub_zero, Nat.zero_mul, and_self, ha, ite_self]
  · intro W
    have h1 : ((0 : Int) ≤ (k : Int) ∧ (k : Int) ≤ (n : Int)) := by omega
    simp only [Instr.slice, Sem.run_bind, run_underlying Try.underlying56, Result.andThen, Instr.sliceBounds, Instr.sliceBound, asIntOf, Sem.run_pure, h1, if_true, Int.toNat_natCast, hi, and_self]

theorem EpAt.below {w w1 : World} {base p m1 m2 : Nat} {E : Ep} (h : EpAt w base p m1 m2 E) (hb : Below w.heap.size w w1) : EpAt w1 base p m1 m2 E := by
  obtain ⟨h1, h2, h3, h4, h5, h6, v, hp, hq⟩ := h
  exact ⟨h1, h2, h3, h4, h5.keep (hb.block _ h5.lt), h6.keep (hb.block _ h6.lt), v, (hb.block _ (Array.getElem?_eq_some_iff.1 hp).1).trans hp, Kd.Q_below hq hb⟩

set_option maxHeartbeats 4000000 in
set_option maxRecDepth 100000 in
theorem cut_calls {w : World} {base p m1 m2 : Nat} {E : Ep} (h : EpAt w base p m1 m2 E) (hbase : base ≤ w.heap.size) (ep : Int) (hlen : E.q.length ≤ 1000000) :
    Calls Try.prog 33 #[.pointer (some ⟨p, 2, none⟩), .int .i64 ep] w fun e w' => ∃ v, e = .returned v ∧ dI.Q 3 w' w.heap.size (fun _ => True) v ((E.q.take (cutn ep E.q)).map (·.1)) ∧
      EpAt w' base p m1 m2 { E with q := E.q.drop (cutn ep E.q) } ∧ Turn (SE base p m1 m2 w) w w' := by
  obtain ⟨v, c0, c1, c2, c3, hf, hq⟩ := h.cells
  obtain ⟨A, c, rfl, hcl, hC⟩ := Kd.Q_reads hq
  have H0 := Aside0.mk h
  have HL := Aside0.mk hlen
  have hk := cutn_le ep E.q
  obtain ⟨hs1, hs2⟩ := cut_slices (A := A) (c := c) (cutn ep E.q) hk hcl
  have HQ1 := Aside0.mk (Kd.Q_take hq hk)
  have HQ2 := Aside0.mk (Kd.Q_drop hq hk)
  have cb : (w.alloc (.cells #[.int .i64 ep] 3)).cell? ⟨w.heap.size, 0, none⟩ = some (.int .i64 ep) := by simp
  have HI := Aside0.mk (idxf_calls (xs := E.q) (A := A) (c := c) (w := w.alloc (.cells #[.int .i64 ep] 3)) cb (Kd.C_alloc hC _) hcl hlen)
  have HD := Aside0.mk c2
  have hkl : cutn ep E.q ≤ 1000000 := by omega
  clear h hq hC hlen cb c0 c1 c2 c3 hf
  have hw : (Kd.pair (Kd.int .i64) (Kd.int .i64)).sz = 2 := rfl
  rw [hw] at HQ2
  clear hw
  generalize hA2 : (if c = cutn ep E.q then A else Option.map (fun x => x.add (cutn ep E.q * 2)) A) = A2 at *
  clear hA2
  generalize hkk : cutn ep E.q = k at *
  have d0 := (World.cell?_alloc_lt w (.cells #[.int .i64 ep] 3) ⟨p, 2, none⟩ (World.block_lt_of_cell? w _ HD.out)).trans HD.out
  have HKK := Aside0.mk hkk
  clear hkk
  rcases Nat.lt_or_ge k E.q.length with hlt | hlt
  · have hix : qidx ep E.q = (k : Int) := by unfold qidx; rw [HKK.out, if_pos hlt]
    rw [hix] at HI
    clear hix
    go_enter Try.func33, Try.ntmps33
    go_wp2_with ((with_reducible refine HI.out.mono ?_); rintro e w2 ⟨rfl, hb2⟩; have HB2 := Aside0.mk (((Below.refl w.heap.size w).alloc (Nat.le_refl _) _).trans (hb2.mono (by simp))); obtain ⟨g1, g2, g3, g4⟩ := (H0.out.below HB2.out).putq (pw_cell_below HB2.out HD.out) (Kd.Q_below HQ2.out HB2.out) (World.grownBy.refl _ _); have HE3 := Aside0.mk g3; have HT3 := Aside0.mk g4; clear g3 g4 hb2)
    have HC3 : Aside0 (dP.C (w2.setCell ⟨p, 2, none⟩ (.slice A2 (E.q.length - k) (c - k))) A (E.q.take k).length (E.q.take k)) := by
      obtain ⟨cs, hpb⟩ := (H0.out.below HB2.out).blk
      exact ⟨(Kd.Q_reads' (Kd.Q_set (Kd.Q_below HQ1.out HB2.out) hpb (by intro q hq; simp [Kd.pair, Kd.int, Kd.scalar] at hq; omega) 2 _)).2.2⟩
    have HW3 : Aside0 (w.heap.size ≤ (w2.setCell ⟨p, 2, none⟩ (.slice A2 (E.q.length - k) (c - k))).heap.size) := ⟨Nat.le_trans HB2.out.size HT3.out.kept.1⟩
    have HT4 := Aside0.mk (SE.trans (Turn.of_below HB2.out) HT3.out)
    clear HT3 HI HQ1 HQ2 HD HB2 H0 hs1 hs2 d0 g1 g2
    generalize w2.setCell ⟨p, 2, none⟩ (.slice A2 (E.q.length - k) (c - k)) = w3 at *
    have hkt : (E.q.take k).length = k := by rw [List.length_take]; omega
    rw [hkt] at HC3
    go_loopg [7, 9, 41] k (fun kq v7 v9 v41 w' => ∃ j : Nat, v41 = .int .i64 j ∧ j ≤ k ∧ Aside0 (kq = k - j) ∧ Aside0 (dI.Q 3 w' w3.heap.size (fun _ => True) v7 (((E.q.take k).take j).map (·.1))) ∧ Aside0 (Below w3.heap.size w3 w'))
    case atStart => exact ⟨0, rfl, by omega, ⟨by omega⟩, ⟨Kd.Q_nil _ _ _ _ _⟩, ⟨Below.refl _ _⟩⟩
    case round =>
      obtain ⟨j, rfl, hj, HK, HQ, HB⟩ := hrel
      have HKT := Aside0.mk hkt
      clear hkt
      by_cases hjk : j < k
      · obtain ⟨x, hxk⟩ : ∃ x, (E.q.take k)[j]? = some x := ⟨_, List.getElem?_eq_getElem (by rw [HKT.out]; exact hjk)⟩
        obtain ⟨ad, e0, h0, h1⟩ := dP_at (Kd.C_below HC3.out HB.out) j x hxk
        have HTK : Aside0 (((E.q.take k).take (j + 1)).map (·.1) = ((E.q.take k).take j).map (·.1) ++ [x.1]) := ⟨by rw [List.take_add_one, hxk]; simp⟩
        have HQL : Aside0 ((((E.q.take k).take j).map (·.1)).length ≤ 1000000) := ⟨by simp; omega⟩
        have HWS : Aside0 (w3.heap.size ≤ wr.heap.size) := ⟨HB.out.size⟩
        subst e0
        clear hxk
        generalize hys : ((E.q.take k).take j).map (·.1) = ys at *
        clear hys
        go_wp2_with (first
          | ((with_reducible refine gate_builtin (b := .append) (xs := #[.tmp 45, .tmp 48]) rfl ?_); at_builtin
             refine Kd.Q_append dI (w0 := wr.alloc (.cells #[.int .i64 x.1, .int .i64 x.2] 68)) (W := wr.alloc (.cells #[.int .i64 x.1, .int .i64 x.2] 68)) w3.heap.size rfl (.tmp 45) (.tmp 48) 29 3 (.int .i64 0) 8 rfl Try.underlying29 info3 rfl (by decide) (by omega) u7 ys x.1 [.int .i64 x.1] (fun _ => True) (fun _ => False) rfl (by rw [World.size_alloc]; rfl) rfl (fun _ hk => hk.elim) (fun _ _ => trivial) (Kd.Q_alloc HQ.out _) (Below.refl _ _) ?aS ?aL ?_
             case aS => have := HWS.out; simp; omega
             case aL => have := HQL.out; omega
             intro v1 w4 hq1 hb1 hg1 hat1
             have HQ2 := Aside0.mk hq1
             have HBW : Aside0 (Below w3.heap.size w3 w4) := ⟨(below_alloc HB.out _).grown hg1 (by have := HWS.out; simp; omega) (Kd.Q_base HQ.out)⟩
             clear HB HQ
             clear hq1 hb1 hg1 hat1))
        go_roundg (k - (j + 1))
        case measure => have := HK.out; omega
        case rel => exact ⟨j + 1, by go_num, by omega, ⟨rfl⟩, ⟨by rw [HTK.out]; exact HQ2.out⟩, HBW⟩
      · obtain rfl : j = k := by omega
        go_wp2_with fail
        go_ret
        refine ⟨u7, rfl, ?_, HE3.out.below HB.out, HT4.out.trans (Turn.of_below (S := fun _ => False) HB.out) (fun _ _ h => h.elim)⟩
        have := Kd.Q_lower HQ.out HW3.out
        rwa [List.take_take, Nat.min_self] at this
  · have hix : qidx ep E.q = -1 := by unfold qidx; rw [HKK.out, if_neg (by omega)]
    rw [hix] at HI
    clear hix
    obtain rfl : k = E.q.length := by omega
    simp only [Nat.sub_self] at hs2 HQ2
    go_enter Try.func33, Try.ntmps33
    go_wp2_with ((with_reducible refine HI.out.mono ?_); rintro e w2 ⟨rfl, hb2⟩; have HB2 := Aside0.mk (((Below.refl w.heap.size w).alloc (Nat.le_refl _) _).trans (hb2.mono (by simp))); obtain ⟨g1, g2, g3, g4⟩ := (H0.out.below HB2.out).putq (pw_cell_below HB2.out HD.out) (Kd.Q_below HQ2.out HB2.out) (World.grownBy.refl _ _); have HE3 := Aside0.mk g3; have HT3 := Aside0.mk g4; clear g3 g4 hb2)
    have HC3 : Aside0 (dP.C (w2.setCell ⟨p, 2, none⟩ (.slice A2 0 (c - E.q.length))) A (E.q.take E.q.length).length (E.q.take E.q.length)) := by
      obtain ⟨cs, hpb⟩ := (H0.out.below HB2.out).blk
      exact ⟨(Kd.Q_reads' (Kd.Q_set (Kd.Q_below HQ1.out HB2.out) hpb (by intro q hq; simp [Kd.pair, Kd.int, Kd.scalar] at hq; omega) 2 _)).2.2⟩
    have HW3 : Aside0 (w.heap.size ≤ (w2.setCell ⟨p, 2, none⟩ (.slice A2 0 (c - E.q.length))).heap.size) := ⟨Nat.le_trans HB2.out.size HT3.out.kept.1⟩
    have HT4 := Aside0.mk (SE.trans (Turn.of_below HB2.out) HT3.out)
    clear HT3 HI HQ1 HQ2 HD HB2 H0 hs1 hs2 d0 g1 g2
    generalize w2.setCell ⟨p, 2, none⟩ (.slice A2 0 (c - E.q.length)) = w3 at *
    have hkt : (E.q.take E.q.length).length = E.q.length := by rw [List.length_take]; omega
    rw [hkt] at HC3
    go_loopg [7, 9, 41] E.q.length (fun kq v7 v9 v41 w' => ∃ j : Nat, v41 = .int .i64 j ∧ j ≤ E.q.length ∧ Aside0 (kq = E.q.length - j) ∧ Aside0 (dI.Q 3 w' w3.heap.size (fun _ => True) v7 (((E.q.take E.q.length).take j).map (·.1))) ∧ Aside0 (Below w3.heap.size w3 w'))
    case atStart => exact ⟨0, rfl, by omega, ⟨by omega⟩, ⟨Kd.Q_nil _ _ _ _ _⟩, ⟨Below.refl _ _⟩⟩
    case round =>
      obtain ⟨j, rfl, hj, HK, HQ, HB⟩ := hrel
      have HKT := Aside0.mk hkt
      clear hkt
      by_cases hjk : j < E.q.length
      · obtain ⟨x, hxk⟩ : ∃ x, (E.q.take E.q.length)[j]? = some x := ⟨_, List.getElem?_eq_getElem (by rw [HKT.out]; exact hjk)⟩
        obtain ⟨ad, e0, h0, h1⟩ := dP_at (Kd.C_below HC3.out HB.out) j x hxk
        have HTK : Aside0 (((E.q.take E.q.length).take (j + 1)).map (·.1) = ((E.q.take E.q.length).take j).map (·.1) ++ [x.1]) := ⟨by rw [List.take_add_one, hxk]; simp⟩
        have HQL : Aside0 ((((E.q.take E.q.length).take j).map (·.1)).length ≤ 1000000) := ⟨by simp; omega⟩
        have HWS : Aside0 (w3.heap.size ≤ wr.heap.size) := ⟨HB.out.size⟩
        subst e0
        clear hxk
        generalize hys : ((E.q.take E.q.length).take j).map (·.1) = ys at *
        clear hys
        go_wp2_with (first
          | ((with_reducible refine gate_builtin (b := .append) (xs := #[.tmp 45, .tmp 48]) rfl ?_); at_builtin
             refine Kd.Q_append dI (w0 := wr.alloc (.cells #[.int .i64 x.1, .int .i64 x.2] 68)) (W := wr.alloc (.cells #[.int .i64 x.1, .int .i64 x.2] 68)) w3.heap.size rfl (.tmp 45) (.tmp 48) 29 3 (.int .i64 0) 8 rfl Try.underlying29 info3 rfl (by decide) (by omega) u7 ys x.1 [.int .i64 x.1] (fun _ => True) (fun _ => False) rfl (by rw [World.size_alloc]; rfl) rfl (fun _ hk => hk.elim) (fun _ _ => trivial) (Kd.Q_alloc HQ.out _) (Below.refl _ _) ?aS ?aL ?_
             case aS => have := HWS.out; simp; omega
             case aL => have := HQL.out; omega
             intro v1 w4 hq1 hb1 hg1 hat1
             have HQ2 := Aside0.mk hq1
             have HBW : Aside0 (Below w3.heap.size w3 w4) := ⟨(below_alloc HB.out _).grown hg1 (by have := HWS.out; simp; omega) (Kd.Q_base HQ.out)⟩
             clear HB HQ
             clear hq1 hb1 hg1 hat1))
        go_roundg (E.q.length - (j + 1))
        case measure => have := HK.out; omega
        case rel => exact ⟨j + 1, by go_num, by omega, ⟨rfl⟩, ⟨by rw [HTK.out]; exact HQ2.out⟩, HBW⟩
      · obtain rfl : j = E.q.length := by omega
        go_wp2_with fail
        go_ret
        refine ⟨u7, rfl, ?_, HE3.out.below HB.out, HT4.out.trans (Turn.of_below (S := fun _ => False) HB.out) (fun _ _ h => h.elim)⟩
        have := Kd.Q_lower HQ.out HW3.out
        rwa [List.take_take, Nat.min_self] at this
end Go.Proofs.Ytfpjkiokcjbbmaa
