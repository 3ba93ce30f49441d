/- The specification's epochs in memory; the contracts of New, Least, Enter, Leave of package alumref17. -/
import Derived.Test.YtfpjkiokcjbbmaaRef
namespace Go.Proofs.Ytfpjkiokcjbbmaa
open Go.RowKit Go.Maps Go.MapKept Go.Proofs.YtfpjkiokcjbbmaaW.PrintWords Go.Proofs.YtfpjkiokcjbbmaaW.PrintLast Go.Proofs.YtfpjkiokcjbbmaaW.PrintMore

/-- The specification's epochs. -/
structure Rf where
  rd : List (Int × Int)
  wt : List (Int × Int)
  now : Int
def RfAt (w : World) (base p : Nat) (R : Rf) : Prop :=
  base ≤ p ∧ ∃ v1 v2, w.heap[p]? = some (.cells #[v1, v2, .int .i64 R.now] 40 (0, 0)) ∧ dP.Q 62 w base (fun _ => True) v1 R.rd ∧ dP.Q 62 w base (fun _ => True) v2 R.wt
def SR (p : Nat) (k : Nat) : Prop := k = p

section
variable {w w1 : World} {base p : Nat} {R : Rf}
theorem RfAt.cells (h : RfAt w base p R) : ∃ A1 c1 A2 c2, w.cell? ⟨p, 0, none⟩ = some (.slice A1 R.rd.length c1) ∧ w.cell? ⟨p, 1, none⟩ = some (.slice A2 R.wt.length c2) ∧ w.cell? ⟨p, 2, none⟩ = some (.int .i64 R.now) ∧ (∀ j, w.frozen? ⟨p, j, none⟩ = false) ∧
    R.rd.length ≤ c1 ∧ R.wt.length ≤ c2 ∧ dP.Q 62 w base (fun _ => True) (.slice A1 R.rd.length c1) R.rd ∧ dP.Q 62 w base (fun _ => True) (.slice A2 R.wt.length c2) R.wt := by
  obtain ⟨_, v1, v2, hp, hq1, hq2⟩ := h
  obtain ⟨A1, c1, rfl, h1, _⟩ := Kd.Q_reads hq1
  obtain ⟨A2, c2, rfl, h2, _⟩ := Kd.Q_reads hq2
  exact ⟨A1, c1, A2, c2, by simp [World.cell?, hp], by simp [World.cell?, hp], by simp [World.cell?, hp], fun j => by simp [World.frozen?, hp], h1, h2, hq1, hq2⟩
theorem RfAt.below (h : RfAt w base p R) (hb : Below w.heap.size w w1) : RfAt w1 base p R := by
  obtain ⟨h1, v1, v2, hp, hq1, hq2⟩ := h
  exact ⟨h1, v1, v2, (hb.block _ (Array.getElem?_eq_some_iff.1 hp).1).trans hp, Kd.Q_below hq1 hb, Kd.Q_below hq2 hb⟩
theorem RfAt.size (h : RfAt w base p R) : base ≤ w.heap.size ∧ p < w.heap.size := by
  obtain ⟨h1, v1, v2, hp, _⟩ := h
  have := (Array.getElem?_eq_some_iff.1 hp).1
  omega
/-- What the other epochs turn leaves these alone. -/
theorem RfAt.other {p' m1 m2 : Nat} {E : Ep} (h : RfAt w base p R) (hE : EpAt w base p' m1 m2 E) (hT : Turn (SE base p' m1 m2 w) w w1) : RfAt w1 base p R := by
  obtain ⟨h1, v1, v2, hp, hq1, hq2⟩ := h
  obtain ⟨e1, e2, e3, e4, e5, e6, ve, ep, eq⟩ := hE
  have key : ∀ k cs t, w.heap[k]? = some (.cells cs t (0, 0)) → t ≠ 60 → t ≠ 68 → ¬ SE base p' m1 m2 w k := by
    rintro k cs t hc h60 h68 ⟨_, rfl | rfl | rfl | ⟨cs', hc'⟩⟩
    · rw [ep] at hc; injection hc with hc; injection hc with _ hc; exact h60 hc.symm
    · obtain ⟨es, clk, hb, _⟩ := e5; rw [hb] at hc; cases hc
    · obtain ⟨es, clk, hb, _⟩ := e6; rw [hb] at hc; cases hc
    · rw [hc'] at hc; injection hc with hc; injection hc with _ hc; exact h68 hc.symm
  have keep : ∀ {v xs}, dP.Q 62 w base (fun _ => True) v xs → dP.Q 62 w1 base (fun _ => True) v xs := by
    intro v xs hq
    refine Kd.Q_step (Kd.Q_mono (Kd.Q_bound hq) (ok' := fun k => ∃ cells, w.heap[k]? = some (.cells cells 62 (0, 0))) ?_) ?_ |> fun h => Kd.Q_mono h (fun _ _ => trivial)
    · rintro k ⟨_, _, _, t, ht, cs, hc⟩
      have : t = 62 := by simpa [Kd.pair, Kd.int, Kd.scalar] using ht
      subst this
      exact ⟨cs, hc⟩
    · rintro k ⟨cs, hc⟩ hlt
      exact hT.kept.2 k hlt (key k cs 62 hc (by decide) (by decide))
  exact ⟨h1, v1, v2, (hT.kept.2 _ (Array.getElem?_eq_some_iff.1 hp).1 (key p _ 40 hp (by decide) (by decide))).trans hp, keep hq1, keep hq2⟩
theorem EpAt.other {p' m1 m2 : Nat} {E : Ep} (hE : EpAt w base p' m1 m2 E) (h : RfAt w base p R) (hT : Turn (SR p) w w1) : EpAt w1 base p' m1 m2 E := by
  obtain ⟨h1, v1, v2, hp, hq1, hq2⟩ := h
  obtain ⟨e1, e2, e3, e4, e5, e6, ve, ep, eq⟩ := hE
  have k1 : m1 ≠ p := by rintro rfl; obtain ⟨es, clk, hb, _⟩ := e5; rw [hb] at hp; cases hp
  have k2 : m2 ≠ p := by rintro rfl; obtain ⟨es, clk, hb, _⟩ := e6; rw [hb] at hp; cases hp
  have k3 : p' ≠ p := by rintro rfl; rw [ep] at hp; injection hp with hp; injection hp with _ hp; cases hp
  refine ⟨e1, e2, e3, e4, e5.keep (hT.kept.2 _ e5.lt k1), e6.keep (hT.kept.2 _ e6.lt k2), ve, (hT.kept.2 _ (Array.getElem?_eq_some_iff.1 ep).1 k3).trans ep, ?_⟩
  refine Kd.Q_step (Kd.Q_mono (Kd.Q_bound eq) (ok' := fun k => k ≠ p) ?_) (fun k hk hlt => hT.kept.2 k hlt hk) |> fun h => Kd.Q_mono h (fun _ _ => trivial)
  rintro k ⟨_, _, _, t, ht, cs, hc⟩ rfl
  have : t = 68 := by simpa [Kd.pair, Kd.int, Kd.scalar] using ht
  subst this
  rw [hp] at hc
  injection hc with hc
  injection hc with _ hc
  cases hc
theorem SR.below {B : Nat} (h : Turn (SR p) w w1) (hp : B ≤ p) (hB : B ≤ w.heap.size) : Below B w w1 := h.below (fun k e => by rw [show k = p from e]; exact hp) hB
theorem SR.trans {w2 : World} (h : Turn (SR p) w w1) (k : Turn (SR p) w1 w2) : Turn (SR p) w w2 := Turn.trans h k (fun _ _ h => h)

/-- A store into these epochs. -/
theorem RfAt.put0 (h : RfAt w base p R) {v : Value} {l : List (Int × Int)} (hv : dP.Q 62 w base (fun _ => True) v l) : RfAt (w.setCell ⟨p, 0, none⟩ v) base p { R with rd := l } ∧ Turn (SR p) w (w.setCell ⟨p, 0, none⟩ v) := by
  obtain ⟨h1, v1, v2, hp, hq1, hq2⟩ := h
  refine ⟨⟨h1, v, v2, ?_, ?_, ?_⟩, rfl, rfl, rfl, by simp [World.setCell], fun k _ hk => Below.heap_setCell _ _ _ _ hk⟩
  · simp [World.setCell, Array.getElem?_modify, hp]
  · exact Kd.Q_set hv hp (by intro q hq; simp [Kd.pair, Kd.int, Kd.scalar] at hq; omega) 0 _
  · exact Kd.Q_set hq2 hp (by intro q hq; simp [Kd.pair, Kd.int, Kd.scalar] at hq; omega) 0 _
theorem RfAt.put1 (h : RfAt w base p R) {v : Value} {l : List (Int × Int)} (hv : dP.Q 62 w base (fun _ => True) v l) : RfAt (w.setCell ⟨p, 1, none⟩ v) base p { R with wt := l } ∧ Turn (SR p) w (w.setCell ⟨p, 1, none⟩ v) := by
  obtain ⟨h1, v1, v2, hp, hq1, hq2⟩ := h
  refine ⟨⟨h1, v1, v, ?_, ?_, ?_⟩, rfl, rfl, rfl, by simp [World.setCell], fun k _ hk => Below.heap_setCell _ _ _ _ hk⟩
  · simp [World.setCell, Array.getElem?_modify, hp]
  · exact Kd.Q_set hq1 hp (by intro q hq; simp [Kd.pair, Kd.int, Kd.scalar] at hq; omega) 1 _
  · exact Kd.Q_set hv hp (by intro q hq; simp [Kd.pair, Kd.int, Kd.scalar] at hq; omega) 1 _
theorem RfAt.put2 (h : RfAt w base p R) (n : Int) : RfAt (w.setCell ⟨p, 2, none⟩ (.int .i64 n)) base p { R with now := n } ∧ Turn (SR p) w (w.setCell ⟨p, 2, none⟩ (.int .i64 n)) := by
  obtain ⟨h1, v1, v2, hp, hq1, hq2⟩ := h
  refine ⟨⟨h1, v1, v2, ?_, ?_, ?_⟩, rfl, rfl, rfl, by simp [World.setCell], fun k _ hk => Below.heap_setCell _ _ _ _ hk⟩
  · simp [World.setCell, Array.getElem?_modify, hp]
  · exact Kd.Q_set hq1 hp (by intro q hq; simp [Kd.pair, Kd.int, Kd.scalar] at hq; omega) 2 _
  · exact Kd.Q_set hq2 hp (by intro q hq; simp [Kd.pair, Kd.int, Kd.scalar] at hq; omega) 2 _
end

theorem RNew_calls {w : World} {base : Nat} (hb : base ≤ w.heap.size) :
    Calls Try.prog 10 #[] w fun e w' => ∃ p, e = .returned (.pointer (some ⟨p, 0, none⟩)) ∧ RfAt w' base p ⟨[], [], 1⟩ ∧ Below w.heap.size w w' ∧ w.heap.size ≤ p := by
  go_enter Try.func10, Try.ntmps10
  go_wp2_with fail
  go_ret
  refine ⟨w.heap.size, rfl, ⟨hb, .slice none 0 0, .slice none 0 0, ?_, Kd.Q_nil _ _ _ _ _, Kd.Q_nil _ _ _ _ _⟩, (Below.refl _ _).alloc (Nat.le_refl _) _, Nat.le_refl _⟩
  exact (MapKept.heap_alloc w _).1

def Rf.least (R : Rf) : Int := R.rd.foldl (fun a x => min a x.2) R.now

set_option maxHeartbeats 4000000 in
set_option maxRecDepth 100000 in
theorem RLeast_calls {w : World} {base p : Nat} {R : Rf} (h : RfAt w base p R) :
    Calls Try.prog 16 #[.pointer (some ⟨p, 0, none⟩)] w fun e w' => e = .returned (.int .i64 R.least) ∧ w' = w := by
  obtain ⟨A1, c1, A2, c2, d0, d1, d2, hf, hl1, hl2, hq1, hq2⟩ := h.cells
  have HX := Aside0.mk (Kd.Q_reads' hq1).2.2
  have hm := Kd.C_max HX.out
  clear h hf hq1 hq2 d1
  go_enter Try.func16, Try.ntmps16
  go_wp2_with fail
  go_loopg [3, 4] R.rd.length (fun kq v3 v4 w' => ∃ (k : Nat) (a : Int), v4 = .int .i64 k ∧ v3 = .int .i64 a ∧ k ≤ R.rd.length ∧ Aside0 (kq = R.rd.length - k) ∧ Aside0 ((R.rd.drop k).foldl (fun a x => min a x.2) a = R.least) ∧ w' = w)
  case atStart => exact ⟨0, _, rfl, rfl, by omega, ⟨by omega⟩, ⟨rfl⟩, rfl⟩
  case round =>
    obtain ⟨k, a, rfl, rfl, hk, HK, HE, rfl⟩ := hrel
    by_cases hlt : k < R.rd.length
    · obtain ⟨y, hxk⟩ : ∃ y, R.rd[k]? = some y := ⟨_, List.getElem?_eq_getElem hlt⟩
      obtain ⟨ad, e0, h0, h1⟩ := dP_at HX.out k y hxk
      subst e0
      have hdr : R.rd.drop k = y :: R.rd.drop (k + 1) := by rw [List.drop_eq_getElem_cons hlt]; congr 1; exact (List.getElem?_eq_some_iff.1 hxk).2
      have HS : Aside0 ((R.rd.drop (k + 1)).foldl (fun a x => min a x.2) (min a y.2) = R.least) := ⟨by rw [← HE.out, hdr]; rfl⟩
      clear hxk hdr HE
      go_wp2_with fail
      all_goals
        go_roundg (R.rd.length - (k + 1))
        case measure => have := HK.out; omega
        case rel => exact ⟨k + 1, _, by go_num, rfl, by omega, ⟨rfl⟩, ⟨by refine Eq.trans (congrArg (fun t => List.foldl (fun a x => min a x.2) t (R.rd.drop (k + 1))) ?_) HS.out; omega⟩, rfl⟩
    · have HP2 : Aside0 (a = R.least) := ⟨by have := HE.out; rwa [show k = R.rd.length by omega, List.drop_length] at this⟩
      clear HE
      go_wp2_with fail
      go_ret
      exact ⟨by rw [HP2.out]; rfl, rfl⟩

def before (r : Int) : List (Int × Int) → Nat
  | [] => 0
  | x :: l => if x.1 < r then before r l + 1 else 0
theorem before_le (r : Int) : ∀ l, before r l ≤ l.length
  | [] => by simp [before]
  | x :: l => by have := before_le r l; simp only [before, List.length_cons]; split <;> omega
theorem before_step (r : Int) : ∀ (l : List (Int × Int)) (k : Nat) (x : Int × Int), l[k]? = some x → k ≤ before r l → (x.1 < r → k + 1 ≤ before r l) ∧ (¬ x.1 < r → k = before r l)
  | [], _, _, h, _ => by simp at h
  | y :: l, 0, x, h, _ => by
    simp at h
    subst h
    constructor
    · intro h; simp only [before, if_pos h]; omega
    · intro h; simp only [before, if_neg h]
  | y :: l, k + 1, x, h, hk => by
    simp only [List.getElem?_cons_succ] at h
    by_cases hy : y.1 < r
    · simp only [before, if_pos hy] at hk ⊢
      have := before_step r l k x h (by omega)
      exact ⟨fun h => by have := this.1 h; omega, fun h => by have := this.2 h; omega⟩
    · simp only [before, if_neg hy] at hk
      omega
def insr (r now : Int) (l : List (Int × Int)) : List (Int × Int) := l.take (before r l) ++ (r, now) :: l.drop (before r l)
def Rf.enter (R : Rf) (r : Int) : Int × Rf := if hasn R.rd r then (6, R) else (0, { R with rd := insr r R.now R.rd })

theorem cut62 {A : Option Addr} {n c : Nat} (k : Nat) (hk : k ≤ n) :
    (∀ W : World, (Instr.slice 38 (.slice A n c) (some (.int .i64 k)) none none).run Try.prog W = .ok (.slice (if c = k then A else A.map (·.add (k * 2))) (n - k) (c - k)) W) := by
  have hi : ∀ W : World, (sizeOf 62).run Try.prog W = .ok 2 W := fun W => by kernel_rfl
  intro W
  have h1 : ((0 : Int) ≤ (k : Int) ∧ (k : Int) ≤ (n : Int)) := by omega
  simp only [Instr.slice, Sem.run_bind, run_underlying Try.underlying38, Result.andThen, Instr.sliceBounds, Instr.sliceBound, asIntOf, Sem.run_pure, h1, if_true, Int.toNat_natCast, hi, and_self]

theorem dP_KM {W w : World} {base : Nat} {okp : Nat → Prop} (x : Int × Int) (cs : List Value) (h : dP.K w x cs) : dP.M W base okp x cs := by
  obtain ⟨a, b, rfl, rfl, rfl⟩ := h
  exact ⟨_, _, rfl, rfl, rfl⟩
end Go.Proofs.Ytfpjkiokcjbbmaa
