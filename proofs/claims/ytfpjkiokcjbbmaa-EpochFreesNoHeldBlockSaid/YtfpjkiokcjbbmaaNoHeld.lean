/- The walk of EpochFreesNoHeldBlock: it returns true. -/
import Derived.Test.YtfpjkiokcjbbmaaHeld
namespace Go.Proofs.Ytfpjkiokcjbbmaa
open Go.RowKit Go.Maps Go.MapKept Go.Proofs.YtfpjkiokcjbbmaaW.PrintWords Go.Proofs.YtfpjkiokcjbbmaaW.PrintLast Go.Proofs.YtfpjkiokcjbbmaaW.PrintMore

/-- A step. -/
structure St where
  kind : Int
  a : Int
  b : Int
abbrev dS : Kd St := Kd.iso (Kd.pair (Kd.int .u8) (Kd.pair (Kd.int .u8) (Kd.int .u8))) (fun x : St => (x.kind, x.a, x.b))
def St.wf (x : St) : Prop := (0 ≤ x.kind ∧ x.kind ≤ 255) ∧ (0 ≤ x.a ∧ x.a ≤ 255) ∧ (0 ≤ x.b ∧ x.b ≤ 255)
theorem dS_at {w : World} {A : Option Addr} {n : Nat} {xs : List St} (h : dS.C w A n xs) (k : Nat) (x : St) (hx : xs[k]? = some x) : ∃ ad, A = some ad ∧ w.cell? (ad.add (k * 3)) = some (.int .u8 x.kind) ∧ w.cell? ⟨(ad.add (k * 3)).block, (ad.add (k * 3)).off + 1, none⟩ = some (.int .u8 x.a) ∧ w.cell? ⟨(ad.add (k * 3)).block, (ad.add (k * 3)).off + 2, none⟩ = some (.int .u8 x.b) := by
  have hl := (List.getElem?_eq_some_iff.1 hx).1
  obtain ⟨ad, c, e, _, hK, hc0⟩ := Kd.C_get h (⟨0, 0, 0⟩ : St) k (by omega) (by rw [← h.1]; omega)
  have hg : xs.getD (Int.toNat (k : Int)) ⟨0, 0, 0⟩ = x := by simp [hx]
  rw [hg] at hK
  obtain ⟨_, _, rfl, rfl, _, _, rfl, rfl, rfl⟩ := hK
  have hsz : dS.sz = 3 := rfl
  rw [hsz] at hc0
  have h0 := hc0 0 _ rfl
  have h1 := hc0 1 _ rfl
  have h2 := hc0 2 _ rfl
  have e1 : (Int.toNat (k : Int)) = k := by omega
  rw [e1] at h1 h2
  refine ⟨ad, e, by simpa using h0, ?_, ?_⟩
  · rw [← add_field _ _ 1 (by omega)]; exact h1
  · rw [← add_field _ _ 2 (by omega)]; exact h2

/-- A block of Bools of the law's own. -/
def Bd (w : World) (b t : Nat) (l : List Bool) : Prop := w.heap[b]? = some (.cells (l.map Value.bool).toArray t (0, 0))
section
variable {w w1 : World} {b t : Nat} {l : List Bool}
theorem Bd.lt (h : Bd w b t l) : b < w.heap.size := (Array.getElem?_eq_some_iff.1 h).1
theorem Bd.cell (h : Bd w b t l) (i : Nat) (hi : i < l.length) : w.cell? ⟨b, i, none⟩ = some (.bool (l.getD i false)) := by
  unfold Bd at h
  simp [World.cell?, h, List.getD_eq_getElem?_getD, hi]
theorem Bd.froz (h : Bd w b t l) (i : Nat) : w.frozen? ⟨b, i, none⟩ = false := by
  unfold Bd at h
  simp [World.frozen?, h]
theorem Bd.put (h : Bd w b t l) (i : Nat) (v : Bool) : Bd (w.setCell ⟨b, i, none⟩ (.bool v)) b t (l.set i v) := by
  unfold Bd at h ⊢
  simp [World.setCell, Array.getElem?_modify, h, List.map_set]
theorem Bd.far (h : Bd w b t l) {p : Addr} (hp : b ≠ p.block) (v : Value) : Bd (w.setCell p v) b t l := (Below.heap_setCell _ _ _ _ hp).trans h
theorem Bd.below (h : Bd w b t l) (hb : Below w.heap.size w w1) : Bd w1 b t l := (hb.block _ h.lt).trans h
theorem Bd.turn (h : Bd w b t l) {base p m1 m2 : Nat} {E : Ep} (hE : EpAt w base p m1 m2 E) (ht : t ≠ 60 ∧ t ≠ 68) (hT : Turn (SE base p m1 m2 w) w w1) : Bd w1 b t l := by
  refine (hT.kept.2 b h.lt ?_).trans h
  obtain ⟨h1, h2, h3, h4, h5, h6, v', hp, hq'⟩ := hE
  unfold Bd at h
  rintro ⟨_, rfl | rfl | rfl | ⟨cs', hc'⟩⟩
  · rw [hp] at h; injection h with h; injection h with _ h; exact ht.1 h.symm
  · obtain ⟨es, clk, hb, _⟩ := h5; rw [hb] at h; cases h
  · obtain ⟨es, clk, hb, _⟩ := h6; rw [hb] at h; cases h
  · rw [hc'] at h; injection h with h; injection h with _ h; exact ht.2 h.symm
theorem EpAt.away {base p m1 m2 : Nat} {E : Ep} (hE : EpAt w base p m1 m2 E) (h : Bd w b t l) (ht : t ≠ 60 ∧ t ≠ 68) (hT : Turn (fun k => k = b) w w1) : EpAt w1 base p m1 m2 E := by
  obtain ⟨e1, e2, e3, e4, e5, e6, ve, ep, eq⟩ := hE
  unfold Bd at h
  have k1 : m1 ≠ b := by rintro rfl; obtain ⟨es, clk, hb, _⟩ := e5; rw [hb] at h; cases h
  have k2 : m2 ≠ b := by rintro rfl; obtain ⟨es, clk, hb, _⟩ := e6; rw [hb] at h; cases h
  have k3 : p ≠ b := by rintro rfl; rw [ep] at h; injection h with h; injection h with _ h; exact ht.1 h.symm
  refine ⟨e1, e2, e3, e4, e5.keep (hT.kept.2 _ e5.lt k1), e6.keep (hT.kept.2 _ e6.lt k2), ve, (hT.kept.2 _ (Array.getElem?_eq_some_iff.1 ep).1 k3).trans ep, ?_⟩
  refine Kd.Q_step (Kd.Q_mono (Kd.Q_bound eq) (ok' := fun k => k ≠ b) ?_) (fun k hk hlt => hT.kept.2 k hlt hk) |> fun h => Kd.Q_mono h (fun _ _ => trivial)
  rintro k ⟨_, _, _, t2, ht2, cs, hc⟩ rfl
  have : t2 = 68 := by simpa [Kd.pair, Kd.int, Kd.scalar] using ht2
  subst this
  rw [h] at hc
  injection hc with hc
  injection hc with _ hc
  exact ht.2 hc
theorem turn_set (w : World) (b i : Nat) (v : Value) : Turn (fun k => k = b) w (w.setCell ⟨b, i, none⟩ v) := ⟨rfl, rfl, rfl, by simp [World.setCell], fun k _ hk => Below.heap_setCell _ _ _ _ hk⟩
end

theorem four_blocks (w : World) (o1 o2 o3 o4 : Obj) : ((((w.alloc o1).alloc o2).alloc o3).alloc o4).heap[w.heap.size]? = some o1 ∧ ((((w.alloc o1).alloc o2).alloc o3).alloc o4).heap[w.heap.size + 1]? = some o2 ∧ ((((w.alloc o1).alloc o2).alloc o3).alloc o4).heap[w.heap.size + 1 + 1]? = some o3 ∧ ((((w.alloc o1).alloc o2).alloc o3).alloc o4).heap[w.heap.size + 1 + 1 + 1]? = some o4 := by
  have s1 : (w.alloc o1).heap.size = w.heap.size + 1 := World.size_alloc ..
  have s2 : ((w.alloc o1).alloc o2).heap.size = w.heap.size + 1 + 1 := by rw [World.size_alloc, s1]
  have s3 : (((w.alloc o1).alloc o2).alloc o3).heap.size = w.heap.size + 1 + 1 + 1 := by rw [World.size_alloc, s2]
  have h1 := (MapKept.heap_alloc w o1).1
  have h2 := (MapKept.heap_alloc (w.alloc o1) o2).1
  have h3 := (MapKept.heap_alloc ((w.alloc o1).alloc o2) o3).1
  have h4 := (MapKept.heap_alloc (((w.alloc o1).alloc o2).alloc o3) o4).1
  rw [s1] at h2
  rw [s2] at h3
  rw [s3] at h4
  refine ⟨?_, ?_, ?_, h4⟩
  · rw [Below.heap_alloc _ _ _ (by omega), Below.heap_alloc _ _ _ (by omega), Below.heap_alloc _ _ _ (by omega)]; exact h1
  · rw [Below.heap_alloc _ _ _ (by omega), Below.heap_alloc _ _ _ (by omega)]; exact h2
  · rw [Below.heap_alloc _ _ _ (by omega)]; exact h3

/-- The law's four tables and the epochs in memory. -/
structure Mem (w0 W : World) (base p m1 m2 b5 b6 b7 b8 : Nat) (E : Ep) (ac li wa he : List Bool) : Prop where
  ep : EpAt W base p m1 m2 E
  h5 : Bd W b5 44 ac
  h6 : Bd W b6 45 li
  h7 : Bd W b7 45 wa
  h8 : Bd W b8 46 he
  below : Below base w0 W
  size : base ≤ w0.heap.size
  ne : b5 ≠ b6 ∧ b5 ≠ b7 ∧ b5 ≠ b8 ∧ b6 ≠ b7 ∧ b6 ≠ b8 ∧ b7 ≠ b8
  le : base ≤ b5 ∧ base ≤ b6 ∧ base ≤ b7 ∧ base ≤ b8
section
variable {w0 W W1 : World} {base p m1 m2 b5 b6 b7 b8 : Nat} {E E1 : Ep} {ac li wa he : List Bool}
theorem Mem.turn (h : Mem w0 W base p m1 m2 b5 b6 b7 b8 E ac li wa he) (hE : EpAt W1 base p m1 m2 E1) (hT : Turn (SE base p m1 m2 W) W W1) : Mem w0 W1 base p m1 m2 b5 b6 b7 b8 E1 ac li wa he :=
  ⟨hE, h.h5.turn h.ep (by decide) hT, h.h6.turn h.ep (by decide) hT, h.h7.turn h.ep (by decide) hT, h.h8.turn h.ep (by decide) hT, h.below.trans (hT.below (fun k h => h.1) (Nat.le_trans h.size h.below.size)), h.size, h.ne, h.le⟩
theorem below_set (h : Mem w0 W base p m1 m2 b5 b6 b7 b8 E ac li wa he) {b i : Nat} (ha : base ≤ b) (v : Value) : Below base w0 (W.setCell ⟨b, i, none⟩ v) :=
  h.below.trans ((turn_set W b i v).below (fun k e => by rw [e]; exact ha) (Nat.le_trans h.size h.below.size))
theorem Mem.put5 (h : Mem w0 W base p m1 m2 b5 b6 b7 b8 E ac li wa he) (i : Nat) (v : Bool) : Mem w0 (W.setCell ⟨b5, i, none⟩ (.bool v)) base p m1 m2 b5 b6 b7 b8 E (ac.set i v) li wa he :=
  ⟨h.ep.away h.h5 (by decide) (turn_set _ _ _ _), h.h5.put i v, h.h6.far (fun e => h.ne.1 e.symm) _, h.h7.far (fun e => h.ne.2.1 e.symm) _, h.h8.far (fun e => h.ne.2.2.1 e.symm) _, below_set h h.le.1 _, h.size, h.ne, h.le⟩
theorem Mem.put6 (h : Mem w0 W base p m1 m2 b5 b6 b7 b8 E ac li wa he) (i : Nat) (v : Bool) : Mem w0 (W.setCell ⟨b6, i, none⟩ (.bool v)) base p m1 m2 b5 b6 b7 b8 E ac (li.set i v) wa he :=
  ⟨h.ep.away h.h6 (by decide) (turn_set _ _ _ _), h.h5.far h.ne.1 _, h.h6.put i v, h.h7.far (fun e => h.ne.2.2.2.1 e.symm) _, h.h8.far (fun e => h.ne.2.2.2.2.1 e.symm) _, below_set h h.le.2.1 _, h.size, h.ne, h.le⟩
theorem Mem.put7 (h : Mem w0 W base p m1 m2 b5 b6 b7 b8 E ac li wa he) (i : Nat) (v : Bool) : Mem w0 (W.setCell ⟨b7, i, none⟩ (.bool v)) base p m1 m2 b5 b6 b7 b8 E ac li (wa.set i v) he :=
  ⟨h.ep.away h.h7 (by decide) (turn_set _ _ _ _), h.h5.far h.ne.2.1 _, h.h6.far h.ne.2.2.2.1 _, h.h7.put i v, h.h8.far (fun e => h.ne.2.2.2.2.2 e.symm) _, below_set h h.le.2.2.1 _, h.size, h.ne, h.le⟩
theorem Mem.put8 (h : Mem w0 W base p m1 m2 b5 b6 b7 b8 E ac li wa he) (i : Nat) (v : Bool) : Mem w0 (W.setCell ⟨b8, i, none⟩ (.bool v)) base p m1 m2 b5 b6 b7 b8 E ac li wa (he.set i v) :=
  ⟨h.ep.away h.h8 (by decide) (turn_set _ _ _ _), h.h5.far h.ne.2.2.1 _, h.h6.far h.ne.2.2.2.2.1 _, h.h7.far h.ne.2.2.2.2.2 _, h.h8.put i v, below_set h h.le.2.2.2 _, h.size, h.ne, h.le⟩
theorem Mem.drew (h : Mem w0 W base p m1 m2 b5 b6 b7 b8 E ac li wa he) : Mem w0 W.drew base p m1 m2 b5 b6 b7 b8 E ac li wa he :=
  ⟨h.ep.below (below_drew (Below.refl _ _)), h.h5, h.h6, h.h7, h.h8, h.below.drew, h.size, h.ne, h.le⟩
theorem Mem.many : ∀ (vs he : List Bool) (o : Nat) {W : World}, Mem w0 W base p m1 m2 b5 b6 b7 b8 E ac li wa he → Mem w0 (W.setCells b8 o (vs.map Value.bool)) base p m1 m2 b5 b6 b7 b8 E ac li wa (setMany he o vs)
  | [], _, _, _, h => h
  | v :: vs, he, o, _, h => Mem.many vs _ (o + 1) (h.put8 o v)
theorem Mem.there (h : Mem w0 W base p m1 m2 b5 b6 b7 b8 E ac li wa he) (o n : Nat) (ho : o + n ≤ he.length) : W.there b8 o n := fun j hj => by
  rw [h.h8.cell (o + j) (by omega), h.h8.froz (o + j)]
  exact ⟨rfl, rfl⟩
end

set_option maxHeartbeats 8000000 in
set_option maxRecDepth 100000 in
theorem noheld_calls {w : World} {A : Option Addr} {c : Nat} {xs : List St} (hx : dS.C w A xs.length xs) (hc : xs.length ≤ c) (hw : ∀ c ∈ xs, c.wf) :
    Calls Try.prog 4 #[.slice A xs.length c] w fun e w' => e = .returned (.bool true) ∧ Below w.heap.size w w' := by
  have HX := Aside0.mk hx
  have HW := Aside0.mk hw
  have hm := Kd.C_max hx
  clear hx hw
  by_cases h60 : xs.length ≤ 60
  case neg =>
    have hd : decide ((60 : Int) < (xs.length : Int)) = true := decide_eq_true (by omega)
    go_enter Try.func4, Try.ntmps4
    go_wp2_with (first
      | (go_at_call 7; refine (sanity_calls w).mono ?_; rintro e w1 ⟨rfl, hb⟩; have HB := Aside0.mk hb; clear hb))
    go_ret
    exact ⟨rfl, HB.out⟩
  have hd : decide ((60 : Int) < (xs.length : Int)) = false := decide_eq_false (by omega)
  have hz : ∀ W : World, (zeroValue 46).run Try.prog W = .ok (.agg (List.replicate 128 (Value.bool false)).toArray) W := fun W => by kernel_rfl
  go_enter Try.func4, Try.ntmps4
  go_upto_region 9 with (first
    | (go_at_call 7; refine (sanity_calls w).mono ?_; rintro e w1 ⟨rfl, hb⟩; have HB := Aside0.mk hb; clear hb)
    | (go_at_call 9; refine (New_calls (base := w.heap.size) HB.out.size).mono ?_; rintro e w3 ⟨p, m1, m2, rfl, hE, hb, _, _, _⟩; have HE0 := Aside0.mk hE; have HB3 := Aside0.mk (HB.out.trans (hb.mono HB.out.size)); clear hE hb HB))
  go_cut [5, 6, 7, 8, 9] (fun v5 v6 v7 v8 v9 wx => v9 = .int .i64 0 ∧ ∃ b5 b6 b7 b8 : Nat, v5 = .pointer (some ⟨b5, 0, none⟩) ∧ v6 = .pointer (some ⟨b6, 0, none⟩) ∧ v7 = .pointer (some ⟨b7, 0, none⟩) ∧ v8 = .pointer (some ⟨b8, 0, none⟩) ∧ Aside0 (Bd wx b5 44 (List.replicate 8 false)) ∧ Aside0 (Bd wx b6 45 (List.replicate 16 false)) ∧ Aside0 (Bd wx b7 45 (List.replicate 16 false)) ∧ Aside0 (Bd wx b8 46 (List.replicate 128 false)) ∧ Aside0 (b5 ≠ b6 ∧ b5 ≠ b7 ∧ b5 ≠ b8 ∧ b6 ≠ b7 ∧ b6 ≠ b8 ∧ b7 ≠ b8) ∧ Aside0 (Below w3.heap.size w3 wx) ∧ Aside0 (w.heap.size ≤ b5 ∧ w.heap.size ≤ b6 ∧ w.heap.size ≤ b7 ∧ w.heap.size ≤ b8))
  case first =>
    go_wp2_with fail
    go_meet
    refine ⟨rfl, w3.heap.size, w3.heap.size + 1, w3.heap.size + 1 + 1, w3.heap.size + 1 + 1 + 1, rfl, rfl, rfl, rfl, ⟨?_⟩, ⟨?_⟩, ⟨?_⟩, ⟨?_⟩, ⟨by omega⟩, ⟨?_⟩, ⟨by have := HB3.out.size; omega⟩⟩
    · exact (four_blocks w3 _ _ _ _).1
    · exact (four_blocks w3 _ _ _ _).2.1
    · exact (four_blocks w3 _ _ _ _).2.2.1
    · exact (four_blocks w3 _ _ _ _).2.2.2
    · exact below_alloc (below_alloc (below_alloc (below_alloc (Below.refl _ _) _) _) _) _
  case rest =>
    obtain ⟨rfl, b5, b6, b7, b8, rfl, rfl, rfl, rfl, H5, H6, H7, H8, HNE, HBC, HBB⟩ := hcut
    have HE := Aside0.mk (HE0.out.below HBC.out)
    have HB := Aside0.mk (below_then HB3.out HB3.out.size HBC.out)
    clear HE0 HB3 HBC hz
    go_wp2_with fail
    go_loopg [9, 10, 11, 12, 13, 14, 15, 16, 17] xs.length (fun kq v9 v10 v11 v12 v13 v14 v15 v16 v17 w' => ∃ (k : Nat) (E : Ep) (ac li wa he : List Bool), v9 = .int .i64 k ∧ k ≤ xs.length ∧ Aside0 (kq = xs.length - k) ∧ Aside0 (Mem w w' w.heap.size p m1 m2 b5 b6 b7 b8 E ac li wa he) ∧ Aside0 (Hd E ac li wa he) ∧ Aside0 (1 ≤ E.now ∧ E.now ≤ k + 1 ∧ E.q.length ≤ k))
    case atStart => exact ⟨0, _, _, _, _, _, rfl, by omega, ⟨by omega⟩, ⟨⟨HE.out, H5.out, H6.out, H7.out, H8.out, HB.out, Nat.le_refl _, HNE.out, HBB.out⟩⟩, ⟨Hd.start⟩, ⟨by simp⟩⟩
    case round =>
      clear HE H5 H6 H7 H8 HB HNE HBB
      obtain ⟨k, E, ac, li, wa, he, rfl, hk, HK, HM, HH, HO⟩ := hrel
      obtain ⟨wo, rfl⟩ : ∃ wo : World, wo = wr := ⟨_, rfl⟩
      by_cases hlt : k < xs.length
      · obtain ⟨⟨kd, a, b⟩, hxk⟩ : ∃ x, xs[k]? = some x := ⟨_, List.getElem?_eq_getElem hlt⟩
        obtain ⟨ad, e0, h0, h1, h2⟩ := dS_at HX.out k _ hxk
        obtain ⟨hkd, ha, hb⟩ := HW.out _ (List.mem_of_getElem? hxk)
        dsimp only at h0 h1 h2 hkd ha hb
        subst e0
        have g0 := pw_cell_below HM.out.below h0
        have g1 := pw_cell_below HM.out.below h1
        have g2 := pw_cell_below HM.out.below h2
        obtain ⟨r, hr, hr8⟩ : ∃ r : Nat, a % 8 = (r : Int) ∧ r < 8 := ⟨(a % 8).toNat, by omega, by omega⟩
        obtain ⟨n, hn, hn16⟩ : ∃ n : Nat, b % 16 = (n : Int) ∧ n < 16 := ⟨(b % 16).toNat, by omega, by omega⟩
        clear h0 h1 h2 hxk
        go_upto_region 28 with fail
        rw [hr, hn]
        have HKD : Aside0 (0 ≤ kd ∧ kd ≤ 255) := ⟨hkd⟩
        clear ha hb hkd hr hn
        have hr2 : decide ((r : Int) < 8) = true := decide_eq_true (by omega)
        have hn2 : decide ((n : Int) < 16) = true := decide_eq_true (by omega)
        by_cases k0 : kd % 5 = 0
        · have hq : (kd % 5 == 0) = true := by simpa using k0
          cases hact : ac.getD r false with
          | false =>
            have hT := Aside0.mk (HH.out.enter hr8 hact)
            go_wp2_with (first
              | (go_at_call 20; refine (Enter_calls HM.out.ep r (WalkArith.wf_i64 (by omega))).mono ?_; rintro e w2 ⟨he, hE2, hT2⟩; rw [hT.out.1] at he; subst he; have HM2 := Aside0.mk (HM.out.turn hE2 hT2); have c5 := HM2.out.h5.cell r (by rw [HH.out.la]; exact hr8); rw [hact] at c5; have f5 := HM2.out.h5.froz r; have HM3 := Aside0.mk (HM2.out.put5 r true); clear hE2 hT2))
            go_roundg (xs.length - (k + 1))
            case measure => have := HK.out; omega
            case rel => exact ⟨k + 1, _, _, _, _, _, by go_num, by omega, ⟨rfl⟩, HM3, ⟨hT.out.2⟩, ⟨by have := HO.out; unfold Ep.enter; split <;> (dsimp only; omega)⟩⟩
          | true =>
            have hT := Aside0.mk (HH.out.twice hr8 hact)
            have hL := Aside0.mk (HH.out.leave hr8 hact)
            go_wp2_with (first
              | (go_at_call 20; refine (Enter_calls HM.out.ep r (WalkArith.wf_i64 (by omega))).mono ?_; rintro e w2 ⟨he, hE2, hT2⟩; rw [hT.out] at he hE2; dsimp only at he hE2; subst he; have HM2 := Aside0.mk (HM.out.turn hE2 hT2); have c5 := HM2.out.h5.cell r (by rw [HH.out.la]; exact hr8); rw [hact] at c5; clear hE2 hT2)
              | (go_at_call 21; refine (Leave_calls HM2.out.ep r (WalkArith.wf_i64 (by omega))).mono ?_; rintro e w3 ⟨he, hE2, hT2⟩; rw [hL.out.1] at he; subst he; have HM3 := Aside0.mk (HM2.out.turn hE2 hT2); clear c5; clear hE2 hT2)
              | ((with_reducible refine gate_store (t := 45) (p := 104) rfl ?_)
                 refine wpList_store_mid rfl 45 (.tmp 104) (.tmp 103) rfl b8 (r * 16) ((List.replicate 16 false).map Value.bool).toArray rfl rfl ?ht ?hi ?h1 ?_
                 case ht => exact HM3.out.there (r * 16) 16 (by rw [HH.out.lh]; omega)
                 case hi => kernel_rfl
                 case h1 => kernel_rfl
                 have HM4 := Aside0.mk (HM3.out.many (List.replicate 16 false) he (r * 16))
                 change wpList _ _ _ _ _ (w3.setCells b8 (r * 16) ((List.replicate 16 false).map Value.bool))
                 obtain ⟨w4, hw4⟩ : ∃ w4, w4 = w3.setCells b8 (r * 16) ((List.replicate 16 false).map Value.bool) := ⟨_, rfl⟩
                 rw [← hw4] at HM4 ⊢
                 have c5 := HM4.out.h5.cell r (by rw [HH.out.la]; exact hr8)
                 rw [hact] at c5
                 have f5 := HM4.out.h5.froz r
                 have HM5 := Aside0.mk (HM4.out.put5 r false)
                 clear hw4))
            go_roundg (xs.length - (k + 1))
            case measure => have := HK.out; omega
            case rel => exact ⟨k + 1, _, _, _, _, _, by go_num, by omega, ⟨rfl⟩, HM5, ⟨hL.out.2⟩, ⟨by have := HO.out; unfold Ep.leave; split <;> (dsimp only; omega)⟩⟩
        · have q0 : (kd % 5 == 0) = false := by simpa using k0
          by_cases k1 : kd % 5 = 1
          · have q1 : (kd % 5 == 1) = true := by simpa using k1
            have c6 := HM.out.h6.cell n (by rw [HH.out.ll]; exact hn16)
            have c7 := HM.out.h7.cell n (by rw [HH.out.lw]; exact hn16)
            have f6 := HM.out.h6.froz n
            have hL := HH.out.link hn16
            cases hli : li.getD n false with
            | true =>
              rw [hli] at c6 hL
              have HL := Aside0.mk hL
              have HM2 := Aside0.mk (HM.out.put6 n true)
              clear hL
              go_wp2_with fail
              go_roundg (xs.length - (k + 1))
              case measure => have := HK.out; omega
              case rel => exact ⟨k + 1, _, _, _, _, _, by go_num, by omega, ⟨rfl⟩, HM2, HL, ⟨by have := HO.out; omega⟩⟩
            | false =>
              cases hwa : wa.getD n false with
              | true =>
                rw [hli] at c6
                rw [hwa] at c7
                rw [hli, hwa] at hL
                have HL := Aside0.mk hL
                have HM2 := Aside0.mk (HM.out.put6 n false)
                clear hL
                go_wp2_with fail
                go_roundg (xs.length - (k + 1))
                case measure => have := HK.out; omega
                case rel => exact ⟨k + 1, _, _, _, _, _, by go_num, by omega, ⟨rfl⟩, HM2, HL, ⟨by have := HO.out; omega⟩⟩
              | false =>
                rw [hli] at c6
                rw [hwa] at c7
                rw [hli, hwa] at hL
                have HL := Aside0.mk hL
                have HM2 := Aside0.mk (HM.out.put6 n true)
                clear hL
                go_wp2_with fail
                go_roundg (xs.length - (k + 1))
                case measure => have := HK.out; omega
                case rel => exact ⟨k + 1, _, _, _, _, _, by go_num, by omega, ⟨rfl⟩, HM2, HL, ⟨by have := HO.out; omega⟩⟩
          · have q1 : (kd % 5 == 1) = false := by simpa using k1
            by_cases k2 : kd % 5 = 2
            · have q2 : (kd % 5 == 2) = true := by simpa using k2
              have c6 := HM.out.h6.cell n (by rw [HH.out.ll]; exact hn16)
              cases hli : li.getD n false with
              | false =>
                rw [hli] at c6
                go_wp2_with fail
                go_roundg (xs.length - (k + 1))
                case measure => have := HK.out; omega
                case rel => exact ⟨k + 1, _, _, _, _, _, by go_num, by omega, ⟨rfl⟩, HM, HH, ⟨by have := HO.out; omega⟩⟩
              | true =>
                rw [hli] at c6
                have hR := Aside0.mk (HH.out.retire hn16 hli)
                go_wp2_with (first
                  | (go_at_call 22; refine (retire_lit HM.out.ep [(n : Int)] (by simp) (by have := HO.out; omega) (by intro x hx; simp at hx; subst hx; exact WalkArith.wf_i64 (by omega)) (by have := HO.out; omega) (by have := HO.out; omega)).mono ?_; rintro e w3 ⟨he, hE2, hT2⟩; rw [hR.out.1] at he; subst he; have HM2 := Aside0.mk (HM.out.turn hE2 hT2); have d6 := HM2.out.h6.cell n (by rw [HH.out.ll]; exact hn16); have f6 := HM2.out.h6.froz n; have HM3 := Aside0.mk (HM2.out.put6 n false); have d7 := HM3.out.h7.cell n (by rw [HH.out.lw]; exact hn16); have f7 := HM3.out.h7.froz n; have HM4 := Aside0.mk (HM3.out.put7 n true); clear hE2 hT2 c6))
                go_roundg (xs.length - (k + 1))
                case measure => have := HK.out; omega
                case rel => exact ⟨k + 1, _, _, _, _, _, by go_num, by omega, ⟨rfl⟩, HM4, ⟨hR.out.2⟩, ⟨by have := HO.out; unfold Ep.retire; split <;> (simp [qpush]; omega)⟩⟩
            · have q2 : (kd % 5 == 2) = false := by simpa using k2
              by_cases k3 : kd % 5 = 3
              · have q3 : (kd % 5 == 3) = true := by simpa using k3
                have c8 := HM.out.h8.cell (r * 16 + n) (by rw [HH.out.lh]; omega)
                have f8 := HM.out.h8.froz (r * 16 + n)
                have c5 := HM.out.h5.cell r (by rw [HH.out.la]; exact hr8)
                have c6 := HM.out.h6.cell n (by rw [HH.out.ll]; exact hn16)
                have hL := HH.out.hold hr8 hn16
                cases hh : he.getD (r * 16 + n) false with
                | true =>
                  rw [hh] at c8 hL
                  have HL := Aside0.mk hL
                  have HM2 := Aside0.mk (HM.out.put8 (r * 16 + n) true).drew
                  clear hL
                  go_wp2_with fail
                  go_region
                  all_goals
                    go_wp2_with fail
                    go_roundg (xs.length - (k + 1))
                    case measure => have := HK.out; omega
                    case rel => exact ⟨k + 1, _, _, _, _, _, by go_num, by omega, ⟨rfl⟩, HM2, HL, ⟨by have := HO.out; omega⟩⟩
                | false =>
                  rw [hh] at c8 hL
                  cases hac : ac.getD r false with
                  | false =>
                    rw [hac] at c5 hL
                    have HL := Aside0.mk hL
                    have HM2 := Aside0.mk (HM.out.put8 (r * 16 + n) false).drew
                    clear hL
                    go_wp2_with fail
                    go_region
                    all_goals
                      go_wp2_with fail
                      go_roundg (xs.length - (k + 1))
                      case measure => have := HK.out; omega
                      case rel => exact ⟨k + 1, _, _, _, _, _, by go_num, by omega, ⟨rfl⟩, HM2, HL, ⟨by have := HO.out; omega⟩⟩
                  | true =>
                    rw [hac] at c5 hL
                    cases hli : li.getD n false with
                    | false =>
                      rw [hli] at c6 hL
                      have HL := Aside0.mk hL
                      have HM2 := Aside0.mk (HM.out.put8 (r * 16 + n) false).drew
                      clear hL
                      go_wp2_with fail
                      go_region
                      all_goals
                        go_wp2_with fail
                        go_roundg (xs.length - (k + 1))
                        case measure => have := HK.out; omega
                        case rel => exact ⟨k + 1, _, _, _, _, _, by go_num, by omega, ⟨rfl⟩, HM2, HL, ⟨by have := HO.out; omega⟩⟩
                    | true =>
                      rw [hli] at c6 hL
                      have HL := Aside0.mk hL
                      have HM2 := Aside0.mk (HM.out.put8 (r * 16 + n) true).drew
                      clear hL
                      go_wp2_with fail
                      go_region
                      all_goals
                        go_wp2_with fail
                        go_roundg (xs.length - (k + 1))
                        case measure => have := HK.out; omega
                        case rel => exact ⟨k + 1, _, _, _, _, _, by go_num, by omega, ⟨rfl⟩, HM2, HL, ⟨by have := HO.out; omega⟩⟩
              · have q3 : (kd % 5 == 3) = false := by simpa using k3
                have HF := Aside0.mk HH.out.free
                have HQL : Aside0 (E.q.length ≤ 1000000 ∧ ∀ x ∈ E.q, wf64 x.1) := ⟨by have := HO.out; omega, fun x hx => by obtain ⟨n, hn, e⟩ := HH.out.qr x hx; rw [e]; exact WalkArith.wf_i64 (by omega)⟩
                obtain ⟨fs, hfs⟩ : ∃ fs, fs = E.free.1 := ⟨_, rfl⟩
                have HFD : Aside0 (∀ x ∈ fs, ∃ n : Nat, n < 16 ∧ x = n ∧ wa.getD n false = true ∧ ∀ q : Nat, q < 8 → he.getD (q * 16 + n) false = false) := ⟨fun x hx => HH.out.freed (by rw [← hfs]; exact hx)⟩
                have HND : Aside0 (fs.Nodup) := ⟨by rw [hfs]; exact ((List.take_sublist _ _).map _).nodup HH.out.inv.qn⟩
                have HFS : Aside0 (E.free.1 = fs) := ⟨hfs.symm⟩
                have HFL : Aside0 (fs.length ≤ 1000000) := ⟨by rw [hfs]; have := HQL.out.1; simp [Ep.free]; omega⟩
                have hfl := HFL.out
                clear hfs
                go_wp2_with (first
                  | (go_at_call 23; refine (Free_calls HM.out.ep HQL.out.1 HQL.out.2).mono ?_; rintro e w3 ⟨v, rfl, hQ, hE2, hT2⟩; rw [HFS.out] at hQ; obtain ⟨Af, cf, rfl, hcf, _⟩ := Kd.Q_reads hQ; have HQ := Aside0.mk hQ; have HM2 := Aside0.mk (HM.out.turn hE2 hT2); clear hQ hE2 hT2))
                go_loopg [15, 16, 17] fs.length (fun kq v15 v16 v17 w' => ∃ j : Nat, v15 = .int .i64 j ∧ j ≤ fs.length ∧ Aside0 (kq = fs.length - j) ∧ Aside0 (Mem w w' w.heap.size p m1 m2 b5 b6 b7 b8 E.free.2 ac li (unw wa (fs.take j)) he) ∧ Aside0 (dI.Q 3 w' wo.heap.size (fun _ => True) (.slice Af fs.length cf) fs))
                case atStart => exact ⟨0, rfl, by omega, ⟨by omega⟩, HM2, HQ⟩
                case round =>
                  clear HM2 HQ
                  obtain ⟨j, rfl, hj, HJ, HM2, HC⟩ := hrel
                  obtain ⟨wp, rfl⟩ : ∃ wo : World, wo = wr := ⟨_, rfl⟩
                  by_cases hjl : j < fs.length
                  · obtain ⟨x, hxj⟩ : ∃ x, fs[j]? = some x := ⟨_, List.getElem?_eq_getElem hjl⟩
                    obtain ⟨ad2, e2, g3⟩ := dI_at (Kd.Q_reads' HC.out).2.2 j x hxj
                    subst e2
                    obtain ⟨m, hm16, rfl, hwm, hhm⟩ := HFD.out x (List.mem_of_getElem? hxj)
                    have hnt : (m : Int) ∉ fs.take j := fun hmem => by
                      obtain ⟨i, hi, e⟩ := List.mem_iff_getElem.1 hmem
                      rw [List.length_take] at hi
                      rw [List.getElem_take] at e
                      have e3 : fs[j] = (m : Int) := (List.getElem?_eq_some_iff.1 hxj).2
                      have := (List.getElem_inj HND.out).1 (e.trans e3.symm)
                      omega
                    have hwj : (unw wa (fs.take j)).getD m false = true := by
                      rw [unw_getD _ wa m (by rw [HH.out.lw]; exact hm16) (fun y hy => by
                        obtain ⟨n, hn, rfl, _⟩ := HFD.out y (List.mem_of_mem_take hy)
                        rw [HH.out.lw]; omega), hwm]
                      simpa using hnt
                    have HTK : Aside0 (unw wa (fs.take (j + 1)) = (unw wa (fs.take j)).set m false) := ⟨by rw [List.take_add_one, hxj]; simp [unw, List.foldl_append]⟩
                    have HLW : Aside0 ((unw wa (fs.take j)).length = 16) := ⟨by rw [unw_length, HH.out.lw]⟩
                    have HHM := Aside0.mk hhm
                    have c7 := HM2.out.h7.cell m (by rw [HLW.out]; exact hm16)
                    rw [hwj] at c7
                    have f7 := HM2.out.h7.froz m
                    have hm0 : decide ((m : Int) < 0) = false := decide_eq_false (by omega)
                    have hm15 : decide ((15 : Int) < (m : Int)) = false := decide_eq_false (by omega)
                    have hmm : decide ((m : Int) < 16) = true := decide_eq_true (by omega)
                    have HM3 := Aside0.mk (HM2.out.put7 m false)
                    have HC3 : Aside0 (dI.Q 3 (wp.setCell ⟨b7, m, none⟩ (.bool false)) wo.heap.size (fun _ => True) (.slice (some ad2) fs.length cf) fs) := ⟨Kd.Q_set HC.out HM2.out.h7 (by intro q hq; simp [Kd.int, Kd.scalar] at hq; omega) m _⟩
                    clear hxj hnt hwj hwm hhm
                    go_wp2_with fail
                    go_loopg [17] 8 (fun kq v17 w' => ∃ q : Nat, v17 = .int .i64 q ∧ q ≤ 8 ∧ Aside0 (kq = 8 - q) ∧ w' = wp)
                    case atStart => exact ⟨0, rfl, by omega, ⟨by omega⟩, rfl⟩
                    case round =>
                      obtain ⟨q, rfl, hq, HQ8, rfl⟩ := hrel
                      by_cases hq8 : q < 8
                      · have c8 := HM2.out.h8.cell (q * 16 + m) (by rw [HH.out.lh]; omega)
                        rw [HHM.out q hq8] at c8
                        have hd8 : decide ((q : Int) < 8) = true := decide_eq_true (by omega)
                        go_wp2_with fail
                        go_roundg (8 - (q + 1))
                        case measure => have := HQ8.out; omega
                        case rel => exact ⟨q + 1, by go_num, by omega, ⟨rfl⟩, rfl⟩
                      · have hd8 : decide ((q : Int) < 8) = false := decide_eq_false (by omega)
                        go_wp2_with fail
                        go_roundg (fs.length - (j + 1))
                        case measure => have := HJ.out; omega
                        case rel => exact ⟨j + 1, by go_num, by omega, ⟨rfl⟩, ⟨by rw [HTK.out]; exact HM3.out⟩, HC3⟩
                  · have hje : j = fs.length := by omega
                    subst hje
                    have HM3 : Aside0 (Mem w wp w.heap.size p m1 m2 b5 b6 b7 b8 E.free.2 ac li (unw wa E.free.1) he) := ⟨by have := HM2.out; rwa [List.take_length, ← HFS.out] at this⟩
                    go_wp2_with fail
                    go_roundg (xs.length - (k + 1))
                    case measure => have := HK.out; omega
                    case rel => exact ⟨k + 1, _, _, _, _, _, by go_num, by omega, ⟨rfl⟩, HM3, HF, ⟨by have := HO.out; simp [Ep.free]; omega⟩⟩
      · go_wp2_with fail
        go_ret
        exact ⟨rfl, HM.out.below⟩
end Go.Proofs.Ytfpjkiokcjbbmaa
