/- The epochs of package epoch as plain data; the contracts of New, Now, Enter, Leave. -/
import Derived.Test.YtfpjkiokcjbbmaaProg
import Derived.Test.YtfpjkiokcjbbmaaMaps
import Derived.Test.YtfpjkiokcjbbmaaWMore
import Derived.BigRegion
import Derived.Maps.Keyed
import Derived.Lib.Hide
namespace Go.Proofs.Ytfpjkiokcjbbmaa
open Go.RowKit Go.Maps Go.MapKept Go.Proofs.YtfpjkiokcjbbmaaW.PrintWords Go.Proofs.YtfpjkiokcjbbmaaW.PrintLast Go.Proofs.YtfpjkiokcjbbmaaW.PrintMore

attribute [local go_sem] max2_int min2_int max_two min_two   -- the walk's min and max
theorem mn_eq (a b : Int) : mn a b = min a b := by unfold mn; omega
theorem mx_eq (a b : Int) : mx a b = max a b := by unfold mx; omega
abbrev dI : Kd Int := Kd.int .i64
abbrev dP : Kd (Int × Int) := Kd.pair (Kd.int .i64) (Kd.int .i64)
abbrev wf64 (x : Int) : Prop := (Lit.int .i64 x).wf = true

/-- Epochs. -/
structure Ep where
  rd : List (Int × Int)
  bl : List (Int × Bool)
  q : List (Int × Int)
  now : Int

theorem keyedI : Keyed Try.prog 3 := int_keyed Try.underlying3
theorem keyI {x : Int} (h : wf64 x) : ∃ lt, keyOf Try.prog 3 (ekI x) = some lt := ⟨_, keyOf_int_mk Try.underlying3 h⟩
theorem zero3 (w : World) : (zeroValue 3).run Try.prog w = .ok (.int .i64 0) w := by kernel_rfl
theorem zero4 (w : World) : (zeroValue 4).run Try.prog w = .ok (.bool false) w := by kernel_rfl

/-- The epochs at block p, their maps at m1 and m2, all from base on. -/
def EpAt (w : World) (base p m1 m2 : Nat) (E : Ep) : Prop :=
  base ≤ p ∧ base ≤ m1 ∧ base ≤ m2 ∧ m1 ≠ m2 ∧ MapOf Try.prog 3 ekI (Value.int .i64) w m1 E.rd ∧ MapOf Try.prog 3 ekI Value.bool w m2 E.bl ∧
  ∃ v, w.heap[p]? = some (.cells #[.map (some m1), .map (some m2), v, .int .i64 E.now] 60 (0, 0)) ∧ dP.Q 68 w base (fun _ => True) v E.q

/-- What a method of these epochs may turn. -/
def SE (base p m1 m2 : Nat) (w : World) (k : Nat) : Prop := base ≤ k ∧ (k = p ∨ k = m1 ∨ k = m2 ∨ ∃ cs, w.heap[k]? = some (.cells cs 68 (0, 0)))
/-- All but S is as it was. -/
structure Turn (S : Nat → Prop) (w w' : World) : Prop where
  os : w'.os = w.os
  tape : w'.tape = w.tape
  output : w'.output = w.output
  kept : Kept w w' S
theorem Turn.refl (S : Nat → Prop) (w : World) : Turn S w w := ⟨rfl, rfl, rfl, Kept.refl _ _⟩
theorem Turn.of_below {S : Nat → Prop} {w w' : World} (h : Below w.heap.size w w') : Turn S w w' := ⟨h.os, h.tape, h.output, Kept.of_below h S⟩
theorem Turn.of_grown {S : Nat → Prop} {w w' : World} {row : Option Nat} (h : w.grownBy w' row) (hs : ∀ k, row = some k → S k) : Turn S w w' :=
  ⟨h.os, h.tape, h.output, h.size, fun i hi hn => h.block i hi (fun e => hn (hs i e.symm))⟩
theorem Turn.trans {S S2 : Nat → Prop} {w w1 w2 : World} (h : Turn S w w1) (k : Turn S2 w1 w2) (hs : ∀ k, k < w.heap.size → S2 k → S k) : Turn S w w2 :=
  ⟨k.os.trans h.os, k.tape.trans h.tape, k.output.trans h.output, Nat.le_trans h.kept.1 k.kept.1, fun i hi hn => (k.kept.2 i (Nat.lt_of_lt_of_le hi h.kept.1) (fun h2 => hn (hs i hi h2))).trans (h.kept.2 i hi hn)⟩
theorem Turn.mono {S S' : Nat → Prop} {w w' : World} (h : Turn S w w') (hs : ∀ k, S k → S' k) : Turn S' w w' := ⟨h.os, h.tape, h.output, h.kept.mono hs⟩
theorem Turn.below {S : Nat → Prop} {w w' : World} {B : Nat} (h : Turn S w w') (hs : ∀ k, S k → B ≤ k) (hB : B ≤ w.heap.size) : Below B w w' :=
  ⟨h.os, h.tape, h.output, h.kept.1, fun k hk => h.kept.2 k (by omega) (fun h2 => by have := hs k h2; omega)⟩
theorem SE.trans {base p m1 m2 : Nat} {w w1 w2 : World} (h : Turn (SE base p m1 m2 w) w w1) (k : Turn (SE base p m1 m2 w1) w1 w2) : Turn (SE base p m1 m2 w) w w2 := by
  refine ⟨k.os.trans h.os, k.tape.trans h.tape, k.output.trans h.output, Nat.le_trans h.kept.1 k.kept.1, fun i hi hn => ?_⟩
  have e1 := h.kept.2 i hi hn
  refine (k.kept.2 i (Nat.lt_of_lt_of_le hi h.kept.1) (fun h2 => hn ?_)).trans e1
  unfold SE at h2 ⊢
  rw [e1] at h2
  exact h2

section
variable {w w1 : World} {base p m1 m2 : Nat} {E : Ep}
theorem EpAt.cells (h : EpAt w base p m1 m2 E) : ∃ v, w.cell? ⟨p, 0, none⟩ = some (.map (some m1)) ∧ w.cell? ⟨p, 1, none⟩ = some (.map (some m2)) ∧ w.cell? ⟨p, 2, none⟩ = some v ∧ w.cell? ⟨p, 3, none⟩ = some (.int .i64 E.now) ∧
    (∀ j, w.frozen? ⟨p, j, none⟩ = false) ∧ dP.Q 68 w base (fun _ => True) v E.q := by
  obtain ⟨_, _, _, _, _, _, v, hp, hq⟩ := h
  exact ⟨v, by simp [World.cell?, hp], by simp [World.cell?, hp], by simp [World.cell?, hp], by simp [World.cell?, hp], fun j => by simp [World.frozen?, hp], hq⟩
/-- The readers' map is another one. -/
theorem EpAt.put1 (h : EpAt w base p m1 m2 E) {l : List (Int × Int)} (hm : MapOf Try.prog 3 ekI (Value.int .i64) w1 m1 l) (hg : w.grownBy w1 (some m1)) :
    EpAt w1 base p m1 m2 { E with rd := l } ∧ Turn (SE base p m1 m2 w) w w1 := by
  obtain ⟨h1, h2, h3, h4, h5, h6, v, hp, hq⟩ := h
  have hlt : p < w.heap.size := (Array.getElem?_eq_some_iff.1 hp).1
  have hne : p ≠ m1 := by
    rintro rfl
    obtain ⟨es, clk, hb, _⟩ := h5
    rw [hb] at hp
    cases hp
  refine ⟨⟨h1, h2, h3, h4, hm, h6.keep (hg.block m2 h6.lt (by intro e; injection e with e; exact h4 e.symm)), v, (hg.block p hlt (by intro e; injection e with e; exact hne e)).trans hp, ?_⟩, ?_⟩
  · have hty := Kd.Q_typed hq
    refine Kd.Q_step (Kd.Q_mono (Kd.Q_bound hq) (ok' := fun k => k ≠ m1) ?_) ?_ |> fun h => Kd.Q_mono h (fun _ _ => trivial)
    · rintro k ⟨_, _, _, t, _, cs, hc⟩ rfl
      obtain ⟨es, clk, hb, _⟩ := h5
      rw [hb] at hc
      cases hc
    · intro k hk hlt
      exact hg.block k hlt (by intro e; injection e with e; exact hk e)
  · exact Turn.of_grown hg (fun k e => by injection e with e; subst e; exact ⟨h2, .inr (.inl rfl)⟩)
end

def Ep.enter (E : Ep) (r : Int) : Int × Ep := match mget r E.rd with
  | some _ => (6, E)
  | none => (0, { E with rd := mput r E.now E.rd })
def Ep.leave (E : Ep) (r : Int) : Int × Ep := match mget r E.rd with
  | some _ => (0, { E with rd := mdel r E.rd })
  | none => (5, E)

set_option maxHeartbeats 1000000 in
theorem Enter_calls {w : World} {base p m1 m2 : Nat} {E : Ep} (h : EpAt w base p m1 m2 E) (r : Int) (hr : wf64 r) :
    Calls Try.prog 20 #[.pointer (some ⟨p, 0, none⟩), .int .i64 r] w fun e w' => e = .returned (.int .i64 (E.enter r).1) ∧ EpAt w' base p m1 m2 (E.enter r).2 ∧ Turn (SE base p m1 m2 w) w w' := by
  obtain ⟨v, c0, c1, c2, c3, hf, hq⟩ := h.cells
  clear hf hq c1 c2
  have hlk := h.2.2.2.2.1.lookup keyedI ekI_inj Try.underlying54 (zero3 w) (keyI hr) true
  simp only [if_true] at hlk
  cases hg : mget r E.rd with
  | some n =>
    have hres : E.enter r = (6, E) := by simp [Ep.enter, hg]
    rw [hres]
    rw [hg] at hlk
    simp only [Option.map_some, Option.getD_some, Option.isSome_some] at hlk
    have H := Lib.hid h
    clear h hres hg
    change Sem.run _ (Instr.lookup 54 _ (Value.int .i64 r) true) _ = _ at hlk
    go_enter Try.func20, Try.ntmps20
    go_wp2_with fail
    go_ret
    exact ⟨rfl, H.out, Turn.refl _ _⟩
  | none =>
    have hres : E.enter r = (0, { E with rd := mput r E.now E.rd }) := by simp [Ep.enter, hg]
    rw [hres]
    rw [hg] at hlk
    simp only [Option.map_none, Option.getD_none, Option.isSome_none] at hlk
    obtain ⟨w1, hu, hm1, hgr⟩ := MapOf.update (w := w.drew) (h.2.2.2.2.1.keep rfl) keyedI ekI_inj Try.underlying54 (keyI hr) E.now
    have hP := EpAt.put1 (w := w) (w1 := w1) h hm1 ⟨hgr.os, hgr.tape, hgr.output, hgr.size, hgr.block⟩
    have H := Lib.hid hP
    clear h hres hg hP hm1 hgr
    change Sem.run _ (Instr.lookup 54 _ (Value.int .i64 r) true) _ = _ at hlk
    change Sem.run _ (Instr.mapUpdate 54 _ (Value.int .i64 r) _) _ = _ at hu
    go_enter Try.func20, Try.ntmps20
    go_wp2_with fail
    go_region
    go_wp2
    go_ret
    exact ⟨rfl, H.out.1, H.out.2⟩

set_option maxHeartbeats 1000000 in
theorem Leave_calls {w : World} {base p m1 m2 : Nat} {E : Ep} (h : EpAt w base p m1 m2 E) (r : Int) (hr : wf64 r) :
    Calls Try.prog 21 #[.pointer (some ⟨p, 0, none⟩), .int .i64 r] w fun e w' => e = .returned (.int .i64 (E.leave r).1) ∧ EpAt w' base p m1 m2 (E.leave r).2 ∧ Turn (SE base p m1 m2 w) w w' := by
  obtain ⟨v, c0, c1, c2, c3, hf, hq⟩ := h.cells
  clear hf hq c1 c2
  have hlk := h.2.2.2.2.1.lookup keyedI ekI_inj Try.underlying54 (zero3 w) (keyI hr) true
  simp only [if_true] at hlk
  cases hg : mget r E.rd with
  | none =>
    have hres : E.leave r = (5, E) := by simp [Ep.leave, hg]
    rw [hres]
    rw [hg] at hlk
    simp only [Option.map_none, Option.getD_none, Option.isSome_none] at hlk
    have H := Lib.hid h
    clear h hres hg
    change Sem.run _ (Instr.lookup 54 _ (Value.int .i64 r) true) _ = _ at hlk
    go_enter Try.func21, Try.ntmps21
    go_wp2_with fail
    go_ret
    exact ⟨rfl, H.out, Turn.refl _ _⟩
  | some n =>
    have hres : E.leave r = (0, { E with rd := mdel r E.rd }) := by simp [Ep.leave, hg]
    rw [hres]
    rw [hg] at hlk
    simp only [Option.map_some, Option.getD_some, Option.isSome_some] at hlk
    obtain ⟨w1, hu, hm1, hgr⟩ := MapOf.delete (ty := 0) h.2.2.2.2.1 keyedI ekI_inj Try.underlying54 (keyI hr)
    have hP := EpAt.put1 (w := w) (w1 := w1) h hm1 hgr
    have H := Lib.hid hP
    clear h hres hg hP hm1 hgr
    change Sem.run _ (Instr.lookup 54 _ (Value.int .i64 r) true) _ = _ at hlk
    change Sem.run _ (Builtin.delete_ _ _ #[_, (Value.int .i64 r)]) _ = _ at hu
    go_enter Try.func21, Try.ntmps21
    go_wp2_with fail
    go_ret
    exact ⟨rfl, H.out.1, H.out.2⟩

theorem Now_calls {w : World} {base p m1 m2 : Nat} {E : Ep} (h : EpAt w base p m1 m2 E) :
    Calls Try.prog 14 #[.pointer (some ⟨p, 0, none⟩)] w fun e w' => e = .returned (.int .i64 E.now) ∧ w' = w := by
  obtain ⟨v, c0, c1, c2, c3, hf, hq⟩ := h.cells
  clear h hq hf
  go_enter Try.func14, Try.ntmps14
  go_wp2_with fail
  go_ret
  exact ⟨rfl, rfl⟩

set_option maxHeartbeats 1000000 in
theorem New_calls {w : World} {base : Nat} (hb : base ≤ w.heap.size) :
    Calls Try.prog 9 #[] w fun e w' => ∃ p m1 m2, e = .returned (.pointer (some ⟨p, 0, none⟩)) ∧ EpAt w' base p m1 m2 ⟨[], [], [], 1⟩ ∧ Below w.heap.size w w' ∧ w.heap.size ≤ p ∧ w.heap.size ≤ m1 ∧ w.heap.size ≤ m2 := by
  have hmm := @run_makeMap Try.prog
  have hbu : ∀ W : World, ∀ a b : Nat, (Instr.build 60 #[(0, .map (some a)), (1, .map (some b)), (3, .int .i64 1)]).run Try.prog W = .ok (.agg #[.map (some a), .map (some b), .slice none 0 0, .int .i64 1]) W := fun W a b => by kernel_rfl
  go_enter Try.func9, Try.ntmps9
  go_wp2_with fail
  go_ret
  refine ⟨w.heap.size + 1 + 1, w.heap.size, w.heap.size + 1, rfl, ⟨by omega, hb, by omega, by omega, ?_, ?_, .slice none 0 0, ?_, Kd.Q_nil _ _ _ _ _⟩, ((((Below.refl _ _).alloc (Nat.le_refl _) _).alloc (by simp) _).alloc (by simp; omega) _), by omega, Nat.le_refl _, by omega⟩
  · exact (MapOf.made w).keep (by rw [Below.heap_alloc _ _ _ (by simp; omega), Below.heap_alloc _ _ _ (by simp)])
  · have := MapOf.made (P := Try.prog) (kt := 3) (ek := ekI) (ev := Value.bool) (w.alloc (.map #[] 0))
    rw [World.size_alloc] at this
    exact this.keep (by rw [Below.heap_alloc _ _ _ (by simp)])
  · have := (MapKept.heap_alloc ((w.alloc (Obj.map #[] 0)).alloc (Obj.map #[] 0)) (Obj.cells #[Value.map (some w.heap.size), Value.map (some (w.heap.size + 1)), Value.slice none 0 0, Value.int IntKind.i64 1] 60)).1
    simp only [World.size_alloc] at this
    exact this

def minr (now : Int) : List (Int × Int) → Int
  | [] => now
  | p :: l => min p.2 (minr now l)
theorem minr_erase (a : Int) : ∀ (l : List (Int × Int)) (i : Nat) (p : Int × Int), l[i]? = some p → minr (min a p.2) (l.eraseIdx i) = minr a l
  | [], _, _, h => by simp at h
  | q :: l, 0, p, h => by
    simp at h
    subst h
    simp only [List.eraseIdx_cons_zero, minr]
    induction l with
    | nil => simp only [minr]; omega
    | cons z l ih => simp only [minr]; omega
  | q :: l, i + 1, p, h => by
    simp only [List.getElem?_cons_succ] at h
    simp only [List.eraseIdx_cons_succ, minr, minr_erase a l i p h]
def Ep.least (E : Ep) : Int := minr E.now E.rd

set_option maxHeartbeats 1000000 in
theorem Least_calls {w : World} {base p m1 m2 : Nat} {E : Ep} (h : EpAt w base p m1 m2 E) :
    Calls Try.prog 15 #[.pointer (some ⟨p, 0, none⟩)] w fun e w' => e = .returned (.int .i64 E.least) ∧ Below w.heap.size w w' := by
  obtain ⟨v, c0, c1, c2, c3, hf, hq⟩ := h.cells
  clear hq hf
  obtain ⟨o, hrg, hit⟩ := h.2.2.2.2.1.range Try.underlying54
  have HB := Aside0.mk (Below.refl w.heap.size w)
  have HI := Aside0.mk hit
  clear h hit
  go_enter Try.func15, Try.ntmps15
  go_wp2_with fail
  go_loopg [3, 5] E.rd.length (fun kq v3 v5 w' => ∃ (a : Int) (left : List (Int × Int)) (last : Option (Int × Int)), v3 = .int .i64 a ∧ Aside0 (kq = left.length) ∧ Aside0 (minr a left = E.least) ∧ Aside0 (IterOf ekI (Value.int .i64) w' w.heap.size m1 E.rd left last) ∧ Aside0 (Below w.heap.size w w'))
  case atStart => exact ⟨E.now, E.rd, none, rfl, ⟨rfl⟩, ⟨rfl⟩, ⟨HI.out⟩, ⟨below_alloc HB.out _⟩⟩
  case round =>
    clear HI HB hrg
    obtain ⟨a, left, last, rfl, HK, HM, HI, HB⟩ := hrel
    cases left with
    | nil =>
      have hn := fun ty => HI.out.next_done (P := Try.prog) (ty := ty)
      have hfin : a = E.least := HM.out
      have Hf := Lib.hid hfin
      clear hfin HM HK HI
      go_wp2_with fail
      go_ret
      exact ⟨by rw [Hf.out]; rfl, HB.out⟩
    | cons z left =>
      obtain ⟨i, p1, w2, hi, hn, hI2, hg2⟩ := HI.out.next_step (P := Try.prog) (ty := 0) (by simp)
      have he := hI2.entry (P := Try.prog)
      have HI2 := Aside0.mk hI2
      have HB2 : Aside0 (Below w.heap.size w w2) := ⟨HB.out.grown hg2 (HB.out.size) (fun k e => by injection e with e; subst e; exact Nat.le_refl _)⟩
      have hm2 := minr_erase a _ i p1 hi
      have hlen : (z :: left).length = ((z :: left).eraseIdx i).length + 1 := by
        have := (List.getElem?_eq_some_iff.1 hi).1
        rw [List.length_eraseIdx_of_lt this]; simp
      have HM2 : Aside0 (minr (min a p1.2) ((z :: left).eraseIdx i) = E.least) := ⟨hm2.trans HM.out⟩
      have HK2 : Aside0 (gk = ((z :: left).eraseIdx i).length + 1) := ⟨HK.out.trans hlen⟩
      clear HI HB HM HK hm2 hlen hi hI2 hg2
      generalize (z :: left).eraseIdx i = left2 at *
      go_wp2_with fail
      all_goals
        go_roundg left2.length
        case measure => have := HK2.out; omega
        case rel => exact ⟨_, left2, some p1, rfl, ⟨rfl⟩, ⟨by refine Eq.trans (congrArg (fun t => minr t left2) ?_) HM2.out; omega⟩, HI2, HB2⟩
end Go.Proofs.Ytfpjkiokcjbbmaa
