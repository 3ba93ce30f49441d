/- The contracts of slices.Contains at ints, and of Retire. -/
import Derived.Test.YtfpjkiokcjbbmaaFree
namespace Go.Proofs.Ytfpjkiokcjbbmaa
open Go.RowKit Go.Maps Go.MapKept Go.Proofs.YtfpjkiokcjbbmaaW.PrintWords Go.Proofs.YtfpjkiokcjbbmaaW.PrintLast Go.Proofs.YtfpjkiokcjbbmaaW.PrintMore

/-- The first place of a number, or -1. -/
def idx (x : Int) : List Int → Int
  | [] => -1
  | y :: l => if x = y then 0 else if idx x l < 0 then -1 else idx x l + 1
theorem idx_ge (x : Int) : ∀ l, -1 ≤ idx x l ∧ idx x l < l.length
  | [] => by simp [idx]
  | y :: l => by have := idx_ge x l; simp only [idx, List.length_cons]; split <;> (try split) <;> omega
theorem idx_at (x : Int) : ∀ (l : List Int) (k : Nat) (y : Int), l[k]? = some y → x ∉ l.take k → (x = y → idx x l = k) ∧ (x ≠ y → x ∉ l.take (k + 1))
  | [], _, _, h, _ => by simp at h
  | z :: l, 0, y, h, _ => by
    simp at h
    subst h
    exact ⟨fun e => by simp [idx, e], fun e => by simpa using e⟩
  | z :: l, k + 1, y, h, hn => by
    simp only [List.getElem?_cons_succ] at h
    simp only [List.take_succ_cons, List.mem_cons, not_or] at hn ⊢
    have := idx_at x l k y h hn.2
    refine ⟨fun e => ?_, fun e => ⟨hn.1, this.2 e⟩⟩
    have h2 := this.1 e
    simp only [idx, if_neg hn.1, h2]
    rw [if_neg (by omega)]
    simp
theorem idx_none (x : Int) : ∀ (l : List Int), x ∉ l → idx x l = -1
  | [], _ => rfl
  | y :: l, h => by
    simp only [List.mem_cons, not_or] at h
    simp only [idx, if_neg h.1, idx_none x l h.2]
    simp

theorem idx_mem (x : Int) : ∀ (l : List Int), x ∈ l → 0 ≤ idx x l
  | [], h => by simp at h
  | y :: l, h => by
    by_cases e : x = y
    · simp [idx, e]
    · have hm : x ∈ l := by simpa [e] using h
      have := idx_mem x l hm
      simp only [idx, if_neg e]
      rw [if_neg (by omega)]
      omega
theorem idx_contains (x : Int) (l : List Int) : decide (0 ≤ idx x l) = l.contains x := by
  rw [Bool.eq_iff_iff, decide_eq_true_eq, List.contains_iff_mem]
  constructor
  · intro h
    by_cases hm : x ∈ l
    · exact hm
    · rw [idx_none x l hm] at h; omega
  · exact idx_mem x l

set_option maxHeartbeats 4000000 in
set_option maxRecDepth 100000 in
theorem Index_calls {w : World} {A : Option Addr} {c : Nat} {xs : List Int} (x : Int) (hx : dI.C w A xs.length xs) (hc : xs.length ≤ c) :
    Calls Try.prog 38 #[.slice A xs.length c, .int .i64 x] w fun e w' => e = .returned (.int .i64 (idx x xs)) ∧ w' = w := by
  have HX := Aside0.mk hx
  have hm := Kd.C_max hx
  clear hx
  go_enter Try.func38, Try.ntmps38
  go_wp2_with fail
  go_loopg [5, 8] xs.length (fun kq v5 v8 w' => ∃ k : Nat, v8 = .int .i64 k ∧ k ≤ xs.length ∧ Aside0 (kq = xs.length - k) ∧ Aside0 (x ∉ xs.take k) ∧ w' = w)
  case atStart => exact ⟨0, rfl, by omega, ⟨by omega⟩, ⟨by simp⟩, rfl⟩
  case round =>
    obtain ⟨k, rfl, hk, HK, HE, rfl⟩ := hrel
    by_cases hlt : k < xs.length
    · obtain ⟨y, hxk⟩ : ∃ y, xs[k]? = some y := ⟨_, List.getElem?_eq_getElem hlt⟩
      obtain ⟨ad, e0, h0⟩ := dI_at HX.out k y hxk
      subst e0
      have HS := Aside0.mk (idx_at x xs k y hxk HE.out)
      clear hxk
      by_cases hp : x = y
      · have hd : (x == y) = true := by simpa using hp
        have HP2 : Aside0 (idx x xs = k) := ⟨HS.out.1 hp⟩
        clear HS HE hp
        go_wp2_with fail
        go_ret
        exact ⟨by rw [HP2.out]; rfl, rfl⟩
      · have hd : (x == y) = false := by simpa using hp
        have HP2 : Aside0 (x ∉ xs.take (k + 1)) := ⟨HS.out.2 hp⟩
        clear HS HE hp
        go_wp2_with fail
        go_roundg (xs.length - (k + 1))
        case measure => have := HK.out; omega
        case rel => exact ⟨k + 1, by go_num, by omega, ⟨rfl⟩, HP2, rfl⟩
    · have HP2 : Aside0 (idx x xs = -1) := ⟨idx_none x xs (by have := HE.out; rwa [show k = xs.length by omega, List.take_length] at this)⟩
      clear HE
      go_wp2_with fail
      go_ret
      exact ⟨by rw [HP2.out]; rfl, rfl⟩

theorem Contains_calls {w : World} {A : Option Addr} {c : Nat} {xs : List Int} (x : Int) (hx : dI.C w A xs.length xs) (hc : xs.length ≤ c) :
    Calls Try.prog 31 #[.slice A xs.length c, .int .i64 x] w fun e w' => e = .returned (.bool (xs.contains x)) ∧ w' = w := by
  have HI := Aside0.mk (Index_calls x hx hc)
  have HD := Aside0.mk (idx_contains x xs)
  generalize xs.contains x = b at *
  clear hx
  go_enter Try.func31, Try.ntmps31
  go_wp2_with ((with_reducible refine HI.out.mono ?_); rintro e w2 ⟨rfl, rfl⟩)
  go_ret
  exact ⟨by rw [← HD.out]; rfl, rfl⟩

def rbad (bl : List (Int × Bool)) : List Int → List Int → Bool
  | _, [] => false
  | pre, x :: xs => ((mget x bl).getD false || pre.contains x) || rbad bl (pre ++ [x]) xs
def mputs (xs : List Int) (l : List (Int × Bool)) : List (Int × Bool) := xs.foldl (fun l x => mput x true l) l
def Ep.retire (E : Ep) (xs : List Int) : Int × Ep :=
  if rbad E.bl [] xs then (6, E) else (0, { E with bl := mputs xs E.bl, q := qpush E.q E.now xs, now := E.now + 1 })
theorem rbad_at (bl : List (Int × Bool)) : ∀ (xs : List Int) (pre : List Int) (k : Nat) (x : Int), xs[k]? = some x → rbad bl (pre ++ xs.take k) (xs.drop k) = (((mget x bl).getD false || (pre ++ xs.take k).contains x) || rbad bl (pre ++ xs.take (k + 1)) (xs.drop (k + 1)))
  | [], _, _, _, h => by simp at h
  | y :: xs, pre, 0, x, h => by
    simp at h
    subst h
    simp [rbad]
  | y :: xs, pre, k + 1, x, h => by
    simp only [List.getElem?_cons_succ] at h
    have := rbad_at bl xs (pre ++ [y]) k x h
    simpa using this

theorem EpAt.setNow {w : World} {base p m1 m2 : Nat} {E : Ep} (h : EpAt w base p m1 m2 E) (n : Int) : EpAt (w.setCell ⟨p, 3, none⟩ (.int .i64 n)) base p m1 m2 { E with now := n } ∧ Turn (SE base p m1 m2 w) w (w.setCell ⟨p, 3, none⟩ (.int .i64 n)) := by
  obtain ⟨h1, h2, h3, h4, h5, h6, v, hp, hq⟩ := h
  have hne1 : m1 ≠ p := by rintro rfl; obtain ⟨es, clk, hb, _⟩ := h5; rw [hb] at hp; cases hp
  have hne2 : m2 ≠ p := by rintro rfl; obtain ⟨es, clk, hb, _⟩ := h6; rw [hb] at hp; cases hp
  refine ⟨⟨h1, h2, h3, h4, h5.keep (Below.heap_setCell _ _ _ _ hne1), h6.keep (Below.heap_setCell _ _ _ _ hne2), v, ?_, ?_⟩, rfl, rfl, rfl, by simp [World.setCell], fun k _ hk => Below.heap_setCell _ _ _ _ ?_⟩
  · simp [World.setCell, Array.getElem?_modify, hp]
  · exact Kd.Q_set hq hp (by intro q hq; simp [Kd.pair, Kd.int, Kd.scalar] at hq; omega) 3 _
  · rintro rfl; exact hk ⟨h1, .inl rfl⟩

theorem take_slice {A : Option Addr} {n c : Nat} (k : Nat) (hk : k ≤ c) :
    ∀ W : World, (Instr.slice 29 (.slice A n c) none (some (.int .i64 k)) none).run Try.prog W = .ok (.slice A k c) W := by
  have hi : ∀ W : World, (sizeOf 3).run Try.prog W = .ok 1 W := fun W => by kernel_rfl
  have ha : A.map (·.add 0) = A := by cases A <;> simp [Addr.add]
  intro W
  have h1 : ((0 : Int) ≤ (k : Int) ∧ (k : Int) ≤ (c : Int)) := by omega
  simp only [Instr.slice, Sem.run_bind, run_underlying Try.underlying29, Result.andThen, Instr.sliceBounds, Instr.sliceBound, asIntOf, Sem.run_pure, h1, if_true, Int.toNat_natCast, hi, Nat.sub_zero, Nat.zero_mul, and_self, ha, ite_self]

set_option maxHeartbeats 4000000 in
set_option maxRecDepth 100000 in
theorem Retire_calls {w : World} {base p m1 m2 : Nat} {E : Ep} (h : EpAt w base p m1 m2 E) (A : Option Addr) (c : Nat) (xs : List Int) (hx : Stays (SE base p m1 m2 w) w dI A xs) (hc : xs.length ≤ c)
    (hlen : E.q.length + xs.length ≤ 1000000) (hw : ∀ x ∈ xs, wf64 x) (hn0 : 0 ≤ E.now) (hn : E.now ≤ 1000000) :
    Calls Try.prog 22 #[.pointer (some ⟨p, 0, none⟩), .slice A xs.length c] w fun e w' => e = .returned (.int .i64 (E.retire xs).1) ∧ EpAt w' base p m1 m2 (E.retire xs).2 ∧ Turn (SE base p m1 m2 w) w w' := by
  have HX := Aside0.mk hx
  have H0 := Aside0.mk h
  have hxl : xs.length ≤ 1000000 := by omega
  have HL := Aside0.mk hlen
  have HW := Aside0.mk hw
  have HR : Aside0 (rbad E.bl [] xs = rbad E.bl [] xs) := ⟨rfl⟩
  obtain ⟨v, c0, c1, c2, c3, hf, hq⟩ := h.cells
  clear hx h hlen hw c0 c2 c3 hf hq
  go_enter Try.func22, Try.ntmps22
  go_wp2_with fail
  go_loopg [5, 6, 11] xs.length (fun kq v5 v6 v11 w' => ∃ k : Nat, v11 = .int .i64 k ∧ k ≤ xs.length ∧ Aside0 (kq = xs.length - k) ∧ Aside0 (rbad E.bl [] xs = rbad E.bl (xs.take k) (xs.drop k)) ∧ w' = w)
  case atStart => exact ⟨0, rfl, by omega, ⟨by omega⟩, ⟨by simp⟩, rfl⟩
  case round =>
    obtain ⟨k, rfl, hk, HK, HE, rfl⟩ := hrel
    by_cases hlt : k < xs.length
    · obtain ⟨x, hxk⟩ : ∃ y, xs[k]? = some y := ⟨_, List.getElem?_eq_getElem hlt⟩
      have hC := HX.out _ (Turn.refl _ _)
      obtain ⟨ad, e0, h0⟩ := dI_at hC k x hxk
      subst e0
      have HS := (by have h_ := rbad_at E.bl xs [] k x hxk; simp only [List.nil_append] at h_; exact Aside0.mk h_)
      have hlk := H0.out.2.2.2.2.2.1.lookup keyedI ekI_inj Try.underlying55 (zero4 wr) (keyI (HW.out x (List.mem_of_getElem? hxk))) false
      have hsl := take_slice (A := some ad) (n := xs.length) (c := c) k (by omega)
      have hCk : Aside0 (Calls Try.prog 31 #[.slice (some ad) k c, .int .i64 x] wr fun e w' => e = .returned (.bool ((xs.take k).contains x)) ∧ w' = wr) := ⟨by
        have h1 := Kd.C_take hC (Nat.le_of_lt hlt)
        have h2 : (xs.take k).length = k := by rw [List.length_take]; omega
        have := Contains_calls (c := c) x h1 (by omega)
        rwa [h2] at this⟩
      clear hxk hC
      have hlk2 : ((mget x E.bl).map Value.bool).getD (.bool false) = .bool ((mget x E.bl).getD false) := by cases mget x E.bl <;> rfl
      simp only [Bool.false_eq_true, if_false, hlk2] at hlk
      change Sem.run _ (Instr.lookup 55 _ (Value.int .i64 x) false) _ = _ at hlk
      clear hlk2
      have HS2 := Aside0.mk (HE.out.trans HS.out)
      clear HS HE
      generalize (mget x E.bl).getD false = b1 at *
      generalize (xs.take k).contains x = b2 at *
      cases b1 with
      | true =>
        go_wp2_with fail
        go_ret
        have : E.retire xs = (6, E) := by unfold Ep.retire; rw [HS2.out]; simp
        rw [this]
        exact ⟨rfl, H0.out, Turn.refl _ _⟩
      | false =>
        cases b2 with
        | true =>
          go_wp2_with ((with_reducible refine hCk.out.mono ?_); rintro e w2 ⟨rfl, rfl⟩)
          go_ret
          have : E.retire xs = (6, E) := by unfold Ep.retire; rw [HS2.out]; simp
          rw [this]
          exact ⟨rfl, H0.out, Turn.refl _ _⟩
        | false =>
          go_wp2_with ((with_reducible refine hCk.out.mono ?_); rintro e w2 ⟨rfl, rfl⟩)
          go_roundg (xs.length - (k + 1))
          case measure => have := HK.out; omega
          case rel => exact ⟨k + 1, by go_num, by omega, ⟨rfl⟩, ⟨by simpa using HS2.out⟩, rfl⟩
    · obtain rfl : k = xs.length := by omega
      have HB : Aside0 (rbad E.bl [] xs = false) := ⟨by have := HE.out; simpa [rbad] using this⟩
      clear HE HK hlt HR
      obtain ⟨wo, rfl⟩ : ∃ wo : World, wo = wr := ⟨_, rfl⟩
      go_wp2_with fail
      go_loopg [8, 32] xs.length (fun kq v8 v32 w' => ∃ j : Nat, v32 = .int .i64 j ∧ j ≤ xs.length ∧ Aside0 (kq = xs.length - j) ∧ Aside0 (EpAt w' base p m1 m2 { E with bl := mputs (xs.take j) E.bl }) ∧ Aside0 (Turn (SE base p m1 m2 wo) wo w'))
      case atStart => exact ⟨0, rfl, by omega, ⟨by omega⟩, ⟨H0.out⟩, ⟨Turn.refl _ _⟩⟩
      case round =>
        obtain ⟨j, rfl, hj, HK, HE, HT⟩ := hrel
        by_cases hjk : j < xs.length
        · obtain ⟨x, hxk⟩ : ∃ x, xs[j]? = some x := ⟨_, List.getElem?_eq_getElem hjk⟩
          obtain ⟨ad, e0, h0⟩ := dI_at (HX.out _ HT.out) j x hxk
          have HTK : Aside0 (mputs (xs.take (j + 1)) E.bl = mput x true (mputs (xs.take j) E.bl)) := ⟨by rw [List.take_add_one, hxk]; simp [mputs, List.foldl_append]⟩
          obtain ⟨w1, hu, hm1, hgr⟩ := MapOf.update HE.out.2.2.2.2.2.1 keyedI ekI_inj Try.underlying55 (keyI (HW.out x (List.mem_of_getElem? hxk))) true
          obtain ⟨v, d0, d1, d2, d3, hf, hq⟩ := HE.out.cells
          obtain ⟨hE2, hT2⟩ := EpAt.put2 HE.out hm1 hgr
          have HE2 := Aside0.mk hE2
          have HT2 := Aside0.mk (SE.trans HT.out hT2)
          subst e0
          clear hxk hm1 hgr hq hf d0 d2 d3 hE2 hT2
          change Sem.run _ (Instr.mapUpdate 55 _ (Value.int .i64 x) _) _ = _ at hu
          go_wp2_with fail
          go_roundg (xs.length - (j + 1))
          case measure => have := HK.out; omega
          case rel => exact ⟨j + 1, by go_num, by omega, ⟨rfl⟩, ⟨by rw [HTK.out]; exact HE2.out⟩, HT2⟩
        · obtain rfl : j = xs.length := by omega
          have HE1 : Aside0 (EpAt wr base p m1 m2 { E with bl := mputs xs E.bl }) := ⟨by have := HE.out; rwa [List.take_length] at this⟩
          clear HE HK hjk
          obtain ⟨v3, d0, d1, d2, d3, hf, hq⟩ := HE1.out.cells
          clear d0 d1 d2 hf hq
          go_upto_region 12 with fail
          go_cut [50] (fun s50 wx => Aside0 (EpAt wx base p m1 m2 { E with bl := mputs xs E.bl, q := qpush E.q E.now xs } ∧ Turn (SE base p m1 m2 wo) wo wx))
          case first =>
            go_region_with (go_at_call 32; refine (push_calls (HE1.out.below (below_drew (Below.refl _ _))) HE1.out.size E.now A c xs (fun W' hW => HX.out _ (SE.trans HT.out hW.ofDrew)) hc HL.out).mono ?_; rintro e w3 ⟨rfl, hE3, hT3⟩; have HE3 := Aside0.mk hE3; have HT3 := Aside0.mk (SE.trans HT.out hT3.ofDrew); clear hE3 hT3)
            all_goals
              go_wp2_with fail
              go_meet
              exact ⟨HE3.out, HT3.out⟩
          case rest =>
            have HC := hcut
            clear hcut d3
            obtain ⟨v4, d0, d1, d2, d3, hf, hq⟩ := HC.out.1.cells
            obtain ⟨hE5, hT5⟩ := HC.out.1.setNow (E.now + 1)
            have HE5 := Aside0.mk hE5
            have HT5 := Aside0.mk (SE.trans HC.out.2 hT5)
            have hf3 := hf 3
            clear d0 d1 d2 hf hq hE5 hT5
            go_wp2_with fail
            go_ret
            have : E.retire xs = (0, { E with bl := mputs xs E.bl, q := qpush E.q E.now xs, now := E.now + 1 }) := by unfold Ep.retire; rw [HB.out]; simp
            rw [this]
            exact ⟨rfl, HE5.out, HT5.out⟩
end Go.Proofs.Ytfpjkiokcjbbmaa
