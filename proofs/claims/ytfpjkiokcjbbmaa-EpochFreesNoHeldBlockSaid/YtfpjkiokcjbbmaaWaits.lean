/- The walk of EpochWaitsForReaders: it returns true. -/
import Derived.Test.YtfpjkiokcjbbmaaAllEnd
namespace Go.Proofs.Ytfpjkiokcjbbmaa
open Go.RowKit Go.Maps Go.MapKept Go.Proofs.YtfpjkiokcjbbmaaW.PrintWords Go.Proofs.YtfpjkiokcjbbmaaW.PrintLast Go.Proofs.YtfpjkiokcjbbmaaW.PrintMore

/-- A block waits for the readers of a list. -/
structure Wt (E : Ep) (rl : List Int) (b n : Int) : Prop where
  inv : E.Inv
  mem : (b, n) ∈ E.q
  old : ∀ r ∈ rl, ∃ e, (r, e) ∈ E.rd ∧ e ≤ n
  new : ∀ x ∈ E.rd, x.1 ∉ rl → n < x.2
  nd : rl.Nodup
  ql : E.q.length ≤ 1000
  qw : ∀ x ∈ E.q, wf64 x.1

theorem least_le {E : Ep} {x : Int × Int} (h : x ∈ E.rd) : E.least ≤ x.2 := minr_mem _ _ x h
theorem same_name {q : List (Int × Int)} (h : (q.map (·.1)).Nodup) {b n m : Int} (h1 : (b, n) ∈ q) (h2 : (b, m) ∈ q) : n = m := by
  induction q with
  | nil => simp at h1
  | cons x q ih =>
    simp only [List.map_cons, List.nodup_cons] at h
    have hx : ∀ m, (b, m) ∈ q → x.1 ≠ b := fun m hm e => h.1 (by rw [e]; exact List.mem_map_of_mem (f := fun x : Int × Int => x.1) hm)
    rcases List.mem_cons.1 h1 with e1 | h1 <;> rcases List.mem_cons.1 h2 with e2 | h2
    · rw [← e1] at e2; injection e2 with _ e2; exact e2.symm
    · exact absurd (by rw [← e1]) (hx m h2)
    · exact absurd (by rw [← e2]) (hx n h1)
    · exact ih h.2 h1 h2
theorem mem_free {E : Ep} (h : E.Inv) (b : Int) : b ∈ E.free.1 ↔ ∃ n, (b, n) ∈ E.q ∧ n < E.least := by
  have hsp := cutn_split E.least E.q h.qs
  simp only [Ep.free, hsp.1, List.mem_map, List.mem_filter, decide_eq_true_eq]
  constructor
  · rintro ⟨⟨b', n⟩, ⟨h1, h2⟩, rfl⟩
    exact ⟨n, h1, h2⟩
  · rintro ⟨n, h1, h2⟩
    exact ⟨(b, n), ⟨h1, h2⟩, rfl⟩
theorem mem_left {E : Ep} (h : E.Inv) (x : Int × Int) : x ∈ E.free.2.q ↔ x ∈ E.q ∧ ¬ x.2 < E.least := by
  have hsp := cutn_split E.least E.q h.qs
  simp only [Ep.free, hsp.2, List.mem_filter, Bool.not_eq_true', decide_eq_false_iff_not]
theorem Wt.free {E : Ep} {rl : List Int} {b n : Int} (h : Wt E rl b n) (hne : rl ≠ []) : b ∉ E.free.1 ∧ Wt E.free.2 rl b n := by
  obtain ⟨r, hr⟩ := List.exists_mem_of_ne_nil rl hne
  obtain ⟨e, he, hle⟩ := h.old r hr
  have hl : E.least ≤ n := by have := least_le he; dsimp only at this; omega
  constructor
  · rw [mem_free h.inv]
    rintro ⟨m, hm, hlt⟩
    have := same_name h.inv.qn h.mem hm
    omega
  · exact ⟨h.inv.free, (mem_left h.inv _).2 ⟨h.mem, by dsimp only; omega⟩, h.old, h.new, h.nd, by have := h.ql; simp [Ep.free]; omega, fun x hx => h.qw x ((mem_left h.inv x).1 hx).1⟩
theorem Wt.enter {E : Ep} {rl : List Int} {b n : Int} (h : Wt E rl b n) (o : Int) : Wt (E.enter o).2 rl b n := by
  refine ⟨h.inv.enter o, ?_, ?_, ?_, h.nd, ?_, ?_⟩ <;> unfold Ep.enter <;> split
  · exact h.mem
  · exact h.mem
  · exact h.old
  · rename_i hn
    rw [mput_of_none _ hn]
    intro r hr
    obtain ⟨e, he, hle⟩ := h.old r hr
    exact ⟨e, List.mem_append_left _ he, hle⟩
  · exact h.new
  · rename_i hn
    rw [mput_of_none _ hn]
    intro x hx hxr
    rcases List.mem_append.1 hx with hx | hx
    · exact h.new x hx hxr
    · simp at hx; subst hx; exact h.inv.qe _ h.mem
  · exact h.ql
  · exact h.ql
  · exact h.qw
  · exact h.qw
theorem Wt.leave {E : Ep} {rl : List Int} {b n : Int} (h : Wt E rl b n) (o : Int) (ho : o ∉ rl) : Wt (E.leave o).2 rl b n := by
  refine ⟨h.inv.leave o, ?_, ?_, ?_, h.nd, ?_, ?_⟩ <;> unfold Ep.leave <;> split
  · exact h.mem
  · exact h.mem
  · intro r hr
    obtain ⟨e, he, hle⟩ := h.old r hr
    refine ⟨e, ?_, hle⟩
    rw [mdel_filter _ _ h.inv.rdn]
    exact List.mem_filter.2 ⟨he, by simp; rintro rfl; exact ho hr⟩
  · exact h.old
  · exact fun x hx hxr => h.new x ((mdel_sublist o E.rd).mem hx) hxr
  · exact h.new
  · exact h.ql
  · exact h.ql
  · exact h.qw
  · exact h.qw
theorem Wt.drop {E : Ep} {rl : List Int} {b n : Int} (h : Wt E rl b n) (k : Nat) (r : Int) (hk : rl[k]? = some r) : (E.leave r).1 = 0 ∧ Wt (E.leave r).2 (rl.take k ++ rl.drop (k + 1)) b n := by
  have hkl := (List.getElem?_eq_some_iff.1 hk).1
  have hr : r ∈ rl := List.mem_of_getElem? hk
  have hdr : rl.drop k = r :: rl.drop (k + 1) := by rw [List.drop_eq_getElem_cons hkl]; congr 1; exact (List.getElem?_eq_some_iff.1 hk).2
  have hrl : rl = rl.take k ++ r :: rl.drop (k + 1) := by rw [← hdr, List.take_append_drop]
  have hnd := h.nd
  rw [hrl] at hnd
  have hnr : r ∉ rl.take k ++ rl.drop (k + 1) := by
    have := (List.perm_middle (a := r) (l₁ := rl.take k) (l₂ := rl.drop (k + 1))).nodup_iff.1 hnd
    exact (List.nodup_cons.1 this).1
  have hsub : (rl.take k ++ rl.drop (k + 1)).Nodup := by
    have := (List.perm_middle (a := r) (l₁ := rl.take k) (l₂ := rl.drop (k + 1))).nodup_iff.1 hnd
    exact (List.nodup_cons.1 this).2
  have hmem : ∀ x, x ∈ rl ↔ x = r ∨ x ∈ rl.take k ++ rl.drop (k + 1) := by
    intro x
    conv => lhs; rw [hrl]
    simp only [List.mem_append, List.mem_cons]
    constructor
    · rintro (h | h | h)
      · exact .inr (.inl h)
      · exact .inl h
      · exact .inr (.inr h)
    · rintro (h | h | h)
      · exact .inr (.inl h)
      · exact .inl h
      · exact .inr (.inr h)
  obtain ⟨e, he, hle⟩ := h.old r hr
  have hg := mget_of_mem h.inv.rdn he
  have e1 : E.leave r = (0, { E with rd := mdel r E.rd }) := by unfold Ep.leave; rw [hg]
  have hinv := h.inv.leave r
  rw [e1] at hinv ⊢
  refine ⟨rfl, hinv, h.mem, ?_, ?_, hsub, h.ql, h.qw⟩
  · intro x hx
    obtain ⟨e, he, hle⟩ := h.old x ((hmem x).2 (.inr hx))
    refine ⟨e, ?_, hle⟩
    dsimp only
    rw [mdel_filter _ _ h.inv.rdn]
    exact List.mem_filter.2 ⟨he, by simp; rintro rfl; exact hnr hx⟩
  · intro x hx hxr
    dsimp only at hx
    rw [mdel_filter _ _ h.inv.rdn] at hx
    obtain ⟨hx, hxn⟩ := List.mem_filter.1 hx
    refine h.new x hx (fun hm => ?_)
    rcases (hmem x.1).1 hm with e | hm
    · simp [e] at hxn
    · exact hxr hm
theorem Wt.last {E : Ep} {b n : Int} (h : Wt E [] b n) : b ∈ E.free.1 ∧ b ∉ E.free.2.free.1 := by
  have hl : n < E.least := by
    have := minr_ge E.now (n + 1) E.rd (by have := h.inv.qe _ h.mem; dsimp only at this; omega) (fun x hx => by have := h.new x hx (by simp); omega)
    unfold Ep.least; omega
  refine ⟨(mem_free h.inv b).2 ⟨n, h.mem, hl⟩, ?_⟩
  rw [mem_free h.inv.free]
  rintro ⟨m, hm, _⟩
  obtain ⟨h1, h2⟩ := (mem_left h.inv _).1 hm
  have := same_name h.inv.qn h.mem h1
  subst this
  exact h2 hl
theorem Wt.start {E : Ep} (h : E.Inv) (b : Int) (hb : wf64 b) (hq : E.q.length ≤ 900) (hqw : ∀ x ∈ E.q, wf64 x.1) (ho : rbad E.bl [] [b] = false) : Wt (E.retire [b]).2 (srt (E.rd.map (·.1))) b E.now := by
  have e1 : E.retire [b] = (0, { E with bl := mputs [b] E.bl, q := qpush E.q E.now [b], now := E.now + 1 }) := by
    unfold Ep.retire; rw [ho, if_neg (by simp)]
  have hinv := h.retire [b]
  rw [e1] at hinv ⊢
  refine ⟨hinv, by simp [qpush], ?_, ?_, (srt_perm _).nodup_iff.1 h.rdn, by simp [qpush]; omega, ?_⟩
  · intro r hr
    obtain ⟨x, hx, rfl⟩ := List.mem_map.1 ((srt_perm _).mem_iff.2 hr)
    exact ⟨x.2, hx, h.rde x hx⟩
  · intro x hx hxr
    exact absurd ((srt_perm _).mem_iff.1 (List.mem_map_of_mem (f := fun x : Int × Int => x.1) hx)) hxr
  · intro x hx
    simp only [qpush, List.map_cons, List.map_nil, List.mem_append, List.mem_singleton] at hx
    rcases hx with hx | rfl
    · exact hqw x hx
    · exact hb
theorem any_eq (l : List Int) (b : Int) : (l.any fun x => x == b) = decide (b ∈ l) := by
  rw [Bool.eq_iff_iff, List.any_eq_true, decide_eq_true_eq]
  constructor
  · rintro ⟨x, hx, e⟩
    have : x = b := by simpa using e
    subst this; exact hx
  · exact fun h => ⟨b, h, by simp⟩

theorem cut29d {A : Option Addr} {n c : Nat} (k : Nat) (hk : k ≤ n) :
    ∀ W : World, (Instr.slice 29 (.slice A n c) (some (.int .i64 k)) none none).run Try.prog W = .ok (.slice (if c = k then A else A.map (·.add (k * 1))) (n - k) (c - k)) W := by
  have hi : ∀ W : World, (sizeOf 3).run Try.prog W = .ok 1 W := fun W => by kernel_rfl
  intro W
  have h1 : ((0 : Int) ≤ (k : Int) ∧ (k : Int) ≤ (n : Int)) := by omega
  simp only [Instr.slice, Sem.run_bind, run_underlying Try.underlying29, Result.andThen, Instr.sliceBounds, Instr.sliceBound, asIntOf, Sem.run_pure, h1, if_true, Int.toNat_natCast, hi, and_self]
theorem R_emptyI {w : World} {base : Nat} (hb : base ≤ w.heap.size) : dI.R 3 (w.alloc (.cells #[] 3)) base (fun _ => True) (.slice (some ⟨w.heap.size, 0, none⟩) 0 0) [] := by
  refine ⟨fun _ _ => trivial, [], ?_, by simp, fun j p h => by simp at h⟩
  have := World.ownsRow_lit (base := base) (e := 3) (size := 1) w #[] 0 hb (by simp [maxLen]) (by simp)
  exact this

set_option maxHeartbeats 8000000 in
set_option maxRecDepth 100000 in
theorem waits_calls {w : World} {A : Option Addr} {c : Nat} {xs : List Cl} (hx : dC.C w A xs.length xs) (hc : xs.length ≤ c) (hw : ∀ c ∈ xs, c.wf) (b : Int) (hb : wf64 b) {A2 : Option Addr} {c2 : Nat} {os : List Int} (ho : dI.C w A2 os.length os) (hoc : os.length ≤ c2) (how : ∀ x ∈ os, wf64 x) (od : Int) (hod : 0 ≤ od ∧ od ≤ 255) :
    Calls Try.prog 6 #[.slice A xs.length c, .int .i64 b, .slice A2 os.length c2, .int .u8 od] w fun e w' => e = .returned (.bool true) ∧ Below w.heap.size w w' := by
  have HX := Aside0.mk hx
  have HW := Aside0.mk hw
  have HOS := Aside0.mk ho
  have HOW := Aside0.mk how
  have HBW := Aside0.mk hb
  have hm2 := Kd.C_max ho
  clear hx hw ho how hb
  cases hf : few xs with
  | false =>
    go_enter Try.func6, Try.ntmps6
    go_wp2_with (first
      | (go_at_call 7; refine (sanity_calls w).mono ?_; rintro e w1 ⟨rfl, hb⟩; have HB := Aside0.mk hb; clear hb)
      | (go_at_call 8; refine (few_calls (Kd.C_below HX.out HB.out) hc).mono ?_; rintro e w2 ⟨he, rfl⟩; rw [hf] at he; subst he))
    go_ret
    exact ⟨rfl, HB.out⟩
  | true =>
    by_cases h10 : os.length ≤ 10
    case neg =>
      have hd : decide ((10 : Int) < (os.length : Int)) = true := decide_eq_true (by omega)
      go_enter Try.func6, Try.ntmps6
      go_wp2_with (first
        | (go_at_call 7; refine (sanity_calls w).mono ?_; rintro e w1 ⟨rfl, hb⟩; have HB := Aside0.mk hb; clear hb)
        | (go_at_call 8; refine (few_calls (Kd.C_below HX.out HB.out) hc).mono ?_; rintro e w2 ⟨he, rfl⟩; rw [hf] at he; subst he))
      go_ret
      exact ⟨rfl, HB.out⟩
    have hd : decide ((10 : Int) < (os.length : Int)) = false := decide_eq_false (by omega)
    have HF := Aside0.mk (few_ok hf HW.out)
    have hlen := HF.out.1
    go_enter Try.func6, Try.ntmps6
    go_wp2_with (first
      | (go_at_call 7; refine (sanity_calls w).mono ?_; rintro e w1 ⟨rfl, hb⟩; have HB := Aside0.mk hb; clear hb)
      | (go_at_call 8; refine (few_calls (Kd.C_below HX.out HB.out) hc).mono ?_; rintro e w2 ⟨he, rfl⟩; rw [hf] at he; subst he)
      | (go_at_call 9; refine (New_calls (base := w.heap.size) HB.out.size).mono ?_; rintro e w3 ⟨p, m1, m2, rfl, hE, hb, _, _, _⟩; have HE0 := Aside0.mk hE; have HB3 := Aside0.mk (HB.out.trans (hb.mono HB.out.size)); clear hE hb HB))
    go_loopg [11] xs.length (fun kq v11 w' => ∃ (k : Nat) (E : Ep), v11 = .int .i64 k ∧ k ≤ xs.length ∧ Aside0 (kq = xs.length - k) ∧ Aside0 (EpAt w' w.heap.size p m1 m2 E) ∧ Aside0 (E.Inv ∧ E.Ok k) ∧ Aside0 (∀ x ∈ E.rd, wf64 x.1) ∧ Aside0 (Below w.heap.size w w'))
    case atStart => exact ⟨0, _, rfl, by omega, ⟨by omega⟩, HE0, ⟨Ep.Inv.start, ⟨by simp, by simp, by simp, by simp, by simp⟩⟩, ⟨by simp⟩, HB3⟩
    case round =>
      clear HE0 HB3
      obtain ⟨k, E, rfl, hk, HK, HE, HO, HRW, HB⟩ := hrel
      by_cases hlt : k < xs.length
      · obtain ⟨⟨kd, a, l⟩, hxk⟩ : ∃ x, xs[k]? = some x := ⟨_, List.getElem?_eq_getElem hlt⟩
        obtain ⟨ad, A2, c2, e0, h0, h1, h2, h3, h4⟩ := dC_at HX.out k _ hxk
        dsimp only at h0 h1 h2 h3 h4
        subst e0
        have HK2 := Aside0.mk (HF.out.2 _ (List.mem_of_getElem? hxk))
        have HC4 := Aside0.mk h4
        have HOE := Aside0.mk (And.intro (HO.out.1.run ⟨kd, a, l⟩) (HO.out.2.run _ HK2.out))
        have HRW2 := Aside0.mk (rdw_run HRW.out ⟨kd, a, l⟩ HK2.out)
        have g0 := pw_cell_below HB.out h0
        have g1 := pw_cell_below HB.out h1
        have g2 := pw_cell_below HB.out h2
        clear h0 h1 h2 h4 hxk
        go_wp2_with (first
          | (go_at_call 11; refine (do_calls HE.out HO.out.2 (by omega) kd a A2 c2 l HK2.out (stays_arg HC4.out HB.out (fun k h => h.1)) h3).mono ?_; rintro e w2 ⟨v, rfl, hQ, hE2, hT2⟩; have HB2 := Aside0.mk (HB.out.trans (hT2.below (fun k h => h.1) HB.out.size)); have HE2 := Aside0.mk hE2; clear hE2 hQ hT2 HE))
        go_roundg (xs.length - (k + 1))
        case measure => have := HK.out; omega
        case rel => exact ⟨k + 1, _, by go_num, by omega, ⟨rfl⟩, HE2, HOE, HRW2, HB2⟩
      · have hke : k = xs.length := by omega
        subst hke
        have HLE : Aside0 (E.rd.length ≤ 1000000 ∧ E.q.length ≤ 900) := ⟨by have := HO.out.2.rd; have := HO.out.2.q; omega⟩
        obtain ⟨rs, hrs⟩ : ∃ rs, rs = srt (E.rd.map (·.1)) := ⟨_, rfl⟩
        have HRS2 : Aside0 (srt (E.rd.map (·.1)) = rs) := ⟨hrs.symm⟩
        have HRSW : Aside0 (∀ x ∈ rs, wf64 x) := ⟨fun x hx => by
          rw [hrs] at hx
          obtain ⟨y, hy, rfl⟩ := List.mem_map.1 ((srt_perm _).mem_iff.2 hx)
          exact HRW.out y hy⟩
        clear hrs hlt
        cases hrb : rbad E.bl [] [b] with
        | true =>
          have HRT : Aside0 (E.retire [b] = (6, E)) := ⟨by unfold Ep.retire; rw [hrb, if_pos rfl]⟩
          obtain ⟨ns, hns⟩ : ∃ ns, ns = E.q.map (·.1) := ⟨_, rfl⟩
          have HNS : Aside0 (E.q.map (·.1) = ns) := ⟨hns.symm⟩
          clear hns
          have HIN : Aside0 (b ∈ ns) := ⟨by
            rw [← HNS.out]
            by_cases hm : b ∈ E.q.map (·.1)
            · exact hm
            · have := (HO.out.1.bad [b]).2 ⟨by simpa using hm, by simp⟩
              rw [hrb] at this; cases this⟩
          go_wp2_with (first
            | (go_at_call 17; refine (Readers_calls HE.out HLE.out.1).mono ?_; rintro e wb ⟨v10, rfl, hQ, hb⟩; have HE1 := Aside0.mk (HE.out.below hb); have HB1 := Aside0.mk (below_then HB.out HB.out.size hb); clear hQ hb HE HB)
            | (go_at_call 22; refine (retire_lit HE1.out [b] (by simp) (by have := HLE.out; omega) (by simpa using HBW.out) (by have := HO.out.2.now0; omega) (by have := HO.out.2.now1; omega)).mono ?_; rintro e w3 ⟨he, hE2, hT2⟩; rw [HRT.out] at he hE2; dsimp only at he hE2; subst he; have HE2 := Aside0.mk hE2; have HB2 := Aside0.mk (HB1.out.trans (hT2.below (fun k h => h.1) HB1.out.size)); clear hE2 hT2 HE1 HB1)
            | (go_at_call 19; refine (Waiting_calls HE2.out (by have := HLE.out; omega)).mono ?_; rintro e w6 ⟨v, rfl, hQ, hb⟩; rw [HNS.out] at hQ; obtain ⟨Ag, cg, rfl, hcg, _⟩ := Kd.Q_reads hQ; have HCG := Aside0.mk (Kd.Q_reads' hQ).2.2; have HB3 := Aside0.mk (below_then HB2.out HB2.out.size hb); clear hQ hb HB2)
            | (go_at_call 24; refine (In_calls b HCG.out hcg).mono ?_; rintro e w7 ⟨he, rfl⟩; rw [any_eq, decide_eq_true HIN.out] at he; subst he))
          go_ret
          exact ⟨rfl, HB3.out⟩
        | false =>
          have HRT : Aside0 (E.retire [b] = (0, (E.retire [b]).2)) := ⟨by unfold Ep.retire; rw [hrb, if_neg (by simp)]⟩
          have HWT : Aside0 (Wt (E.retire [b]).2 rs b E.now) := ⟨by rw [← HRS2.out]; exact Wt.start HO.out.1 b HBW.out HLE.out.2 HO.out.2.wf hrb⟩
          have HQN0 : Aside0 (0 ≤ E.now ∧ E.now ≤ 1000 ∧ E.q.length ≤ 1000) := ⟨by have := HO.out.2.now0; have := HO.out.2.now1; have := HLE.out; omega⟩
          go_wp2_with (first
            | (go_at_call 17; refine (Readers_calls HE.out HLE.out.1).mono ?_; rintro e wb ⟨v10, rfl, hQ, hb⟩; rw [HRS2.out] at hQ; have HQ := Aside0.mk (Kd.Q_lower hQ HB.out.size); have HE1 := Aside0.mk (HE.out.below hb); have HB1 := Aside0.mk (below_then HB.out HB.out.size hb); clear hQ hb HE HB)
            | (go_at_call 22; refine (retire_lit HE1.out [b] (by simp) HQN0.out.2.2 (by simpa using HBW.out) HQN0.out.1 (by have := HQN0.out; omega)).mono ?_; rintro e w3 ⟨he, hE2, hT2⟩; rw [HRT.out] at he; dsimp only at he; subst he; have HE2 := Aside0.mk hE2; have HQ2 := Aside0.mk (hqKeep HQ.out HE1.out hT2); have HB2 := Aside0.mk (HB1.out.trans (hT2.below (fun k h => h.1) HB1.out.size)); clear hE2 hT2 HE1 HB1 HQ))
          have HRSL : Aside0 (rs.length ≤ 10000000) := ⟨by have := (srt_perm (E.rd.map (·.1))).length_eq; rw [HRS2.out, List.length_map] at this; have := HLE.out; omega⟩
          obtain ⟨n, hn⟩ : ∃ n, n = E.now := ⟨_, rfl⟩
          rw [← hn] at HWT
          clear HRT HRS2 HLE HO HRW HQN0 hn HF HX HW
          generalize (E.retire [b]).2 = E2 at *
          go_loopg [12, 13, 14, 15, 16, 17, 18] rs.length (fun kq v12 v13 v14 v15 v16 v17 v18 w' => ∃ (rl : List Int) (E' : Ep), Aside0 (kq = rl.length) ∧ Aside0 (dI.Q 3 w' w.heap.size (fun _ => True) v12 rl) ∧ Aside0 (EpAt w' w.heap.size p m1 m2 E') ∧ Aside0 (Wt E' rl b n) ∧ Aside0 (∀ x ∈ rl, wf64 x) ∧ Aside0 (rl.length ≤ 10000000) ∧ Aside0 (Below w.heap.size w w'))
          case atStart => exact ⟨rs, E2, ⟨rfl⟩, HQ2, HE2, HWT, HRSW, HRSL, HB2⟩
          case round =>
            clear HQ2 HE2 HWT HRSW HRSL HB2
            obtain ⟨rl, E3, HK3, HQ, HE, HWT, HRW, HRB, HB⟩ := hrel
            obtain ⟨Ar, cr, rfl, hcr, _⟩ := Kd.Q_reads HQ.out
            have hrlm := Kd.C_max (Kd.Q_reads' HQ.out).2.2
            obtain ⟨wo, rfl⟩ : ∃ wo : World, wo = wr := ⟨_, rfl⟩
            by_cases hrl : 0 < rl.length
            · have HNE : Aside0 (rl ≠ []) := ⟨by rintro rfl; simp at hrl⟩
              have HF1 := Aside0.mk (HWT.out.free HNE.out)
              have HQL : Aside0 (E3.q.length ≤ 1000000 ∧ ∀ x ∈ E3.q, wf64 x.1) := ⟨by have := HWT.out.ql; omega, HWT.out.qw⟩
              go_wp2_with (first
                | (go_at_call 23; refine (Free_calls HE.out HQL.out.1 HQL.out.2).mono ?_; rintro e w3 ⟨v, rfl, hQ, hE2, hT2⟩; obtain ⟨fs, hfs⟩ : ∃ fs, fs = E3.free.1 := ⟨_, rfl⟩; rw [← hfs] at hQ; have HFS : Aside0 (b ∉ fs) := ⟨by rw [hfs]; exact HF1.out.1⟩; obtain ⟨Af, cf, rfl, hcf, _⟩ := Kd.Q_reads hQ; have HCF := Aside0.mk (Kd.Q_reads' hQ).2.2; have HE4 := Aside0.mk hE2; have HQ4 := Aside0.mk (hqKeep HQ.out HE.out hT2); have HB4 := Aside0.mk (HB.out.trans (hT2.below (fun k h => h.1) HB.out.size)); clear hQ hE2 hT2 hfs HQ HE HB)
                | (go_at_call 24; refine (In_calls b HCF.out hcf).mono ?_; rintro e w7 ⟨he, rfl⟩; rw [any_eq, decide_eq_false HFS.out] at he; subst he; clear HFS HCF))
              have HW4 := Aside0.mk HF1.out.2
              clear HF1 HWT HQL
              generalize E3.free.2 = E4 at *
              go_loopg [14] os.length (fun kq v14 w' => ∃ (j : Nat) (E' : Ep), v14 = .int .i64 j ∧ j ≤ os.length ∧ Aside0 (kq = os.length - j) ∧ Aside0 (EpAt w' w.heap.size p m1 m2 E') ∧ Aside0 (Wt E' rl b n) ∧ Aside0 (Turn (SE w.heap.size p m1 m2 w7) w7 w'))
              case atStart => exact ⟨0, E4, rfl, by omega, ⟨by omega⟩, HE4, HW4, ⟨Turn.refl _ _⟩⟩
              case round =>
                clear HW4
                obtain ⟨j, E5, rfl, hj, HJ, HE5, HW5, HT5⟩ := hrel
                have HB5 := Aside0.mk (HB4.out.trans (HT5.out.below (fun k h => h.1) HB4.out.size))
                have HQ5 := Aside0.mk (hqKeep HQ4.out HE4.out HT5.out)
                have HC5 := Aside0.mk (Kd.Q_reads' HQ5.out).2.2
                obtain ⟨wp, rfl⟩ : ∃ wo : World, wo = wr := ⟨_, rfl⟩
                by_cases hjl : j < os.length
                · obtain ⟨o, hoj⟩ : ∃ o, os[j]? = some o := ⟨_, List.getElem?_eq_getElem hjl⟩
                  obtain ⟨ad, e0, h0⟩ := dI_at (Kd.C_below HOS.out HB5.out) j o hoj
                  subst e0
                  have HWO := Aside0.mk (HOW.out o (List.mem_of_getElem? hoj))
                  clear hoj
                  by_cases hin : o ∈ rl
                  · go_wp2_with (first
                      | (go_at_call 24; refine (In_calls o HC5.out hcr).mono ?_; rintro e w8 ⟨he, rfl⟩; rw [any_eq, decide_eq_true hin] at he; subst he))
                    go_roundg (os.length - (j + 1))
                    case measure => have := HJ.out; omega
                    case rel => exact ⟨j + 1, E5, by go_num, by omega, ⟨rfl⟩, HE5, HW5, HT5⟩
                  · go_wp2_with (first
                      | (go_at_call 24; refine (In_calls o HC5.out hcr).mono ?_; rintro e w8 ⟨he, rfl⟩; rw [any_eq, decide_eq_false hin] at he; subst he)
                      | (go_at_call 20; refine (Enter_calls HE5.out o HWO.out).mono ?_; rintro e w9 ⟨rfl, hE2, hT2⟩; have HE6 := Aside0.mk hE2; have HT6 := Aside0.mk (SE.trans HT5.out hT2); clear hE2 hT2))
                    go_roundg (os.length - (j + 1))
                    case measure => have := HJ.out; omega
                    case rel => exact ⟨j + 1, _, by go_num, by omega, ⟨rfl⟩, HE6, ⟨HW5.out.enter o⟩, HT6⟩
                · have HF2 := Aside0.mk (HW5.out.free HNE.out)
                  have HQL : Aside0 (E5.q.length ≤ 1000000 ∧ ∀ x ∈ E5.q, wf64 x.1) := ⟨by have := HW5.out.ql; omega, HW5.out.qw⟩
                  have hj2 : decide ((j : Int) < (os.length : Int)) = false := decide_eq_false (by omega)
                  clear HE4 HQ4 HB4
                  go_wp2_with (first
                    | (go_at_call 23; refine (Free_calls HE5.out HQL.out.1 HQL.out.2).mono ?_; rintro e w8 ⟨v, rfl, hQ, hE2, hT2⟩; obtain ⟨fs, hfs⟩ : ∃ fs, fs = E5.free.1 := ⟨_, rfl⟩; rw [← hfs] at hQ; have HFS : Aside0 (b ∉ fs) := ⟨by rw [hfs]; exact HF2.out.1⟩; obtain ⟨Af, cf, rfl, hcf, _⟩ := Kd.Q_reads hQ; have HCF := Aside0.mk (Kd.Q_reads' hQ).2.2; have HE6 := Aside0.mk hE2; have HQ6 := Aside0.mk (hqKeep HQ5.out HE5.out hT2); have HB6 := Aside0.mk (HB5.out.trans (hT2.below (fun k h => h.1) HB5.out.size)); clear hQ hE2 hT2 hfs HQ5 HE5 HB5)
                    | (go_at_call 24; refine (In_calls b HCF.out hcf).mono ?_; rintro e w9 ⟨he, rfl⟩; rw [any_eq, decide_eq_false HFS.out] at he; subst he; clear HFS HCF))
                  have HW6 := Aside0.mk HF2.out.2
                  clear HF2 HW5 HQL HT5 hj2 hjl hj HJ HC5
                  generalize E5.free.2 = E6 at *
                  go_loopg [16] os.length (fun kq v16 w' => ∃ (j : Nat) (E' : Ep), v16 = .int .i64 j ∧ j ≤ os.length + 1 ∧ Aside0 (kq = os.length - j) ∧ Aside0 (EpAt w' w.heap.size p m1 m2 E') ∧ Aside0 (Wt E' rl b n) ∧ Aside0 (Turn (SE w.heap.size p m1 m2 w9) w9 w'))
                  case atStart => exact ⟨0, E6, rfl, by omega, ⟨by omega⟩, HE6, HW6, ⟨Turn.refl _ _⟩⟩
                  case round =>
                    clear HW6
                    obtain ⟨j, E7, rfl, hj, HJ, HE7, HW7, HT7⟩ := hrel
                    have HB7 := Aside0.mk (HB6.out.trans (HT7.out.below (fun k h => h.1) HB6.out.size))
                    have HQ7 := Aside0.mk (hqKeep HQ6.out HE6.out HT7.out)
                    have HC7 := Aside0.mk (Kd.Q_reads' HQ7.out).2.2
                    obtain ⟨wp, rfl⟩ : ∃ wo : World, wo = wr := ⟨_, rfl⟩
                    by_cases hjl : j < os.length
                    · obtain ⟨o, hoj⟩ : ∃ o, os[j]? = some o := ⟨_, List.getElem?_eq_getElem hjl⟩
                      obtain ⟨ad, e0, h0⟩ := dI_at (Kd.C_below HOS.out HB7.out) j o hoj
                      subst e0
                      have HWO := Aside0.mk (HOW.out o (List.mem_of_getElem? hoj))
                      clear hoj
                      by_cases hin : o ∈ rl
                      · go_wp2_with (first
                          | (go_at_call 24; refine (In_calls o HC7.out hcr).mono ?_; rintro e w8 ⟨he, rfl⟩; rw [any_eq, decide_eq_true hin] at he; subst he))
                        go_roundg (os.length - (j + 2))
                        case measure => have := HJ.out; omega
                        case rel => exact ⟨j + 2, E7, by go_num, by omega, ⟨rfl⟩, HE7, HW7, HT7⟩
                      · go_wp2_with (first
                          | (go_at_call 24; refine (In_calls o HC7.out hcr).mono ?_; rintro e w8 ⟨he, rfl⟩; rw [any_eq, decide_eq_false hin] at he; subst he)
                          | (go_at_call 21; refine (Leave_calls HE7.out o HWO.out).mono ?_; rintro e w10 ⟨rfl, hE2, hT2⟩; have HE8 := Aside0.mk hE2; have HT8 := Aside0.mk (SE.trans HT7.out hT2); clear hE2 hT2))
                        go_roundg (os.length - (j + 2))
                        case measure => have := HJ.out; omega
                        case rel => exact ⟨j + 2, _, by go_num, by omega, ⟨rfl⟩, HE8, ⟨HW7.out.leave o hin⟩, HT8⟩
                    · have hj2 : decide ((j : Int) < (os.length : Int)) = false := decide_eq_false (by omega)
                      have hrz : ((rl.length : Int) == 0) = false := by simpa using (by omega : ¬ (rl.length : Int) = 0)
                      obtain ⟨q, hq, hql⟩ : ∃ q : Nat, od % (rl.length : Int) = (q : Int) ∧ q < rl.length := ⟨(od % (rl.length : Int)).toNat, by have := Int.emod_nonneg od (show (rl.length : Int) ≠ 0 by omega); omega, by have := Int.emod_nonneg od (show (rl.length : Int) ≠ 0 by omega); have := Int.emod_lt_of_pos od (show 0 < (rl.length : Int) by omega); omega⟩
                      obtain ⟨r, hrq⟩ : ∃ r, rl[q]? = some r := ⟨_, List.getElem?_eq_getElem hql⟩
                      obtain ⟨ad, e0, h0⟩ := dI_at HC7.out q r hrq
                      subst e0
                      have HDR := Aside0.mk (HW7.out.drop q r hrq)
                      have HWR := Aside0.mk (HRW.out r (List.mem_of_getElem? hrq))
                      have hsl1 := take_slice (A := some ad) (n := rl.length) (c := cr) q (by omega)
                      have hsl2 : ∀ W : World, (Instr.slice 29 (.slice (some ad) rl.length cr) (some (.int .i64 ((q : Int) + 1))) none none).run Try.prog W = .ok (.slice (if cr = q + 1 then some ad else (some ad).map (·.add ((q + 1) * 1))) (rl.length - (q + 1)) (cr - (q + 1))) W := cut29d (q + 1) hql
                      have hla : (rl.take q).length = q := by rw [List.length_take]; omega
                      have hlb : (rl.drop (q + 1)).length = rl.length - (q + 1) := by rw [List.length_drop]
                      have HYA : Aside0 (∀ W, dI.C W (some ad) rl.length rl → dI.C W (some ad) q (rl.take q)) := ⟨fun W h => by have := Kd.C_take (k := dI) (m := q) h (by omega); rwa [hla] at this⟩
                      have HYB : Aside0 (∀ W, dI.C W (some ad) rl.length rl → dI.C W (if cr = q + 1 then some ad else (some ad).map (·.add ((q + 1) * 1))) (rl.length - (q + 1)) (rl.drop (q + 1))) := ⟨fun W h => by have := Kd.C_drop (k := dI) (c := cr) (m := q + 1) h (by omega) hcr; rwa [hlb] at this⟩
                      have HLA := Aside0.mk hla
                      have HLB := Aside0.mk hlb
                      have HRW3 : Aside0 (∀ x ∈ rl.take q ++ rl.drop (q + 1), wf64 x) := ⟨fun x hx => by
                        rcases List.mem_append.1 hx with hx | hx
                        · exact HRW.out x (List.mem_of_mem_take hx)
                        · exact HRW.out x (List.mem_of_mem_drop hx)⟩
                      have HRLM : Aside0 (rl.length ≤ 10000000) := ⟨HRB.out⟩
                      clear HE6 HQ6 HB6 HC7 hrq hla hlb
                      generalize rl.take q = ya at *
                      generalize rl.drop (q + 1) = yb at *
                      generalize (if cr = q + 1 then some ad else (some ad).map (·.add ((q + 1) * 1))) = A7 at *
                      go_upto_region 28 with fail
                      rw [hq]
                      go_wp2_with (first
                        | (go_at_call 21; refine (Leave_calls HE7.out r HWR.out).mono ?_; rintro e w10 ⟨he, hE2, hT2⟩; rw [HDR.out.1] at he; subst he; have HE8 := Aside0.mk hE2; have HB8 := Aside0.mk (HB7.out.trans (hT2.below (fun k h => h.1) HB7.out.size)); have HSZ : Aside0 (wp.heap.size ≤ w10.heap.size) := ⟨hT2.kept.1⟩; have hC8 := (Kd.Q_reads' (hqKeep HQ7.out HE7.out hT2)).2.2; have HYA8 := Aside0.mk (HYA.out _ hC8); have HYB8 := Aside0.mk (HYB.out _ hC8); clear hC8; clear hE2 hT2 HE7 HB7)
                        | ((with_reducible refine gate_builtin (b := .append) (xs := #[.tmp 121, .tmp 124]) rfl ?_); at_builtin
                           refine Kd.R_append_rows dI (w0 := w10.alloc (.cells #[] 3)) (Rr := dI.K (w10.alloc (.cells #[] 3))) w10.heap.size rfl (.tmp 121) (.tmp 124) 29 3 (.int .i64 0) 8 rfl Try.underlying29 info3 rfl (by decide) (by omega) (.slice (some ⟨w10.heap.size, 0, none⟩) 0 0) [] ya (some ad) q cr (fun _ => True) (fun _ => False) rfl rfl (R_emptyI (Nat.le_refl _)) (Kd.C_alloc HYA8.out _) dI_KM (fun _ hk => hk.elim) (fun _ _ => trivial) (Below.refl _ _) (by simp) ?aL ?_
                           case aL => have := HRLM.out; simp; omega
                           intro v1 w11 hq1 hb1 hg1 hat1
                           have HO1 := Aside0.mk hq1
                           have HB9 : Aside0 (Below w10.heap.size w10 w11) := ⟨(below_alloc (Below.refl _ _) _).grown hg1 (by simp) (fun k e => by simp [Value.ownBlock] at e; omega)⟩
                           clear hq1 hb1 hg1 hat1)
                        | ((with_reducible refine gate_builtin (b := .append) (xs := #[.tmp 126, .tmp 130]) rfl ?_); at_builtin
                           refine Kd.R_append_rows dI (w0 := w11) (Rr := dI.K w11) w10.heap.size rfl (.tmp 126) (.tmp 130) 29 3 (.int .i64 0) 8 rfl Try.underlying29 info3 rfl (by decide) (by omega) v1 ([] ++ ya) yb A7 (rl.length - (q + 1)) (cr - (q + 1)) (fun _ => True) (fun _ => False) rfl rfl HO1.out (Kd.C_below HYB8.out HB9.out) dI_KM (fun _ hk => hk.elim) (fun _ _ => trivial) (Below.refl _ _) HB9.out.size ?aL ?_
                           case aL => have := HRLM.out; have := HLA.out; rw [List.nil_append]; omega
                           intro v2 w12 hq1 hb1 hg1 hat1
                           rw [List.nil_append] at hq1
                           have HB10 : Aside0 (Below w10.heap.size w10 w12) := ⟨HB9.out.grown hg1 HB9.out.size (Kd.R_base HO1.out)⟩
                           have HQ10 := Aside0.mk (Kd.Q_lower (Kd.Q_of_R hq1) HB8.out.size)
                           have HE10 := Aside0.mk (HE8.out.below HB10.out)
                           have HB11 := Aside0.mk (below_then HB8.out HB8.out.size HB10.out)
                           clear hq1 hb1 hg1 hat1))
                      go_roundg (ya ++ yb).length
                      case measure => have := HK3.out; have := HLA.out; have := HLB.out; rw [List.length_append]; omega
                      case rel => exact ⟨ya ++ yb, _, ⟨rfl⟩, HQ10, HE10, ⟨HDR.out.2⟩, HRW3, ⟨by have := HRB.out; have := HLA.out; have := HLB.out; rw [List.length_append]; omega⟩, HB11⟩
            · have hrl0 : rl = [] := by cases rl with | nil => rfl | cons x l => simp at hrl
              subst hrl0
              have HLS := Aside0.mk HWT.out.last
              have HQL : Aside0 (E3.q.length ≤ 1000000 ∧ (∀ x ∈ E3.q, wf64 x.1) ∧ E3.free.2.q.length ≤ 1000000 ∧ ∀ x ∈ E3.free.2.q, wf64 x.1) := ⟨by have := HWT.out.ql; omega, HWT.out.qw, by have := HWT.out.ql; simp [Ep.free]; omega, fun x hx => HWT.out.qw x ((mem_left HWT.out.inv x).1 hx).1⟩
              go_wp2_with (first
                | (go_at_call 23; refine (Free_calls HE.out HQL.out.1 HQL.out.2.1).mono ?_; rintro e w3 ⟨v, rfl, hQ, hE2, hT2⟩; obtain ⟨fs, hfs⟩ : ∃ fs, fs = E3.free.1 := ⟨_, rfl⟩; rw [← hfs] at hQ; have HFS : Aside0 (b ∈ fs) := ⟨by rw [hfs]; exact HLS.out.1⟩; obtain ⟨Af, cf, rfl, hcf, _⟩ := Kd.Q_reads hQ; have HCF := Aside0.mk (Kd.Q_reads' hQ).2.2; have HE4 := Aside0.mk hE2; have HB4 := Aside0.mk (HB.out.trans (hT2.below (fun k h => h.1) HB.out.size)); clear hQ hE2 hT2 hfs HQ HE HB)
                | (go_at_call 24; refine (In_calls b HCF.out hcf).mono ?_; rintro e w7 ⟨he, rfl⟩; rw [any_eq, decide_eq_true HFS.out] at he; subst he; clear HFS HCF)
                | (go_at_call 23; refine (Free_calls HE4.out HQL.out.2.2.1 HQL.out.2.2.2).mono ?_; rintro e w5 ⟨v, rfl, hQ, hE2, hT2⟩; obtain ⟨gs, hgs⟩ : ∃ gs, gs = E3.free.2.free.1 := ⟨_, rfl⟩; rw [← hgs] at hQ; have HGS : Aside0 (b ∉ gs) := ⟨by rw [hgs]; exact HLS.out.2⟩; obtain ⟨Ag, cg, rfl, hcg, _⟩ := Kd.Q_reads hQ; have HCG := Aside0.mk (Kd.Q_reads' hQ).2.2; have HB5 := Aside0.mk (HB4.out.trans (hT2.below (fun k h => h.1) HB4.out.size)); clear hQ hE2 hT2 hgs)
                | (go_at_call 24; refine (In_calls b HCG.out hcg).mono ?_; rintro e w7 ⟨he, rfl⟩; rw [any_eq, decide_eq_false HGS.out] at he; subst he; clear HGS HCG))
              go_ret
              exact ⟨by simp, HB5.out⟩
end Go.Proofs.Ytfpjkiokcjbbmaa
