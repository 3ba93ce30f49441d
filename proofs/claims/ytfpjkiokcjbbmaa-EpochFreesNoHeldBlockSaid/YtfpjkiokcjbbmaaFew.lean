/- A row of a script in memory; the contract of few. -/
import Derived.Test.YtfpjkiokcjbbmaaRDo
namespace Go.Proofs.Ytfpjkiokcjbbmaa
open Go.RowKit Go.Maps Go.MapKept Go.Proofs.YtfpjkiokcjbbmaaW.PrintWords Go.Proofs.YtfpjkiokcjbbmaaW.PrintLast Go.Proofs.YtfpjkiokcjbbmaaW.PrintMore

theorem dC_at {w : World} {A : Option Addr} {n : Nat} {xs : List Cl} (h : dC.C w A n xs) (k : Nat) (x : Cl) (hx : xs[k]? = some x) : ∃ ad A2 c2, A = some ad ∧ w.cell? (ad.add (k * 3)) = some (.int .i64 x.kind) ∧ w.cell? ⟨(ad.add (k * 3)).block, (ad.add (k * 3)).off + 1, none⟩ = some (.int .i64 x.a) ∧ w.cell? ⟨(ad.add (k * 3)).block, (ad.add (k * 3)).off + 2, none⟩ = some (.slice A2 x.l.length c2) ∧ x.l.length ≤ c2 ∧ dI.C w A2 x.l.length x.l := by
  have hl := (List.getElem?_eq_some_iff.1 hx).1
  obtain ⟨ad, c, e, _, hK, hc0⟩ := Kd.C_get h (⟨0, 0, []⟩ : Cl) k (by omega) (by rw [← h.1]; omega)
  have hg : xs.getD (Int.toNat (k : Int)) ⟨0, 0, []⟩ = x := by simp [hx]
  rw [hg] at hK
  obtain ⟨_, _, rfl, rfl, _, _, rfl, rfl, A2, c2, rfl, hle, hC⟩ := hK
  have hsz : dC.sz = 3 := rfl
  rw [hsz] at hc0
  have h0 := hc0 0 _ rfl
  have h1 := hc0 1 _ rfl
  have h2 := hc0 2 _ rfl
  have e1 : (Int.toNat (k : Int)) = k := by omega
  rw [e1] at h1 h2
  refine ⟨ad, A2, c2, e, by simpa using h0, ?_, ?_, hle, hC⟩
  · rw [← add_field _ _ 1 (by omega)]; exact h1
  · rw [← add_field _ _ 2 (by omega)]; exact h2

def few (l : List Cl) : Bool := l.all (fun c => decide (c.l.length ≤ 10)) && decide (l.length ≤ 40)

set_option maxHeartbeats 4000000 in
set_option maxRecDepth 100000 in
theorem few_calls {w : World} {A : Option Addr} {c : Nat} {xs : List Cl} (hx : dC.C w A xs.length xs) (hc : xs.length ≤ c) :
    Calls Try.prog 8 #[.slice A xs.length c] w fun e w' => e = .returned (.bool (few xs)) ∧ w' = w := by
  have HX := Aside0.mk hx
  have hm := Kd.C_max hx
  clear hx
  go_enter Try.func8, Try.ntmps8
  go_wp2_with fail
  go_loopg [3] xs.length (fun kq v3 w' => ∃ k : Nat, v3 = .int .i64 k ∧ k ≤ xs.length ∧ Aside0 (kq = xs.length - k) ∧ Aside0 ((xs.take k).all (fun c => decide (c.l.length ≤ 10)) = true) ∧ w' = w)
  case atStart => exact ⟨0, rfl, by omega, ⟨by omega⟩, ⟨by simp⟩, rfl⟩
  case round =>
    obtain ⟨k, rfl, hk, HK, HE, rfl⟩ := hrel
    by_cases hlt : k < xs.length
    · obtain ⟨x, hxk⟩ : ∃ x, xs[k]? = some x := ⟨_, List.getElem?_eq_getElem hlt⟩
      obtain ⟨ad, A2, c2, e0, h0, h1, h2, h3, h4⟩ := dC_at HX.out k x hxk
      subst e0
      by_cases hp : x.l.length ≤ 10
      · have HS : Aside0 ((xs.take (k + 1)).all (fun c => decide (c.l.length ≤ 10)) = true) := ⟨by rw [List.take_add_one, hxk, List.all_append, HE.out]; simp [hp]⟩
        have hd : decide (10 < (x.l.length : Int)) = false := decide_eq_false (by omega)
        clear hxk HE hp h0 h1 h4
        go_wp2_with fail
        go_roundg (xs.length - (k + 1))
        case measure => have := HK.out; omega
        case rel => exact ⟨k + 1, by go_num, by omega, ⟨rfl⟩, HS, rfl⟩
      · have HS : Aside0 (few xs = false) := ⟨by
          have : ¬ xs.all (fun c => decide (c.l.length ≤ 10)) = true := by
            intro h
            rw [List.all_eq_true] at h
            have := h x (List.mem_of_getElem? hxk)
            exact hp (by simpa using this)
          simp only [few, Bool.not_eq_true _ |>.mp this, Bool.false_and]⟩
        have hd : decide (10 < (x.l.length : Int)) = true := decide_eq_true (by omega)
        clear hxk HE hp h0 h1 h4
        go_wp2_with fail
        go_ret
        exact ⟨by rw [HS.out]; rfl, rfl⟩
    · have HS : Aside0 (few xs = decide ((xs.length : Int) ≤ 40)) := ⟨by
        have h := HE.out
        rw [List.take_of_length_le (by omega)] at h
        simp only [few, h, Bool.true_and]
        exact decide_eq_decide.2 (by omega)⟩
      clear HE
      go_wp2_with fail
      go_ret
      exact ⟨by rw [HS.out]; rfl, rfl⟩
end Go.Proofs.Ytfpjkiokcjbbmaa
