/- The specification's epochs as plain data; the contracts of package alumref17: Has, Names, Same, In, Least. -/
import Derived.Test.YtfpjkiokcjbbmaaRetire
import Derived.Deep.QuietTactic
import Derived.BigQuiet
namespace Go.Proofs.Ytfpjkiokcjbbmaa
open Go.RowKit Go.Maps Go.MapKept Go.Proofs.YtfpjkiokcjbbmaaW.PrintWords Go.Proofs.YtfpjkiokcjbbmaaW.PrintLast Go.Proofs.YtfpjkiokcjbbmaaW.PrintMore

theorem info62 : (Try.prog.info? 62).map (fun i => (i.zero, i.size, i.bytes)) = some (some (.agg #[.int .i64 0, .int .i64 0]), 2, 16) := by kernel_rfl

def hasn (l : List (Int × Int)) (n : Int) : Bool := l.any fun x => x.1 == n

set_option maxHeartbeats 4000000 in
set_option maxRecDepth 100000 in
theorem Has_calls {w : World} {A : Option Addr} {c : Nat} {xs : List (Int × Int)} (n : Int) (hx : dP.C w A xs.length xs) (hc : xs.length ≤ c) :
    Calls Try.prog 34 #[.slice A xs.length c, .int .i64 n] w fun e w' => e = .returned (.bool (hasn xs n)) ∧ w' = w := by
  have HX := Aside0.mk hx
  have hm := Kd.C_max hx
  clear hx
  go_enter Try.func34, Try.ntmps34
  go_wp2_with fail
  go_loopg [5] xs.length (fun kq v5 w' => ∃ k : Nat, v5 = .int .i64 k ∧ k ≤ xs.length ∧ Aside0 (kq = xs.length - k) ∧ Aside0 (hasn xs n = hasn (xs.drop k) n) ∧ w' = w)
  case atStart => exact ⟨0, rfl, by omega, ⟨by omega⟩, ⟨by simp⟩, rfl⟩
  case round =>
    obtain ⟨k, rfl, hk, HK, HE, rfl⟩ := hrel
    by_cases hlt : k < xs.length
    · obtain ⟨y, hxk⟩ : ∃ y, xs[k]? = some y := ⟨_, List.getElem?_eq_getElem hlt⟩
      obtain ⟨ad, e0, h0, h1⟩ := dP_at HX.out k y hxk
      subst e0
      have hdr : xs.drop k = y :: xs.drop (k + 1) := by rw [List.drop_eq_getElem_cons hlt]; congr 1; exact (List.getElem?_eq_some_iff.1 hxk).2
      have HS : Aside0 (hasn xs n = (y.1 == n || hasn (xs.drop (k + 1)) n)) := ⟨by rw [HE.out, hdr]; simp [hasn]⟩
      clear hxk hdr HE
      by_cases hp : y.1 = n
      · have hd : (y.1 == n) = true := by simpa using hp
        rw [hd] at HS
        clear hp
        go_wp2_with fail
        go_ret
        exact ⟨by rw [HS.out]; rfl, rfl⟩
      · have hd : (y.1 == n) = false := by simpa using hp
        rw [hd] at HS
        clear hp
        go_wp2_with fail
        go_roundg (xs.length - (k + 1))
        case measure => have := HK.out; omega
        case rel => exact ⟨k + 1, by go_num, by omega, ⟨rfl⟩, ⟨by have := HS.out; rwa [Bool.false_or] at this⟩, rfl⟩
    · have HP2 : Aside0 (hasn xs n = false) := ⟨by rw [HE.out, show k = xs.length by omega, List.drop_length]; rfl⟩
      clear HE
      go_wp2_with fail
      go_ret
      exact ⟨by rw [HP2.out]; rfl, rfl⟩

set_option maxHeartbeats 4000000 in
set_option maxRecDepth 100000 in
theorem In_calls {w : World} {A : Option Addr} {c : Nat} {xs : List Int} (n : Int) (hx : dI.C w A xs.length xs) (hc : xs.length ≤ c) :
    Calls Try.prog 24 #[.slice A xs.length c, .int .i64 n] w fun e w' => e = .returned (.bool (xs.any fun x => x == n)) ∧ w' = w := by
  have HX := Aside0.mk hx
  have hm := Kd.C_max hx
  clear hx
  go_enter Try.func24, Try.ntmps24
  go_wp2_with fail
  go_loopg [5] xs.length (fun kq v5 w' => ∃ k : Nat, v5 = .int .i64 k ∧ k ≤ xs.length ∧ Aside0 (kq = xs.length - k) ∧ Aside0 ((xs.any fun x => x == n) = ((xs.drop k).any fun x => x == n)) ∧ w' = w)
  case atStart => exact ⟨0, rfl, by omega, ⟨by omega⟩, ⟨by simp⟩, rfl⟩
  case round =>
    obtain ⟨k, rfl, hk, HK, HE, rfl⟩ := hrel
    by_cases hlt : k < xs.length
    · obtain ⟨y, hxk⟩ : ∃ y, xs[k]? = some y := ⟨_, List.getElem?_eq_getElem hlt⟩
      obtain ⟨ad, e0, h0⟩ := dI_at HX.out k y hxk
      subst e0
      have hdr : xs.drop k = y :: xs.drop (k + 1) := by rw [List.drop_eq_getElem_cons hlt]; congr 1; exact (List.getElem?_eq_some_iff.1 hxk).2
      have HS : Aside0 ((xs.any fun x => x == n) = (y == n || (xs.drop (k + 1)).any fun x => x == n)) := ⟨by rw [HE.out, hdr, List.any_cons]⟩
      clear hxk hdr HE
      by_cases hp : y = n
      · have hd : (y == n) = true := by simpa using hp
        rw [hd] at HS
        clear hp
        go_wp2_with fail
        go_ret
        exact ⟨by rw [HS.out]; rfl, rfl⟩
      · have hd : (y == n) = false := by simpa using hp
        rw [hd] at HS
        clear hp
        go_wp2_with fail
        go_roundg (xs.length - (k + 1))
        case measure => have := HK.out; omega
        case rel => exact ⟨k + 1, by go_num, by omega, ⟨rfl⟩, ⟨by have := HS.out; rwa [Bool.false_or] at this⟩, rfl⟩
    · have HP2 : Aside0 ((xs.any fun x => x == n) = false) := ⟨by rw [HE.out, show k = xs.length by omega, List.drop_length]; rfl⟩
      clear HE
      go_wp2_with fail
      go_ret
      exact ⟨by rw [HP2.out]; rfl, rfl⟩

set_option maxHeartbeats 4000000 in
set_option maxRecDepth 100000 in
theorem Same_calls {w : World} {A B : Option Addr} {c d : Nat} {xs ys : List Int} (hx : dI.C w A xs.length xs) (hc : xs.length ≤ c) (hy : dI.C w B ys.length ys) (hd : ys.length ≤ d) :
    Calls Try.prog 13 #[.slice A xs.length c, .slice B ys.length d] w fun e w' => e = .returned (.bool (xs == ys)) ∧ Drawn0 w w' := by
  have HX := Aside0.mk hx
  have HY := Aside0.mk hy
  have hm := Kd.C_max hx
  have hm2 := Kd.C_max hy
  clear hx hy
  by_cases hl : xs.length = ys.length
  · have hlb : (xs.length == ys.length) = true := by simpa using hl
    have hlb2 : ((xs.length : Int) == (ys.length : Int)) = true := by simp [hl]
    have hln : ((xs.length : Int) != (ys.length : Int)) = false := by simp [hl]
    have hln2 : (xs.length != ys.length) = false := by simp [hl]
    have HLE := Aside0.mk hl
    clear hl
    go_enter Try.func13, Try.ntmps13
    go_wp2_with fail
    go_loopg [5] xs.length (fun kq v5 w' => ∃ k : Nat, v5 = .int .i64 k ∧ k ≤ xs.length ∧ Aside0 (kq = xs.length - k) ∧ Aside0 ((xs == ys) = (xs.drop k == ys.drop k)) ∧ Drawn0 w w')
    case atStart => exact ⟨0, rfl, by omega, ⟨by omega⟩, ⟨by simp⟩, Drawn0.refl _⟩
    case round =>
      obtain ⟨k, rfl, hk, HK, HE, ⟨m, rfl⟩⟩ := hrel
      by_cases hlt : k < xs.length
      · have hlt2 : k < ys.length := by have := HLE.out; omega
        obtain ⟨x, hxk⟩ : ∃ y, xs[k]? = some y := ⟨_, List.getElem?_eq_getElem hlt⟩
        obtain ⟨y, hyk⟩ : ∃ y, ys[k]? = some y := ⟨_, List.getElem?_eq_getElem hlt2⟩
        obtain ⟨ad, e0, h0⟩ := dI_at HX.out k x hxk
        obtain ⟨ad2, e1, h1⟩ := dI_at HY.out k y hyk
        subst e0
        subst e1
        have hdr : xs.drop k = x :: xs.drop (k + 1) := by rw [List.drop_eq_getElem_cons hlt]; congr 1; exact (List.getElem?_eq_some_iff.1 hxk).2
        have hdr2 : ys.drop k = y :: ys.drop (k + 1) := by rw [List.drop_eq_getElem_cons hlt2]; congr 1; exact (List.getElem?_eq_some_iff.1 hyk).2
        have HS : Aside0 ((xs == ys) = (x == y && (xs.drop (k + 1) == ys.drop (k + 1)))) := ⟨by rw [HE.out, hdr, hdr2]; rfl⟩
        clear hxk hyk hdr hdr2 HE
        by_cases hp : x = y
        · have hd : (x != y) = false := by simpa using hp
          have hd2 : (x == y) = true := by simpa using hp
          rw [hd2] at HS
          clear hp hd2
          go_wp2_with fail
          go_quiet (fail)
          go_wp2_with fail
          go_roundg (xs.length - (k + 1))
          case measure => have := HK.out; omega
          case rel => exact ⟨k + 1, by go_num, by omega, ⟨rfl⟩, ⟨by have := HS.out; rwa [Bool.true_and] at this⟩, by repeat (first | exact Drawn0.refl _ | apply Drawn0.step)⟩
        · have hd : (x != y) = true := by simpa using hp
          have hd2 : (x == y) = false := by simpa using hp
          rw [hd2] at HS
          clear hp hd2
          go_wp2_with fail
          go_quiet (fail)
          go_wp2_with fail
          go_ret
          exact ⟨by rw [HS.out]; rfl, by repeat (first | exact Drawn0.refl _ | apply Drawn0.step)⟩
      · have HP2 : Aside0 ((xs == ys) = true) := ⟨by rw [HE.out, show k = xs.length by omega, List.drop_length, HLE.out, List.drop_length]; rfl⟩
        clear HE
        go_wp2_with fail
        go_ret
        exact ⟨by rw [HP2.out]; rfl, by repeat (first | exact Drawn0.refl _ | apply Drawn0.step)⟩
  · have hlb : (xs.length == ys.length) = false := by simpa using hl
    have hln : ((xs.length : Int) != (ys.length : Int)) = true := by simp; omega
    have hln2 : (xs.length != ys.length) = true := by simpa using hl
    have HP : Aside0 ((xs == ys) = false) := ⟨by rw [beq_eq_false_iff_ne]; intro e; exact hl (by rw [e])⟩
    clear hl
    go_enter Try.func13, Try.ntmps13
    go_wp2_with fail
    go_ret
    exact ⟨by rw [HP.out]; rfl, Drawn0.refl _⟩
end Go.Proofs.Ytfpjkiokcjbbmaa
