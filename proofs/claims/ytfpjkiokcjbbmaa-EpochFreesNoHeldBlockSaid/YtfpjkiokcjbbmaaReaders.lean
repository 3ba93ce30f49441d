/- The contract of Readers: the keys of the readers' map, sorted. -/
import Derived.Test.YtfpjkiokcjbbmaaRfFree
import Derived.Test.YtfpjkiokcjbbmaaIter
namespace Go.Proofs.Ytfpjkiokcjbbmaa
open Go.RowKit Go.Maps Go.MapKept Go.Sort Go.Shelf Go.Proofs.YtfpjkiokcjbbmaaW.PrintWords Go.Proofs.YtfpjkiokcjbbmaaW.PrintLast Go.Proofs.YtfpjkiokcjbbmaaW.PrintMore

theorem sortsA (m : Nat) : AnyZI.SortsIn Try.prog Try.sortedA_ren Fence.wide m :=
  ⟨fun blk off cap ss W hH hblk hsz => callsIn_wide.2 (AnyM.slices_Sort_int Try.sortA blk off cap ss W hH hblk hsz),
   fun p cap W => callsIn_wide.2 (AnyM.slices_Sort_int_none Try.sortA p cap W)⟩

def RU : Value → Option (DataW Unit × List MemPlace) := fun _ => some (.nil, [])

theorem own_of_MapOf {α : Type} {ev : α → Value} {w : World} {b : Nat} {l : List (Int × α)} (h : MapOf Try.prog 3 ekI ev w b l) (hl : l.length ≤ maxLen) :
    ∃ D0 : DataW Unit, w.ownsMap Try.prog 3 RU b l.length D0 ∧ Maps.size D0 = l.length ∧ (intKeys D0).Perm (l.map (·.1)) := by
  obtain ⟨es, clk, hb, hs, he, hk, hd⟩ := h
  have hsz : es.size = l.length := by have := congrArg List.length he; simpa using this
  have hkey : ∀ e ∈ es.toList, ∃ x, e.key = ekI x ∧ keyOf Try.prog 3 e.key = some (.int .i64 x) := by
    intro e hm
    have : (e.key, e.val) ∈ es.toList.map fun e => (e.key, e.val) := List.mem_map.2 ⟨e, hm, rfl⟩
    rw [he] at this
    obtain ⟨p, hp, hpe⟩ := List.mem_map.1 this
    have h1 : e.key = ekI p.1 := (congrArg Prod.fst hpe).symm
    obtain ⟨lt, hlt⟩ := hk p hp
    obtain ⟨x, hx1, hx2, _⟩ := Maps.keyOf_i64 Try.underlying3 hlt
    have : p.1 = x := by simpa [ekI, encZ] using hx1
    refine ⟨p.1, h1, ?_⟩
    rw [h1, hlt, hx2, this]
  refine ⟨.map ((es.toList.map (WideElems.rg Try.prog 3 RU)).foldr DataW.insert []), ⟨es, clk, hb, ⟨by omega, hs, fun x hx => ?_⟩, by omega, rfl⟩, ?_, ?_⟩
  · obtain ⟨y, hy, hy2⟩ := hkey x hx
    exact ⟨(.int .i64 y, .nil), by simp [WideElems.rd, hy2, RU]⟩
  · show (List.foldr DataW.insert [] (List.map (WideElems.rg Try.prog 3 RU) es.toList)).length = l.length
    rw [(WideShapes.sorted_perm _).length_eq]
    simp [hsz]
  · show ((List.foldr DataW.insert [] (List.map (WideElems.rg Try.prog 3 RU) es.toList)).map fun p => Go.intOf p.1).Perm _
    refine ((WideShapes.sorted_perm _).map _).trans ?_
    refine List.Perm.of_eq ?_
    rw [List.map_map]
    have h1 : l.map (·.1) = (l.map fun p => (ekI p.1, ev p.2)).map fun q => (match q.1 with | .int _ a => a | _ => 0) := by
      rw [List.map_map]; rfl
    rw [h1, ← he, List.map_map]
    refine List.map_congr_left fun e hm => ?_
    obtain ⟨x, hx1, hx2⟩ := hkey e hm
    have : WideElems.rg Try.prog 3 RU e = (.int .i64 x, .nil) := WideElems.rg_of (by simp [WideElems.rd, hx2, RU])
    simp only [Function.comp_apply, this, hx1, ekI]
    rfl

def srt (l : List Int) : List Int := l.mergeSort fun x y => decide (x ≤ y)

set_option maxHeartbeats 4000000 in
set_option maxRecDepth 100000 in
theorem Readers_calls {w : World} {base p m1 m2 : Nat} {E : Ep} (h : EpAt w base p m1 m2 E) (hlen : E.rd.length ≤ 1000000) :
    Calls Try.prog 17 #[.pointer (some ⟨p, 0, none⟩)] w fun e w' => ∃ v, e = .returned v ∧ dI.Q 3 w' w.heap.size (fun _ => True) v (srt (E.rd.map (·.1))) ∧ Below w.heap.size w w' := by
  obtain ⟨v, c0, c1, c2, c3, hf, hq⟩ := h.cells
  obtain ⟨D0, hown, hsz, hperm⟩ := own_of_MapOf h.2.2.2.2.1 (by simp only [maxLen]; omega)
  have HP := Aside0.mk hperm
  clear c1 c2 c3 hf hq hperm h
  refine (callsIn_wide (n := 6)).1 ?_
  have hbl := hown.lt
  have hseq : SeqGives Fence.wide 2 Try.prog 37 #[.pointer (some ⟨w.heap.size, 0, none⟩)] encZ (fun ss => ss.Perm (intKeys D0)) (Maps.size D0) (w.alloc (.cells #[.map (some m1)] 54)) :=
    AnyZI.keys_gives (ρ := Try.keysA_ren) { Try.keysA with } Fence.wide _ trivial rfl (by omega) w.heap.size m1 E.rd.length D0 _ (by simp) (by simp) (by
      obtain ⟨es, clock, hb, Ft, hs, hD⟩ := hown
      exact ⟨es, clock, (Below.heap_alloc _ _ m1 hbl).trans hb, Ft, hs, hD⟩)
  have cK : ∀ mb W, CallsIn Fence.wide 5 Try.prog 30 #[.map mb] W fun e w' => e = .returned (.func (.func 37) #[] #[.pointer (some ⟨W.heap.size, 0, none⟩)]) ∧ w' = W.alloc (.cells #[.map mb] 54) := fun mb W => AnyZI.keys_in Try.keysA Fence.wide 5 trivial rfl mb W
  have cS := AnyZI.sorted_in Try.sortedA Fence.wide 5 trivial trivial trivial trivial rfl (by omega) (sortsA _) (enters_of Try.func36 (by kernel_rfl) rfl) 37 #[.pointer (some ⟨w.heap.size, 0, none⟩)] trivial (enters_of Try.func37 (by kernel_rfl) rfl) _ _ (by rw [hsz]; simp only [maxLen]; omega) (by rw [hsz]; omega) _ hseq
  change CallsIn _ _ Try.prog 29 _ _ _ at cS
  have hfK : Fence.wide.fn 30 := trivial
  have hfS : Fence.wide.fn 29 := trivial
  clear hsz hseq hown
  refine callsIn_of_wp Try.func17 rfl trivial ?_ rfl
  simp only [Try.ntmps17, List.size_toArray, List.length_cons, List.length_nil, Nat.reduceAdd, Nat.reduceSub, Array.replicate_succ, Array.replicate_zero, List.push_toArray, List.append_toArray, List.nil_append, List.cons_append]
  gi_wp2_with (first
    | (gi_at_call 30; refine (cK _ _).mono ?_; rintro e w' ⟨rfl, rfl⟩)
    | (gi_at_call 29; refine cS.mono ?_; rintro e w' ⟨v, ss, rfl, hS, hrow, hnil, hb⟩))
  go_ret
  refine ⟨v, rfl, ?_, ((Below.refl _ w).alloc (Nat.le_refl _) _).trans (hb.mono (by simp))⟩
  have e1 : ss.mergeSort (fun x y => decide (x ≤ y)) = srt (E.rd.map (·.1)) := mergeSort_of_perm_i (hS.trans HP.out)
  rw [e1] at hrow
  have hl : ss.length = (srt (E.rd.map (·.1))).length := by rw [← e1, List.length_mergeSort]
  rw [hl] at hrow
  exact Kd.Q_lower (Kd.Q_of_R (Kd.R_of_own hrow (fun _ _ => trivial))) (by simp)
end Go.Proofs.Ytfpjkiokcjbbmaa
