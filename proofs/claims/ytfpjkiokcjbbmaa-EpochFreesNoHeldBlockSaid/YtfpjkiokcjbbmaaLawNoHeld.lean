/- PROVED HERE: EpochFreesNoHeldBlock returns true for every input, and its arguments read as they did. No condition. -/
import Derived.Test.YtfpjkiokcjbbmaaRows
import Derived.Test.YtfpjkiokcjbbmaaNoHeld
import Derived.Test.YtfpjkiokcjbbmaaArgs
namespace Go.Proofs.Ytfpjkiokcjbbmaa
open Go.RowKit Go.Proofs.YtfpjkiokcjbbmaaW.PrintWords
theorem u8b' {n : Int} (h : (Lit.int .u8 n).wf = true) : 0 ≤ n ∧ n ≤ 255 := by
  simp [Lit.wf, IntKind.min, IntKind.max, IntKind.signed, IntKind.bits] at h
  omega
theorem opensB : Opens Try.prog 5 (Kd.int .u8) (fun n => (Lit.int .u8 n).wf = true) := opens_int Try.underlying5 (by kernel_rfl)
theorem opensS : Opens Try.prog 48 dS St.wf :=
  (opens_iso (opens_struct Try.underlying48 (by kernel_rfl) (opens_more rfl opensB rfl (opens_more rfl opensB rfl (opens_one rfl opensB)))) (fun x : St => (x.kind, x.a, x.b)) (fun y => ⟨y.1, y.2.1, y.2.2⟩) (fun _ => rfl)).imp
    (fun (y : St) (h : (Lit.int .u8 y.kind).wf = true ∧ (Lit.int .u8 y.a).wf = true ∧ (Lit.int .u8 y.b).wf = true) => ⟨u8b' h.1, u8b' h.2.1, u8b' h.2.2⟩)
theorem opensSs : Opens Try.prog 43 (Kd.slice 48 dS) (fun l => l.length ≤ maxLen ∧ ∀ x ∈ l, St.wf x) := opens_slice Try.underlying43 (by kernel_rfl) opensS
namespace epochFreesNoHeldBlock
open Go.ChangeShapes Go.WideShapes Go.ChangeAt Go.RowKit
open Go.ChangeMaps (open_string shut_string)
set_option linter.unusedVariables false
theorem own : ownKnob Try.prog.godebug = none := by kernel_rfl
set_option maxRecDepth 100000 in
theorem lifted (os : Os) (started : os.Started) (H : Type) (enc : TypeId × Value → H) :
    ReturnsInHanded {} Try.checked os 4 .any (Rows.epochFreesNoHeldBlockSpec.pre6 enc Try.prog Try.f4 Rows.epochFreesNoHeldBlockRow.domain false) (Rows.epochFreesNoHeldBlockSpec.post enc Try.prog Try.f4 false true false false) := by
  refine returnsInHanded_of_change_sized (C := Try.checked) own started (by kernel_rfl) Try.func4
    (ChangeSpec.witness6 (enc := enc) (C := Try.checked) false ⟨#[], #[.slice none 0 0], []⟩ 8 (by kernel_rfl) (by kernel_rfl) (by kernel_rfl) (by kernel_rfl)) ?_
  intro W base args ds gs before hval0 hW hcnd hsz0 _
  have hval : ∀ (j : Nat) t v, Try.f4.params[j]? = some t → args[j]? = some v → Value.okWide Try.prog W .any base t v := hval0
  have hW' := hW
  obtain ⟨p, q, hA0, hV, rfl, hfz, hnd⟩ := hW
  have hA : DataW.TrodAll enc Try.prog W 0 (fun _ => true) true Try.f4.params.toList args.toList ds p := hA0
  rw [Try.params4] at hA hval
  obtain ⟨v0, vs0, d0, ds0, p0, q0, hargs, rfl, rfl, h0, r0⟩ := trodAll_cons hA
  obtain ⟨rfl, rfl, rfl⟩ := trodAll_nil r0
  obtain rfl : args = #[v0] := by cases args; simp_all
  obtain ⟨rfl, rfl⟩ := trodVars_none hV
  obtain ⟨a0, len0, cap0, rfl⟩ := okWide_slice Try.underlying43 (hval 0 43 v0 rfl rfl)
  have k0 := h0
  have lt0 : ∀ x ∈ p0, x.block < W.heap.size := by obtain ⟨m, hm⟩ := k0; exact DataW.trod_lt m _ _ _ hm
  obtain ⟨l, rfl, hcap, hC, hg⟩ := opensSs.arg h0
  clear hA0 hval0 hsz0
  refine (noheld_calls hC hcap hg.2).mono fun e W' ⟨he, bel⟩ => ?_
  subst he
  exact ⟨_, rfl, _, _, _, [], _, [], hW', trodAll_mk1 (shut_bool Try.underlying4 _), (trodAll_cons_mk (Below.trod laidOut (by kernel_rfl) (of_decide_eq_true (by kernel_rfl)) k0 bel lt0) trodAll_mk0), rfl, bel.frame _, fun h => by cases h⟩
theorem over : Rows.epochFreesNoHeldBlockRow.holds Try.pinned (OpenSpec.ofChange Rows.epochFreesNoHeldBlockSpec) :=
  OpenClaim.holds_of_wide 4 Try.f4 rfl rfl rfl rfl rfl rfl rfl ⟨rfl, rfl, rfl, rfl, rfl⟩ rfl rfl rfl rfl rfl (by kernel_rfl) Try.func4 (by kernel_rfl)
    (of_decide_eq_true (by kernel_rfl)) (by unfold Func.isWrapper; first | (rw [if_pos (by decide +kernel)]; kernel_rfl) | (rw [if_neg (by decide +kernel)]; exact ⟨rfl, rfl⟩))
    (fun os started H enc _ => lifted os started H enc)
theorem proved : Rows.EpochFreesNoHeldBlockSaid := over
#print axioms proved
end epochFreesNoHeldBlock
/-- The row, under a short name, for the claim. -/
theorem epochFreesNoHeldBlock_holds : Rows.EpochFreesNoHeldBlockSaid := epochFreesNoHeldBlock.proved
end Go.Proofs.Ytfpjkiokcjbbmaa
