/- The arguments of the laws of the epochs, opened by their types. -/
import Derived.Test.YtfpjkiokcjbbmaaRow
import Derived.Test.YtfpjkiokcjbbmaaOpen
import Derived.WalkKit
import Derived.ProofKit
import Derived.OpenShut
import Derived.ShutString
import Derived.ChangeOld
import Derived.Below
import Derived.SizedLaws
namespace Go.Proofs.Ytfpjkiokcjbbmaa
open Go.RowKit Go.Proofs.YtfpjkiokcjbbmaaW.PrintWords
theorem laidOut : laidOutB Try.prog = true := by kernel_rfl
theorem opensI : Opens Try.prog 3 (Kd.int .i64) (fun n => (Lit.int .i64 n).wf = true) := opens_int Try.underlying3 (by kernel_rfl)
theorem opensL : Opens Try.prog 29 (Kd.slice 3 (Kd.int .i64)) (fun l => l.length ≤ maxLen ∧ ∀ x ∈ l, (Lit.int .i64 x).wf = true) := opens_slice Try.underlying29 (by kernel_rfl) opensI
theorem opensC : Opens Try.prog 34 dC Cl.wf :=
  (opens_iso (opens_struct Try.underlying34 (by kernel_rfl) (opens_more rfl opensI rfl (opens_more rfl opensI rfl (opens_one rfl opensL)))) (fun x : Cl => (x.kind, x.a, x.l)) (fun y => ⟨y.1, y.2.1, y.2.2⟩) (fun _ => rfl)).imp
    (fun (y : Cl) (h : (Lit.int .i64 y.kind).wf = true ∧ (Lit.int .i64 y.a).wf = true ∧ y.l.length ≤ maxLen ∧ ∀ x ∈ y.l, (Lit.int .i64 x).wf = true) => ⟨h.1, h.2.1, h.2.2.2⟩)
theorem opensCs : Opens Try.prog 22 (Kd.slice 34 dC) (fun l => l.length ≤ maxLen ∧ ∀ x ∈ l, Cl.wf x) := opens_slice Try.underlying22 (by kernel_rfl) opensC
end Go.Proofs.Ytfpjkiokcjbbmaa
