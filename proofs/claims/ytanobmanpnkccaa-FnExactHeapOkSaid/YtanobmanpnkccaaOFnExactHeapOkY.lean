/- The pure statement of FnExactHeapOk, and what its arguments read as. -/
import Derived.Test.YtanobmanpnkccaaOpens
import Derived.Test.YtanobmanpnkccaaOFnExactHeapOkx4
namespace Go.Proofs.Ytanobmanpnkccaa.OFnExactHeapOk
open Go.RowKit Go.Proofs.YtanobmanpnkccaaW.PrintWords Go.Proofs.YtanobmanpnkccaaW.PrintLast Go.Proofs.YtanobmanpnkccaaW.PrintMore Go.Proofs.Ytanobmanpnkccaa.Opens
set_option linter.unusedVariables false
def Ok65 (x : S65) : Prop := (Lit.int .i64 x.f0).wf = true ∧ (Lit.int .i64 x.f1).wf = true
theorem opn65 : ∀ N, OpensAt Try.prog N 65 k65 Ok65 := fun N =>
  (opens_iso (f := fun x : S65 => (x.f0, x.f1)) (fun y => (⟨y.1, y.2⟩ : S65)) (fun _ => rfl) (opens_struct Try.underlying65 (by kernel_rfl) (from_cons rfl (by kernel_rfl) ((fun _ => opens_int Try.underlying3) N) (from_one rfl (by kernel_rfl) ((fun _ => opens_int Try.underlying3) N))))).mono (Nat.le_succ N) (fun _ h => h)
def Ok42 (x : S42) : Prop := (Lit.int .i64 x.f0).wf = true ∧ (x.f1.length ≤ maxLen ∧ ∀ y ∈ x.f1, Ok65 y)
theorem opn42 : ∀ N, OpensAt Try.prog N 42 k42 Ok42 := fun N =>
  (opens_iso (f := fun x : S42 => (x.f0, x.f1)) (fun y => (⟨y.1, y.2⟩ : S42)) (fun _ => rfl) (opens_struct Try.underlying42 (by kernel_rfl) (from_cons rfl (by kernel_rfl) ((fun _ => opens_int Try.underlying3) N) (from_one rfl (by kernel_rfl) ((fun N => (opens_slice Try.underlying40 (by kernel_rfl) (opn65 N)).mono (Nat.le_succ N) (fun _ h => h)) N))))).mono (Nat.le_succ N) (fun _ h => h)
def laws_FnExactHeapOk.PureO : Prop := ∀ (x0 : S42), Ok42 x0 → ∃ k, laws_FnExactHeapOk.f k x0.f0 x0.f1 = some true
end Go.Proofs.Ytanobmanpnkccaa.OFnExactHeapOk
