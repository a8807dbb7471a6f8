/- The pure statement of FnExactAlloc, and what its arguments read as. -/
import Derived.Test.YtanobmanpnkccaaOpens
import Derived.Test.YtanobmanpnkccaaAWalk
namespace Go.Proofs.Ytanobmanpnkccaa.OFnExactAlloc
open Go.RowKit Go.Proofs.YtanobmanpnkccaaW.PrintWords Go.Proofs.YtanobmanpnkccaaW.PrintLast Go.Proofs.YtanobmanpnkccaaW.PrintMore Go.Proofs.Ytanobmanpnkccaa.Opens
set_option linter.unusedVariables false
def Ok65 (x : S65) : Prop := (Lit.int .i64 x.f0).wf = true ∧ (Lit.int .i64 x.f1).wf = true
theorem opn65 : ∀ N, OpensAt Try.prog N 65 k65 Ok65 := fun N =>
  (opens_iso (f := fun x : S65 => (x.f0, x.f1)) (fun y => (⟨y.1, y.2⟩ : S65)) (fun _ => rfl) (opens_struct Try.underlying65 (by kernel_rfl) (from_cons rfl (by kernel_rfl) ((opens_int Try.underlying3)) (from_one rfl (by kernel_rfl) ((opens_int Try.underlying3)))))).mono (Nat.le_succ N) (fun _ h => h)
def Ok42 (x : S42) : Prop := (Lit.int .i64 x.f0).wf = true ∧ (x.f1.length ≤ maxLen ∧ ∀ y ∈ x.f1, Ok65 y)
theorem opn42 : ∀ N, OpensAt Try.prog N 42 k42 Ok42 := fun N =>
  (opens_iso (f := fun x : S42 => (x.f0, x.f1)) (fun y => (⟨y.1, y.2⟩ : S42)) (fun _ => rfl) (opens_struct Try.underlying42 (by kernel_rfl) (from_cons rfl (by kernel_rfl) ((opens_int Try.underlying3)) (from_one rfl (by kernel_rfl) (((opens_slice Try.underlying40 (by kernel_rfl) (opn65 N)).mono (Nat.le_succ N) (fun _ h => h))))))).mono (Nat.le_succ N) (fun _ h => h)
/-- For all arguments that read so the law returns true. -/
def laws_FnExactAlloc.PureO : Prop := ∀ (x0 : S42) (x1 : S65) (x2 : List (S65)), Ok42 x0 → Ok65 x1 → (x2.length ≤ maxLen ∧ ∀ y ∈ x2, Ok65 y) → ∀ (A1 : Option Addr) (c1 : Nat) (A2 : Option Addr) (c2 : Nat) (w : World), Kd.C k65 w A1 x0.f1.length x0.f1 → x0.f1.length ≤ c1 → Kd.C k65 w A2 x2.length x2 → x2.length ≤ c2 →
  Calls Try.prog 9 #[.agg #[.int .i64 x0.f0, .slice A1 x0.f1.length c1], .agg #[.int .i64 x1.f0, .int .i64 x1.f1], .slice A2 x2.length c2] w fun e w' => e = .returned (.bool true) ∧ Below w.heap.size w w'
end Go.Proofs.Ytanobmanpnkccaa.OFnExactAlloc
