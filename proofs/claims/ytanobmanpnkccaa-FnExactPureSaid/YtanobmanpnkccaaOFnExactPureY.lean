/- The pure statement of FnExactPure, and what its arguments read as. -/
import Derived.Test.YtanobmanpnkccaaOpens
import Derived.Test.YtanobmanpnkccaaOFnExactPurex6
namespace Go.Proofs.Ytanobmanpnkccaa.OFnExactPure
open Go.RowKit Go.Proofs.YtanobmanpnkccaaW.PrintWords Go.Proofs.YtanobmanpnkccaaW.PrintLast Go.Proofs.YtanobmanpnkccaaW.PrintMore Go.Proofs.Ytanobmanpnkccaa.Opens
set_option linter.unusedVariables false
inductive Ok49 : S49 → Prop
  | mk (x : S49) (h0 : (Lit.int .i64 x.f0).wf = true) (h1 : (Lit.int .i64 x.f1).wf = true) (h2 : x.f2.length ≤ maxLen) (h2' : ∀ y ∈ x.f2, Ok49 y) : Ok49 x
theorem back49 (w : World) (x : S49) (cs : List Value) (h : (F49 k49).K w x cs) : k49.K w x cs := by
  obtain ⟨_, _, rfl, rfl, ⟨_, _, rfl, rfl, ⟨A2, c2, rfl, l2, g2⟩⟩⟩ := h
  exact k49_mk w x l2 g2
theorem opn49 : ∀ N, OpensAt Try.prog N 49 k49 Ok49 :=
  opens_fix (d := F49 k49) back49 (fun x h => by
    have h' : (Lit.int .i64 x.f0).wf = true ∧ (Lit.int .i64 x.f1).wf = true ∧ (x.f2.length ≤ maxLen ∧ ∀ y ∈ x.f2, Ok49 y) := h
    obtain ⟨h0, h1, ⟨h2, h2'⟩⟩ := h'
    exact ⟨x, h0, h1, h2, h2'⟩) (fun N hN => opens_iso (f := fun x : S49 => (x.f0, x.f1, x.f2)) (fun y => (⟨y.1, y.2.1, y.2.2⟩ : S49)) (fun _ => rfl) (opens_struct Try.underlying49 (by kernel_rfl) (from_cons rfl (by kernel_rfl) ((opens_int Try.underlying3)) (from_cons rfl (by kernel_rfl) ((opens_int Try.underlying3)) (from_one rfl (by kernel_rfl) (((opens_slice Try.underlying47 (by kernel_rfl) hN).mono (Nat.le_succ N) (fun _ h => h))))))))
inductive Ok52 : S52 → Prop
  | mk (x : S52) (h0 : (Lit.int .i64 x.f0).wf = true) (h1 : (Lit.int .i64 x.f1).wf = true) (h2 : x.f2.size ≤ maxLen) (h3 : x.f3.size ≤ maxLen) (h4 : Ok49 x.f4) (h5 : (x.f5.length ≤ maxLen ∧ ∀ y ∈ x.f5, Ok49 y)) (h6 : x.f6.length ≤ maxLen) (h6' : ∀ y ∈ x.f6, Ok52 y) : Ok52 x
theorem back52 (w : World) (x : S52) (cs : List Value) (h : (F52 k52).K w x cs) : k52.K w x cs := by
  obtain ⟨_, _, rfl, rfl, ⟨_, _, rfl, rfl, ⟨_, _, rfl, rfl, ⟨_, _, rfl, rfl, ⟨_, _, rfl, s4, ⟨_, _, rfl, ⟨A7, c7, rfl, l7, g7⟩, ⟨A8, c8, rfl, l8, g8⟩⟩⟩⟩⟩⟩⟩ := h
  obtain ⟨A6, c6, rfl, l6, g6⟩ := k49_open s4
  exact k52_mk w x l6 g6 l7 g7 l8 g8
theorem opn52 : ∀ N, OpensAt Try.prog N 52 k52 Ok52 :=
  opens_fix (d := F52 k52) back52 (fun x h => by
    have h' : (Lit.int .i64 x.f0).wf = true ∧ (Lit.int .i64 x.f1).wf = true ∧ x.f2.size ≤ maxLen ∧ x.f3.size ≤ maxLen ∧ Ok49 x.f4 ∧ (x.f5.length ≤ maxLen ∧ ∀ y ∈ x.f5, Ok49 y) ∧ (x.f6.length ≤ maxLen ∧ ∀ y ∈ x.f6, Ok52 y) := h
    obtain ⟨h0, h1, h2, h3, h4, h5, ⟨h6, h6'⟩⟩ := h'
    exact ⟨x, h0, h1, h2, h3, h4, h5, h6, h6'⟩) (fun N hN => opens_iso (f := fun x : S52 => (x.f0, x.f1, x.f2, x.f3, x.f4, x.f5, x.f6)) (fun y => (⟨y.1, y.2.1, y.2.2.1, y.2.2.2.1, y.2.2.2.2.1, y.2.2.2.2.2.1, y.2.2.2.2.2.2⟩ : S52)) (fun _ => rfl) (opens_struct Try.underlying52 (by kernel_rfl) (from_cons rfl (by kernel_rfl) ((opens_int Try.underlying3)) (from_cons rfl (by kernel_rfl) ((opens_int Try.underlying3)) (from_cons rfl (by kernel_rfl) ((opens_string Try.underlying9)) (from_cons rfl (by kernel_rfl) ((opens_string Try.underlying9)) (from_cons rfl (by kernel_rfl) ((opn49 N)) (from_cons rfl (by kernel_rfl) (((opens_slice Try.underlying47 (by kernel_rfl) (opn49 N)).mono (Nat.le_succ N) (fun _ h => h))) (from_one rfl (by kernel_rfl) (((opens_slice Try.underlying50 (by kernel_rfl) hN).mono (Nat.le_succ N) (fun _ h => h))))))))))))
def laws_FnExactPure.PureO : Prop := ∀ (x0 : S52), Ok52 x0 → ∃ k, laws_FnExactPure.f k x0.f0 x0.f1 x0.f2 x0.f3 x0.f4.f0 x0.f4.f1 x0.f4.f2 x0.f5 x0.f6 = some true
end Go.Proofs.Ytanobmanpnkccaa.OFnExactPure
