-- written by wip/tools/prune.py: what this claim reaches of the print's and our texts
import Derived.Test.YtddacgfnhoboaaaQHOpens
import Derived.Test.YtddacgfnhoboaaaQHOFnExactUsesOfx16
namespace Go.Proofs.Ytddacgfnhoboaaa.OFnExactUsesOf
open Go.RowKit Go.Proofs.YtddacgfnhoboaaaW.PrintWords Go.Proofs.YtddacgfnhoboaaaW.PrintLast Go.Proofs.YtddacgfnhoboaaaW.PrintMore Go.Proofs.Ytddacgfnhoboaaa.Opens
set_option linter.unusedVariables false
inductive Ok24 : S24 → Prop
  | mk (x : S24) (h0 : (Lit.int .i64 x.f0).wf = true) (h1 : (Lit.int .i64 x.f1).wf = true) (h2 : x.f2.length ≤ maxLen) (h2' : ∀ y ∈ x.f2, Ok24 y) : Ok24 x
theorem back24 (w : World) (x : S24) (cs : List Value) (h : (F24 k24).K w x cs) : k24.K w x cs := by
  obtain ⟨_, _, rfl, rfl, ⟨_, _, rfl, rfl, ⟨A2, c2, rfl, l2, g2⟩⟩⟩ := h
  exact k24_mk w x l2 g2
theorem opn24 : ∀ N, OpensAt Try.prog N 24 k24 Ok24 :=
  opens_fix (d := F24 k24) back24 (fun x h => by
    have h' : (Lit.int .i64 x.f0).wf = true ∧ (Lit.int .i64 x.f1).wf = true ∧ (x.f2.length ≤ maxLen ∧ ∀ y ∈ x.f2, Ok24 y) := h
    obtain ⟨h0, h1, ⟨h2, h2'⟩⟩ := h'
    exact ⟨x, h0, h1, h2, h2'⟩) (fun N hN => opens_iso (f := fun x : S24 => (x.f0, x.f1, x.f2)) (fun y => (⟨y.1, y.2.1, y.2.2⟩ : S24)) (fun _ => rfl) (opens_struct Try.underlying24 (by kernel_rfl) (from_cons rfl (by kernel_rfl) ((opens_int Try.underlying3)) (from_cons rfl (by kernel_rfl) ((opens_int Try.underlying3)) (from_one rfl (by kernel_rfl) (((opens_slice Try.underlying22 (by kernel_rfl) hN).mono (Nat.le_succ N) (fun _ h => h))))))))
inductive Ok27 : S27 → Prop
  | mk (x : S27) (h0 : (Lit.int .i64 x.f0).wf = true) (h1 : (Lit.int .i64 x.f1).wf = true) (h2 : x.f2.size ≤ maxLen) (h3 : x.f3.size ≤ maxLen) (h4 : Ok24 x.f4) (h5 : (x.f5.length ≤ maxLen ∧ ∀ y ∈ x.f5, Ok24 y)) (h6 : x.f6.length ≤ maxLen) (h6' : ∀ y ∈ x.f6, Ok27 y) : Ok27 x
theorem back27 (w : World) (x : S27) (cs : List Value) (h : (F27 k27).K w x cs) : k27.K w x cs := by
  obtain ⟨_, _, rfl, rfl, ⟨_, _, rfl, rfl, ⟨_, _, rfl, rfl, ⟨_, _, rfl, rfl, ⟨_, _, rfl, s4, ⟨_, _, rfl, ⟨A7, c7, rfl, l7, g7⟩, ⟨A8, c8, rfl, l8, g8⟩⟩⟩⟩⟩⟩⟩ := h
  obtain ⟨A6, c6, rfl, l6, g6⟩ := k24_open s4
  exact k27_mk w x l6 g6 l7 g7 l8 g8
theorem opn27 : ∀ N, OpensAt Try.prog N 27 k27 Ok27 :=
  opens_fix (d := F27 k27) back27 (fun x h => by
    have h' : (Lit.int .i64 x.f0).wf = true ∧ (Lit.int .i64 x.f1).wf = true ∧ x.f2.size ≤ maxLen ∧ x.f3.size ≤ maxLen ∧ Ok24 x.f4 ∧ (x.f5.length ≤ maxLen ∧ ∀ y ∈ x.f5, Ok24 y) ∧ (x.f6.length ≤ maxLen ∧ ∀ y ∈ x.f6, Ok27 y) := h
    obtain ⟨h0, h1, h2, h3, h4, h5, ⟨h6, h6'⟩⟩ := h'
    exact ⟨x, h0, h1, h2, h3, h4, h5, h6, h6'⟩) (fun N hN => opens_iso (f := fun x : S27 => (x.f0, x.f1, x.f2, x.f3, x.f4, x.f5, x.f6)) (fun y => (⟨y.1, y.2.1, y.2.2.1, y.2.2.2.1, y.2.2.2.2.1, y.2.2.2.2.2.1, y.2.2.2.2.2.2⟩ : S27)) (fun _ => rfl) (opens_struct Try.underlying27 (by kernel_rfl) (from_cons rfl (by kernel_rfl) ((opens_int Try.underlying3)) (from_cons rfl (by kernel_rfl) ((opens_int Try.underlying3)) (from_cons rfl (by kernel_rfl) ((opens_string Try.underlying9)) (from_cons rfl (by kernel_rfl) ((opens_string Try.underlying9)) (from_cons rfl (by kernel_rfl) ((opn24 N)) (from_cons rfl (by kernel_rfl) (((opens_slice Try.underlying22 (by kernel_rfl) (opn24 N)).mono (Nat.le_succ N) (fun _ h => h))) (from_one rfl (by kernel_rfl) (((opens_slice Try.underlying25 (by kernel_rfl) hN).mono (Nat.le_succ N) (fun _ h => h))))))))))))
def laws_FnExactUsesOf.PureO : Prop := ∀ (x0 : S27) (x1 : ByteArray), Ok27 x0 → x1.size ≤ maxLen → ∃ k, laws_FnExactUsesOf.f k x0.f0 x0.f1 x0.f2 x0.f3 x0.f4.f0 x0.f4.f1 x0.f4.f2 x0.f5 x0.f6 x1 = some true
end Go.Proofs.Ytddacgfnhoboaaa.OFnExactUsesOf
