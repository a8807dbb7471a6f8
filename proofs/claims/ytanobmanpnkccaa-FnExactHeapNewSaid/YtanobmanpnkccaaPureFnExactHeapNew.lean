/- The program's HeapNew returns what the reference's returns, for all sizes. -/
import Derived.Test.YtanobmanpnkccaaPFnExactHeapNewx2
namespace Go.Proofs.Ytanobmanpnkccaa.Pure
open Go.RowKit Go.Proofs.Ytanobmanpnkccaa.PFnExactHeapNew Go.Proofs.YtanobmanpnkccaaW.PrintWords Go.Proofs.YtanobmanpnkccaaW.PrintLast

theorem FnExactHeapNew : laws_FnExactHeapNew.Pure := by
  intro a0 _
  refine ⟨1, ?_⟩
  have h : ∃ n, spec_HeapNew.f a0 = some (n, []) ∧ impl_HeapNew.f a0 = some (n, []) := by
    unfold spec_HeapNew.f impl_HeapNew.f spec_l1In.f impl_in.f
    by_cases h0 : a0 ≥ 0
    · by_cases h1 : a0 ≤ 5000
      · exact ⟨a0, by simp [h0, h1]⟩
      · exact ⟨0, by simp [h0, h1]⟩
    · exact ⟨0, by simp [h0]⟩
  obtain ⟨n, hs, hi⟩ := h
  unfold laws_FnExactHeapNew.f
  rw [hs, hi]
  simp [laws_eqHeap.f, laws_eqWordS.f, laws_eqWordS.l0, laws_markHeap.f, laws_markWordS.f, laws_markWordS.l0, laws_heldHeap.f, laws_heldWordS.f, laws_heldWordS.l0]

end Go.Proofs.Ytanobmanpnkccaa.Pure
