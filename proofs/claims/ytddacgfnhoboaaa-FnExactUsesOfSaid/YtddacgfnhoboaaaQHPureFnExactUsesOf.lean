-- written by wip/tools/prune.py: what this claim reaches of the print's and our texts
import Derived.Test.YtddacgfnhoboaaaQHUPureTree
import Derived.Test.YtddacgfnhoboaaaQHUPureE
namespace Go.Proofs.Ytddacgfnhoboaaa.Pure
open Go.RowKit Go.Proofs.Ytddacgfnhoboaaa.OFnExactUsesOf Go.Proofs.YtddacgfnhoboaaaW.PrintWords Go.Proofs.YtddacgfnhoboaaaW.PrintLast Go.Proofs.YtddacgfnhoboaaaW.PrintMore
set_option linter.unusedVariables false
set_option linter.unusedSimpArgs false
theorem nd_ty (x : S24) : nd (ty x) ≤ nTy x + 1 := by
  induction x using S24.ind with
  | h a b l ih =>
    simp only [ty, nd, nTy]
    have : ∀ m : List S24, (∀ y ∈ m, nd (ty y) ≤ nTy y + 1) → ndS (tyS m) ≤ m.length + nIn m := by
      intro m
      induction m with
      | nil => intro _; simp [tyS, ndS, nIn]
      | cons y m ihm =>
        intro h
        simp only [tyS, ndS, nIn, List.length_cons]
        have h1 := h y (List.mem_cons_self ..)
        have h2 := ihm (fun z hz => h z (List.mem_cons_of_mem _ hz))
        omega
    have := this l ih
    omega
theorem nm_tm (x : S27) : nm (tm x) ≤ nTm x + 1 := by
  induction x using S27.ind with
  | h a b c d t ts l ih =>
    simp only [tm, nm, nTm]
    have : ∀ m : List S27, (∀ y ∈ m, nm (tm y) ≤ nTm y + 1) → nmS (tmS m) ≤ m.length + nTn m := by
      intro m
      induction m with
      | nil => intro _; simp [tmS, nmS, nTn]
      | cons y m ihm =>
        intro h
        simp only [tmS, nmS, nTn, List.length_cons]
        have h1 := h y (List.mem_cons_self ..)
        have h2 := ihm (fun z hz => h z (List.mem_cons_of_mem _ hz))
        omega
    have := this l ih
    omega
theorem sm_tm (x : S27) : nTm x ≤ 1048576 → Sm (tm x) := by
  induction x using S27.ind with
  | h a b c d t ts l ih =>
    intro hn
    simp only [nTm] at hn
    simp only [tm, Sm]
    have h1 := nd_ty t
    refine ⟨by omega, by omega, by omega, ?_, ?_⟩
    · intro x hx
      rw [tyS_map] at hx
      obtain ⟨z, hz, rfl⟩ := List.mem_map.1 hx
      have h2 := nTy_le hz
      have h3 := nd_ty z
      omega
    · have : ∀ m : List S27, (∀ y ∈ m, nTm y ≤ 1048576 → Sm (tm y)) → (∀ y ∈ m, nTm y ≤ 1048576) → SmS (tmS m) := by
        intro m
        induction m with
        | nil => intro _ _; simp [tmS, SmS]
        | cons y m ihm =>
          intro h k
          simp only [tmS, SmS]
          exact ⟨h y (List.mem_cons_self ..) (k y (List.mem_cons_self ..)), ihm (fun z hz => h z (List.mem_cons_of_mem _ hz)) (fun z hz => k z (List.mem_cons_of_mem _ hz))⟩
      exact this l ih (fun y hy => by have := nTm_le hy; omega)
theorem FnExactUsesOf : laws_FnExactUsesOf.PureO := by
  intro x s hx hs
  by_cases hbig : (s.size : Int) > 1048576
  · refine ⟨0, ?_⟩
    unfold laws_FnExactUsesOf.f
    rw [if_pos hbig]
  obtain ⟨K1, e1⟩ := szTm x hx 1048576 (by omega) (by omega)
  by_cases hc : (nTm x : Int) ≤ 1048576
  · obtain ⟨K2, e2⟩ := toTm x (by omega)
    have hnm := nm_tm x
    obtain ⟨r, ⟨K3, e3⟩, ⟨K4, e4⟩⟩ := usesOf_B s (tm x) (sm_tm x (by omega)) (by omega)
    obtain ⟨K5, e5⟩ := eqTm x (by omega)
    refine ⟨K1 + K2 + K3 + K4 + K5, ?_⟩
    have e1 := e1 (K1 + K2 + K3 + K4 + K5) (by omega)
    have e2 := e2 (K1 + K2 + K3 + K4 + K5) (by omega)
    have e3 := e3 (K1 + K2 + K3 + K4 + K5) (by omega)
    have e4 := e4 (K1 + K2 + K3 + K4 + K5) (by omega)
    have e5 := e5 (K1 + K2 + K3 + K4 + K5) (by omega)
    simp only at e1 e2 e3 e4 e5
    rw [res_neg hc] at e1
    unfold laws_FnExactUsesOf.f
    rw [if_neg hbig, e1, Option.bind_some, if_neg (by omega), e2]
    simp only [Option.bind_some, e3, e4, e5]
    simp
  · refine ⟨K1, ?_⟩
    have e1 := e1 K1 (by omega)
    simp only at e1
    rw [res_m hc] at e1
    unfold laws_FnExactUsesOf.f
    rw [if_neg hbig, e1, Option.bind_some, if_pos (by omega)]
end Go.Proofs.Ytddacgfnhoboaaa.Pure
