/- The row of FnExactAlloc: for every input the law returns true, and each argument reads behind the call as before. No condition. -/
import Derived.Test.YtanobmanpnkccaaRows
import Derived.Test.YtanobmanpnkccaaPureFnExactAlloc
import Derived.WalkKit
import Derived.ProofKit
import Derived.OpenShut
import Derived.ShutString
import Derived.ChangeOld
import Derived.Below
import Derived.SizedLaws
namespace Go.Proofs.Ytanobmanpnkccaa.fnExactAlloc
open Go.ChangeShapes Go.WideShapes Go.ChangeAt Go.RowKit Go.Proofs.Ytanobmanpnkccaa.OFnExactAlloc Go.Proofs.Ytanobmanpnkccaa.Opens Go.Proofs.YtanobmanpnkccaaW.PrintWords
open Go.ChangeMaps (open_string shut_string)
set_option linter.unusedVariables false
theorem own : ownKnob Try.prog.godebug = none := by kernel_rfl
theorem laidOut : laidOutB Try.prog = true := by kernel_rfl
set_option maxRecDepth 100000 in
theorem lifted (os : Os) (started : os.Started) (H : Type) (enc : TypeId × Value → H) :
    ReturnsInHanded {} Try.checked os 9 .any (Rows.fnExactAllocSpec.pre6 enc Try.prog Try.f9 Rows.fnExactAllocRow.domain false) (Rows.fnExactAllocSpec.post enc Try.prog Try.f9 false true false false) := by
  refine returnsInHanded_of_change_sized (C := Try.checked) own started (by kernel_rfl) Try.func9
    (ChangeSpec.witness6 (enc := enc) (C := Try.checked) false ⟨#[], #[.agg #[.int .i64 0, .slice none 0 0], .agg #[.int .i64 0, .int .i64 0], .slice none 0 0], []⟩ 8 (by kernel_rfl) (by kernel_rfl) (by kernel_rfl) (by kernel_rfl)) ?_
  intro W base args ds gs before hval0 hW hcnd hsz0 _
  have hval : ∀ (j : Nat) t v, Try.f9.params[j]? = some t → args[j]? = some v → Value.okWide Try.prog W .any base t v := hval0
  have hW' := hW
  obtain ⟨p, q, hA0, hV, rfl, hfz, hnd⟩ := hW
  have hA : DataW.TrodAll enc Try.prog W 0 (fun _ => true) true Try.f9.params.toList args.toList ds p := hA0
  rw [Try.params9] at hA hval
  obtain ⟨v0, vs0, d0, ds0, p0, q0, hargs, rfl, rfl, h0, r0⟩ := trodAll_cons hA
  obtain ⟨v1, vs1, d1, ds1, p1, q1, rfl, rfl, rfl, h1, r1⟩ := trodAll_cons r0
  obtain ⟨v2, vs2, d2, ds2, p2, q2, rfl, rfl, rfl, h2, r2⟩ := trodAll_cons r1
  obtain ⟨rfl, rfl, rfl⟩ := trodAll_nil r2
  obtain rfl : args = #[v0, v1, v2] := by cases args; simp_all
  obtain ⟨rfl, rfl⟩ := trodVars_none hV
  obtain ⟨cs0, rfl, hcs0⟩ := okWide_struct Try.underlying42 (hval 0 42 v0 rfl rfl)
  have k0 := h0
  have lt0 : ∀ x ∈ p0, x.block < W.heap.size := by obtain ⟨m, hm⟩ := k0; exact DataW.trod_lt m _ _ _ hm
  obtain ⟨x0, hk0, ok0⟩ : ∃ x, (k42).K W x cs0.toList ∧ Ok42 x := by
    obtain ⟨m, hm⟩ := h0
    exact (((fun N => (opn42 N))) m).get enc W _ _ _ m _ _ (Nat.le_refl _) hm
  obtain ⟨A0_1, c0_1, e0, l0_1, g0_1⟩ := k42_open hk0
  obtain rfl := (Array.toArray_toList (xs := cs0)).symm.trans (congrArg List.toArray e0)
  obtain ⟨cs1, rfl, hcs1⟩ := okWide_struct Try.underlying65 (hval 1 65 v1 rfl rfl)
  have k1 := h1
  have lt1 : ∀ x ∈ p1, x.block < W.heap.size := by obtain ⟨m, hm⟩ := k1; exact DataW.trod_lt m _ _ _ hm
  obtain ⟨x1, hk1, ok1⟩ : ∃ x, (k65).K W x cs1.toList ∧ Ok65 x := by
    obtain ⟨m, hm⟩ := h1
    exact (((fun N => (opn65 N))) m).get enc W _ _ _ m _ _ (Nat.le_refl _) hm
  have e1 := k65_open hk1
  obtain rfl := (Array.toArray_toList (xs := cs1)).symm.trans (congrArg List.toArray e1)
  obtain ⟨a2, len2, cap2, rfl⟩ := okWide_slice Try.underlying40 (hval 2 40 v2 rfl rfl)
  have k2 := h2
  have lt2 : ∀ x ∈ p2, x.block < W.heap.size := by obtain ⟨m, hm⟩ := k2; exact DataW.trod_lt m _ _ _ hm
  obtain ⟨x2, hk2, ok2⟩ : ∃ x, ((Kd.slice 65 k65)).K W x [.slice a2 len2 cap2] ∧ (x.length ≤ maxLen ∧ ∀ y ∈ x, Ok65 y) := by
    obtain ⟨m, hm⟩ := h2
    exact (((fun N => ((opens_slice Try.underlying40 (by kernel_rfl) (opn65 N)).mono (Nat.le_succ N) (fun _ h => h)))) m).get enc W _ _ _ m _ _ (Nat.le_refl _) hm
  obtain ⟨A2, c2, e2, l2, g2⟩ := hk2
  simp only [List.cons.injEq, Value.slice.injEq, and_true] at e2
  obtain ⟨rfl, rfl, rfl⟩ := e2
  refine (Pure.FnExactAlloc x0 x1 x2 ok0 ok1 ok2 _ _ _ _ W g0_1 l0_1 g2 l2).mono fun e W' ⟨he, bel0⟩ => ?_
  have bel : Below W.heap.size W W' := bel0
  subst he
  exact ⟨_, rfl, _, _, _, [], _, [], hW', trodAll_mk1 (shut_bool Try.underlying4 _), (trodAll_cons_mk (Below.trod laidOut (by kernel_rfl) (of_decide_eq_true (by kernel_rfl)) k0 bel lt0) (trodAll_cons_mk (Below.trod laidOut (by kernel_rfl) (of_decide_eq_true (by kernel_rfl)) k1 bel lt1) (trodAll_cons_mk (Below.trod laidOut (by kernel_rfl) (of_decide_eq_true (by kernel_rfl)) k2 bel lt2) trodAll_mk0))), rfl, bel.frame _, fun h => by cases h⟩
theorem over : Rows.fnExactAllocRow.holds Try.pinned (OpenSpec.ofChange Rows.fnExactAllocSpec) :=
  OpenClaim.holds_of_wide 9 Try.f9 rfl rfl rfl rfl rfl rfl rfl ⟨rfl, rfl, rfl, rfl, rfl⟩ rfl rfl rfl rfl rfl (by kernel_rfl) Try.func9 (by kernel_rfl)
    (of_decide_eq_true (by kernel_rfl)) (by unfold Func.isWrapper; first | (rw [if_pos (by decide +kernel)]; kernel_rfl) | (rw [if_neg (by decide +kernel)]; exact ⟨rfl, rfl⟩))
    (fun os started H enc _ => lifted os started H enc)
theorem proved : Rows.FnExactAllocSaid := over
#print axioms proved
end Go.Proofs.Ytanobmanpnkccaa.fnExactAlloc
namespace Go.Proofs.Ytanobmanpnkccaa
/-- The row, under a short name, for the claim. -/
theorem fnExactAlloc_holds : Rows.FnExactAllocSaid := fnExactAlloc.proved
end Go.Proofs.Ytanobmanpnkccaa
