/- The row of FnExactPure: for every input the law returns true, and each argument reads behind the call as before. No condition. -/
import Derived.Test.YtanobmanpnkccaaRows
import Derived.Test.YtanobmanpnkccaaPureFnExactPure
import Derived.WalkKit
import Derived.ProofKit
import Derived.OpenShut
import Derived.ShutString
import Derived.ChangeOld
import Derived.Below
import Derived.SizedLaws
namespace Go.Proofs.Ytanobmanpnkccaa.fnExactPure
open Go.ChangeShapes Go.WideShapes Go.ChangeAt Go.RowKit Go.Proofs.Ytanobmanpnkccaa.OFnExactPure Go.Proofs.Ytanobmanpnkccaa.Opens Go.Proofs.YtanobmanpnkccaaW.PrintWords
open Go.ChangeMaps (open_string shut_string)
set_option linter.unusedVariables false
theorem own : ownKnob Try.prog.godebug = none := by kernel_rfl
theorem laidOut : laidOutB Try.prog = true := by kernel_rfl
set_option maxRecDepth 100000 in
theorem lifted (os : Os) (started : os.Started) (H : Type) (enc : TypeId × Value → H) :
    ReturnsInHanded {} Try.checked os 8 .any (Rows.fnExactPureSpec.pre6 enc Try.prog Try.f8 Rows.fnExactPureRow.domain false) (Rows.fnExactPureSpec.post enc Try.prog Try.f8 false true false false) := by
  refine returnsInHanded_of_change_sized (C := Try.checked) own started (by kernel_rfl) Try.func8
    (ChangeSpec.witness6 (enc := enc) (C := Try.checked) false ⟨#[], #[.agg #[.int .i64 0, .int .i64 0, .string ByteArray.empty, .string ByteArray.empty, .int .i64 0, .int .i64 0, .slice none 0 0, .slice none 0 0, .slice none 0 0]], []⟩ 8 (by kernel_rfl) (by kernel_rfl) (by kernel_rfl) (by kernel_rfl)) ?_
  intro W base args ds gs before hval0 hW hcnd hsz0 _
  have hval : ∀ (j : Nat) t v, Try.f8.params[j]? = some t → args[j]? = some v → Value.okWide Try.prog W .any base t v := hval0
  have hW' := hW
  obtain ⟨p, q, hA0, hV, rfl, hfz, hnd⟩ := hW
  have hA : DataW.TrodAll enc Try.prog W 0 (fun _ => true) true Try.f8.params.toList args.toList ds p := hA0
  rw [Try.params8] at hA hval
  obtain ⟨v0, vs0, d0, ds0, p0, q0, hargs, rfl, rfl, h0, r0⟩ := trodAll_cons hA
  obtain ⟨rfl, rfl, rfl⟩ := trodAll_nil r0
  obtain rfl : args = #[v0] := by cases args; simp_all
  obtain ⟨rfl, rfl⟩ := trodVars_none hV
  obtain ⟨cs0, rfl, hcs0⟩ := okWide_struct Try.underlying52 (hval 0 52 v0 rfl rfl)
  have k0 := h0
  have lt0 : ∀ x ∈ p0, x.block < W.heap.size := by obtain ⟨m, hm⟩ := k0; exact DataW.trod_lt m _ _ _ hm
  obtain ⟨x0, hk0, ok0⟩ : ∃ x, (k52).K W x cs0.toList ∧ Ok52 x := by
    obtain ⟨m, hm⟩ := h0
    exact (((fun N => (opn52 N))) m).get enc W _ _ _ m _ _ (Nat.le_refl _) hm
  obtain ⟨A0_6, c0_6, A0_7, c0_7, A0_8, c0_8, e0, l0_6, g0_6, l0_7, g0_7, l0_8, g0_8⟩ := k52_open hk0
  obtain rfl := (Array.toArray_toList (xs := cs0)).symm.trans (congrArg List.toArray e0)
  obtain ⟨k, hk⟩ := Pure.FnExactPure x0 ok0
  refine (laws_FnExactPure.calls (k := k) (a0_0 := x0.f0) (a0_1 := x0.f1) (a0_2 := x0.f2) (a0_3 := x0.f3) (a0_4 := x0.f4.f0) (a0_5 := x0.f4.f1) (A0_6 := _) (c0_6 := _) (l0_6 := x0.f4.f2) (hr0_6 := g0_6) (hc0_6 := l0_6) (A0_7 := _) (c0_7 := _) (l0_7 := x0.f5) (hr0_7 := g0_7) (hc0_7 := l0_7) (A0_8 := _) (c0_8 := _) (l0_8 := x0.f6) (hr0_8 := g0_8) (hc0_8 := l0_8) (r := true) (w := W) (h := hk)).mono fun e W' ⟨he, bel0⟩ => ?_
  have bel : Below W.heap.size W W' := bel0
  subst he
  exact ⟨_, rfl, _, _, _, [], _, [], hW', trodAll_mk1 (shut_bool Try.underlying4 _), (trodAll_cons_mk (Below.trod laidOut (by kernel_rfl) (of_decide_eq_true (by kernel_rfl)) k0 bel lt0) trodAll_mk0), rfl, bel.frame _, fun h => by cases h⟩
theorem over : Rows.fnExactPureRow.holds Try.pinned (OpenSpec.ofChange Rows.fnExactPureSpec) :=
  OpenClaim.holds_of_wide 8 Try.f8 rfl rfl rfl rfl rfl rfl rfl ⟨rfl, rfl, rfl, rfl, rfl⟩ rfl rfl rfl rfl rfl (by kernel_rfl) Try.func8 (by kernel_rfl)
    (of_decide_eq_true (by kernel_rfl)) (by unfold Func.isWrapper; first | (rw [if_pos (by decide +kernel)]; kernel_rfl) | (rw [if_neg (by decide +kernel)]; exact ⟨rfl, rfl⟩))
    (fun os started H enc _ => lifted os started H enc)
theorem proved : Rows.FnExactPureSaid := over
#print axioms proved
end Go.Proofs.Ytanobmanpnkccaa.fnExactPure
namespace Go.Proofs.Ytanobmanpnkccaa
/-- The row, under a short name, for the claim. -/
theorem fnExactPure_holds : Rows.FnExactPureSaid := fnExactPure.proved
end Go.Proofs.Ytanobmanpnkccaa
