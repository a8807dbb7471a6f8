/- The row of FnExactLeaders: for every input the law returns true, and its arguments read behind the call as before. No condition. -/
import Derived.Test.YtejioaahmgljgaaRows
import Derived.Test.YtejioaahmgljgaaCOpen
import Derived.Test.YtejioaahmgljgaaCLawL
import Derived.WalkKit
import Derived.ProofKit
import Derived.OpenShut
import Derived.ShutString
import Derived.ChangeOld
import Derived.Below
import Derived.SizedLaws
set_option linter.unusedSimpArgs false
set_option linter.unusedVariables false
namespace Go.Ev
open Go
theorem vs_of {w : World} {B : Nat → Prop} {ts : List T} {vs : List Value} (hl : vs.length = ts.length) (h : ∀ (k : Nat) (y : T) (v : Value), ts[k]? = some y → vs[k]? = some v → Rep w B y v)
    (hs : ∀ y ∈ ts, (∃ v, y = .sc v) ∨ ∃ rows, y = .sl false rows) : VS w B (.ag (ts.map AV.t)) (.agg vs.toArray) (fun _ => False) := by
  refine .inr ⟨_, _, rfl, rfl, Fam.of (by simp [hl]) fun k x v h1 h2 => ?_⟩
  rw [List.getElem?_map, Option.map_eq_some_iff] at h1
  obtain ⟨y, hy, rfl⟩ := h1
  have hr := h k y v hy h2
  rcases hs y (List.mem_of_getElem? hy) with ⟨u, rfl⟩ | ⟨rows, rfl⟩
  · cases hr; exact ⟨_, rfl, .sc _ _⟩
  · exact ⟨_, rfl, .sh _ _ _ hr⟩
theorem OpensAt.imp {P : Program} {N : Nat} {t : TypeId} {α : Type} {d : Kt α} {ok ok' : α → Prop} (h : OpensAt P N t d ok) (hok : ∀ x, ok x → ok' x) : OpensAt P N t d ok' := by
  constructor
  intro H enc W base held fuel cs y hf ht
  obtain ⟨x, hk, hx⟩ := h.get enc W base held fuel cs y hf ht
  exact ⟨x, hk, hok x hx⟩
theorem vx_bool {w : World} {B : Nat → Prop} {vs : List Value} {b : Bool} {v : Value} {F : Nat → Prop} (h : VX w B vs (.t (.sc (.bool b))) v F) : v = .bool b := by
  rcases h with ((⟨y, hy, ho⟩ | ⟨cs, us, h, _⟩) | ⟨cs, us, h, _⟩) | ⟨r0, outs, F1, F2, h, _⟩
  · cases hy; cases ho; rfl
  · cases h
  · cases h
  · cases h
theorem vs_int {w : World} {B : Nat → Prop} {k : IntKind} {n : Int} : VS w B (.t (.sc (.int k n))) (.int k n) (fun _ => False) := .inl ⟨_, rfl, .sc _ _⟩
end Go.Ev
namespace Go.Proofs.Ytejioaahmgljgaa.fnExactLeaders
open Go Go.Ev Go.Proofs
open Go.ChangeShapes Go.WideShapes Go.ChangeAt Go.RowKit
theorem own : ownKnob Try.prog.godebug = none := by kernel_rfl
theorem laidOut : laidOutB Try.prog = true := by kernel_rfl
abbrev kI : Kt Int := Kt.int .i64
abbrev kL : Kt (List Int) := Kt.slice kI
abbrev kIns : Kt Ins := Kt.iso (Kt.pair kI (Kt.pair kI (Kt.pair kI (Kt.pair kI (Kt.pair kI (Kt.pair kL kI)))))) fun i => (i.op, i.d, i.x, i.y, i.n, i.l, i.to_)
abbrev kPiece : Kt Piece := Kt.iso (Kt.pair kI (Kt.pair kI (Kt.pair kI (Kt.slice kIns)))) fun p => (p.lam, p.in_, p.regs, p.ins)
theorem max_le : maxLen ≤ 9223372036854775807 := by decide
theorem oInt (n : Nat) : OpensAt Try.prog n 3 kI (fun _ => True) := (opens_int Try.underlying3).imp fun _ _ => trivial
theorem oL (n : Nat) : OpensAt Try.prog (n + 1) 52 kL (fun l => l.length ≤ 9223372036854775807) := (opens_slice Try.underlying52 (by kernel_rfl) (by decide) (oInt n)).imp fun _ h => Nat.le_trans h.1 max_le
theorem oIns (n : Nat) : OpensAt Try.prog (n + 2) 94 kIns Ins.len :=
  (opens_iso (fun x => (⟨x.1, x.2.1, x.2.2.1, x.2.2.2.1, x.2.2.2.2.1, x.2.2.2.2.2.1, x.2.2.2.2.2.2⟩ : Ins)) (fun _ => rfl)
    (opens_struct Try.underlying94 (by kernel_rfl) (from_cons rfl (by kernel_rfl) (oInt _) (from_cons rfl (by kernel_rfl) (oInt _) (from_cons rfl (by kernel_rfl) (oInt _) (from_cons rfl (by kernel_rfl) (oInt _) (from_cons rfl (by kernel_rfl) (oInt _)
      (from_cons rfl (by kernel_rfl) (oL n) (from_one rfl (by kernel_rfl) (oInt _)))))))))).imp fun x h => h.2.2.2.2.2.1
theorem oInsS (n : Nat) : OpensAt Try.prog (n + 3) 23 (Kt.slice kIns) (fun l => l.length ≤ 9223372036854775807 ∧ ∀ i ∈ l, i.len) := (opens_slice Try.underlying23 (by kernel_rfl) (by decide) (oIns n)).imp fun _ h => ⟨Nat.le_trans h.1 max_le, h.2⟩
theorem oPiece (n : Nat) : OpensAt Try.prog (n + 4) 25 kPiece Piece.len :=
  (opens_iso (fun x => (⟨x.1, x.2.1, x.2.2.1, x.2.2.2⟩ : Piece)) (fun _ => rfl)
    (opens_struct Try.underlying25 (by kernel_rfl) (from_cons rfl (by kernel_rfl) (oInt _) (from_cons rfl (by kernel_rfl) (oInt _) (from_cons rfl (by kernel_rfl) (oInt _) (from_one rfl (by kernel_rfl) (oInsS n))))))).imp fun x h => h.2.2.2
theorem calls {W : World} {x0 : Piece} {cs0 : List Value} (hk0 : kPiece.K W x0 cs0) (hl0 : Piece.len x0) : Calls Try.prog 6 #[.agg cs0.toArray] W fun e W' => e = .returned (.bool true) ∧ Below W.heap.size W W' := by
  have h := (Tells.sound (X := XS) tab_ok XS_sound (lawL_t x0 hl0)).2 W [.agg cs0.toArray] (fun b => b < W.heap.size) (fun _ => False) (fun b hb => ⟨hb, fun h => h⟩) (fun _ h => h.elim)
    (.cons _ _ _ _ (fun _ => False) (fun _ => False) _ (vs_of (ts := Piece.c false x0) hk0.1 hk0.2 (by
      intro y hy
      simp only [Piece.c, List.mem_cons, List.not_mem_nil, or_false] at hy
      rcases hy with rfl | rfl | rfl | rfl
      · exact .inl ⟨_, rfl⟩
      · exact .inl ⟨_, rfl⟩
      · exact .inl ⟨_, rfl⟩
      · exact .inr ⟨_, rfl⟩)) (.nil _) (fun _ h => h.elim) (fun _ h => h) (fun _ h => h))
  refine h.mono fun e W' ⟨v, B', F', he, hv, _, _, hkeep⟩ => ?_
  rw [he, vx_bool hv]
  exact ⟨rfl, hkeep.os, hkeep.tape, hkeep.output, hkeep.size, fun k hk => hkeep.block k hk fun h => h⟩
set_option maxRecDepth 100000 in
theorem lifted (os : Os) (started : os.Started) (H : Type) (enc : TypeId × Value → H) :
    ReturnsInHanded {} Try.checked os 6 .any (Rows.fnExactLeadersSpec.pre6 enc Try.prog Try.f6 Rows.fnExactLeadersRow.domain false) (Rows.fnExactLeadersSpec.post enc Try.prog Try.f6 false true false false) := by
  refine returnsInHanded_of_change_sized (C := Try.checked) own started (by kernel_rfl) Try.func6
    (ChangeSpec.witness6 (enc := enc) (C := Try.checked) false ⟨#[], #[.agg #[.int .i64 0, .int .i64 0, .int .i64 0, .slice none 0 0]], []⟩ 8 (by kernel_rfl) (by kernel_rfl) (by kernel_rfl) (by kernel_rfl)) ?_
  intro W base args ds gs before hval0 hW hcnd hsz0 _
  have hval : ∀ (j : Nat) t v, Try.f6.params[j]? = some t → args[j]? = some v → Value.okWide Try.prog W .any base t v := hval0
  have hW' := hW
  obtain ⟨p, q, hA0, hV, rfl, hfz, hnd⟩ := hW
  have hA : DataW.TrodAll enc Try.prog W 0 (fun _ => true) true Try.f6.params.toList args.toList ds p := hA0
  rw [Try.params6] at hA hval
  obtain ⟨v0, vs0, d0, ds0, p0, q0, hargs, rfl, rfl, h0, r0⟩ := trodAll_cons hA
  obtain ⟨rfl, rfl, rfl⟩ := trodAll_nil r0
  obtain rfl : args = #[v0] := by cases args; simp_all
  obtain ⟨rfl, rfl⟩ := trodVars_none hV
  obtain ⟨cs0, rfl, hcs0⟩ := okWide_struct Try.underlying25 (hval 0 25 v0 rfl rfl)
  have k0 := h0
  have lt0 : ∀ x ∈ p0, x.block < W.heap.size := by obtain ⟨m, hm⟩ := k0; exact DataW.trod_lt m _ _ _ hm
  obtain ⟨x0, hk0, ok0⟩ : ∃ x, kPiece.K W x cs0.toList ∧ Piece.len x := by
    obtain ⟨m, hm⟩ := h0
    exact (oPiece m).get enc W _ _ m _ _ (by omega) hm
  refine (calls hk0 ok0).mono fun e W' ⟨he, bel0⟩ => ?_
  have bel : Below W.heap.size W W' := bel0
  subst he
  exact ⟨_, rfl, _, _, _, [], _, [], hW', trodAll_mk1 (shut_bool Try.underlying4 _), (trodAll_cons_mk (Below.trod laidOut (by kernel_rfl) (of_decide_eq_true (by kernel_rfl)) k0 bel lt0) trodAll_mk0), rfl, bel.frame _, fun h => by cases h⟩
theorem over : Rows.fnExactLeadersRow.holds Try.pinned (OpenSpec.ofChange Rows.fnExactLeadersSpec) :=
  OpenClaim.holds_of_wide 6 Try.f6 rfl rfl rfl rfl rfl rfl rfl ⟨rfl, rfl, rfl, rfl, rfl⟩ rfl rfl rfl rfl rfl (by kernel_rfl) Try.func6 (by kernel_rfl)
    (of_decide_eq_true (by kernel_rfl)) (by unfold Func.isWrapper; first | (rw [if_pos (by decide +kernel)]; kernel_rfl) | (rw [if_neg (by decide +kernel)]; exact ⟨rfl, rfl⟩))
    (fun os started H enc _ => lifted os started H enc)
theorem proved : Rows.FnExactLeadersSaid := over
#print axioms proved
end Go.Proofs.Ytejioaahmgljgaa.fnExactLeaders
namespace Go.Proofs.Ytejioaahmgljgaa
/-- The row, under a short name, for the claim. -/
theorem fnExactLeaders_holds : Rows.FnExactLeadersSaid := fnExactLeaders.proved
end Go.Proofs.Ytejioaahmgljgaa
