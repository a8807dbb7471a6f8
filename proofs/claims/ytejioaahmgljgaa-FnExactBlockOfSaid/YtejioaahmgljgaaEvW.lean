/- An evaluator over trees: what it tells is so (11): calls, operations. -/
import Derived.Test.YtejioaahmgljgaaEvV
set_option linter.unusedVariables false
set_option linter.unusedSimpArgs false
namespace Go.Ev
open Go Go.RowKit

/-- an argument at the end, if it is told -/
def VO (w : World) (B : Nat → Prop) (x : AV) (v : Value) (F : Nat → Prop) : Prop := x = .u ∨ VS w B x v F
/-- a result, and maybe the arguments as they are at the end -/
def VX (w : World) (B : Nat → Prop) (vs : List Value) (r : AV) (v : Value) (F : Nat → Prop) : Prop :=
  VR w B r v F ∨ ∃ r0 outs F1 F2, r = .io (r0 :: outs) ∧ VR w B r0 v F1 ∧ Fam (VO w B) outs vs F2 ∧ (∀ b, F1 b → ¬ F2 b) ∧ (∀ b, F1 b → F b) ∧ (∀ b, F2 b → F b)
theorem VX.mono {w w' : World} {B B' : Nat → Prop} (hB : ∀ b, B b → B' b ∧ w'.heap[b]? = w.heap[b]?) {vs : List Value} {x : AV} {v : Value} {F : Nat → Prop} (h : VX w B vs x v F) (hF : ∀ b, F b → w'.heap[b]? = w.heap[b]?) : VX w' B' vs x v F := by
  rcases h with h | ⟨r0, outs, F1, F2, rfl, h1, h2, h3, h4, h5⟩
  · exact .inl (h.mono hB hF)
  · refine .inr ⟨r0, outs, F1, F2, rfl, h1.mono hB fun b hb => hF b (h4 b hb), h2.imp fun x v G hG hx => ?_, h3, h4, h5⟩
    rcases hx with hx | hx
    · exact .inl hx
    · exact .inr (hx.mono hB fun b hb => hF b (h5 b (hG b hb)))
theorem ownIL_any {w : World} {B B' : Nat → Prop} {cs : List AV} {vs : List Value} {F : Nat → Prop} (h : Fam (VO w B) cs vs F) (ho : AV.own.ownIL cs) : Fam (VO w B') cs vs F := by
  induction h with
  | nil => exact .nil _
  | cons x xs v vs G F' F h hs hd h1 h2 ih =>
    rcases h with rfl | ⟨y, rfl, h⟩ | ⟨ds, us, rfl, rfl, h⟩
    · exact .cons _ _ _ _ G F' F (.inl rfl) (ih ho) hd h1 h2
    · exact .cons _ _ _ _ G F' F (.inr (.inl ⟨y, rfl, h.any ho.1⟩)) (ih ho.2) hd h1 h2
    · exact .cons _ _ _ _ G F' F (.inr (.inr ⟨ds, us, rfl, rfl, ownCL_any h ho.1⟩)) (ih ho.2) hd h1 h2
theorem VX.any {w : World} {B B' : Nat → Prop} {vs : List Value} {x : AV} {v : Value} {F : Nat → Prop} (h : VX w B vs x v F) (ho : x.own) : VX w B' vs x v F := by
  rcases h with h | ⟨r0, outs, F1, F2, rfl, h1, h2, h3, h4, h5⟩
  · exact .inl (h.any ho)
  · rcases h1 with (⟨y, rfl, h1⟩ | ⟨cs, us, rfl, rfl, h1⟩) | ⟨cs, us, rfl, rfl, h1⟩
    · exact .inr ⟨_, outs, F1, F2, rfl, .inl (.inl ⟨y, rfl, h1.any ho.1⟩), ownIL_any h2 ho.2, h3, h4, h5⟩
    · exact .inr ⟨_, outs, F1, F2, rfl, .inl (.inr ⟨cs, us, rfl, rfl, ownCL_any h1 ho.1⟩), ownIL_any h2 ho.2, h3, h4, h5⟩
    · exact .inr ⟨_, outs, F1, F2, rfl, .inr ⟨cs, us, rfl, rfl, ownTL_any h1 ho.1⟩, ownIL_any h2 ho.2, h3, h4, h5⟩

/-- What a call does: in whatever memory its arguments stand (what is shared in blocks of B, what goes for good in blocks of Fin), it returns; nothing that was there has turned, but blocks of Fin. -/
def Sound (P : Program) (f : FuncId) (args : List AV) (r : AV) : Prop :=
  (∃ fn, P.funcs[f]? = some fn ∧ fn.body.isSome = true ∧ (fn.name == "runtime.NumGoroutine") = false) ∧
  ∀ (w : World) (vs : List Value) (B Fin : Nat → Prop), (∀ b, B b → b < w.heap.size ∧ ¬ Fin b) → (∀ b, Fin b → b < w.heap.size) → Fam (VS w B) args vs Fin →
    Calls P f vs.toArray w fun e w' => ∃ v B' F', e = .returned v ∧ VX w' B' vs r v F' ∧ (∀ b, B' b → b < w'.heap.size ∧ ¬ F' b ∧ (B b ∨ Fin b ∨ w.heap.size ≤ b)) ∧ (∀ b, F' b → b < w'.heap.size ∧ (Fin b ∨ w.heap.size ≤ b)) ∧ Keeps Fin w w'

section
variable {P : Program} {tab : Tab} {w0 w : World} {B0 Fin : Nat → Prop} {s s' s1 : St} {a : Act} {g g' : Gh} {Φ : Rel3}

theorem callee_is (F : FR w0 B0 Fin s a w g) {f : Operand} {g0 : FuncId} (h : calleeG s f = some g0) : ∃ caps, a.eval f = .func (.func g0) #[] caps := by
  have hf := F.ev f
  unfold calleeG at h
  split at h
  · rename_i g1 cs hfe
    cases h
    rw [hfe] at hf
    generalize a.eval f = q at hf
    cases hf with
    | t x v hr => cases hr with
      | fn g caps vs hlen hrr => exact ⟨_, rfl⟩
  · rename_i g1 cs hfe
    cases h
    rw [hfe] at hf
    generalize a.eval f = q at hf
    cases hf with
    | fn f cs vs hl hr => exact ⟨_, rfl⟩
  · cases h

theorem calleeAV_sound (F : FR w0 B0 Fin s a w g) {f : Operand} {g0 : FuncId} {cs : List AV} (h : calleeAV s f = some (g0, cs)) (G : Nat → Prop) :
    ∃ caps, a.eval f = .func (.func g0) #[] caps ∧ Fam (VS w (used g s)) cs caps.toList G ∧ ((s.ev f).plain = true → Fam (VS w g.B) cs caps.toList G) := by
  have hf := F.ev f
  unfold calleeAV at h
  split at h
  · rename_i g1 caps0 hfe
    split at h
    case h_2 => cases h
    rename_i l hl
    cases h
    rw [hfe] at hf ⊢
    generalize a.eval f = q at hf
    cases hf with
    | t x v hr => cases hr with
      | fn g2 caps vs hlen hrr =>
        obtain ⟨hll, hk⟩ := mapS_eq hl
        have key : Fam (VS w g.B) cs vs G := by
          refine .of (by rw [hll]; exact hlen) ?_
          intro k y v hy hv
          have hkl := nth_lt hy
          rw [hll] at hkl
          obtain ⟨z, hz, hs⟩ := hk k _ (List.getElem?_eq_getElem hkl)
          rw [hy] at hz; cases hz
          exact .inl (snapC_plain rfl hs (.t _ _ (hrr k _ v (List.getElem?_eq_getElem hkl) hv)) _)
        exact ⟨vs.toArray, rfl, key.imp fun x v G' _ hx => hx.mono (fun b hb => ⟨.inl hb, rfl⟩) fun _ _ => rfl, fun _ => key⟩
  · rename_i g1 caps0 hfe
    split at h
    case h_2 => cases h
    rename_i l hl
    cases h
    rw [hfe] at hf ⊢
    generalize a.eval f = q at hf
    cases hf with
    | fn f cs vs hlen hr =>
      refine ⟨vs.toArray, rfl, ?_, fun hp => by simp [AV.plain, plC] at hp⟩
      have := snaps_sound F hl ⟨hlen, hr⟩ G
      exact this.imp fun x v G' _ hx => .inl hx
  · cases h

/-- what goes to a call -/
theorem argsAV_sound (F : FR w0 B0 Fin s a w g) {md : Modes} {f : Operand} {args : List Operand} {gg : FuncId} {as : List AV} (h : argsAV md s f args = some (gg, as, s1)) :
    FR w0 B0 Fin s1 a w g ∧ Subs s s1 ∧ ∃ caps, a.eval f = .func (.func gg) #[] caps ∧ Fam (VS w (used g s1)) as (args.map a.eval ++ caps.toList) (Freed w0 w Fin g s s1) ∧
      (argsPlain md s1 f args gg = true → Fam (VS w g.B) as (args.map a.eval ++ caps.toList) (Freed w0 w Fin g s s1)) := by
  unfold argsAV at h
  split at h
  case h_2 => cases h
  rename_i g0 hg0
  split at h
  case h_2 => cases h
  rename_i as' s2 hm
  split at h
  case h_2 => cases h
  rename_i gg' caps0 hc
  split at h
  case h_2 => cases h
  rename_i l hl
  cases h
  have e := appS_eq hl; subst e
  obtain ⟨F1, hs1, hf, hp⟩ := moves_sound F hm
  obtain ⟨caps, he, hcf, hcp⟩ := calleeAV_sound F1 hc (fun _ => False)
  obtain ⟨caps', he'⟩ := callee_is F hg0
  rw [he] at he'
  have hgg : gg = g0 := by simp at he'; exact he'.1
  refine ⟨F1, hs1, caps, he, hf.app hcf (fun _ _ h => h) (fun b hb => hb) (fun _ h => h.elim), fun hpl => ?_⟩
  unfold argsPlain at hpl
  split at hpl
  · rename_i hpf
    exact (hp (by rw [← hgg]; exact hpl)).app (hcp hpf) (fun _ _ h => h) (fun b hb => hb) (fun _ h => h.elim)
  · cases hpl

theorem isCall_is {o : Op} {f : Operand} {args : Array Operand} (h : isCall o = some (f, args)) : ∃ tys, o = .call { callee := .value f, args := args, argTypes := tys } := by
  unfold isCall at h
  split at h
  · cases h; exact ⟨_, rfl⟩
  · cases h

/-- a call -/
theorem call_sound (hΦ : ∀ f as r, Φ f as r → Sound P f as r) {Q : Exit → Act → World → Prop} {o : Oper} {K' : Act → World → Prop} {md : Modes} {f : Operand} {args : Array Operand} {gg : FuncId} {as : List AV} {r : AV}
    (hc : isCall o.op = some (f, args)) (F : FR w0 B0 Fin s a w g) (ha : argsAV md s f args.toList = some (gg, as, s1)) (hr : Φ gg as r) (hp : argsPlain md s1 f args.toList gg = true ∨ r.own)
    (hk : ∀ v w' g' G vs cs, vs = args.toList.map a.eval ++ cs → FR w0 B0 Fin s1 a w' g' → VX w' g'.B vs r v G → Take w0 w' Fin g' s1 G → (∀ b, g.B b → g'.B b ∧ w'.heap[b]? = w.heap[b]?) → K' (a.put o.dst v) w') : o.wp P a w K' Q := by
  obtain ⟨F1, hs1, caps, hf, hfam, hfamp⟩ := argsAV_sound F ha
  obtain ⟨⟨fn, hfn, hbody, hname⟩, hs⟩ := hΦ _ _ _ hr
  obtain ⟨tys, ho⟩ := isCall_is hc
  have hrun : (execOp a.eval o).run P w = .ok (.enter gg ((args.toList.map a.eval ++ caps.toList).toArray)) w := by
    have hb : fn.body ≠ none := by intro h; simp [h] at hbody
    have hn : ¬ fn.name = "runtime.NumGoroutine" := by simpa using hname
    have e : (args.toList.map a.eval ++ caps.toList).toArray = args.map a.eval ++ caps := by apply Array.ext'; simp
    rw [e]
    simp [execOp, ho, resolve, hf, Deferred.ofValue, invoke, callFunc, hfn, hn, hb]
  unfold Oper.wp
  rw [hrun]
  rw [Oper.upon_enter]
  let Fc := Freed w0 w Fin g s s1
  have key : ∀ B : Nat → Prop, (∀ b, B b → used g s1 b) → Fam (VS w B) as (args.toList.map a.eval ++ caps.toList) Fc → (∀ w' B' r' F' v, VX w' B' (args.toList.map a.eval ++ caps.toList) r v F' → (∀ b, B' b → b < w'.heap.size ∧ ¬ F' b ∧ (B b ∨ Fc b ∨ w.heap.size ≤ b)) → r' = r →
      ∃ B2 : Nat → Prop, VX w' (fun b => g.B b ∨ B2 b) (args.toList.map a.eval ++ caps.toList) r v F' ∧ ∀ b, B2 b → ¬ F' b ∧ b < w'.heap.size ∧ (g.B b ∨ Fc b ∨ w.heap.size ≤ b)) →
      Calls P gg (args.toList.map a.eval ++ caps.toList).toArray w fun e w' => ∃ v, e = .returned v ∧ K' (a.put o.dst v) w' := by
    intro B hB hfa hres
    refine (hs w _ B Fc (fun b hb => ⟨F1.used_lt (hB b hb), fun hf => hf.2.2.1 (hB b hb)⟩) (fun b hb => hb.1) hfa).mono ?_
    rintro e w' ⟨v, B', F', rfl, hvr, hB', hF', hkp⟩
    obtain ⟨B2, hvr2, hB2⟩ := hres w' B' r F' v hvr hB' rfl
    have hu : ∀ b, used g s1 b → w'.heap[b]? = w.heap[b]? := fun b hb => hkp.block b (F1.used_lt hb) fun hf => hf.2.2.1 hb
    have F2 := F1.world hkp.size hu (F1.kp.step hkp fun b hb hf => by
      rcases hf.2.1 with h | h
      · exact h
      · omega)
    have F3 := F2.grow B2 fun b hb => by
      obtain ⟨_, h2, h3⟩ := hB2 b hb
      refine ⟨h2, ?_, ?_⟩
      · rcases h3 with h3 | h3 | h3
        · exact (F1.bb b h3).2
        · exact .inr h3.2.1
        · exact .inr (.inr (Nat.le_trans F1.kp.size h3))
      · rcases h3 with h3 | h3 | h3
        · exact .inl h3
        · exact .inr h3.2.2.1
        · exact .inr fun hu' => by have := F1.used_lt hu'; omega
    refine ⟨v, rfl, hk v w' _ F' _ caps.toList rfl F3 hvr2 ?_ (fun b hb => ⟨.inl hb, hu b (.inl hb)⟩)⟩
    intro b hb
    obtain ⟨h1, h2⟩ := hF' b hb
    refine ⟨h1, ?_, ?_⟩
    · rcases h2 with h2 | h2
      · exact h2.2.1
      · exact .inr (Nat.le_trans F1.kp.size h2)
    · intro hu'
      have hu1 : used g s1 b ∨ B2 b := by
        rcases hu' with (h | h) | h
        · exact .inl (.inl h)
        · exact .inr h
        · exact .inl (.inr h)
      rcases hu1 with hu1 | hu1
      · rcases h2 with h2 | h2
        · exact h2.2.2.1 hu1
        · have := F1.used_lt hu1; omega
      · exact (hB2 b hu1).1 hb
  by_cases hpl : argsPlain md s1 f args.toList gg = true
  · refine (key g.B (fun b hb => .inl hb) (hfamp hpl) ?_).mono (by rintro e w' ⟨v, rfl, h⟩; exact h)
    intro w' B' r' F' v hvr hB' _
    exact ⟨B', hvr.mono (fun b hb => ⟨.inr hb, rfl⟩) fun _ _ => rfl, fun b hb => ⟨(hB' b hb).2.1, (hB' b hb).1, (hB' b hb).2.2⟩⟩
  · have hown : r.own := by
      rcases hp with h1 | h1
      · exact absurd h1 hpl
      · exact h1
    refine (key (used g s1) (fun b hb => hb) hfam ?_).mono (by rintro e w' ⟨v, rfl, h⟩; exact h)
    intro w' B' r' F' v hvr hB' _
    exact ⟨fun _ => False, hvr.any hown, fun b hb => hb.elim⟩

theorem putT_parts {s s' : St} {d : Nat} {v : AV} (h : s.putT (some d) v = some s') : s'.h = s.h ∧ s'.o = s.o ∧ s'.n = s.n ∧ d < s.n ∧ ∀ k, lk s'.t k = if d = k then some v else lk s.t k := by
  obtain ⟨t, hh, o, n⟩ := s
  simp only [St.putT] at h
  split at h
  · rename_i hb
    split at h
    · rename_i y hy
      have := fA_eq hy; subst this
      split at h
      · rename_i t' hp
        cases h
        exact ⟨rfl, rfl, rfl, by simpa using hb, lk_pu hp⟩
      · cases h
    · cases h
  · cases h
/-- a root anew: what is told stays told -/
theorem newRoot_all (F : FR w0 B0 Fin s a w g) {id : Nat} {q : QV} {rows : List (List T)} {v : Value} {sz : Nat} {G : Nat → Prop} (h : s.putO id q rows = some s') (hf : lk s.o id = none) (hr : Root w g.B q.n rows v sz G) (hG : Take w0 w Fin g s G) (hq : ∀ u, q.v = some u → v = u) :
    ∃ g', FR w0 B0 Fin s' a w g' ∧ g'.B = g.B ∧ g'.rv id = v ∧ (∀ x u, CR w g s.h s.o x u → CR w g' s'.h s'.o x u) ∧ (∀ b, used g' s' b → used g s b ∨ G b) ∧ lk s'.o id = some (q, rows) := by
  obtain ⟨e1, e2, e3, e4⟩ := putO_parts h
  have hne : ∀ i c, lk s.o i = some c → i ≠ id := fun i c hi e => by subst e; rw [hf] at hi; cases hi
  refine ⟨_, F.newRoot h hf hr hG hq, rfl, upd_same _ _ _, ?_, ?_, by rw [e4, if_pos rfl]⟩
  · intro x u hx
    exact hx.mono (w' := w) (g' := { g with rv := upd g.rv id v, sz := upd g.sz id sz, fo := upd g.fo id G }) (h' := s'.h) (o' := s'.o) (fun b hb => ⟨hb, rfl⟩)
      (fun i cs _ h1 => ⟨⟨cs, by rw [e2]; exact h1⟩, rfl⟩) (fun i r _ h1 => ⟨⟨r, by rw [e4, if_neg (Ne.symm (hne i r h1))]; exact h1, rfl⟩, upd_other _ _ (hne i r h1), upd_other _ _ (hne i r h1)⟩)
      (fun i r b _ h1 h2 _ => ⟨by show upd g.fo id G i b; rw [upd_other _ _ (hne i r h1)]; exact h2, rfl⟩)
  · rintro b (hb | ⟨i, c, hi, rfl⟩ | ⟨j, r, hj, hb⟩)
    · exact .inl (.inl hb)
    · rw [e2] at hi; exact .inl (.inr (.inl ⟨i, c, hi, rfl⟩))
    · by_cases hj' : j = id
      · subst hj'; simp only [upd_same] at hb; exact .inr hb
      · rw [e4, if_neg (Ne.symm hj')] at hj
        simp only [upd_other _ _ hj'] at hb
        exact .inl (.inr (.inr ⟨j, r, hj, hb⟩))

theorem free_none {s : St} {d : Nat} (h : s.free d = true) : lk s.o d = none := by
  unfold St.free at h
  split at h
  · cases h
  · split at h
    · cases h
    · rename_i h2; exact h2

/-- what comes back -/
def Back (w0 : World) (B0 Fin : Nat → Prop) (a : Act) (w' : World) (g1 : Gh) (s1 s2 : St) (G : Nat → Prop) (g2 : Gh) : Prop :=
  FR w0 B0 Fin s2 a w' g2 ∧ g2.B = g1.B ∧ (∀ y u, CR w' g1 s1.h s1.o y u → CR w' g2 s2.h s2.o y u) ∧ ∀ b, used g2 s2 b → used g1 s1 b ∨ G b

theorem reC_sound (F0 : FR w0 B0 Fin s a w g) {w' : World} {g1 : Gh} {s2 : St} (F : FR w0 B0 Fin s1 a w' g1) (hB : ∀ b, g.B b → g1.B b ∧ w'.heap[b]? = w.heap[b]?) {x o : AV} {v : Value} {G : Nat → Prop} (hx : CR w g s.h s.o x v) (ho : VC w' g1.B o v G) (hG : Take w0 w' Fin g1 s1 G)
    (h : reC s s1 x o = some s2) : ∃ g2, Back w0 B0 Fin a w' g1 s1 s2 G g2 ∧ CR w' g2 s2.h s2.o x v := by
  obtain ⟨y, rfl, ho⟩ := ho
  unfold reC at h
  split at h
  · rename_i id
    simp only at h
    split at h
    case h_2 => cases h
    rename_i rows
    split at h
    case h_2 => cases h
    rename_i q r0 hq
    split at h
    case h_2 => cases h
    rename_i hf
    obtain ⟨sz, hr⟩ := ho.root
    cases hx with
    | rf _ rows' hi =>
      obtain ⟨g2, f1, f2, f3, f4, f5, f6⟩ := newRoot_all F h (free_none hf) hr hG (fun u hu => F0.tv id _ u hq hu)
      exact ⟨g2, ⟨f1, f2, f4, f5⟩, by rw [← f3]; exact .rf id _ f6⟩
  · cases h
    cases hx with
    | t x v hr => exact ⟨g1, ⟨F, rfl, fun _ _ h => h, fun _ h => .inl h⟩, .t _ _ (hr.mono hB)⟩
  · cases h

theorem reL_sound (F0 : FR w0 B0 Fin s a w g) {w' : World} : ∀ {xs os : List AV} {vs : List Value} {g1 : Gh} {s1 s2 : St} {G : Nat → Prop}, FR w0 B0 Fin s1 a w' g1 → (∀ b, g.B b → g1.B b ∧ w'.heap[b]? = w.heap[b]?) → CRs w g s.h s.o xs vs → Fam (VC w' g1.B) os vs G → Take w0 w' Fin g1 s1 G →
    reL s s1 xs os = some s2 → ∃ g2, Back w0 B0 Fin a w' g1 s1 s2 G g2 ∧ CRs w' g2 s2.h s2.o xs vs := by
  intro xs
  induction xs with
  | nil =>
    intro os vs g1 s1 s2 G F hB hx ho hG h
    cases os with
    | nil =>
      rw [reL] at h; cases h
      exact ⟨g1, ⟨F, rfl, fun _ _ h => h, fun _ h => .inl h⟩, hx.1, fun k x v hk => by simp at hk⟩
    | cons => simp [reL] at h
  | cons x xs ih =>
    intro os vs g1 s1 s2 G F hB hx ho hG h
    cases os with
    | nil => simp [reL] at h
    | cons o os =>
      rw [reL] at h
      split at h
      case h_2 => cases h
      rename_i s3 h1
      cases ho with
      | cons _ _ v us G1 G2 _ ho hos hd hs1 hs2 =>
        obtain ⟨v', us', e, hx1, hxs⟩ := hx.head
        cases e
        obtain ⟨g3, ⟨f1, f2, f3, f4⟩, c1⟩ := reC_sound F0 F hB hx1 ho (hG.sub hs1) h1
        have hG3 : Take w0 w' Fin g3 s3 G2 := fun b hb => ⟨(hG b (hs2 b hb)).1, (hG b (hs2 b hb)).2.1, fun hu => by
          rcases f4 b hu with h' | h'
          · exact (hG b (hs2 b hb)).2.2 h'
          · exact hd b h' hb⟩
        obtain ⟨g4, ⟨e1, e2, e3, e4⟩, c2⟩ := ih f1 (by rw [f2]; exact hB) hxs (by rw [f2]; exact hos) hG3 h
        refine ⟨g4, ⟨e1, e2.trans f2, fun y u hy => e3 y u (f3 y u hy), fun b hb => ?_⟩, .cons (e3 _ _ c1) c2⟩
        rcases e4 b hb with h' | h'
        · rcases f4 b h' with h'' | h''
          · exact .inl h''
          · exact .inr (hs1 b h'')
        · exact .inr (hs2 b h')

theorem reA_sound (F0 : FR w0 B0 Fin s a w g) {w' : World} {g1 : Gh} {s2 : St} (F : FR w0 B0 Fin s1 a w' g1) (hB : ∀ b, g.B b → g1.B b ∧ w'.heap[b]? = w.heap[b]?) {x o : AV} {v : Value} {G : Nat → Prop} (hx : CR w g s.h s.o x v) (ho : VS w' g1.B o v G) (hG : Take w0 w' Fin g1 s1 G)
    (h : reA s s1 x o = some s2) : ∃ g2, Back w0 B0 Fin a w' g1 s1 s2 G g2 ∧ CR w' g2 s2.h s2.o x v := by
  unfold reA at h
  split at h
  · rename_i cs
    split at h
    case h_2 => cases h
    rename_i os
    rcases ho with ⟨y, e, _⟩ | ⟨cs', vs, e, rfl, ho⟩
    · cases e
    · cases e
      cases hx with
      | ag _ vs' hl hr =>
        rename_i hv
        obtain ⟨g2, b1, b2⟩ := reL_sound F0 F hB ⟨hl, hr⟩ ho hG h
        exact ⟨g2, b1, .ag _ _ b2.1 b2.2⟩
  · rcases ho with ho | ⟨cs', vs, rfl, rfl, ho⟩
    · exact reC_sound F0 F hB hx ho hG h
    · unfold reC at h
      split at h
      · cases h
      · cases h
        cases hx with
        | t x v hr => exact ⟨g1, ⟨F, rfl, fun _ _ h => h, fun _ h => .inl h⟩, .t _ _ (hr.mono hB)⟩
      · cases h

theorem rfIn_mem {id : Nat} : ∀ {cs : List AV}, rfIn id cs = true → ∃ m : Nat, cs[m]? = some (.rf id) := by
  intro cs
  induction cs with
  | nil => intro h; cases h
  | cons x cs ih =>
    intro h
    unfold rfIn at h
    split at h
    · rename_i i
      split at h
      · rename_i hb; have := beq_t hb; subst this; exact ⟨0, rfl⟩
      · obtain ⟨m, hm⟩ := ih h; exact ⟨m + 1, by simpa using hm⟩
    · obtain ⟨m, hm⟩ := ih h; exact ⟨m + 1, by simpa using hm⟩
theorem isBack_val {w' : World} {g1 : Gh} {s1 : St} {x : AV} {u : Value} {i : Nat} (h : isBack x i = true) (h0 : CR w g s.h s.o x u) (h1 : CR w' g1 s1.h s1.o x u) : g1.rv i = g.rv i ∧ ∃ r, lk s1.o i = some r := by
  unfold isBack at h
  split at h
  · have := beq_t h; subst this
    cases h0 with
    | rf _ rows hi =>
      generalize hz : g.rv _ = z at h1
      cases h1 with
      | rf _ rows' hi' => exact ⟨rfl, _, hi'⟩
  · rename_i cs
    obtain ⟨m, hm⟩ := rfIn_mem h
    cases h0 with
    | ag _ vs hl hr =>
      generalize hz : Value.agg _ = z at h1
      cases h1 with
      | ag _ vs' hl' hr' =>
        cases hz
        have hlt : m < vs.length := by have := nth_lt hm; omega
        have a1 := hr m _ _ hm (List.getElem?_eq_getElem hlt)
        have a2 := hr' m _ _ hm (List.getElem?_eq_getElem hlt)
        generalize hz : vs[m] = z at a1 a2
        cases a1 with
        | rf _ rows hi =>
          generalize hz2 : g.rv i = z2 at a2
          cases a2 with
          | rf _ rows' hi' => exact ⟨rfl, _, hi'⟩
  · cases h
theorem reSlots_sound {w' : World} {g1 : Gh} {x : AV} {t : List (Nat × AV)} : ∀ {l : List (Nat × AV)} {s1 s2 : St}, FR w0 B0 Fin s1 a w' g1 → (∀ k i, lk t k = some (.rf i) → isBack x i = true → ∃ v, a.tmps[k]? = some v ∧ v = g1.rv i ∧ ∃ r, lk s1.o i = some r) →
    reSlots x t l s1 = some s2 → FR w0 B0 Fin s2 a w' g1 ∧ s2.h = s1.h ∧ s2.o = s1.o := by
  intro l
  induction l with
  | nil => intro s1 s2 F _ h; rw [reSlots] at h; cases h; exact ⟨F, rfl, rfl⟩
  | cons p l ih =>
    obtain ⟨k, y0⟩ := p
    intro s1 s2 F hq h
    rw [reSlots] at h
    split at h
    · rename_i y hy
      split at h
      · rename_i i
        split at h
        · rename_i hb
          split at h
          · rename_i s3 h3
            obtain ⟨v, hv, e, r, hr⟩ := hq k i hy hb
            subst e
            obtain ⟨e1, e2, e3, e4, e5⟩ := putT_parts h3
            have F3 := F.retell hv h3 (.rf i r hr)
            obtain ⟨a1, a2, a3⟩ := ih F3 (fun k' i' h1 h2 => by rw [e2]; exact hq k' i' h1 h2) h
            exact ⟨a1, a2.trans e1, a3.trans e2⟩
          · cases h
        · exact ih F hq h
      · exact ih F hq h
    · exact ih F hq h

theorem putOuts_sound (F0 : FR w0 B0 Fin s a w g) {w' : World} : ∀ {os : List AV} {xs : List Operand} {vs cs : List Value} {g1 : Gh} {s1 s2 : St} {G : Nat → Prop}, FR w0 B0 Fin s1 a w' g1 → (∀ b, g.B b → g1.B b ∧ w'.heap[b]? = w.heap[b]?) → vs = xs.map a.eval ++ cs → Fam (VO w' g1.B) os vs G → Take w0 w' Fin g1 s1 G →
    putOuts s s1 xs os = some s2 → ∃ g2, Back w0 B0 Fin a w' g1 s1 s2 G g2 ∨ (FR w0 B0 Fin s2 a w' g2 ∧ g2.B = g1.B ∧ ∀ b, used g2 s2 b → used g1 s1 b ∨ G b) := by
  intro os
  induction os with
  | nil => intro xs vs cs g1 s1 s2 G F hB hvs ho hG h; rw [putOuts] at h; cases h; exact ⟨g1, .inl ⟨F, rfl, fun _ _ h => h, fun _ h => .inl h⟩⟩
  | cons o os ih =>
    intro xs vs cs g1 s1 s2 G F hB hvs ho hG h
    cases ho with
    | cons _ _ v us G1 G2 _ ho hos hd hs1 hs2 =>
      cases xs with
      | nil =>
        rw [putOuts] at h
        split at h
        · obtain ⟨g2, hg⟩ := ih (xs := []) (cs := us) F hB rfl hos (hG.sub hs2) h
          refine ⟨g2, .inr ?_⟩
          rcases hg with ⟨a1, a2, _, a4⟩ | ⟨a1, a2, a4⟩
          · exact ⟨a1, a2, fun b hb => (a4 b hb).imp id (hs2 b)⟩
          · exact ⟨a1, a2, fun b hb => (a4 b hb).imp id (hs2 b)⟩
        · cases h
      | cons x xs =>
        simp only [List.map_cons, List.cons_append, List.cons.injEq] at hvs
        obtain ⟨rfl, rfl⟩ := hvs
        by_cases hu : isU o = true
        · have h : putOuts s s1 xs os = some s2 := by
            cases x <;> (rw [putOuts] at h <;> first | (simp only [hu] at h; exact h) | (intro k hk; cases hk))
          obtain ⟨g2, hg⟩ := ih F hB rfl hos (hG.sub hs2) h
          refine ⟨g2, .inr ?_⟩
          rcases hg with ⟨a1, a2, _, a4⟩ | ⟨a1, a2, a4⟩
          · exact ⟨a1, a2, fun b hb => (a4 b hb).imp id (hs2 b)⟩
          · exact ⟨a1, a2, fun b hb => (a4 b hb).imp id (hs2 b)⟩
        · have hu' : isU o = false := by simpa using hu
          have hx : ∃ k, x = .tmp k := by
            cases x with
            | tmp k => exact ⟨k, rfl⟩
            | const _ => rw [putOuts] at h <;> first | (simp only [hu'] at h; cases h) | (intro k hk; cases hk)
            | global _ => rw [putOuts] at h <;> first | (simp only [hu'] at h; cases h) | (intro k hk; cases hk)
            | func _ => rw [putOuts] at h <;> first | (simp only [hu'] at h; cases h) | (intro k hk; cases hk)
          obtain ⟨k, rfl⟩ := hx
          rw [putOuts] at h
          simp only [hu'] at h
          split at h
          case h_2 => cases h
          rename_i s3 h3
          split at h
          case h_2 => cases h
          rename_i s4' h4
          split at h
          case h_2 => cases h
          rename_i s4 hre
          have ho' : VS w' g1.B o (a.eval (.tmp k)) G1 := by
            rcases ho with rfl | ho
            · simp [isU] at hu
            · exact ho
          obtain ⟨g3, ⟨f1, f2, f3, f4⟩, c1⟩ := reA_sound F0 F hB (F0.ev (.tmp k)) ho' (hG.sub hs1) h3
          obtain ⟨e1, e2, e3, e4, e5⟩ := putT_parts h4
          have hkv : a.tmps[k]? = some (a.eval (.tmp k)) := by
            have : k < a.tmps.size := by rw [f1.n]; exact e4
            simp [Act.eval, Array.getD_eq_getD_getElem?, Array.getElem?_eq_getElem this]
          have F4' := f1.retell hkv h4 c1
          obtain ⟨F4, r1, r2⟩ := reSlots_sound F4' (fun k' i h1 h2 => by
            obtain ⟨v, hv, hr⟩ := F0.tm k' _ h1
            obtain ⟨b1, r, b2⟩ := isBack_val (s1 := s3) h2 (F0.ev (.tmp k)) c1
            cases hr with
            | rf _ _ _ => exact ⟨_, hv, b1.symm, r, by rw [e2]; exact b2⟩) hre
          replace e1 := r1.trans e1
          replace e2 := r2.trans e2
          have hu4 : ∀ b, used g3 s4 b → used g3 s3 b := fun b hb => by unfold used at hb ⊢; rw [e1, e2] at hb; exact hb
          have hG4 : Take w0 w' Fin g3 s4 G2 := fun b hb => ⟨(hG b (hs2 b hb)).1, (hG b (hs2 b hb)).2.1, fun hu => by
            rcases f4 b (hu4 b hu) with h' | h'
            · exact (hG b (hs2 b hb)).2.2 h'
            · exact hd b h' hb⟩
          obtain ⟨g5, hg⟩ := ih F4 (by rw [f2]; exact hB) rfl (by rw [f2]; exact hos) hG4 h
          have fin : FR w0 B0 Fin s2 a w' g5 ∧ g5.B = g3.B ∧ ∀ b, used g5 s2 b → used g3 s4 b ∨ G2 b := by
            rcases hg with ⟨a1, a2, _, a4⟩ | ⟨a1, a2, a4⟩
            · exact ⟨a1, a2, a4⟩
            · exact ⟨a1, a2, a4⟩
          obtain ⟨a1, a2, a4⟩ := fin
          refine ⟨g5, .inr ⟨a1, a2.trans f2, fun b hb => ?_⟩⟩
          rcases a4 b hb with h' | h'
          · rcases f4 b (hu4 b h') with h'' | h''
            · exact .inl h''
            · exact .inr (hs1 b h'')
          · exact .inr (hs2 b h')

theorem putBack_sound (F0 : FR w0 B0 Fin s a w g) {w' : World} {g1 : Gh} {s2 : St} (F : FR w0 B0 Fin s1 a w' g1) (hB : ∀ b, g.B b → g1.B b ∧ w'.heap[b]? = w.heap[b]?) {dst : Option Nat} {xs : List Operand} {r : AV} {v : Value} {vs cs : List Value} {G : Nat → Prop} (hvs : vs = xs.map a.eval ++ cs)
    (hx : VX w' g1.B vs r v G) (hG : Take w0 w' Fin g1 s1 G) (h : putBack s s1 dst xs r = some s2) : ∃ g2, FR w0 B0 Fin s2 (a.put dst v) w' g2 := by
  unfold putBack at h
  split at h
  · rcases hx with ((⟨y, e, _⟩ | ⟨cs, us, e, _⟩) | ⟨cs, us, e, _⟩) | ⟨r0, outs, F1, F2, e, hr0, hos, hd, hf1, hf2⟩
    · cases e
    · cases e
    · cases e
    cases e
    simp only at h
    split at h
    case h_2 => cases h
    rename_i s3 h3
    obtain ⟨g3, hg⟩ := putOuts_sound F0 F hB hvs hos (hG.sub hf2) h3
    have fin : FR w0 B0 Fin s3 a w' g3 ∧ g3.B = g1.B ∧ ∀ b, used g3 s3 b → used g1 s1 b ∨ F2 b := by
      rcases hg with ⟨a1, a2, _, a4⟩ | ⟨a1, a2, a4⟩
      · exact ⟨a1, a2, a4⟩
      · exact ⟨a1, a2, a4⟩
    obtain ⟨a1, a2, a4⟩ := fin
    refine putRes_sound a1 (by rw [a2]; exact hr0) (G := F1) (fun b hb => ⟨(hG b (hf1 b hb)).1, (hG b (hf1 b hb)).2.1, fun hu => ?_⟩) h
    rcases a4 b hu with h' | h'
    · exact (hG b (hf1 b hb)).2.2 h'
    · exact hd b hb h'
  · rename_i hne
    rcases hx with hx | ⟨r0, outs, F1, F2, e, _⟩
    · exact putRes_sound F hx hG h
    · exact absurd e (hne _)

/-- a frame, its boxes and roots somewhere -/
def FE (w0 : World) (B0 Fin : Nat → Prop) (s : St) (a : Act) (w : World) : Prop := ∃ g, FR w0 B0 Fin s a w g

/-- is a slice nil? -/
theorem nilQ_sound {tab : Tab} (hT : TabOk P tab) (F : FR w0 B0 Fin s a w g) {o : Oper} {n : Bool} {rows : List (List T)} (h : nilQ tab s o.op = some (n, rows)) : ∃ b, (execOp a.eval o).run P w = .ok (.value (.bool b)) w ∧ (rows ≠ [] → b = n) := by
  unfold nilQ at h
  split at h
  case h_2 => cases h
  rename_i op ty x yt ho
  split at h
  case h_2 => cases h
  rename_i e _ _ _ ht
  obtain ⟨d, hd, h2, _⟩ := ti_und (hT.1 _ _ ht) w
  cases td_sl h2
  have hxv := F.ev x
  have key : ∀ (v : Value), (v = .slice none 0 0 ∧ rows = [] ∨ ∃ q n c, v = .slice (some q) n c) → a.eval x = v → (op = .eql ∧ n = false ∨ op = .neq ∧ n = true) → ∃ b, (execOp a.eval o).run P w = .ok (.value (.bool b)) w ∧ (rows ≠ [] → b = n) := by
    intro v hv hxe hop
    have hce : a.eval (.const (.slice none 0 0)) = .slice none 0 0 := rfl
    have heq : ∀ u m c, (Op.equal ty (.slice u m c) (.slice none 0 0)).run P w = .ok u.isNone w := by
      intro u m c
      unfold Op.equal Op.maxDepth
      rw [show (10000 : Nat) = 9999 + 1 from rfl, Op.equalIn]
      cases u <;> simp [hd]
    rcases hv with ⟨rfl, hr⟩ | ⟨q, k, c, rfl⟩
    · rcases hop with ⟨rfl, rfl⟩ | ⟨rfl, rfl⟩
      · exact ⟨true, by simp [execOp, ho, hxe, hce, eqGuard, binOp, heq], fun h => absurd hr h⟩
      · exact ⟨false, by simp [execOp, ho, hxe, hce, eqGuard, binOp, heq], fun h => absurd hr h⟩
    · rcases hop with ⟨rfl, rfl⟩ | ⟨rfl, rfl⟩
      · exact ⟨false, by simp [execOp, ho, hxe, hce, eqGuard, binOp, heq], fun _ => rfl⟩
      · exact ⟨true, by simp [execOp, ho, hxe, hce, eqGuard, binOp, heq], fun _ => rfl⟩
  split at h
  · rename_i o1 rows1 hx
    rw [hx] at hxv
    generalize hz : a.eval x = z at hxv
    have hop : (op = .eql ∧ n = false ∨ op = .neq ∧ n = true) ∧ rows1 = rows := by
      split at h
      · cases h; exact ⟨.inl ⟨rfl, rfl⟩, rfl⟩
      · cases h; exact ⟨.inr ⟨rfl, rfl⟩, rfl⟩
      · cases h
    obtain ⟨hop, rfl⟩ := hop
    refine key z ?_ hz hop
    cases hxv with
    | t _ _ hr => cases hr with
      | nil => exact .inl ⟨rfl, rfl⟩
      | em => exact .inr ⟨_, _, _, rfl⟩
      | sl => exact .inr ⟨_, _, _, rfl⟩
  · rename_i id hx
    split at h
    case h_2 => cases h
    rename_i q rows1 hi
    rw [hx] at hxv
    generalize hz : a.eval x = z at hxv
    have hop : (op = .eql ∧ n = false ∨ op = .neq ∧ n = true) ∧ rows1 = rows := by
      split at h
      · cases h; exact ⟨.inl ⟨rfl, rfl⟩, rfl⟩
      · cases h; exact ⟨.inr ⟨rfl, rfl⟩, rfl⟩
      · cases h
    obtain ⟨hop, rfl⟩ := hop
    refine key z ?_ hz hop
    cases hxv with
    | rf _ _ _ =>
      rcases (F.rt id _ hi).1 with ⟨h1, h2⟩ | ⟨b, off, cap, us, Fs, cs, ty', hv, _⟩
      · exact .inl ⟨h2, h1⟩
      · exact .inr ⟨_, _, _, hv⟩
  · cases h

theorem op_sound {E : Env} (hT : TabOk P E.tab) (hΦ : ∀ f as r, Φ f as r → Sound P f as r) {Q : Exit → Act → World → Prop} {o : Oper} {K : St → Prop} {K' : Act → World → Prop}
    (F : FE w0 B0 Fin s a w) (h : wpOp Φ E o.op o.dst s K) (hk : ∀ s' a' w', K s' → FE w0 B0 Fin s' a' w' → K' a' w') : o.wp P a w K' Q := by
  obtain ⟨g, F⟩ := F
  unfold Ev.wpOp at h
  split at h
  · rename_i f args hc
    obtain ⟨gg, as, r, s1, s2, ha, hr, hp, hput, hK⟩ := h
    refine call_sound hΦ hc F ha hr hp ?_
    intro v w' g' G vs cs hvs F' hv hG hB
    exact hk s2 _ w' hK (putBack_sound F F' hB hvs hv hG hput)
  · rename_i hc
    rcases h with ⟨s', he, hK⟩ | ⟨c, s', he, hcc, hK⟩ | ⟨n, rows, fb, hn, hput, hK1, hK2⟩
    · unfold evalO at he
      split at he
      · obtain ⟨u, w', g', hrun, F'⟩ := evalM_sound hT F he
        unfold Oper.wp
        rcases hrun with hrun | ⟨hrun, rfl⟩
        · rw [hrun, Oper.upon_value]; exact hk _ _ _ hK ⟨g', F'⟩
        · rw [hrun, Oper.upon_skip]; exact hk _ _ _ hK ⟨g', F'⟩
      · split at he
        · rename_i v hv
          obtain ⟨u, hrun, hr⟩ := evalV_sound hT F hv
          unfold Oper.wp
          rw [hrun, Oper.upon_value]
          exact hk _ _ _ hK ⟨g, F.put he hr⟩
        · cases he
    · have : ∃ u w' g', (execOp a.eval o).run P w = .ok (.value u) w' ∧ FR w0 B0 Fin s' (a.put o.dst u) w' g' := by
        rcases he with he | he | he | he
        · exact evalC_sound hT F he hcc
        · exact evalC2_sound hT F he hcc
        · exact evalC3_sound hT F he
        · exact evalC4_sound hT F he hcc
      obtain ⟨u, w', g', hrun, F'⟩ := this
      unfold Oper.wp
      rw [hrun, Oper.upon_value]
      exact hk _ _ _ hK ⟨g', F'⟩
    · obtain ⟨b, hrun, hb⟩ := nilQ_sound hT F hn
      unfold Oper.wp
      rw [hrun, Oper.upon_value]
      by_cases hr : rows = []
      · exact hk _ _ _ (hK2 hr b) ⟨g, F.put (hput b) (.t _ _ (.sc _))⟩
      · have := hb hr; subst this
        exact hk _ _ _ (hK1 hr) ⟨g, F.put (hput b) (.t _ _ (.sc _))⟩

theorem guard_sound {ops : Array Oper} (F : FR w0 B0 Fin s a w g) {o : Oper} {b : Bool} (h : guardAV ops.toList s o.guard = some b) : Region.wanted o (yielded ops a.tmps) = b := by
  unfold guardAV at h
  unfold Region.wanted
  split at h
  · rename_i hg; cases h; rw [hg]
  · rename_i j want hg
    rw [hg]
    split at h
    · rename_i q hq
      rw [nthS_eq] at hq
      have hq' : ops[j]? = some q := by simpa using hq
      split at h
      · rename_i d hd
        have hv := F.ev (.tmp d)
        simp only [St.ev, Act.eval] at hv
        unfold yielded
        simp only [hq', hd, Option.bind_some]
        split at h
        · rename_i p hp
          cases h
          rw [hp] at hv
          have := cr_sc hv
          have ht : a.tmps[d]? = some (.bool p) := by
            rw [Array.getD_eq_getD_getElem?] at this
            cases hx : a.tmps[d]? with
            | none => rw [hx] at this; simp [undef] at this
            | some y => rw [hx] at this; simp at this; rw [this]
          rw [ht]
          cases p <;> cases want <;> rfl
        · rename_i vs hp
          cases h
          rw [hp] at hv
          have := cr_sc hv
          rw [Array.getD_eq_getD_getElem?] at this
          cases hx : a.tmps[d]? with
          | none => simp
          | some y => rw [hx] at this; simp at this; subst this; simp
        · cases h
      · cases h
    · cases h

theorem ops_sound {E : Env} (hT : TabOk P E.tab) (hΦ : ∀ f as r, Φ f as r → Sound P f as r) {Q : Exit → Act → World → Prop} {ops : Array Oper} : ∀ {l : List Oper} {s : St} {a : Act} {w : World} {K : St → Prop},
    FE w0 B0 Fin s a w → Ev.wpOps Φ E ops.toList l s K → (∀ s' a' w', K s' → FE w0 B0 Fin s' a' w' → Q .normal a' w') → wpList P ops Q l a w := by
  intro l
  induction l with
  | nil =>
    intro s a w K F h hk
    obtain ⟨g, F⟩ := F
    obtain ⟨s', g', h, F⟩ := AdjW.sound h F
    exact hk _ _ _ h ⟨g', F⟩
  | cons o rest ih =>
    intro s a w K F h hk
    obtain ⟨g, F⟩ := F
    obtain ⟨s0, g, ⟨b, hg, h⟩, F⟩ := AdjW.sound h F
    have hw : Region.wanted o (yielded ops a.tmps) = b := guard_sound F hg
    unfold wpList
    rw [hw]
    cases b with
    | true =>
      simp only [if_true]
      exact .inl (op_sound hT hΦ ⟨g, F⟩ h fun s' a' w' h' F' => ih F' h' hk)
    | false =>
      simp only [Bool.false_eq_true, if_false]
      obtain ⟨s', hp, h⟩ := h
      exact ih ⟨g, F.put hp (.t _ _ (.sc _))⟩ h hk
end
end Go.Ev
