/- An evaluator over trees: what it tells is so (14): code, bodies; the theorem. -/
import Derived.Test.YtejioaahmgljgaaEvY2
set_option linter.unusedVariables false
set_option linter.unusedSimpArgs false
namespace Go.Ev
open Go Go.RowKit

section
variable {P : Program} {E : Env} {w0 w : World} {B0 Fin : Nat → Prop} {Φ : Rel3} {s s' : St} {a : Act} {g : Gh}

/-- where a piece of code comes out -/
def QR (w0 : World) (B0 Fin : Nat → Prop) (Q : Ex → St → Prop) : Exit → Act → World → Prop
  | .normal, a, w => ∃ s, FE w0 B0 Fin s a w ∧ Q .normal s
  | .exit i, a, w => ∃ s, FE w0 B0 Fin s a w ∧ Q (.exit i) s
  | .ret, a, w => ∃ s, FE w0 B0 Fin s a w ∧ Q .ret s
  | _, _, _ => False

theorem FE.drawn (F : FE w0 B0 Fin s a w) (n : Nat) : FE w0 B0 Fin s a { w with drawn := n } := by
  obtain ⟨g, F⟩ := F
  exact ⟨g, F.world (w' := { w with drawn := n }) (Nat.le_refl _) (fun _ _ => rfl) ⟨F.kp.os, F.kp.tape, F.kp.output, F.kp.size, F.kp.block⟩⟩

theorem wp_sound (hT : TabOk P E.tab) (hΦ : ∀ f as r, Φ f as r → Sound P f as r) : ∀ (c : Code) {s : St} {a : Act} {w : World} {Q : Ex → St → Prop}, FE w0 B0 Fin s a w → Ev.wp Φ E c s Q → c.wp P (QR w0 B0 Fin Q) a w := by
  intro c
  induction c with
  | skip => intro s a w Q F h; exact wp_skip ⟨s, F, h⟩
  | region id ops draw =>
    intro s a w Q F h
    cases draw with
    | false => exact wp_region_list (ops_sound hT hΦ F h fun s' a' w' h' F' => ⟨s', F', h'⟩)
    | true =>
      rcases h with ⟨m, hm, h⟩ | ⟨X, M, l, hm, hl, h⟩
      · exact wp_region_any hT.2 (quiet_sound hT hΦ (Q := QR w0 B0 Fin Q) (fun s' a' w' h' F' => ⟨s', F', h'⟩) hm (F.drawn _) h)
      · exact wp_region_any hT.2 (late_sound hT hΦ (Q := QR w0 B0 Fin Q) (fun s' a' w' h' F' => ⟨s', F', h'⟩) (fun _ _ _ h => h) hm hl (F.drawn _) h)
  | seq x y ihx ihy =>
    intro s a w Q F h
    refine wp_seq (Code.wp_mono ?_ (ihx F h))
    intro e a' w' hq
    cases e with
    | normal => obtain ⟨s', F', h'⟩ := hq; exact ihy F' h'
    | exit i => exact hq
    | ret => exact hq
    | goto _ => exact hq.elim
    | panic _ => exact hq.elim
    | outgrown => exact hq.elim
  | cond c x y ihx ihy =>
    intro s a w Q F h
    obtain ⟨p, hc, ht, hf⟩ := h
    obtain ⟨g, F0⟩ := F
    have hv := F0.ev c
    rw [hc] at hv
    have hv := cr_sc hv
    cases p with
    | true => exact wp_cond_true hv (ihx ⟨g, F0⟩ (ht rfl))
    | false => exact wp_cond_false hv (ihy ⟨g, F0⟩ (hf rfl))
  | block id b ih =>
    intro s a w Q F h
    refine wp_block (Code.wp_mono ?_ (ih F h))
    intro e a' w' hq
    cases e with
    | normal => exact hq
    | exit i =>
      obtain ⟨s', F', h'⟩ := hq
      simp only [Exit.inBlock, exBlock] at h' ⊢
      split
      · rename_i hi; simp only [hi, if_true] at h'; exact ⟨s', F', h'⟩
      · rename_i hi; simp only [hi, if_false] at h'; exact ⟨s', F', h'⟩
    | ret => exact hq
    | goto _ => exact hq.elim
    | panic _ => exact hq.elim
    | outgrown => exact hq.elim
  | loop b ih =>
    intro s a w Q F h
    obtain ⟨n, h⟩ := h
    let R : Nat → Act → World → Prop := fun n a w => ∃ s, FE w0 B0 Fin s a w ∧ loopN (fun s Q => Ev.wp Φ E b s Q) n s Q
    have hex : ∀ a w, (∃ n, R n a w) → ∃ m, R m a w ∧ ∀ k, R k a w → m ≤ k := by
      intro a w ⟨n, hn⟩
      induction n using Nat.strongRecOn with
      | _ n ihn =>
        by_cases hk : ∃ k, k < n ∧ R k a w
        · obtain ⟨k, hkn, hk⟩ := hk; exact ihn k hkn hk
        · exact ⟨n, hn, fun k hk' => Nat.le_of_not_lt fun hlt => hk ⟨k, hlt, hk'⟩⟩
    let μ : Act → World → Nat := fun a w => by
      classical exact if h : ∃ n, R n a w then Classical.choose (hex a w h) else 0
    have hμ : ∀ a w n, R n a w → R (μ a w) a w ∧ μ a w ≤ n := by
      intro a w n hn
      have h : ∃ n, R n a w := ⟨n, hn⟩
      have e : μ a w = Classical.choose (hex a w h) := by simp only [μ]; rw [dif_pos h]
      obtain ⟨h1, h2⟩ := Classical.choose_spec (hex a w h)
      rw [e]; exact ⟨h1, h2 n hn⟩
    refine wp_loop (fun a w => ∃ n, R n a w) μ ⟨n, s, F, h⟩ ?_
    intro a w ⟨n, hn⟩
    obtain ⟨hm, _⟩ := hμ a w n hn
    generalize hmm : μ a w = m at hm
    cases m with
    | zero => obtain ⟨s', F', h'⟩ := hm; exact h'.elim
    | succ m =>
      obtain ⟨s', ⟨g, F'⟩, hm⟩ := hm
      obtain ⟨s2, g2, h', F2⟩ := AdjW.sound hm F'
      refine Code.wp_mono ?_ (ih ⟨g2, F2⟩ h')
      intro e a' w' hq
      cases e with
      | normal =>
        obtain ⟨s3, F3, h3⟩ := hq
        have hr : R m a' w' := ⟨s3, F3, h3⟩
        exact ⟨⟨m, hr⟩, by have := (hμ a' w' m hr).2; omega⟩
      | exit i => exact hq
      | ret => exact hq
      | goto _ => exact hq.elim
      | panic _ => exact hq.elim
      | outgrown => exact hq.elim
  | exit id => intro s a w Q F h; exact wp_exit ⟨s, F, h⟩
  | ret => intro s a w Q F h; exact wp_ret ⟨s, F, h⟩
  | rangeFunc => intro s a w Q F h; exact h.elim
  | scope => intro s a w Q F h; exact h.elim
  | label => intro s a w Q F h; exact h.elim
  | goto => intro s a w Q F h; exact h.elim
  | refuse => intro s a w Q F h; exact h.elim

/-- what a result's place holds -/
theorem place_sound (hT : TabOk P E.tab) (F : FR w0 B0 Fin s a w g) (x : ResultVar) {y : AV} (h : (match x with
    | .tmp k => some (s.get k)
    | .cell c ty => loadAV E.tab s ty (s.get c)) = some y) :
    ∃ v, ((match x with
      | .tmp t => pure (a.tmps.getD t undef)
      | .cell c t => do loadVar t (← asAddr (a.tmps.getD c undef)) : Sem Value)).run P w = .ok v w ∧ CR w g s.h s.o y v := by
  cases x with
  | tmp k =>
    cases h
    exact ⟨_, rfl, F.ev (.tmp k)⟩
  | cell c ty =>
    have hv := F.ev (.tmp c)
    obtain ⟨u, hu, hr⟩ := load_sound hT F hv h
    refine ⟨u, ?_, hr⟩
    have he : a.eval (.tmp c) = a.tmps.getD c undef := rfl
    rw [he] at hu
    have hq : ∀ q : Value, (Instr.loadAt ty q).run P w = .ok u w → (do loadVar ty (← asAddr q) : Sem Value).run P w = .ok u w := by
      intro q hq
      cases q with
      | pointer ad =>
        cases ad with
        | none => simp [Instr.loadAt, Instr.sureAddr] at hq
        | some ad => simpa [Instr.loadAt, Instr.sureAddr, asAddr] using hq
      | _ => simp [Instr.loadAt, Instr.sureAddr] at hq
    exact hq _ hu

theorem resultM_sound (hT : TabOk P E.tab) (F : FR w0 B0 Fin s a w g) (x : ResultVar) {y : AV} (h : resultM E.tab s x = some (y, s')) :
    ∃ v, ((match x with
      | .tmp t => pure (a.tmps.getD t undef)
      | .cell c t => do loadVar t (← asAddr (a.tmps.getD c undef)) : Sem Value)).run P w = .ok v w ∧ FR w0 B0 Fin s' a w g ∧ Subs s s' ∧ VS w g.B y v (Freed w0 w Fin g s s') := by
  cases x with
  | tmp k =>
    obtain ⟨v, hv, hc⟩ := place_sound hT F (.tmp k) rfl
    obtain ⟨F1, hs1, hr⟩ := moveA_sound F hc h
    exact ⟨v, hv, F1, hs1, hr⟩
  | cell c ty =>
    simp only [resultM] at h
    split at h
    case h_2 => cases h
    rename_i z hz
    obtain ⟨v, hv, hc⟩ := place_sound hT F (.cell c ty) hz
    obtain ⟨F1, hs1, hr⟩ := moveA_sound F hc h
    exact ⟨v, hv, F1, hs1, hr⟩
theorem resultS_sound (hT : TabOk P E.tab) (F : FR w0 B0 Fin s a w g) (x : ResultVar) {y : AV} (h : resultS E.tab s x = some y) :
    ∃ v, ((match x with
      | .tmp t => pure (a.tmps.getD t undef)
      | .cell c t => do loadVar t (← asAddr (a.tmps.getD c undef)) : Sem Value)).run P w = .ok v w ∧ VS w (used g s) y v (fun _ => False) := by
  cases x with
  | tmp k =>
    obtain ⟨v, hv, hc⟩ := place_sound hT F (.tmp k) rfl
    exact ⟨v, hv, snapA_sound F h hc _⟩
  | cell c ty =>
    simp only [resultS] at h
    split at h
    case h_2 => cases h
    rename_i z hz
    obtain ⟨v, hv, hc⟩ := place_sound hT F (.cell c ty) hz
    exact ⟨v, hv, snapA_sound F h hc _⟩

theorem resultsM_key (f : ResultVar → Sem Value) (hf : ∀ s x y s', FR w0 B0 Fin s a w g → resultM E.tab s x = some (y, s') → ∃ v, (f x).run P w = .ok v w ∧ FR w0 B0 Fin s' a w g ∧ Subs s s' ∧ VS w g.B y v (Freed w0 w Fin g s s')) :
    ∀ (l : List ResultVar) (s s2 : St) (rs : List AV), FR w0 B0 Fin s a w g → resultsML E.tab s l = some (rs, s2) → ∃ vs, (l.mapM f).run P w = .ok vs w ∧ FR w0 B0 Fin s2 a w g ∧ Subs s s2 ∧ Fam (VS w g.B) rs vs (Freed w0 w Fin g s s2) := by
  intro l
  induction l with
  | nil => intro s s2 rs F h; rw [resultsML] at h; cases h; exact ⟨[], rfl, F, .refl _, .nil _⟩
  | cons x l ih =>
    intro s s2 rs F h
    rw [resultsML] at h
    split at h
    case h_2 => cases h
    rename_i y s1 h1
    split at h
    case h_2 => cases h
    rename_i l' s2' h2
    cases h
    obtain ⟨v, hv, F1, hs1, hr⟩ := hf _ _ _ _ F h1
    obtain ⟨vs, hvs, F2, hs2, hrs⟩ := ih s1 _ l' F1 h2
    refine ⟨v :: vs, ?_, F2, hs1.trans hs2, .cons _ _ _ _ _ _ _ hr hrs ?_ (fun b hb => hb.left hs2) (fun b hb => hb.right hs1)⟩
    · rw [List.mapM_cons, Sem.run_bind, hv, Result.andThen_ok, Sem.run_bind, hvs]
      rfl
    · intro b hb hb'; exact hb.2.2.1 hb'.2.2.2
theorem resultsS_key (f : ResultVar → Sem Value) (hf : ∀ x y, resultS E.tab s x = some y → ∃ v, (f x).run P w = .ok v w ∧ VS w (used g s) y v (fun _ => False)) :
    ∀ (l : List ResultVar) (rs : List AV), mapS (resultS E.tab s) l = some rs → ∃ vs, (l.mapM f).run P w = .ok vs w ∧ Fam (VS w (used g s)) rs vs (fun _ => False) := by
  intro l
  induction l with
  | nil => intro rs h; cases h; exact ⟨[], rfl, .nil _⟩
  | cons x l ih =>
    intro rs h
    rw [mapS] at h
    split at h
    case h_2 => cases h
    rename_i y hy
    split at h
    case h_2 => cases h
    rename_i rs' hrs
    cases h
    obtain ⟨v, hv, hr⟩ := hf _ _ hy
    obtain ⟨vs, hvs, hrs'⟩ := ih _ hrs
    refine ⟨v :: vs, ?_, .cons _ _ _ _ (fun _ => False) (fun _ => False) _ hr hrs' (fun _ h => h.elim) (fun _ h => h) (fun _ h => h)⟩
    rw [List.mapM_cons, Sem.run_bind, hv, Result.andThen_ok, Sem.run_bind, hvs]
    rfl

/-- one result, or many -/
theorem pack_one (f : ResultVar → Sem Value) {rv : Array ResultVar} {x : ResultVar} (hx : rv.toList = [x]) {v : Value} (hv : (f x).run P w = .ok v w) :
    (do
      let vs ← rv.mapM f
      pure (if h : vs.size = 1 then vs[0] else .tuple vs) : Sem Value).run P w = .ok v w := by
  have hvs : (rv.toList.mapM f).run P w = .ok [v] w := by
    rw [hx, List.mapM_cons, Sem.run_bind, hv, Result.andThen_ok, Sem.run_bind]
    rfl
  rw [Sem.run_bind, Array.mapM_eq_mapM_toList, Sem.run_map, hvs]
  simp
theorem pack_many (f : ResultVar → Sem Value) {rv : Array ResultVar} {vs : List Value} (hvs : (rv.toList.mapM f).run P w = .ok vs w) (hlen : vs.length ≠ 1) :
    (do
      let vs ← rv.mapM f
      pure (if h : vs.size = 1 then vs[0] else .tuple vs) : Sem Value).run P w = .ok (.tuple vs.toArray) w := by
  rw [Sem.run_bind, Array.mapM_eq_mapM_toList, Sem.run_map, hvs]
  simp [hlen]
theorem resultsML_len : ∀ {l : List ResultVar} {s s2 : St} {rs : List AV}, resultsML E.tab s l = some (rs, s2) → rs.length = l.length := by
  intro l
  induction l with
  | nil => intro s s2 rs h; rw [resultsML] at h; cases h; rfl
  | cons x l ih =>
    intro s s2 rs h
    rw [resultsML] at h
    split at h
    case h_2 => cases h
    split at h
    case h_2 => cases h
    rename_i h2
    cases h
    simp [ih h2]

theorem resultsM_all (f : ResultVar → Sem Value) (hf : ∀ s x y s', FR w0 B0 Fin s a w g → resultM E.tab s x = some (y, s') → ∃ v, (f x).run P w = .ok v w ∧ FR w0 B0 Fin s' a w g ∧ Subs s s' ∧ VS w g.B y v (Freed w0 w Fin g s s'))
    (F : FR w0 B0 Fin s a w g) {rv : Array ResultVar} {r : AV} {s2 : St} (h : resultsM E.tab rv.toList s = some (r, s2)) :
    ∃ v, (do
      let vs ← rv.mapM f
      pure (if h : vs.size = 1 then vs[0] else .tuple vs) : Sem Value).run P w = .ok v w ∧ FR w0 B0 Fin s2 a w g ∧ Subs s s2 ∧ VR w g.B r v (Freed w0 w Fin g s s2) := by
  unfold resultsM at h
  split at h
  · rename_i x hx
    obtain ⟨v, hv, F1, hs1, hr⟩ := hf _ _ _ _ F h
    exact ⟨v, pack_one f hx hv, F1, hs1, .inl hr⟩
  · rename_i hne
    split at h
    case h_2 => cases h
    rename_i l s2' hl
    cases h
    obtain ⟨vs, hvs, F2, hs2, hrs⟩ := resultsM_key f hf _ _ _ _ F hl
    refine ⟨_, pack_many f hvs ?_, F2, hs2, .inr ⟨_, vs, rfl, rfl, hrs⟩⟩
    intro h1
    have h2 := hrs.length
    have h3 := resultsML_len hl
    obtain ⟨x, hx⟩ := List.length_eq_one_iff.1 (show rv.toList.length = 1 by omega)
    exact hne x hx
theorem resultsS_all (f : ResultVar → Sem Value) (hf : ∀ x y, resultS E.tab s x = some y → ∃ v, (f x).run P w = .ok v w ∧ VS w (used g s) y v (fun _ => False))
    {rv : Array ResultVar} {r : AV} (h : resultsS E.tab rv.toList s = some r) :
    ∃ v, (do
      let vs ← rv.mapM f
      pure (if h : vs.size = 1 then vs[0] else .tuple vs) : Sem Value).run P w = .ok v w ∧ VR w (used g s) r v (fun _ => False) := by
  unfold resultsS at h
  split at h
  · rename_i x hx
    obtain ⟨v, hv, hr⟩ := hf _ _ h
    exact ⟨v, pack_one f hx hv, .inl hr⟩
  · rename_i hne
    split at h
    case h_2 => cases h
    rename_i l hl
    cases h
    obtain ⟨vs, hvs, hrs⟩ := resultsS_key f hf _ _ hl
    refine ⟨_, pack_many f hvs ?_, .inr ⟨_, vs, rfl, rfl, hrs⟩⟩
    intro h1
    have h2 := hrs.length
    have h3 := (mapS_eq hl).1
    obtain ⟨x, hx⟩ := List.length_eq_one_iff.1 (show rv.toList.length = 1 by omega)
    exact hne x hx

theorem results_M (hT : TabOk P E.tab) (F : FR w0 B0 Fin s a w g) {fn : Func} {r : AV} {s2 : St} (h : resultsM E.tab fn.results.toList s = some (r, s2)) :
    ∃ v, (results fn a.tmps).run P w = .ok v w ∧ FR w0 B0 Fin s2 a w g ∧ Subs s s2 ∧ VR w g.B r v (Freed w0 w Fin g s s2) :=
  resultsM_all _ (fun s x y s' F h => resultM_sound hT F x h) F h
theorem results_S (hT : TabOk P E.tab) (F : FR w0 B0 Fin s a w g) {fn : Func} {r : AV} (h : resultsS E.tab fn.results.toList s = some r) :
    ∃ v, (results fn a.tmps).run P w = .ok v w ∧ VR w (used g s) r v (fun _ => False) :=
  resultsS_all _ (fun x y h => resultS_sound hT F x h) h

theorem FR.used_in (F : FR w0 B0 Fin s a w g) {b : Nat} (h : used g s b) : B0 b ∨ Fin b ∨ w0.heap.size ≤ b := by
  rcases h with h | ⟨i, c, hi, rfl⟩ | ⟨j, r, hj, hb⟩
  · exact (F.bb b h).2
  · exact .inr (F.bx i c hi).1
  · exact .inr ((F.rt j r hj).2 b hb).2.1

theorem impL_n : ∀ {cs l : List AV} {s s' : St} {id n : Nat}, impL s id cs = some (l, s', n) → n = id + 1000 * cs.length := by
  intro cs
  induction cs with
  | nil => intro l s s' id n h; rw [impL] at h; cases h; simp
  | cons x cs ih =>
    intro l s s' id n h
    rw [impL] at h
    split at h
    case h_2 => cases h
    split at h
    case h_2 => cases h
    rename_i h2
    cases h
    have := ih h2
    simp only [List.length_cons, Nat.add_eq] at this ⊢
    omega
theorem imp2_n {s s' : St} {id n : Nat} {x y : AV} (h : imp2 s id x = some (y, s', n)) : (∀ cs, x = .ag cs → n = id + 1000 * cs.length) ∧ ((∀ cs, x ≠ .ag cs) → n = id + 1000) := by
  unfold imp2 at h
  split at h
  · split at h
    case h_2 => cases h
    rename_i h1
    cases h
    exact ⟨fun cs e => by cases e; exact impL_n h1, fun e => absurd rfl (e _)⟩
  · rename_i hne
    split at h
    case h_2 => cases h
    cases h
    exact ⟨fun cs e => absurd e (hne cs), fun _ => rfl⟩
theorem ArgA.ext {g' : Gh} {id lo : Nat} {x : AV} {v : Value} (h : ArgA s g id x v) (he : ∀ i r, i < lo → lk s.o i = some r → lk s'.o i = some r ∧ g'.rv i = g.rv i) (h1 : ∀ rows, x = .t (.sl true rows) → id < lo) (h2 : ∀ cs, x = .ag cs → id + 1000 * cs.length ≤ lo) : ArgA s' g' id x v := by
  refine ⟨fun rows hx => ?_, fun cs vs hx hv => ?_⟩
  · obtain ⟨⟨r, hr⟩, h3⟩ := h.1 rows hx
    obtain ⟨h4, h5⟩ := he id r (h1 rows hx) hr
    exact ⟨⟨r, h4⟩, h5.trans h3⟩
  · obtain ⟨hl, h3⟩ := h.2 cs vs hx hv
    refine ⟨hl, fun j y u hy hu rows hy' => ?_⟩
    obtain ⟨⟨r, hr⟩, h4⟩ := h3 j y u hy hu rows hy'
    have hj := nth_lt hy
    have := h2 cs hx
    obtain ⟨h5, h6⟩ := he _ r (by omega) hr
    exact ⟨⟨r, h5⟩, h6.trans h4⟩

/-- the arguments in their slots -/
theorem init_sound : ∀ {args : List AV} {ks : List (Nat × Nat)} {s s' : St} {g : Gh} {vs : List Value} {G : Nat → Prop} {lo : Nat}, FR w0 B0 Fin s a w g → Fam (VS w g.B) args vs G → Take w0 w Fin g s G →
    (∀ (i : Nat) (p : Nat × Nat) (v : Value), ks[i]? = some p → vs[i]? = some v → a.tmps[p.1]? = some v) → (∀ (i : Nat) (p : Nat × Nat), ks[i]? = some p → lo + 100000 * i ≤ p.2 ∧ p.2 ≤ lo + 100000 * i) → initT s ks args = some s' →
    ∃ g', FR w0 B0 Fin s' a w g' ∧ (∀ i r, i < lo → lk s.o i = some r → lk s'.o i = some r ∧ g'.rv i = g.rv i) ∧ ∀ (i : Nat) (p : Nat × Nat) (x : AV) (v : Value), ks[i]? = some p → args[i]? = some x → vs[i]? = some v → ArgA s' g' p.2 x v := by
  intro args
  induction args with
  | nil => intro ks s s' g vs G lo F _ _ _ _ h; rw [initT] at h; cases h; exact ⟨g, F, fun i r _ h => ⟨h, rfl⟩, fun i p x v _ hx => by simp at hx⟩
  | cons x args ih =>
    intro ks s s' g vs G lo F hf hG hv hks h
    match ks with
    | [] => rw [initT] at h; cases h
    | (k, b) :: ks =>
      rw [initT] at h
      split at h
      case h_2 => cases h
      rename_i y s1 n h1
      split at h
      case h_2 => cases h
      rename_i hn
      split at h
      case h_2 => cases h
      rename_i s2 h2
      have hn : n ≤ b + 100000 := Nat.le_of_ble_eq_true hn
      have hb := hks 0 (k, b) rfl
      simp only at hb
      cases hf with
      | cons _ _ v us G1 G2 _ hx hs hd hs1 hs2 =>
        obtain ⟨g1, F1, E1, hbn, I1, A1⟩ := imp2_sound F hx (hG.sub hs1) h1
        obtain ⟨nn1, nn2⟩ := imp2_n h1
        have F2 := F1.retell (hv 0 (k, b) v rfl rfl) h2 (I1.cr _)
        obtain ⟨e1, e2, _⟩ := putT_parts h2
        have hT2 : Take w0 w Fin g1 s2 G2 := by
          have := (hG.sub hs2).ext E1 fun b hb hb' => hd b hb' hb
          intro b hb
          obtain ⟨a1, a2, a3⟩ := this b hb
          refine ⟨a1, a2, ?_⟩
          unfold used at a3 ⊢
          rw [e1, e2]; exact a3
        obtain ⟨g3, F3, P3, A3⟩ := ih (lo := b + 100000) F2 (by rw [E1.B]; exact hs) hT2 (fun i k' v' hk hv' => hv (i + 1) k' v' (by simpa using hk) (by simpa using hv')) (fun i p hp => by have := hks (i + 1) p (by simpa using hp); omega) h
        refine ⟨g3, F3, ?_, ?_⟩
        · intro i r hi hr
          obtain ⟨a1, a2⟩ := E1.o i r (.inl (by omega)) hr
          obtain ⟨a3, a4⟩ := P3 i r (by omega) (by rw [e2]; exact a1)
          exact ⟨a3, a4.trans a2⟩
        · intro i p z u hp hz hu
          cases i with
          | zero =>
            simp at hp hz hu; subst hp; subst hz; subst hu
            refine A1.ext (fun i r hi hr => P3 i r hi (by rw [e2]; exact hr)) (fun rows hx' => by simp) (fun cs hx' => ?_)
            have := nn1 cs hx'
            omega
          | succ i => exact A3 i p z u (by simpa using hp) (by simpa using hz) (by simpa using hu)

theorem lk_tel {f : Nat → Value} : ∀ {o o' : Rts}, telV f o = some o' → ∀ i, lk o' i = (lk o i).map fun r => (⟨r.1.n, some (f i)⟩, r.2) := by
  intro o
  induction o with
  | nil => intro o' h; rw [telV] at h; cases h; intro i; rfl
  | cons p r ih =>
    obtain ⟨id, q, rows⟩ := p
    intro o' h
    rw [telV] at h
    split at h
    case h_2 => cases h
    rename_i l hl
    cases h
    intro i
    rw [lk_cons, lk_cons, ih hl]
    split
    · rename_i e; subst e; rfl
    · rfl
theorem tel_sound (F : FR w0 B0 Fin s a w g) {o' : Rts} (h : telV g.rv s.o = some o') : FR w0 B0 Fin ⟨s.t, s.h, o', s.n⟩ a w g := by
  have hl := lk_tel h
  have hl' : ∀ i r, lk o' i = some r → ∃ r0, lk s.o i = some r0 ∧ r = (⟨r0.1.n, some (g.rv i)⟩, r0.2) := by
    intro i r hr
    rw [hl] at hr
    cases hx : lk s.o i with
    | none => rw [hx] at hr; cases hr
    | some r0 => rw [hx] at hr; cases hr; exact ⟨r0, rfl, rfl⟩
  have key : ∀ x v, CR w g s.h s.o x v → CR w g s.h o' x v := fun x v hx => hx.mono (fun b hb => ⟨hb, rfl⟩) (fun i cs _ h1 => ⟨⟨cs, h1⟩, rfl⟩) (fun i r _ h1 => ⟨⟨(⟨r.1.n, some (g.rv i)⟩, r.2), by rw [hl, h1]; rfl, rfl⟩, rfl, rfl⟩) (fun i r b _ h1 h2 _ => ⟨h2, rfl⟩)
  refine ⟨F.n, F.df, F.kp, F.bb, ?_, ?_, ?_, F.bi, ?_, ?_, ?_⟩
  · intro k x hk
    obtain ⟨v, hv, hr⟩ := F.tm k x hk
    exact ⟨v, hv, key _ _ hr⟩
  · intro i cs h1
    obtain ⟨h2, h2', vs, ty, h3, h4⟩ := F.bx i cs h1
    exact ⟨h2, h2', vs, ty, h3, h4.mono fun k x v _ hx => key _ _ hx⟩
  · intro i r hr
    obtain ⟨r0, hr0, rfl⟩ := hl' i r hr
    exact F.rt i r0 hr0
  · intro i j ri rj b h1 h2 h3 h4
    obtain ⟨r1, h1, _⟩ := hl' i ri h1
    obtain ⟨r2, h2, _⟩ := hl' j rj h2
    exact F.rr i j r1 r2 b h1 h2 h3 h4
  · intro i j ci rj h1 h2
    obtain ⟨r2, h2, _⟩ := hl' j rj h2
    exact F.br i j ci r2 h1 h2
  · intro i r u h1 h2
    obtain ⟨r0, hr0, rfl⟩ := hl' i r h1
    cases h2; rfl

/-- what the arguments are at the end -/
theorem outC_sound (F : FR w0 B0 Fin s a w g) {B : Nat → Prop} (hB : ∀ b, B0 b → w.heap[b]? = w0.heap[b]?) (hBB : ∀ b, B0 b → B b) (hgB : ∀ b, g.B b → B b) {f : Nat → Value} {id : Nat} {x y : AV} {v : Value} {G : Nat → Prop} {p : Prop} (hx : VC w0 B0 x v G) (hf : ∀ rows, x = .t (.sl true rows) → f id = v)
    (h : outC f s id x = some (y, p, s')) (hp : p) : FR w0 B0 Fin s' a w g ∧ Subs s s' ∧ VC w B y v (Freed w0 w Fin g s s') := by
  obtain ⟨z, rfl, hz⟩ := hx
  have hrep : ∀ {u : Value}, Rep w0 B0 z u → Rep w B z u := fun h => h.mono fun b hb => ⟨hBB b hb, hB b hb⟩
  simp only [outC] at h
  split at h
  · rename_i rows0
    split at h
    case h_2 => cases h
    rename_i q rows hi
    split at h
    case h_2 => cases h
    rename_i hq
    split at h
    case h_2 => cases h
    rename_i u hu
    split at h
    case h_2 => cases h
    rename_i s1 hd
    cases h
    obtain ⟨F1, hs, _, hr, hfr⟩ := drop_root F hi hd
    simp only [hq] at hr
    have e1 := F.tv id _ u hi hu
    have e2 := hf rows0 rfl
    have hv : g.rv id = v := by rw [e1, hp, e2]
    rw [hv] at hr
    exact ⟨F1, hs, _, rfl, ((Root.own hr).sub hfr).mono (fun b hb => ⟨hgB b hb, rfl⟩) fun _ _ => rfl⟩
  · cases h
    cases hz with
    | sh rows v F' h => exact ⟨F, .refl _, _, rfl, .sh _ _ _ (hrep h)⟩
  · cases h
    cases hz with
    | sc v F' => exact ⟨F, .refl _, _, rfl, .sc _ _⟩
  · cases h
    cases hz with
    | pt cs v F' h => exact ⟨F, .refl _, _, rfl, .pt _ _ _ (hrep h)⟩
  · cases h
    cases hz with
    | fn g1 cs v F' h => exact ⟨F, .refl _, _, rfl, .fn _ _ _ _ (hrep h)⟩

theorem outCL_sound {B : Nat → Prop} (hB : ∀ b, B0 b → w.heap[b]? = w0.heap[b]?) (hBB : ∀ b, B0 b → B b) (hgB : ∀ b, g.B b → B b) {f : Nat → Value} : ∀ {cs ys : List AV} {s s' : St} {id : Nat} {vs : List Value} {G : Nat → Prop} {p : Prop}, FR w0 B0 Fin s a w g → Fam (VC w0 B0) cs vs G →
    (∀ (j : Nat) (y : AV) (u : Value), cs[j]? = some y → vs[j]? = some u → ∀ rows, y = .t (.sl true rows) → f (id + 1000 * j) = u) → outCL f s id cs = some (ys, p, s') → p → FR w0 B0 Fin s' a w g ∧ Subs s s' ∧ Fam (VC w B) ys vs (Freed w0 w Fin g s s') := by
  intro cs
  induction cs with
  | nil => intro ys s s' id vs G p F hc _ h _; rw [outCL] at h; cases h; cases hc; exact ⟨F, .refl _, .nil _⟩
  | cons x cs ih =>
    intro ys s s' id vs G p F hc hf h hp
    rw [outCL] at h
    split at h
    case h_2 => cases h
    rename_i y p1 s1 h1
    split at h
    case h_2 => cases h
    rename_i l p2 s2 h2
    cases h
    cases hc with
    | cons _ _ v us G1 G2 _ hx hs _ _ _ =>
      obtain ⟨F1, hs1, hv⟩ := outC_sound F hB hBB hgB hx (fun rows hx' => hf 0 x v rfl rfl rows hx') h1 hp.1
      obtain ⟨F2, hs2, hvs⟩ := ih F1 hs (fun j y u hy hu rows hy' => by
        have := hf (j + 1) y u (by simpa using hy) (by simpa using hu) rows hy'
        rw [← this]; congr 1; simp; omega) h2 hp.2
      exact ⟨F2, hs1.trans hs2, .cons _ _ _ _ _ _ _ hv hvs (fun b hb hb' => hb.2.2.1 hb'.2.2.2) (fun b hb => hb.left hs2) (fun b hb => hb.right hs1)⟩

theorem outA_sound (F : FR w0 B0 Fin s a w g) {B : Nat → Prop} (hB : ∀ b, B0 b → w.heap[b]? = w0.heap[b]?) (hBB : ∀ b, B0 b → B b) (hgB : ∀ b, g.B b → B b) {g0 : Gh} {si : St} {id : Nat} {x y : AV} {v : Value} {G : Nat → Prop} {p : Prop} (hx : VS w0 B0 x v G) (hA : ArgA si g0 id x v)
    (h : outA g0.rv s id x = some (y, p, s')) (hp : p) : FR w0 B0 Fin s' a w g ∧ Subs s s' ∧ VS w B y v (Freed w0 w Fin g s s') := by
  rcases hx with hx | ⟨cs, vs, rfl, rfl, hx⟩
  · have h' : outC g0.rv s id x = some (y, p, s') := by
      obtain ⟨z, rfl, _⟩ := hx
      exact h
    obtain ⟨F1, hs1, hv⟩ := outC_sound F hB hBB hgB hx (fun rows hx' => (hA.1 rows hx').2) h' hp
    exact ⟨F1, hs1, .inl hv⟩
  · simp only [outA] at h
    split at h
    case h_2 => cases h
    rename_i l p1 s1 h1
    cases h
    obtain ⟨F1, hs1, hv⟩ := outCL_sound hB hBB hgB F hx (fun j y u hy hu rows hy' => (((hA.2 cs vs rfl rfl).2 j y u hy hu) rows hy').2) h1 hp
    exact ⟨F1, hs1, .inr ⟨_, vs, rfl, rfl, hv⟩⟩

theorem outs_sound {B : Nat → Prop} (hB : ∀ b, B0 b → w.heap[b]? = w0.heap[b]?) (hBB : ∀ b, B0 b → B b) (hgB : ∀ b, g.B b → B b) {g0 : Gh} {si : St} : ∀ {args ys : List AV} {ks : List (Nat × Nat)} {fl : List Bool} {s s' : St} {vs : List Value} {G : Nat → Prop} {p : Prop}, FR w0 B0 Fin s a w g → Fam (VS w0 B0) args vs G →
    (∀ (i : Nat) (q : Nat × Nat) (x : AV) (v : Value), ks[i]? = some q → args[i]? = some x → vs[i]? = some v → ArgA si g0 q.2 x v) → outsL g0.rv s ks args fl = some (ys, p, s') → p → FR w0 B0 Fin s' a w g ∧ Subs s s' ∧ Fam (VO w B) ys vs (Freed w0 w Fin g s s') := by
  intro args
  induction args with
  | nil => intro ys ks fl s s' vs G p F hc _ h _; rw [outsL] at h; cases h; cases hc; exact ⟨F, .refl _, .nil _⟩
  | cons x args ih =>
    intro ys ks fl s s' vs G p F hc hA h hp
    match ks with
    | [] => simp [outsL] at h
    | (k, b) :: ks =>
      cases hc with
      | cons _ _ v us G1 G2 _ hx hs _ _ _ =>
        have hA' : ∀ (i : Nat) (q : Nat × Nat) (x : AV) (v : Value), ks[i]? = some q → args[i]? = some x → us[i]? = some v → ArgA si g0 q.2 x v := fun i q z u h1 h2 h3 => hA (i + 1) q z u (by simpa using h1) (by simpa using h2) (by simpa using h3)
        have skip : ∀ {fl : List Bool}, (match outsL g0.rv s ks args fl with
            | some (l, ps, s) => some (AV.u :: l, ps, s)
            | none => none) = some (ys, p, s') → FR w0 B0 Fin s' a w g ∧ Subs s s' ∧ Fam (VO w B) ys (v :: us) (Freed w0 w Fin g s s') := by
          intro fl h
          split at h
          case h_2 => cases h
          rename_i l p2 s2 h2
          cases h
          obtain ⟨F2, hs2, hvs⟩ := ih F hs hA' h2 hp
          exact ⟨F2, hs2, .cons _ _ _ _ (fun _ => False) _ _ (.inl rfl) hvs (fun _ h => h.elim) (fun _ h => h.elim) (fun _ h => h)⟩
        match fl with
        | true :: fl =>
          rw [outsL] at h
          split at h
          case h_2 => cases h
          rename_i y p1 s1 h1
          split at h
          case h_2 => cases h
          rename_i l p2 s2 h2
          cases h
          obtain ⟨F1, hs1, hv⟩ := outA_sound F hB hBB hgB hx (hA 0 (k, b) x v rfl rfl rfl) h1 hp.1
          obtain ⟨F2, hs2, hvs⟩ := ih F1 hs hA' h2 hp.2
          exact ⟨F2, hs1.trans hs2, .cons _ _ _ _ _ _ _ (.inr hv) hvs (fun b hb hb' => hb.2.2.1 hb'.2.2.2) (fun b hb => hb.left hs2) (fun b hb => hb.right hs1)⟩
        | false :: fl => rw [outsL] at h; exact skip h
        | [] => rw [outsL] at h; exact skip h

theorem body_sound (hT : TabOk P E.tab) (hΦ : ∀ f as r, Φ f as r → Sound P f as r) {f : FuncId} {fn : Func} {args : List AV} {r : AV} (hf : P.funcs[f]? = some fn) (hname : (fn.name == "runtime.NumGoroutine") = false) (h : Body Φ E fn args r) : Sound P f args r := by
  obtain ⟨c, s, hb, hn, hi, h⟩ := h
  refine ⟨⟨fn, hf, by simp [hb], hname⟩, ?_⟩
  intro w vs B Fin hB hFin hargs
  refine calls_of_wp hf hb ?_
  have hlen := hargs.length
  let a0 : Act := { tmps := vs.toArray ++ Array.replicate (fn.ntmps - vs.toArray.size) undef, defers := [] }
  let g0 : Gh := { B := B, lc := fun _ => 0, rv := fun _ => undef, sz := fun _ => 0, fo := fun _ _ => False }
  have F0 : FR w B Fin ⟨[], [], [], fn.ntmps⟩ a0 w g0 := by
    refine ⟨by simp [a0]; omega, rfl, .refl _ _, fun b hb => ⟨(hB b hb).1, .inl hb⟩, fun k x hk => by simp [lk] at hk, fun id cs hi => by simp [lk] at hi, fun id cs hi => by simp [lk] at hi, fun i j ci cj hi => by simp [lk] at hi, fun i j ri rj b hi => by simp [lk] at hi, fun i j ci rj hi => by simp [lk] at hi, fun i r u hi => by simp [lk] at hi⟩
  have hTk : Take w w Fin g0 ⟨[], [], [], fn.ntmps⟩ Fin := by
    intro b hb
    refine ⟨hFin b hb, .inl hb, ?_⟩
    rintro (h1 | ⟨i, c, hi, _⟩ | ⟨j, r, hj, _⟩)
    · exact (hB b h1).2 hb
    · simp [lk] at hi
    · simp [lk] at hj
  have hks : ∀ (i : Nat) (p : Nat × Nat), initKs[i]? = some p → p = (i, 100000 + 100000 * i) := by
    intro i p hp
    rw [show initKs = (List.range 12).map fun i => (i, 100000 + 100000 * i) from rfl] at hp
    rw [List.getElem?_map] at hp
    cases hr : (List.range 12)[i]? with
    | none => rw [hr] at hp; cases hp
    | some k =>
      rw [hr] at hp
      rw [List.getElem?_range (by have := nth_lt hr; simpa using this)] at hr
      cases hr; cases hp; rfl
  obtain ⟨g1, F1, _, hA⟩ := init_sound (lo := 100000) F0 hargs hTk (fun i p v hp hv => by
      have := hks i p hp
      subst this
      have hlt := nth_lt hv
      simp only [a0, Array.getElem?_append, List.size_toArray, hlt, if_true, List.getElem?_toArray, hv]) (fun i p hp => by have := hks i p hp; subst this; simp) hi
  obtain ⟨o, ho, h⟩ := h g1.rv
  have F : FE w B Fin ⟨s.t, s.h, o, s.n⟩ a0 w := ⟨g1, tel_sound F1 ho⟩
  refine Code.wp_mono ?_ (wp_sound (w0 := w) (B0 := B) (Fin := Fin) hT hΦ c F h)
  intro e a' w' hq
  have fin : ∀ s, FE w B Fin s a' w' → AdjW (Ret E.tab fn args g1.rv r) s → a'.defers = [] ∧ ∃ v, (results fn a'.tmps).run P w' = .ok v w' ∧
      ∃ u B' F', Ending.returned v = .returned u ∧ VX w' B' vs r u F' ∧ (∀ b, B' b → b < w'.heap.size ∧ ¬ F' b ∧ (B b ∨ Fin b ∨ w.heap.size ≤ b)) ∧ (∀ b, F' b → b < w'.heap.size ∧ (Fin b ∨ w.heap.size ≤ b)) ∧ Keeps Fin w w' := by
    rintro s ⟨g, F'⟩ ha
    obtain ⟨s1, g, hr, F'⟩ := AdjW.sound ha F'
    refine ⟨F'.df, ?_⟩
    rcases hr with ⟨s2, hr⟩ | hr | ⟨fl, r0, outs, p, s2, s3, hr, hos, hp, rfl⟩
    · obtain ⟨v, hv, _, _, hres⟩ := results_M hT F' hr
      refine ⟨v, hv, v, g.B, _, rfl, .inl hres, fun b hb => ⟨(F'.bb b hb).1, fun hf => hf.2.2.1 (.inl hb), (F'.bb b hb).2⟩, fun b hb => ⟨hb.1, hb.2.1⟩, F'.kp⟩
    · obtain ⟨v, hv, hres⟩ := results_S hT F' hr
      exact ⟨v, hv, v, used g s1, _, rfl, .inl hres, fun b hb => ⟨F'.used_lt hb, fun h => h, F'.used_in hb⟩, fun b hb => hb.elim, F'.kp⟩
    · obtain ⟨v, hv, F2, hs2, hres⟩ := results_M hT F' hr
      have hBk : ∀ b, B b → w'.heap[b]? = w.heap[b]? := fun b hb => F'.kp.block b (hB b hb).1 (hB b hb).2
      obtain ⟨F3, hs3, hvo⟩ := outs_sound (B := fun b => g.B b ∨ B b) hBk (fun b hb => .inr hb) (fun b hb => .inl hb) F2 hargs hA hos hp
      refine ⟨v, hv, v, fun b => g.B b ∨ B b, Freed w w' Fin g s1 s3, rfl, .inr ⟨r0, outs, _, _, rfl, hres.mono (fun b hb => ⟨.inl hb, rfl⟩) (fun _ _ => rfl), hvo, (fun b hb hb' => hb.2.2.1 hb'.2.2.2), (fun b hb => hb.left hs3), (fun b hb => hb.right hs2)⟩, ?_, fun b hb => ⟨hb.1, hb.2.1⟩, F'.kp⟩
      rintro b (hb | hb)
      · exact ⟨(F'.bb b hb).1, fun hf => hf.2.2.1 (.inl hb), (F'.bb b hb).2⟩
      · refine ⟨Nat.lt_of_lt_of_le (hB b hb).1 F'.kp.size, fun hf => ?_, .inl hb⟩
        rcases hf.2.1 with h1 | h1
        · exact (hB b hb).2 h1
        · have := (hB b hb).1; omega
  cases e with
  | normal => obtain ⟨s', F', h'⟩ := hq; exact fin s' F' h'
  | ret => obtain ⟨s', F', h'⟩ := hq; exact fin s' F' h'
  | exit i => obtain ⟨s', F', h'⟩ := hq; exact h'.elim
  | goto _ => exact hq.elim
  | panic _ => exact hq.elim
  | outgrown => exact hq.elim

/-- What is told is so. -/
theorem Tells.sound {X : Rel3} (hT : TabOk P E.tab) (hX : ∀ f as r, X f as r → Sound P f as r) {f : FuncId} {args : List AV} {r : AV} (h : Tells P E X f args r) : Sound P f args r :=
  h (Sound P) hX fun _ _ _ _ hf hn hb => body_sound hT (fun _ _ _ h => h) hf hn hb
end
end Go.Ev
