import Derived.Test.YthhlbnhgjijbaaaQm2
import Derived.ChangeSlices
import Derived.ChangeArms
import Derived.Test.YthhlbnhgjijbaaaProg
import Derived.Lib.SlicesCompact
import Derived.Shelf.Sort.Plain
import Derived.Shelf.Slices.In.SortNone
import Derived.Shelf.Slices.In.CompactI
import Derived.Ground.NamesProg
import Derived.Ground.Names2Prog
import Derived.WalkKit
set_option linter.unusedVariables false
set_option linter.unusedSimpArgs false
namespace Go.Ev
open Go Go.RowKit

section
variable {P : Program} {E : Env} {w0 w : World} {B0 Fin : Nat → Prop} {Φ : Rel3} {s s' : St} {a : Act} {g : Gh}

/-- where a piece of code comes out -/
def QR (w0 : World) (B0 Fin : Nat → Prop) (Q : Ex → St → Prop) : Exit → Act → World → Prop
  | .normal, a, w => ∃ s, FE w0 B0 Fin s a w ∧ Q .normal s
  | .exit i, a, w => ∃ s, FE w0 B0 Fin s a w ∧ Q (.exit i) s
  | .ret, a, w => ∃ s, FE w0 B0 Fin s a w ∧ Q .ret s
  | _, _, _ => False

theorem FE.drawn (F : FE w0 B0 Fin s a w) (n : Nat) : FE w0 B0 Fin s a { w with drawn := n } := by
  obtain ⟨g, F⟩ := F
  exact ⟨g, F.world (w' := { w with drawn := n }) (Nat.le_refl _) (fun _ _ => rfl) ⟨F.kp.os, F.kp.tape, F.kp.output, F.kp.size, F.kp.block⟩⟩

theorem wp_sound (hT : TabOk P E.tab) (hΦ : ∀ f as r, Φ f as r → Sound P f as r) : ∀ (c : Code) {s : St} {a : Act} {w : World} {Q : Ex → St → Prop}, FE w0 B0 Fin s a w → Ev.wp Φ E c s Q → c.wp P (QR w0 B0 Fin Q) a w := by
  intro c
  induction c with
  | skip => intro s a w Q F h; exact wp_skip ⟨s, F, h⟩
  | region id ops draw =>
    intro s a w Q F h
    cases draw with
    | false => exact wp_region_list (ops_sound hT hΦ F h fun s' a' w' h' F' => ⟨s', F', h'⟩)
    | true =>
      rcases h with ⟨m, hm, h⟩ | ⟨X, M, l, hm, hl, h⟩
      · exact wp_region_any hT.2 (quiet_sound hT hΦ (Q := QR w0 B0 Fin Q) (fun s' a' w' h' F' => ⟨s', F', h'⟩) hm (F.drawn _) h)
      · exact wp_region_any hT.2 (late_sound hT hΦ (Q := QR w0 B0 Fin Q) (fun s' a' w' h' F' => ⟨s', F', h'⟩) (fun _ _ _ h => h) hm hl (F.drawn _) h)
  | seq x y ihx ihy =>
    intro s a w Q F h
    refine wp_seq (Code.wp_mono ?_ (ihx F h))
    intro e a' w' hq
    cases e with
    | normal => obtain ⟨s', F', h'⟩ := hq; exact ihy F' h'
    | exit i => exact hq
    | ret => exact hq
    | goto _ => exact hq.elim
    | panic _ => exact hq.elim
    | outgrown => exact hq.elim
  | cond c x y ihx ihy =>
    intro s a w Q F h
    obtain ⟨p, hc, ht, hf⟩ := h
    obtain ⟨g, F0⟩ := F
    have hv := F0.ev c
    rw [hc] at hv
    have hv := cr_sc hv
    cases p with
    | true => exact wp_cond_true hv (ihx ⟨g, F0⟩ (ht rfl))
    | false => exact wp_cond_false hv (ihy ⟨g, F0⟩ (hf rfl))
  | block id b ih =>
    intro s a w Q F h
    refine wp_block (Code.wp_mono ?_ (ih F h))
    intro e a' w' hq
    cases e with
    | normal => exact hq
    | exit i =>
      obtain ⟨s', F', h'⟩ := hq
      simp only [Exit.inBlock, exBlock] at h' ⊢
      split
      · rename_i hi; simp only [hi, if_true] at h'; exact ⟨s', F', h'⟩
      · rename_i hi; simp only [hi, if_false] at h'; exact ⟨s', F', h'⟩
    | ret => exact hq
    | goto _ => exact hq.elim
    | panic _ => exact hq.elim
    | outgrown => exact hq.elim
  | loop b ih =>
    intro s a w Q F h
    obtain ⟨n, h⟩ := h
    let R : Nat → Act → World → Prop := fun n a w => ∃ s, FE w0 B0 Fin s a w ∧ loopN (fun s Q => Ev.wp Φ E b s Q) n s Q
    have hex : ∀ a w, (∃ n, R n a w) → ∃ m, R m a w ∧ ∀ k, R k a w → m ≤ k := by
      intro a w ⟨n, hn⟩
      induction n using Nat.strongRecOn with
      | _ n ihn =>
        by_cases hk : ∃ k, k < n ∧ R k a w
        · obtain ⟨k, hkn, hk⟩ := hk; exact ihn k hkn hk
        · exact ⟨n, hn, fun k hk' => Nat.le_of_not_lt fun hlt => hk ⟨k, hlt, hk'⟩⟩
    let μ : Act → World → Nat := fun a w => by
      classical exact if h : ∃ n, R n a w then Classical.choose (hex a w h) else 0
    have hμ : ∀ a w n, R n a w → R (μ a w) a w ∧ μ a w ≤ n := by
      intro a w n hn
      have h : ∃ n, R n a w := ⟨n, hn⟩
      have e : μ a w = Classical.choose (hex a w h) := by simp only [μ]; rw [dif_pos h]
      obtain ⟨h1, h2⟩ := Classical.choose_spec (hex a w h)
      rw [e]; exact ⟨h1, h2 n hn⟩
    refine wp_loop (fun a w => ∃ n, R n a w) μ ⟨n, s, F, h⟩ ?_
    intro a w ⟨n, hn⟩
    obtain ⟨hm, _⟩ := hμ a w n hn
    generalize hmm : μ a w = m at hm
    cases m with
    | zero => obtain ⟨s', F', h'⟩ := hm; exact h'.elim
    | succ m =>
      obtain ⟨s', ⟨g, F'⟩, hm⟩ := hm
      obtain ⟨s2, g2, h', F2⟩ := AdjW.sound hm F'
      refine Code.wp_mono ?_ (ih ⟨g2, F2⟩ h')
      intro e a' w' hq
      cases e with
      | normal =>
        obtain ⟨s3, F3, h3⟩ := hq
        have hr : R m a' w' := ⟨s3, F3, h3⟩
        exact ⟨⟨m, hr⟩, by have := (hμ a' w' m hr).2; omega⟩
      | exit i => exact hq
      | ret => exact hq
      | goto _ => exact hq.elim
      | panic _ => exact hq.elim
      | outgrown => exact hq.elim
  | exit id => intro s a w Q F h; exact wp_exit ⟨s, F, h⟩
  | ret => intro s a w Q F h; exact wp_ret ⟨s, F, h⟩
  | rangeFunc => intro s a w Q F h; exact h.elim
  | scope => intro s a w Q F h; exact h.elim
  | label => intro s a w Q F h; exact h.elim
  | goto => intro s a w Q F h; exact h.elim
  | refuse => intro s a w Q F h; exact h.elim

/-- what a result's place holds -/
theorem place_sound (hT : TabOk P E.tab) (F : FR w0 B0 Fin s a w g) (x : ResultVar) {y : AV} (h : (match x with
    | .tmp k => some (s.get k)
    | .cell c ty => loadAV E.tab s ty (s.get c)) = some y) :
    ∃ v, ((match x with
      | .tmp t => pure (a.tmps.getD t undef)
      | .cell c t => do loadVar t (← asAddr (a.tmps.getD c undef)) : Sem Value)).run P w = .ok v w ∧ CR w g s.h s.o y v := by
  cases x with
  | tmp k =>
    cases h
    exact ⟨_, rfl, F.ev (.tmp k)⟩
  | cell c ty =>
    have hv := F.ev (.tmp c)
    obtain ⟨u, hu, hr⟩ := load_sound hT F hv h
    refine ⟨u, ?_, hr⟩
    have he : a.eval (.tmp c) = a.tmps.getD c undef := rfl
    rw [he] at hu
    have hq : ∀ q : Value, (Instr.loadAt ty q).run P w = .ok u w → (do loadVar ty (← asAddr q) : Sem Value).run P w = .ok u w := by
      intro q hq
      cases q with
      | pointer ad =>
        cases ad with
        | none => simp [Instr.loadAt, Instr.sureAddr] at hq
        | some ad => simpa [Instr.loadAt, Instr.sureAddr, asAddr] using hq
      | _ => simp [Instr.loadAt, Instr.sureAddr] at hq
    exact hq _ hu

theorem resultM_sound (hT : TabOk P E.tab) (F : FR w0 B0 Fin s a w g) (x : ResultVar) {y : AV} (h : resultM E.tab s x = some (y, s')) :
    ∃ v, ((match x with
      | .tmp t => pure (a.tmps.getD t undef)
      | .cell c t => do loadVar t (← asAddr (a.tmps.getD c undef)) : Sem Value)).run P w = .ok v w ∧ FR w0 B0 Fin s' a w g ∧ Subs s s' ∧ VS w g.B y v (Freed w0 w Fin g s s') := by
  cases x with
  | tmp k =>
    obtain ⟨v, hv, hc⟩ := place_sound hT F (.tmp k) rfl
    obtain ⟨F1, hs1, hr⟩ := moveA_sound F hc h
    exact ⟨v, hv, F1, hs1, hr⟩
  | cell c ty =>
    simp only [resultM] at h
    split at h
    case h_2 => cases h
    rename_i z hz
    obtain ⟨v, hv, hc⟩ := place_sound hT F (.cell c ty) hz
    obtain ⟨F1, hs1, hr⟩ := moveA_sound F hc h
    exact ⟨v, hv, F1, hs1, hr⟩
theorem resultS_sound (hT : TabOk P E.tab) (F : FR w0 B0 Fin s a w g) (x : ResultVar) {y : AV} (h : resultS E.tab s x = some y) :
    ∃ v, ((match x with
      | .tmp t => pure (a.tmps.getD t undef)
      | .cell c t => do loadVar t (← asAddr (a.tmps.getD c undef)) : Sem Value)).run P w = .ok v w ∧ VS w (used g s) y v (fun _ => False) := by
  cases x with
  | tmp k =>
    obtain ⟨v, hv, hc⟩ := place_sound hT F (.tmp k) rfl
    exact ⟨v, hv, snapA_sound F h hc _⟩
  | cell c ty =>
    simp only [resultS] at h
    split at h
    case h_2 => cases h
    rename_i z hz
    obtain ⟨v, hv, hc⟩ := place_sound hT F (.cell c ty) hz
    exact ⟨v, hv, snapA_sound F h hc _⟩

theorem resultsM_key (f : ResultVar → Sem Value) (hf : ∀ s x y s', FR w0 B0 Fin s a w g → resultM E.tab s x = some (y, s') → ∃ v, (f x).run P w = .ok v w ∧ FR w0 B0 Fin s' a w g ∧ Subs s s' ∧ VS w g.B y v (Freed w0 w Fin g s s')) :
    ∀ (l : List ResultVar) (s s2 : St) (rs : List AV), FR w0 B0 Fin s a w g → resultsML E.tab s l = some (rs, s2) → ∃ vs, (l.mapM f).run P w = .ok vs w ∧ FR w0 B0 Fin s2 a w g ∧ Subs s s2 ∧ Fam (VS w g.B) rs vs (Freed w0 w Fin g s s2) := by
  intro l
  induction l with
  | nil => intro s s2 rs F h; rw [resultsML] at h; cases h; exact ⟨[], rfl, F, .refl _, .nil _⟩
  | cons x l ih =>
    intro s s2 rs F h
    rw [resultsML] at h
    split at h
    case h_2 => cases h
    rename_i y s1 h1
    split at h
    case h_2 => cases h
    rename_i l' s2' h2
    cases h
    obtain ⟨v, hv, F1, hs1, hr⟩ := hf _ _ _ _ F h1
    obtain ⟨vs, hvs, F2, hs2, hrs⟩ := ih s1 _ l' F1 h2
    refine ⟨v :: vs, ?_, F2, hs1.trans hs2, .cons _ _ _ _ _ _ _ hr hrs ?_ (fun b hb => hb.left hs2) (fun b hb => hb.right hs1)⟩
    · rw [List.mapM_cons, Sem.run_bind, hv, Result.andThen_ok, Sem.run_bind, hvs]
      rfl
    · intro b hb hb'; exact hb.2.2.1 hb'.2.2.2
theorem resultsS_key (f : ResultVar → Sem Value) (hf : ∀ x y, resultS E.tab s x = some y → ∃ v, (f x).run P w = .ok v w ∧ VS w (used g s) y v (fun _ => False)) :
    ∀ (l : List ResultVar) (rs : List AV), mapS (resultS E.tab s) l = some rs → ∃ vs, (l.mapM f).run P w = .ok vs w ∧ Fam (VS w (used g s)) rs vs (fun _ => False) := by
  intro l
  induction l with
  | nil => intro rs h; cases h; exact ⟨[], rfl, .nil _⟩
  | cons x l ih =>
    intro rs h
    rw [mapS] at h
    split at h
    case h_2 => cases h
    rename_i y hy
    split at h
    case h_2 => cases h
    rename_i rs' hrs
    cases h
    obtain ⟨v, hv, hr⟩ := hf _ _ hy
    obtain ⟨vs, hvs, hrs'⟩ := ih _ hrs
    refine ⟨v :: vs, ?_, .cons _ _ _ _ (fun _ => False) (fun _ => False) _ hr hrs' (fun _ h => h.elim) (fun _ h => h) (fun _ h => h)⟩
    rw [List.mapM_cons, Sem.run_bind, hv, Result.andThen_ok, Sem.run_bind, hvs]
    rfl

/-- one result, or many -/
theorem pack_one (f : ResultVar → Sem Value) {rv : Array ResultVar} {x : ResultVar} (hx : rv.toList = [x]) {v : Value} (hv : (f x).run P w = .ok v w) :
    (do
      let vs ← rv.mapM f
      pure (if h : vs.size = 1 then vs[0] else .tuple vs) : Sem Value).run P w = .ok v w := by
  have hvs : (rv.toList.mapM f).run P w = .ok [v] w := by
    rw [hx, List.mapM_cons, Sem.run_bind, hv, Result.andThen_ok, Sem.run_bind]
    rfl
  rw [Sem.run_bind, Array.mapM_eq_mapM_toList, Sem.run_map, hvs]
  simp
theorem pack_many (f : ResultVar → Sem Value) {rv : Array ResultVar} {vs : List Value} (hvs : (rv.toList.mapM f).run P w = .ok vs w) (hlen : vs.length ≠ 1) :
    (do
      let vs ← rv.mapM f
      pure (if h : vs.size = 1 then vs[0] else .tuple vs) : Sem Value).run P w = .ok (.tuple vs.toArray) w := by
  rw [Sem.run_bind, Array.mapM_eq_mapM_toList, Sem.run_map, hvs]
  simp [hlen]
theorem resultsML_len : ∀ {l : List ResultVar} {s s2 : St} {rs : List AV}, resultsML E.tab s l = some (rs, s2) → rs.length = l.length := by
  intro l
  induction l with
  | nil => intro s s2 rs h; rw [resultsML] at h; cases h; rfl
  | cons x l ih =>
    intro s s2 rs h
    rw [resultsML] at h
    split at h
    case h_2 => cases h
    split at h
    case h_2 => cases h
    rename_i h2
    cases h
    simp [ih h2]

theorem resultsM_all (f : ResultVar → Sem Value) (hf : ∀ s x y s', FR w0 B0 Fin s a w g → resultM E.tab s x = some (y, s') → ∃ v, (f x).run P w = .ok v w ∧ FR w0 B0 Fin s' a w g ∧ Subs s s' ∧ VS w g.B y v (Freed w0 w Fin g s s'))
    (F : FR w0 B0 Fin s a w g) {rv : Array ResultVar} {r : AV} {s2 : St} (h : resultsM E.tab rv.toList s = some (r, s2)) :
    ∃ v, (do
      let vs ← rv.mapM f
      pure (if h : vs.size = 1 then vs[0] else .tuple vs) : Sem Value).run P w = .ok v w ∧ FR w0 B0 Fin s2 a w g ∧ Subs s s2 ∧ VR w g.B r v (Freed w0 w Fin g s s2) := by
  unfold resultsM at h
  split at h
  · rename_i x hx
    obtain ⟨v, hv, F1, hs1, hr⟩ := hf _ _ _ _ F h
    exact ⟨v, pack_one f hx hv, F1, hs1, .inl hr⟩
  · rename_i hne
    split at h
    case h_2 => cases h
    rename_i l s2' hl
    cases h
    obtain ⟨vs, hvs, F2, hs2, hrs⟩ := resultsM_key f hf _ _ _ _ F hl
    refine ⟨_, pack_many f hvs ?_, F2, hs2, .inr ⟨_, vs, rfl, rfl, hrs⟩⟩
    intro h1
    have h2 := hrs.length
    have h3 := resultsML_len hl
    obtain ⟨x, hx⟩ := List.length_eq_one_iff.1 (show rv.toList.length = 1 by omega)
    exact hne x hx
theorem resultsS_all (f : ResultVar → Sem Value) (hf : ∀ x y, resultS E.tab s x = some y → ∃ v, (f x).run P w = .ok v w ∧ VS w (used g s) y v (fun _ => False))
    {rv : Array ResultVar} {r : AV} (h : resultsS E.tab rv.toList s = some r) :
    ∃ v, (do
      let vs ← rv.mapM f
      pure (if h : vs.size = 1 then vs[0] else .tuple vs) : Sem Value).run P w = .ok v w ∧ VR w (used g s) r v (fun _ => False) := by
  unfold resultsS at h
  split at h
  · rename_i x hx
    obtain ⟨v, hv, hr⟩ := hf _ _ h
    exact ⟨v, pack_one f hx hv, .inl hr⟩
  · rename_i hne
    split at h
    case h_2 => cases h
    rename_i l hl
    cases h
    obtain ⟨vs, hvs, hrs⟩ := resultsS_key f hf _ _ hl
    refine ⟨_, pack_many f hvs ?_, .inr ⟨_, vs, rfl, rfl, hrs⟩⟩
    intro h1
    have h2 := hrs.length
    have h3 := (mapS_eq hl).1
    obtain ⟨x, hx⟩ := List.length_eq_one_iff.1 (show rv.toList.length = 1 by omega)
    exact hne x hx

theorem results_M (hT : TabOk P E.tab) (F : FR w0 B0 Fin s a w g) {fn : Func} {r : AV} {s2 : St} (h : resultsM E.tab fn.results.toList s = some (r, s2)) :
    ∃ v, (results fn a.tmps).run P w = .ok v w ∧ FR w0 B0 Fin s2 a w g ∧ Subs s s2 ∧ VR w g.B r v (Freed w0 w Fin g s s2) :=
  resultsM_all _ (fun s x y s' F h => resultM_sound hT F x h) F h
theorem results_S (hT : TabOk P E.tab) (F : FR w0 B0 Fin s a w g) {fn : Func} {r : AV} (h : resultsS E.tab fn.results.toList s = some r) :
    ∃ v, (results fn a.tmps).run P w = .ok v w ∧ VR w (used g s) r v (fun _ => False) :=
  resultsS_all _ (fun x y h => resultS_sound hT F x h) h

theorem snapA_io {x y : AV} (h : snapA s x = some y) : isIo y = false := by
  have hc : ∀ {x y : AV}, snapC s x = some y → isIo y = false := by
    intro x y h
    unfold snapC at h
    split at h
    · cases h; rfl
    · cases h
  unfold snapA at h
  split at h
  · split at h
    · cases h; rfl
    · cases h
  · cases h
  · exact hc h
theorem resultsS_io {rs : List ResultVar} {r : AV} (h : resultsS E.tab rs s = some r) : isIo r = false := by
  unfold resultsS at h
  split at h
  · rename_i x
    cases x with
    | tmp k => exact snapA_io h
    | cell c ty =>
      simp only [resultS] at h
      split at h
      · exact snapA_io h
      · cases h
  · split at h
    · cases h; rfl
    · cases h
theorem resultsM1_eq {rs : List ResultVar} {r : AV} {s2 : St} (h : resultsM1 E.tab rs s = some (r, s2)) : resultsM E.tab rs s = some (r, s2) ∧ isIo r = false := by
  unfold resultsM1 at h
  split at h
  · rename_i r' s' h'
    split at h
    · cases h
    · rename_i hi; cases h; exact ⟨h', hi⟩
  · cases h

theorem FR.used_in (F : FR w0 B0 Fin s a w g) {b : Nat} (h : used g s b) : B0 b ∨ Fin b ∨ w0.heap.size ≤ b := by
  rcases h with h | ⟨i, c, hi, rfl⟩ | ⟨j, r, hj, hb⟩
  · exact (F.bb b h).2
  · exact .inr (F.bx i c hi).1
  · exact .inr ((F.rt j r hj).2 b hb).2.1

theorem impL_n : ∀ {cs l : List AV} {s s' : St} {id n : Nat}, impL s id cs = some (l, s', n) → n = id + 1000 * cs.length := by
  intro cs
  induction cs with
  | nil => intro l s s' id n h; rw [impL] at h; cases h; simp
  | cons x cs ih =>
    intro l s s' id n h
    rw [impL] at h
    split at h
    case h_2 => cases h
    split at h
    case h_2 => cases h
    rename_i h2
    cases h
    have := ih h2
    simp only [List.length_cons, Nat.add_eq] at this ⊢
    omega
theorem imp2_n {s s' : St} {id n : Nat} {x y : AV} (h : imp2 s id x = some (y, s', n)) : (∀ cs, x = .ag cs → n = id + 1000 * cs.length) ∧ ((∀ cs, x ≠ .ag cs) → n = id + 1000) := by
  unfold imp2 at h
  split at h
  · split at h
    case h_2 => cases h
    rename_i h1
    cases h
    exact ⟨fun cs e => by cases e; exact impL_n h1, fun e => absurd rfl (e _)⟩
  · rename_i hne
    split at h
    case h_2 => cases h
    cases h
    exact ⟨fun cs e => absurd e (hne cs), fun _ => rfl⟩
theorem ArgA.ext {g' : Gh} {id lo : Nat} {x : AV} {v : Value} (h : ArgA s g id x v) (he : ∀ i r, i < lo → lk s.o i = some r → lk s'.o i = some r ∧ g'.rv i = g.rv i) (h1 : ∀ rows, x = .t (.sl true rows) → id < lo) (h2 : ∀ cs, x = .ag cs → id + 1000 * cs.length ≤ lo) : ArgA s' g' id x v := by
  refine ⟨fun rows hx => ?_, fun cs vs hx hv => ?_⟩
  · obtain ⟨⟨r, hr⟩, h3⟩ := h.1 rows hx
    obtain ⟨h4, h5⟩ := he id r (h1 rows hx) hr
    exact ⟨⟨r, h4⟩, h5.trans h3⟩
  · obtain ⟨hl, h3⟩ := h.2 cs vs hx hv
    refine ⟨hl, fun j y u hy hu rows hy' => ?_⟩
    obtain ⟨⟨r, hr⟩, h4⟩ := h3 j y u hy hu rows hy'
    have hj := nth_lt hy
    have := h2 cs hx
    obtain ⟨h5, h6⟩ := he _ r (by omega) hr
    exact ⟨⟨r, h5⟩, h6.trans h4⟩

theorem imp3_sound (F : FR w0 B0 Fin s a w g) {id n : Nat} {x y : AV} {v : Value} {G : Nat → Prop} (hx : VS w g.B x v G) (hG : Take w0 w Fin g s G) (h : imp3 s id x = some (y, s', n))
    (hl : ∀ b b', v = .pointer (some ⟨b, 0, none⟩) → s'.n ≤ id → Loc w0 Fin id b' → b = b') :
    ∃ g', FR w0 B0 Fin s' a w g' ∧ Ext s g s' g' id n G ∧ id ≤ n ∧ CR w g' s'.h s'.o y v ∧ ArgA s' g' id x v ∧ ∀ cs, x = .ag cs → n = id + 1000 * cs.length := by
  unfold imp3 at h
  split at h
  · rename_i cs
    have hx' : VB w g.B (.io cs) v G := by
      rcases hx with ⟨t, e, _⟩ | ⟨cs', vs, e, _⟩ | hx
      · cases e
      · cases e
      · exact hx
    obtain ⟨g1, F1, E1, hn, c1⟩ := impB_sound F hx' hG h hl
    exact ⟨g1, F1, E1, hn, c1, ⟨fun _ h => (by cases h), fun _ _ h => (by cases h)⟩, fun _ h => (by cases h)⟩
  · obtain ⟨g1, F1, E1, hn, I1, A1⟩ := imp2_sound F hx hG h
    exact ⟨g1, F1, E1, hn, I1.cr _, A1, (imp2_n h).1⟩

/-- the arguments in their slots -/
theorem init_sound : ∀ {args : List AV} {ks : List (Nat × Nat)} {s s' : St} {g : Gh} {vs : List Value} {G : Nat → Prop} {lo : Nat}, FR w0 B0 Fin s a w g → Fam (VS w g.B) args vs G → Take w0 w Fin g s G →
    (∀ (i : Nat) (p : Nat × Nat) (v : Value), ks[i]? = some p → vs[i]? = some v → a.tmps[p.1]? = some v) → (∀ (i : Nat) (p : Nat × Nat), ks[i]? = some p → lo + 100000 * i ≤ p.2 ∧ p.2 ≤ lo + 100000 * i) →
    (∀ (i : Nat) (p : Nat × Nat) (b b' : Nat), ks[i]? = some p → vs[i]? = some (.pointer (some ⟨b, 0, none⟩)) → Loc w0 Fin p.2 b' → b = b') → initT s ks args = some s' →
    ∃ g', FR w0 B0 Fin s' a w g' ∧ (∀ i r, i < lo → lk s.o i = some r → lk s'.o i = some r ∧ g'.rv i = g.rv i) ∧ ∀ (i : Nat) (p : Nat × Nat) (x : AV) (v : Value), ks[i]? = some p → args[i]? = some x → vs[i]? = some v → ArgA s' g' p.2 x v := by
  intro args
  induction args with
  | nil => intro ks s s' g vs G lo F _ _ _ _ _ h; rw [initT] at h; cases h; exact ⟨g, F, fun i r _ h => ⟨h, rfl⟩, fun i p x v _ hx => by simp at hx⟩
  | cons x args ih =>
    intro ks s s' g vs G lo F hf hG hv hks hL h
    match ks with
    | [] => rw [initT] at h; cases h
    | (k, b) :: ks =>
      rw [initT] at h
      split at h
      case h_2 => cases h
      rename_i y s1 n h1
      split at h
      case h_2 => cases h
      rename_i hn
      split at h
      case h_2 => cases h
      rename_i s2 h2
      have hn : n ≤ b + 100000 := Nat.le_of_ble_eq_true hn
      have hb := hks 0 (k, b) rfl
      simp only at hb
      cases hf with
      | cons _ _ v us G1 G2 _ hx hs hd hs1 hs2 =>
        obtain ⟨g1, F1, E1, hbn, C1, A1, nn1⟩ := imp3_sound F hx (hG.sub hs1) h1 (fun b1 b2 e _ hb2 => hL 0 (k, b) b1 b2 rfl (by simp [e]) hb2)
        have F2 := F1.retell (hv 0 (k, b) v rfl rfl) h2 C1
        obtain ⟨e1, e2, _⟩ := putT_parts h2
        have hT2 : Take w0 w Fin g1 s2 G2 := by
          have := (hG.sub hs2).ext E1 fun b hb hb' => hd b hb' hb
          intro b hb
          obtain ⟨a1, a2, a3⟩ := this b hb
          refine ⟨a1, a2, ?_⟩
          unfold used at a3 ⊢
          rw [e1, e2]; exact a3
        obtain ⟨g3, F3, P3, A3⟩ := ih (lo := b + 100000) F2 (by rw [E1.B]; exact hs) hT2 (fun i k' v' hk hv' => hv (i + 1) k' v' (by simpa using hk) (by simpa using hv')) (fun i p hp => by have := hks (i + 1) p (by simpa using hp); omega) (fun i p b1 b2 hp hv' => hL (i + 1) p b1 b2 (by simpa using hp) (by simpa using hv')) h
        refine ⟨g3, F3, ?_, ?_⟩
        · intro i r hi hr
          obtain ⟨a1, a2⟩ := E1.o i r (.inl (by omega)) hr
          obtain ⟨a3, a4⟩ := P3 i r (by omega) (by rw [e2]; exact a1)
          exact ⟨a3, a4.trans a2⟩
        · intro i p z u hp hz hu
          cases i with
          | zero =>
            simp at hp hz hu; subst hp; subst hz; subst hu
            refine A1.ext (fun i r hi hr => P3 i r hi (by rw [e2]; exact hr)) (fun rows hx' => by simp) (fun cs hx' => ?_)
            have := nn1 cs hx'
            omega
          | succ i => exact A3 i p z u (by simpa using hp) (by simpa using hz) (by simpa using hu)

theorem lk_tel {f : Nat → Value} : ∀ {o o' : Rts}, telV f o = some o' → ∀ i, lk o' i = (lk o i).map fun r => (⟨r.1.n, some (f i)⟩, r.2) := by
  intro o
  induction o with
  | nil => intro o' h; rw [telV] at h; cases h; intro i; rfl
  | cons p r ih =>
    obtain ⟨id, q, rows⟩ := p
    intro o' h
    rw [telV] at h
    split at h
    case h_2 => cases h
    rename_i l hl
    cases h
    intro i
    rw [lk_cons, lk_cons, ih hl]
    split
    · rename_i e; subst e; rfl
    · rfl
theorem tel_sound (F : FR w0 B0 Fin s a w g) {o' : Rts} (h : telV g.rv s.o = some o') : FR w0 B0 Fin ⟨s.t, s.h, o', s.n⟩ a w g := by
  have hl := lk_tel h
  have hl' : ∀ i r, lk o' i = some r → ∃ r0, lk s.o i = some r0 ∧ r = (⟨r0.1.n, some (g.rv i)⟩, r0.2) := by
    intro i r hr
    rw [hl] at hr
    cases hx : lk s.o i with
    | none => rw [hx] at hr; cases hr
    | some r0 => rw [hx] at hr; cases hr; exact ⟨r0, rfl, rfl⟩
  have key : ∀ x v, CR w g s.h s.o x v → CR w g s.h o' x v := fun x v hx => hx.mono (fun b hb => ⟨hb, rfl⟩) (fun i cs _ h1 => ⟨⟨cs, h1⟩, rfl⟩) (fun i r _ h1 => ⟨⟨(⟨r.1.n, some (g.rv i)⟩, r.2), by rw [hl, h1]; rfl, rfl⟩, rfl, rfl⟩) (fun i r b _ h1 h2 _ => ⟨h2, rfl⟩)
  refine ⟨F.n, F.df, F.kp, F.bb, ?_, ?_, ?_, F.bi, ?_, ?_, ?_, F.bl⟩
  · intro k x hk
    obtain ⟨v, hv, hr⟩ := F.tm k x hk
    exact ⟨v, hv, key _ _ hr⟩
  · intro i cs h1
    obtain ⟨h2, h2', vs, ty, h3, h4⟩ := F.bx i cs h1
    exact ⟨h2, h2', vs, ty, h3, h4.mono fun k x v _ hx => key _ _ hx⟩
  · intro i r hr
    obtain ⟨r0, hr0, rfl⟩ := hl' i r hr
    exact F.rt i r0 hr0
  · intro i j ri rj b h1 h2 h3 h4
    obtain ⟨r1, h1, _⟩ := hl' i ri h1
    obtain ⟨r2, h2, _⟩ := hl' j rj h2
    exact F.rr i j r1 r2 b h1 h2 h3 h4
  · intro i j ci rj h1 h2
    obtain ⟨r2, h2, _⟩ := hl' j rj h2
    exact F.br i j ci r2 h1 h2
  · intro i r u h1 h2
    obtain ⟨r0, hr0, rfl⟩ := hl' i r h1
    cases h2; rfl

/-- what the arguments are at the end -/
theorem outC_sound (F : FR w0 B0 Fin s a w g) {B : Nat → Prop} (hB : ∀ b, B0 b → w.heap[b]? = w0.heap[b]?) (hBB : ∀ b, B0 b → B b) (hgB : ∀ b, g.B b → B b) {f : Nat → Value} {id : Nat} {x y : AV} {v : Value} {G : Nat → Prop} {p : Prop} (hx : VC w0 B0 x v G) (hf : ∀ rows, x = .t (.sl true rows) → f id = v)
    (h : outC f s id x = some (y, p, s')) (hp : p) : FR w0 B0 Fin s' a w g ∧ Subs s s' ∧ VC w B y v (Freed w0 w Fin g s s') := by
  obtain ⟨z, rfl, hz⟩ := hx
  have hrep : ∀ {u : Value}, Rep w0 B0 z u → Rep w B z u := fun h => h.mono fun b hb => ⟨hBB b hb, hB b hb⟩
  simp only [outC] at h
  split at h
  · rename_i rows0
    split at h
    case h_2 => cases h
    rename_i q rows hi
    split at h
    case h_2 => cases h
    rename_i hq
    split at h
    case h_2 => cases h
    rename_i u hu
    split at h
    case h_2 => cases h
    rename_i s1 hd
    cases h
    obtain ⟨F1, hs, _, hr, hfr⟩ := drop_root F hi hd
    simp only [hq] at hr
    have e1 := F.tv id _ u hi hu
    have e2 := hf rows0 rfl
    have hv : g.rv id = v := by rw [e1, hp, e2]
    rw [hv] at hr
    exact ⟨F1, hs, _, rfl, ((Root.own hr).sub hfr).mono (fun b hb => ⟨hgB b hb, rfl⟩) fun _ _ => rfl⟩
  · cases h
    cases hz with
    | sh rows v F' h => exact ⟨F, .refl _, _, rfl, .sh _ _ _ (hrep h)⟩
  · cases h
    cases hz with
    | sc v F' => exact ⟨F, .refl _, _, rfl, .sc _ _⟩
  · cases h
    cases hz with
    | pt cs v F' h => exact ⟨F, .refl _, _, rfl, .pt _ _ _ (hrep h)⟩
  · cases h
    cases hz with
    | fn g1 cs v F' h => exact ⟨F, .refl _, _, rfl, .fn _ _ _ _ (hrep h)⟩

theorem outCL_sound {B : Nat → Prop} (hB : ∀ b, B0 b → w.heap[b]? = w0.heap[b]?) (hBB : ∀ b, B0 b → B b) (hgB : ∀ b, g.B b → B b) {f : Nat → Value} : ∀ {cs ys : List AV} {s s' : St} {id : Nat} {vs : List Value} {G : Nat → Prop} {p : Prop}, FR w0 B0 Fin s a w g → Fam (VC w0 B0) cs vs G →
    (∀ (j : Nat) (y : AV) (u : Value), cs[j]? = some y → vs[j]? = some u → ∀ rows, y = .t (.sl true rows) → f (id + 1000 * j) = u) → outCL f s id cs = some (ys, p, s') → p → FR w0 B0 Fin s' a w g ∧ Subs s s' ∧ Fam (VC w B) ys vs (Freed w0 w Fin g s s') := by
  intro cs
  induction cs with
  | nil => intro ys s s' id vs G p F hc _ h _; rw [outCL] at h; cases h; cases hc; exact ⟨F, .refl _, .nil _⟩
  | cons x cs ih =>
    intro ys s s' id vs G p F hc hf h hp
    rw [outCL] at h
    split at h
    case h_2 => cases h
    rename_i y p1 s1 h1
    split at h
    case h_2 => cases h
    rename_i l p2 s2 h2
    cases h
    cases hc with
    | cons _ _ v us G1 G2 _ hx hs _ _ _ =>
      obtain ⟨F1, hs1, hv⟩ := outC_sound F hB hBB hgB hx (fun rows hx' => hf 0 x v rfl rfl rows hx') h1 hp.1
      obtain ⟨F2, hs2, hvs⟩ := ih F1 hs (fun j y u hy hu rows hy' => by
        have := hf (j + 1) y u (by simpa using hy) (by simpa using hu) rows hy'
        rw [← this]; congr 1; simp; omega) h2 hp.2
      exact ⟨F2, hs1.trans hs2, .cons _ _ _ _ _ _ _ hv hvs (fun b hb hb' => hb.2.2.1 hb'.2.2.2) (fun b hb => hb.left hs2) (fun b hb => hb.right hs1)⟩

theorem outA_sound (F : FR w0 B0 Fin s a w g) {B : Nat → Prop} (hB : ∀ b, B0 b → w.heap[b]? = w0.heap[b]?) (hBB : ∀ b, B0 b → B b) (hgB : ∀ b, g.B b → B b) {g0 : Gh} {si : St} {id : Nat} {x y : AV} {v : Value} {G : Nat → Prop} {p : Prop} (hx : VS w0 B0 x v G) (hA : ArgA si g0 id x v) (hL : ∀ cs b, x = .io cs → v = .pointer (some ⟨b, 0, none⟩) → Loc w0 Fin id b)
    (h : outA g0.rv s id x = some (y, p, s')) (hp : p) : FR w0 B0 Fin s' a w g ∧ Subs s s' ∧ VS w B y v (Freed w0 w Fin g s s') := by
  rcases hx with hx | ⟨cs, vs, rfl, rfl, hx⟩ | ⟨cs, vs, b, ty, F1, rfl, rfl, _⟩
  rotate_left 2
  · simp only [outA] at h
    split at h
    case h_2 => cases h
    rename_i hn
    split at h
    case h_2 => cases h
    rename_i cells hi
    split at h
    case h_2 => cases h
    rename_i ts s1 h1
    split at h
    case h_2 => cases h
    rename_i l hl
    split at h
    case h_2 => cases h
    rename_i c1 hin
    split at h
    case h_2 => cases h
    rename_i s2 h2
    cases h
    obtain ⟨F2, hs2, hb⟩ := boxOut_sound F hi h1 hl hin h2
    rw [F.bl id cells b hi (Nat.le_of_ble_eq_true hn) (hL cs b rfl rfl)] at hb
    obtain ⟨ds, us, b', ty', F1', e, e2, q1, q2, q3⟩ := hb
    exact ⟨F2, hs2, .inr (.inr ⟨ds, us, b', ty', F1', e, e2, q1, q2.imp fun x v G _ hx => hx.mono (fun b hb => ⟨hgB b hb, rfl⟩) fun _ _ => rfl, q3⟩)⟩
  · have h' : outC g0.rv s id x = some (y, p, s') := by
      obtain ⟨z, rfl, _⟩ := hx
      exact h
    obtain ⟨F1, hs1, hv⟩ := outC_sound F hB hBB hgB hx (fun rows hx' => (hA.1 rows hx').2) h' hp
    exact ⟨F1, hs1, .inl hv⟩
  · simp only [outA] at h
    split at h
    case h_2 => cases h
    rename_i l p1 s1 h1
    cases h
    obtain ⟨F1, hs1, hv⟩ := outCL_sound hB hBB hgB F hx (fun j y u hy hu rows hy' => (((hA.2 cs vs rfl rfl).2 j y u hy hu) rows hy').2) h1 hp
    exact ⟨F1, hs1, .inr (.inl ⟨_, vs, rfl, rfl, hv⟩)⟩

theorem outs_sound {B : Nat → Prop} (hB : ∀ b, B0 b → w.heap[b]? = w0.heap[b]?) (hBB : ∀ b, B0 b → B b) (hgB : ∀ b, g.B b → B b) {g0 : Gh} {si : St} : ∀ {args ys : List AV} {ks : List (Nat × Nat)} {fl : List Bool} {s s' : St} {vs : List Value} {G : Nat → Prop} {p : Prop}, FR w0 B0 Fin s a w g → Fam (VS w0 B0) args vs G →
    (∀ (i : Nat) (q : Nat × Nat) (x : AV) (v : Value), ks[i]? = some q → args[i]? = some x → vs[i]? = some v → ArgA si g0 q.2 x v) → (∀ (i : Nat) (q : Nat × Nat) (cs : List AV) (b : Nat), ks[i]? = some q → args[i]? = some (.io cs) → vs[i]? = some (.pointer (some ⟨b, 0, none⟩)) → Loc w0 Fin q.2 b) → outsL g0.rv s ks args fl = some (ys, p, s') → p → FR w0 B0 Fin s' a w g ∧ Subs s s' ∧ Fam (VO w B) ys vs (Freed w0 w Fin g s s') := by
  intro args
  induction args with
  | nil => intro ys ks fl s s' vs G p F hc _ _ h _; rw [outsL] at h; cases h; cases hc; exact ⟨F, .refl _, .nil _⟩
  | cons x args ih =>
    intro ys ks fl s s' vs G p F hc hA hL h hp
    match ks with
    | [] => simp [outsL] at h
    | (k, b) :: ks =>
      cases hc with
      | cons _ _ v us G1 G2 _ hx hs _ _ _ =>
        have hA' : ∀ (i : Nat) (q : Nat × Nat) (x : AV) (v : Value), ks[i]? = some q → args[i]? = some x → us[i]? = some v → ArgA si g0 q.2 x v := fun i q z u h1 h2 h3 => hA (i + 1) q z u (by simpa using h1) (by simpa using h2) (by simpa using h3)
        have hL' : ∀ (i : Nat) (q : Nat × Nat) (cs : List AV) (b : Nat), ks[i]? = some q → args[i]? = some (.io cs) → us[i]? = some (.pointer (some ⟨b, 0, none⟩)) → Loc w0 Fin q.2 b := fun i q cs b h1 h2 h3 => hL (i + 1) q cs b (by simpa using h1) (by simpa using h2) (by simpa using h3)
        have skip : ∀ {fl : List Bool}, (match outsL g0.rv s ks args fl with
            | some (l, ps, s) => some (AV.u :: l, ps, s)
            | none => none) = some (ys, p, s') → FR w0 B0 Fin s' a w g ∧ Subs s s' ∧ Fam (VO w B) ys (v :: us) (Freed w0 w Fin g s s') := by
          intro fl h
          split at h
          case h_2 => cases h
          rename_i l p2 s2 h2
          cases h
          obtain ⟨F2, hs2, hvs⟩ := ih F hs hA' hL' h2 hp
          exact ⟨F2, hs2, .cons _ _ _ _ (fun _ => False) _ _ (.inl rfl) hvs (fun _ h => h.elim) (fun _ h => h.elim) (fun _ h => h)⟩
        match fl with
        | true :: fl =>
          rw [outsL] at h
          split at h
          case h_2 => cases h
          rename_i y p1 s1 h1
          split at h
          case h_2 => cases h
          rename_i l p2 s2 h2
          cases h
          obtain ⟨F1, hs1, hv⟩ := outA_sound F hB hBB hgB hx (hA 0 (k, b) x v rfl rfl rfl) (fun cs b' e1 e => hL 0 (k, b) cs b' rfl (by simp [e1]) (by simp [e])) h1 hp.1
          obtain ⟨F2, hs2, hvs⟩ := ih F1 hs hA' hL' h2 hp.2
          exact ⟨F2, hs1.trans hs2, .cons _ _ _ _ _ _ _ (.inr hv) hvs (fun b hb hb' => hb.2.2.1 hb'.2.2.2) (fun b hb => hb.left hs2) (fun b hb => hb.right hs1)⟩
        | false :: fl => rw [outsL] at h; exact skip h
        | [] => rw [outsL] at h; exact skip h

theorem body_sound (hT : TabOk P E.tab) (hΦ : ∀ f as r, Φ f as r → Sound P f as r) {f : FuncId} {fn : Func} {args : List AV} {r : AV} (hf : P.funcs[f]? = some fn) (hname : (fn.name == "runtime.NumGoroutine") = false) (h : Body Φ E fn args r) : Sound P f args r := by
  obtain ⟨c, s, hb, hn, hi, h⟩ := h
  refine ⟨⟨fn, hf, by simp [hb], hname⟩, ?_⟩
  intro w vs B Fin hB hFin hargs
  refine calls_of_wp hf hb ?_
  have hlen := hargs.length
  have hks : ∀ (i : Nat) (p : Nat × Nat), initKs[i]? = some p → p = (i, 100000 + 100000 * i) := by
    intro i p hp
    rw [show initKs = (List.range 12).map fun i => (i, 100000 + 100000 * i) from rfl] at hp
    rw [List.getElem?_map] at hp
    cases hr : (List.range 12)[i]? with
    | none => rw [hr] at hp; cases hp
    | some k =>
      rw [hr] at hp
      rw [List.getElem?_range (by have := nth_lt hr; simpa using this)] at hr
      cases hr; cases hp; rfl
  -- where the parameters' boxes stand is told beyond the blocks
  let Fn : Nat → Prop := fun x => Fin x ∨ ∃ (i b : Nat), vs[i]? = some (.pointer (some ⟨b, 0, none⟩)) ∧ b < w.heap.size ∧ x = w.heap.size * (100000 + 100000 * i + 1) + b
  have hFn : ∀ b, b < w.heap.size → (Fn b ↔ Fin b) := by
    intro b hb
    refine ⟨?_, .inl⟩
    rintro (h | ⟨i, b', _, hb', rfl⟩)
    · exact h
    · exfalso
      have := Nat.le_mul_of_pos_right w.heap.size (show 0 < 100000 + 100000 * i + 1 by omega)
      omega
  have hLoc : ∀ (i b b' : Nat), vs[i]? = some (.pointer (some ⟨b, 0, none⟩)) → Loc w Fn (100000 + 100000 * i) b' → b = b' := by
    rintro i b b' hv ⟨hb', hF⟩
    rcases hF with h | ⟨j, c, hj, hc, e⟩
    · exfalso
      have h2 := hFin _ h
      have := Nat.le_mul_of_pos_right w.heap.size (show 0 < 100000 + 100000 * i + 1 by omega)
      omega
    · have hpos : 0 < w.heap.size := by omega
      have e1 := congrArg (· / w.heap.size) e
      have e2 := congrArg (· % w.heap.size) e
      simp only [Nat.mul_add_div hpos, Nat.mul_add_mod, Nat.div_eq_of_lt hb', Nat.div_eq_of_lt hc, Nat.mod_eq_of_lt hb', Nat.mod_eq_of_lt hc] at e1 e2
      have : i = j := by omega
      subst this
      rw [hv] at hj
      cases hj
      omega
  let a0 : Act := { tmps := vs.toArray ++ Array.replicate (fn.ntmps - vs.toArray.size) undef, defers := [] }
  let g0 : Gh := { B := B, lc := fun _ => 0, rv := fun _ => undef, sz := fun _ => 0, fo := fun _ _ => False }
  have F0 : FR w B Fn ⟨[], [], [], fn.ntmps⟩ a0 w g0 := by
    refine ⟨by simp [a0]; omega, rfl, .refl _ _, fun b hb => ⟨(hB b hb).1, .inl hb⟩, fun k x hk => by simp [lk] at hk, fun id cs hi => by simp [lk] at hi, fun id cs hi => by simp [lk] at hi, fun i j ci cj hi => by simp [lk] at hi, fun i j ri rj b hi => by simp [lk] at hi, fun i j ci rj hi => by simp [lk] at hi, fun i r u hi => by simp [lk] at hi, fun i c b hi => by simp [lk] at hi⟩
  have hTk : Take w w Fn g0 ⟨[], [], [], fn.ntmps⟩ Fin := by
    intro b hb
    refine ⟨hFin b hb, .inl (.inl hb), ?_⟩
    rintro (h1 | ⟨i, c, hi, _⟩ | ⟨j, r, hj, _⟩)
    · exact (hB b h1).2 hb
    · simp [lk] at hi
    · simp [lk] at hj
  obtain ⟨g1, F1, _, hA⟩ := init_sound (lo := 100000) F0 hargs hTk (fun i p v hp hv => by
      have := hks i p hp
      subst this
      have hlt := nth_lt hv
      simp only [a0, Array.getElem?_append, List.size_toArray, hlt, if_true, List.getElem?_toArray, hv]) (fun i p hp => by have := hks i p hp; subst this; simp) (fun i p b b' hp hv hL => by have := hks i p hp; subst this; exact hLoc i b b' hv hL) hi
  obtain ⟨o, ho, h⟩ := h g1.rv
  have F : FE w B Fn ⟨s.t, s.h, o, s.n⟩ a0 w := ⟨g1, tel_sound F1 ho⟩
  have keep : ∀ {w' : World}, Keeps Fn w w' → Keeps Fin w w' := fun k => ⟨k.os, k.tape, k.output, k.size, fun b hb hF => k.block b hb fun h => hF ((hFn b hb).1 h)⟩
  have inF : ∀ b, (Fn b ∨ w.heap.size ≤ b) → Fin b ∨ w.heap.size ≤ b := fun b h => by
    by_cases hb : b < w.heap.size
    · exact h.imp (hFn b hb).1 fun h => h
    · exact .inr (by omega)
  refine Code.wp_mono ?_ (wp_sound (w0 := w) (B0 := B) (Fin := Fn) hT hΦ c F h)
  intro e a' w' hq
  have fin : ∀ s, FE w B Fn s a' w' → AdjW (Ret E.tab fn args g1.rv r) s → a'.defers = [] ∧ ∃ v, (results fn a'.tmps).run P w' = .ok v w' ∧
      ∃ u B' F', Ending.returned v = .returned u ∧ VX w' B' vs r u F' ∧ (∀ b, B' b → b < w'.heap.size ∧ ¬ F' b ∧ (B b ∨ Fin b ∨ w.heap.size ≤ b)) ∧ (∀ b, F' b → b < w'.heap.size ∧ (Fin b ∨ w.heap.size ≤ b)) ∧ Keeps Fin w w' := by
    rintro s ⟨g, F'⟩ ha
    obtain ⟨s1, g, hr, F'⟩ := AdjW.sound ha F'
    refine ⟨F'.df, ?_⟩
    rcases hr with ⟨s2, hr⟩ | hr | ⟨fl, r0, outs, p, s2, s3, hr, hos, hp, rfl⟩
    · obtain ⟨hr, hio⟩ := resultsM1_eq hr
      obtain ⟨v, hv, _, _, hres⟩ := results_M hT F' hr
      refine ⟨v, hv, v, g.B, _, rfl, .inl ⟨hio, hres⟩, fun b hb => ⟨(F'.bb b hb).1, fun hf => hf.2.2.1 (.inl hb), (F'.bb b hb).2.imp (fun h => h) (inF b)⟩, fun b hb => ⟨hb.1, inF b hb.2.1⟩, keep F'.kp⟩
    · obtain ⟨v, hv, hres⟩ := results_S hT F' hr
      exact ⟨v, hv, v, used g s1, _, rfl, .inl ⟨resultsS_io hr, hres⟩, fun b hb => ⟨F'.used_lt hb, fun h => h, (F'.used_in hb).imp (fun h => h) (inF b)⟩, fun b hb => hb.elim, keep F'.kp⟩
    · obtain ⟨v, hv, F2, hs2, hres⟩ := results_M hT F' hr
      have hBk : ∀ b, B b → w'.heap[b]? = w.heap[b]? := fun b hb => F'.kp.block b (hB b hb).1 fun h => (hB b hb).2 ((hFn b (hB b hb).1).1 h)
      obtain ⟨F3, hs3, hvo⟩ := outs_sound (B := fun b => g.B b ∨ B b) hBk (fun b hb => .inr hb) (fun b hb => .inl hb) F2 hargs hA (fun i q cs b hq hy hv => by
        have := hks i q hq; subst this
        have hb : b < w.heap.size := by
          obtain ⟨G, hx, hG⟩ := hargs.nth hy hv
          rcases hx with ⟨y, e, _⟩ | ⟨_, _, e, _⟩ | ⟨_, _, b', _, _, _, e, _, _, _, _, hb'⟩
          · cases e
          · cases e
          · cases e; exact hFin _ (hG _ hb')
        exact ⟨hb, .inr ⟨i, b, hv, hb, rfl⟩⟩) hos hp
      refine ⟨v, hv, v, fun b => g.B b ∨ B b, Freed w w' Fn g s1 s3, rfl, .inr ⟨r0, outs, _, _, rfl, hres.mono (fun b hb => ⟨.inl hb, rfl⟩) (fun _ _ => rfl), hvo, (fun b hb hb' => hb.2.2.1 hb'.2.2.2), (fun b hb => hb.left hs3), (fun b hb => hb.right hs2)⟩, ?_, fun b hb => ⟨hb.1, inF b hb.2.1⟩, keep F'.kp⟩
      rintro b (hb | hb)
      · exact ⟨(F'.bb b hb).1, fun hf => hf.2.2.1 (.inl hb), (F'.bb b hb).2.imp (fun h => h) (inF b)⟩
      · refine ⟨Nat.lt_of_lt_of_le (hB b hb).1 F'.kp.size, fun hf => ?_, .inl hb⟩
        rcases inF b hf.2.1 with h1 | h1
        · exact (hB b hb).2 h1
        · have := (hB b hb).1; omega
  cases e with
  | normal => obtain ⟨s', F', h'⟩ := hq; exact fin s' F' h'
  | ret => obtain ⟨s', F', h'⟩ := hq; exact fin s' F' h'
  | exit i => obtain ⟨s', F', h'⟩ := hq; exact h'.elim
  | goto _ => exact hq.elim
  | panic _ => exact hq.elim
  | outgrown => exact hq.elim

/-- What is told is so. -/
theorem Tells.sound {X : Rel3} (hT : TabOk P E.tab) (hX : ∀ f as r, X f as r → Sound P f as r) {f : FuncId} {args : List AV} {r : AV} (h : Tells P E X f args r) : Sound P f args r :=
  h (Sound P) hX fun _ _ _ _ hf hn hb => body_sound hT (fun _ _ _ h => h) hf hn hb
end
end Go.Ev

set_option linter.unusedVariables false
set_option linter.unusedSimpArgs false
namespace Go.Ev
open Go Go.ChangeShapes Go.WideShapes

/-- a kind: the cells of its values as trees -/
structure Kt (α : Type) where
  cells : α → List T
  sz : Nat
  len : ∀ x, (cells x).length = sz
def Kt.K {α : Type} (d : Kt α) (W : World) (x : α) (cs : List Value) : Prop := cs.length = d.sz ∧ ∀ (k : Nat) (y : T) (v : Value), (d.cells x)[k]? = some y → cs[k]? = some v → Rep W (fun b => b < W.heap.size) y v
def Kt.int (k : IntKind) : Kt Int := ⟨fun n => [.sc (.int k n)], 1, fun _ => rfl⟩
def Kt.bool : Kt Bool := ⟨fun n => [.sc (.bool n)], 1, fun _ => rfl⟩
def Kt.string : Kt ByteArray := ⟨fun n => [.sc (.string n)], 1, fun _ => rfl⟩
def Kt.slice {α : Type} (d : Kt α) : Kt (List α) := ⟨fun l => [.sl false (l.map d.cells)], 1, fun _ => rfl⟩
def Kt.pair {α β : Type} (d : Kt α) (d' : Kt β) : Kt (α × β) := ⟨fun x => d.cells x.1 ++ d'.cells x.2, d.sz + d'.sz, fun x => by rw [List.length_append, d.len, d'.len]⟩
def Kt.iso {α β : Type} (d : Kt α) (f : β → α) : Kt β := ⟨fun y => d.cells (f y), d.sz, fun y => d.len (f y)⟩

/-- Whatever reads as type t, with no more fuel than N, is of kind d, and its value is ok. -/
structure OpensAt (P : Program) (N : Nat) (t : TypeId) {α : Type} (d : Kt α) (ok : α → Prop) : Prop where
  get : ∀ {H : Type} (enc : TypeId × Value → H) (W : World) (base : Nat) (held : Bool) (fuel : Nat) (cs : List Value) (y : DataW H × List MemPlace),
    fuel ≤ N → DataW.trod enc P W base (fun _ => true) held fuel t cs = some y → ∃ x, d.K W x cs ∧ ok x

section
variable {P : Program} {N : Nat} {t e : TypeId} {α β : Type}
theorem opens_int {k : IntKind} (ht : P.underlying t = some (.int k)) : OpensAt P N t (Kt.int k) (fun x => (Lit.int k x).wf = true) := by
  constructor
  intro H enc W base held fuel cs y _ h
  obtain ⟨n, rfl, rfl, hw⟩ := DataW.trod_int ht h
  refine ⟨n, ⟨rfl, fun k y v h1 h2 => ?_⟩, hw⟩
  cases k with
  | zero => simp [Kt.int] at h1 h2; subst h1; subst h2; exact .sc _
  | succ k => simp at h2
theorem opens_bool (ht : P.underlying t = some .bool) : OpensAt P N t Kt.bool (fun _ => True) := by
  constructor
  intro H enc W base held fuel cs y _ h
  obtain ⟨n, rfl, rfl⟩ := DataW.trod_bool ht h
  refine ⟨n, ⟨rfl, fun k y v h1 h2 => ?_⟩, trivial⟩
  cases k with
  | zero => simp [Kt.bool] at h1 h2; subst h1; subst h2; exact .sc _
  | succ k => simp at h2
theorem opens_string (ht : P.underlying t = some .string) : OpensAt P N t Kt.string (fun s => s.size ≤ maxLen) := by
  constructor
  intro H enc W base held fuel cs y _ h
  obtain ⟨n, rfl, rfl, hs⟩ := DataW.trod_string ht h
  refine ⟨n, ⟨rfl, fun k y v h1 h2 => ?_⟩, hs⟩
  cases k with
  | zero => simp [Kt.string] at h1 h2; subst h1; subst h2; exact .sc _
  | succ k => simp at h2
theorem add_add (a : Addr) (i j : Nat) : (a.add i).add j = a.add (i + j) := by
  unfold Addr.add
  by_cases h1 : i = 0 <;> by_cases h2 : j = 0 <;> simp [h1, h2, Nat.add_assoc]
theorem cell_lt {W : World} {a : Addr} {u : Value} (h : W.cell? a = some u) : a.block < W.heap.size ∧ a.spot = none := by
  unfold World.cell? at h
  split at h
  · rename_i hh
    split at h
    · cases h
    · rename_i hs
      exact ⟨(Array.getElem?_eq_some_iff.1 hh).1, by simpa using hs⟩
  · cases h

theorem opens_slice {d : Kt α} {ok : α → Prop} (ht : P.underlying t = some (.slice e)) (hc : P.cellsOf e = d.sz) (hpos : 0 < d.sz) (h : OpensAt P N e d ok) :
    OpensAt P (N + 1) t (Kt.slice d) (fun xs => xs.length ≤ maxLen ∧ ∀ x ∈ xs, ok x) := by
  constructor
  intro H enc W base held fuel cs y hf hr
  have one : ∀ {z : T} {u : Value}, Rep W (fun b => b < W.heap.size) z u → ∀ (k : Nat) (y : T) (v : Value), [z][k]? = some y → [u][k]? = some v → Rep W (fun b => b < W.heap.size) y v := by
    intro z u hz k y v h1 h2
    cases k with
    | zero => simp at h1 h2; subst h1; subst h2; exact hz
    | succ k => simp at h2
  rcases DataW.trod_slice ht hr with ⟨rfl, rfl⟩ | ⟨a, len, cap, elems, rest, n, rfl, rfl, rfl, hb, hl, hm, hlen, hel, hsp, _⟩
  · exact ⟨[], ⟨rfl, one (.nil _)⟩, by simp, by simp⟩
  · have each : ∀ i, i < len → ∃ x c, d.K W x c ∧ ok x ∧ ∀ j u, c[j]? = some u → W.cell? (a.add (i * d.sz + j)) = some u := by
      intro i hi
      have h1 := hel i hi
      rw [List.getElem?_eq_getElem (by omega), Option.bind_eq_some_iff] at h1
      obtain ⟨c, hcs, hy⟩ := h1
      obtain ⟨x, hk, hx⟩ := h.get enc W base held n c _ (by omega) hy
      obtain ⟨_, h2, h3⟩ := World.cells?_some hcs
      refine ⟨x, c, hk, hx, fun j u hu => ?_⟩
      have hj : j < P.cellsOf e := by
        rw [← h2]
        exact (List.getElem?_eq_some_iff.1 hu).1
      rw [← hu, ← h3 j hj, add_add, hc]
    by_cases hl0 : len = 0
    · subst hl0
      exact ⟨[], ⟨rfl, one (.em _ _ _)⟩, by simp, by simp⟩
    have hx : ∀ i : Fin len, ∃ x c, d.K W x c ∧ ok x ∧ ∀ j u, c[j]? = some u → W.cell? (a.add (i.1 * d.sz + j)) = some u := fun i => each i.1 i.2
    let xs := List.ofFn (fun i => (hx i).choose)
    have hxl : xs.length = len := by simp [xs]
    have hsp0 : a.block < W.heap.size ∧ a.spot = none := by
      obtain ⟨x, c, hk, _, hcell⟩ := each 0 (by omega)
      have h0 : 0 < c.length := by rw [hk.1]; exact hpos
      have := cell_lt (hcell 0 _ (List.getElem?_eq_getElem h0))
      simpa [Addr.add] using this
    obtain ⟨ab, ao, asp⟩ := a
    obtain ⟨hab, rfl⟩ := hsp0
    let us : Nat → Nat → Value := fun i k => (W.cell? ⟨ab, ao + (i * d.sz + k), none⟩).getD undef
    have hadd : ∀ n, (⟨ab, ao, none⟩ : Addr).add n = ⟨ab, ao + n, none⟩ := fun n => by
      unfold Addr.add
      by_cases h : n = 0 <;> simp [h]
    refine ⟨xs, ⟨rfl, one ?_⟩, by rw [hxl]; exact Nat.le_trans hl hm, fun p hp => ?_⟩
    · have e : len = (xs.map d.cells).length := by rw [List.length_map, hxl]
      rw [e]
      have row : ∀ (i : Nat) (r : List T), (xs.map d.cells)[i]? = some r → ∃ x c, r = d.cells x ∧ d.K W x c ∧ ∀ j u, c[j]? = some u → W.cell? ⟨ab, ao + (i * d.sz + j), none⟩ = some u := by
        intro i r hi
        rw [List.getElem?_map, Option.map_eq_some_iff] at hi
        obtain ⟨x, hxi, rfl⟩ := hi
        obtain ⟨hj1, hj2⟩ := List.getElem?_eq_some_iff.1 hxi
        have e1 : x = (hx ⟨i, by omega⟩).choose := by rw [← hj2]; simp [xs]
        obtain ⟨c, hk, _, hcell⟩ := (hx ⟨i, by omega⟩).choose_spec
        rw [← e1] at hk
        exact ⟨x, c, rfl, hk, fun j u hu => by rw [← hadd]; exact hcell j u hu⟩
      refine .sl _ _ ab ao cap d.sz us (fun _ => hab) (by rw [← e]; exact hl) ?_ ?_ ?_
      · intro i r hi; obtain ⟨x, c, rfl, _⟩ := row i r hi; exact d.len x
      · intro i r k y hi hk
        obtain ⟨x, c, rfl, hK, hcell⟩ := row i r hi
        have hkl : k < c.length := by rw [hK.1, ← d.len x]; exact nth_lt hk
        have := hcell k _ (List.getElem?_eq_getElem hkl)
        simp only [us, this, Option.getD_some]
      · intro i r k y hi hk
        obtain ⟨x, c, rfl, hK, hcell⟩ := row i r hi
        have hkl : k < c.length := by rw [hK.1, ← d.len x]; exact nth_lt hk
        have := hcell k _ (List.getElem?_eq_getElem hkl)
        simp only [us, this, Option.getD_some]
        exact hK.2 k y _ hk (List.getElem?_eq_getElem hkl)
    · obtain ⟨j, hj1, hj2⟩ := List.getElem_of_mem hp
      have e1 : p = (hx ⟨j, by omega⟩).choose := by rw [← hj2]; simp [xs]
      obtain ⟨c, _, ho, _⟩ := (hx ⟨j, by omega⟩).choose_spec
      rw [e1]; exact ho

/-- The fields from a place on. -/
structure OpensFrom (P : Program) (N : Nat) (off : Nat) (fs : List Field) {α : Type} (d : Kt α) (ok : α → Prop) : Prop where
  get : ∀ {H : Type} (enc : TypeId × Value → H) (W : World) (base : Nat) (held : Bool) (n : Nat) (cs : List Value),
    n ≤ N → (∀ f ∈ fs, ∃ y : DataW H × List MemPlace, DataW.trod enc P W base (fun _ => true) held n f.type ((cs.drop f.offset).take (P.cellsOf f.type)) = some y) → cs.length = off + d.sz → ∃ x, d.K W x (cs.drop off) ∧ ok x
theorem from_one {off : Nat} {f : Field} {d : Kt α} {ok : α → Prop} (ho : f.offset = off) (hc : P.cellsOf f.type = d.sz) (h : OpensAt P N f.type d ok) : OpensFrom P N off [f] d ok := by
  constructor
  intro H enc W base held n cs hn hf hl
  obtain ⟨y, hy⟩ := hf f (by simp)
  obtain ⟨x, hk, hx⟩ := h.get enc W base held n _ y hn hy
  rw [ho, hc, List.take_of_length_le (by simp; omega)] at hk
  exact ⟨x, hk, hx⟩
theorem K_pair {d : Kt α} {d' : Kt β} {W : World} {x : α} {x' : β} {cs cs' : List Value} (h : d.K W x cs) (h' : d'.K W x' cs') : (Kt.pair d d').K W (x, x') (cs ++ cs') := by
  refine ⟨by simp [Kt.pair, h.1, h'.1], fun k y v h1 h2 => ?_⟩
  simp only [Kt.pair] at h1
  rw [List.getElem?_append] at h1 h2
  rw [d.len] at h1
  rw [h.1] at h2
  by_cases hk : k < d.sz
  · rw [if_pos hk] at h1 h2; exact h.2 k y v h1 h2
  · rw [if_neg hk] at h1 h2; exact h'.2 _ y v h1 h2
theorem from_cons {off : Nat} {f : Field} {fs : List Field} {d : Kt α} {d' : Kt β} {ok : α → Prop} {ok' : β → Prop} (ho : f.offset = off) (hc : P.cellsOf f.type = d.sz) (h : OpensAt P N f.type d ok) (h' : OpensFrom P N (off + d.sz) fs d' ok') :
    OpensFrom P N off (f :: fs) (Kt.pair d d') (fun x => ok x.1 ∧ ok' x.2) := by
  constructor
  intro H enc W base held n cs hn hf hl
  have hl2 : cs.length = off + (d.sz + d'.sz) := hl
  obtain ⟨y, hy⟩ := hf f (by simp)
  obtain ⟨x, hk, hx⟩ := h.get enc W base held n _ y hn hy
  obtain ⟨x', hk', hx'⟩ := h'.get enc W base held n cs hn (fun g hg => hf g (by simp [hg])) (by omega)
  rw [ho, hc] at hk
  refine ⟨(x, x'), ?_, hx, hx'⟩
  have := K_pair hk hk'
  rwa [← List.drop_drop, List.take_append_drop] at this
theorem opens_struct {fs : List Field} {d : Kt α} {ok : α → Prop} (ht : P.underlying t = some (.struct fs.toArray)) (hc : P.cellsOf t = d.sz) (h : OpensFrom P N 0 fs d ok) : OpensAt P (N + 1) t d ok := by
  constructor
  intro H enc W base held fuel cs y hf hr
  obtain ⟨xs, n, rfl, rfl, hl, hxl, hx⟩ := DataW.trod_struct ht hr
  obtain ⟨x, hk, ho⟩ := h.get enc W base held n cs (by omega) (fun f hfm => by
    obtain ⟨i, hi⟩ := List.getElem?_of_mem hfm
    have h1 := hx i f (by simpa using hi)
    have hi2 : i < fs.length := (List.getElem?_eq_some_iff.1 hi).1
    rw [List.getElem?_eq_getElem (by simp at hxl; omega)] at h1
    exact ⟨_, h1⟩) (by omega)
  exact ⟨x, by simpa using hk, ho⟩
theorem opens_iso {d : Kt α} {ok : α → Prop} {f : β → α} (g : α → β) (hg : ∀ y, f (g y) = y) (h : OpensAt P N t d ok) : OpensAt P N t (Kt.iso d f) (fun x => ok (f x)) := by
  constructor
  intro H enc W base held fuel cs y hf hr
  obtain ⟨x, hk, hx⟩ := h.get enc W base held fuel cs y hf hr
  refine ⟨g x, ?_, ?_⟩
  · show d.K W (f (g x)) cs
    rw [hg]; exact hk
  · show ok (f (g x))
    rw [hg]; exact hx
end
end Go.Ev

set_option linter.unusedVariables false
set_option linter.unusedSimpArgs false
namespace Go.Ev
open Go

def memB (n : Nat) : List Nat → Bool
  | [] => false
  | x :: r => match Nat.beq x n with
    | true => true
    | false => memB n r
def isRp : AV → Bool
  | .rp _ _ _ => true
  | _ => false
/-- does the run halt ahead of an operation (it wants to be told something)? D: the slots whose truth is decided -/
def stopsG (D : List Nat) (s : St) : Op → Bool
  | .pick (.tmp c) _ _ => match memB c D with
    | true => false
    | false => true
  | .pick _ _ _ => true
  | .convert _ _ x => match s.ev x with
    | .t (.sc (.string _)) => true
    | _ => false
  | .load _ p => isRp (s.ev p)
  | .store _ p _ => isRp (s.ev p)
  | .indexAddr _ _ _ => true
  | .index _ _ (.const _) => false
  | .index _ _ _ => true
  | .slice _ _ _ _ _ => true
  | .makeSlice _ _ _ => true
  | .call { callee := .builtin .append, .. } => true
  | .call { callee := .builtin _, .. } => false
  | .call _ => true
  | _ => false
def stops (all : List Oper) (D : List Nat) (s : St) (o : Oper) : Bool :=
  match o.guard with
  | some (j, _) => match nthS all j with
    | some p => match p.dst with
      | some d => match memB d D with
        | true => match guardAV all s o.guard with
          | some false => false
          | _ => stopsG D s o.op
        | false => match s.get d with
          | .t (.sc (.tuple _)) => match guardAV all s o.guard with
            | some false => false
            | _ => true
          | _ => true
      | none => true
    | none => true
  | none => stopsG D s o.op

def runOps (tab : Tab) (all : List Oper) (D : List Nat) : List Oper → St → Option (List Oper × St)
  | [], s => some ([], s)
  | o :: rest, s => match stops all D s o with
    | true => some (o :: rest, s)
    | false => match guardAV all s o.guard with
      | some true => match evalO tab s o.op o.dst with
        | some s' => runOps tab all D rest s'
        | none => some (o :: rest, s)
      | some false => match s.putT o.dst (.t (.sc undef)) with
        | some s' => runOps tab all D rest s'
        | none => some (o :: rest, s)
      | none => some (o :: rest, s)

/-- at least one of them -/
def runOps1 (tab : Tab) (all : List Oper) (D : List Nat) (ops : List Oper) (s : St) : Option (List Oper × St) :=
  match ops with
  | [] => none
  | o :: rest => match stops all D s o with
    | true => none
    | false => match guardAV all s o.guard with
      | some true => match evalO tab s o.op o.dst with
        | some s' => runOps tab all D rest s'
        | none => none
      | some false => match s.putT o.dst (.t (.sc undef)) with
        | some s' => runOps tab all D rest s'
        | none => none
      | none => none
theorem runOps1_eq {tab : Tab} {all : List Oper} {D : List Nat} {ops : List Oper} {s : St} {r : List Oper × St} (h : runOps1 tab all D ops s = some r) : runOps tab all D ops s = some r := by
  unfold runOps1 at h
  split at h
  · cases h
  · rename_i o rest
    split at h
    · cases h
    · rename_i hst
      split at h
      · rename_i hg
        split at h
        · rename_i s1 he; rw [runOps]; simp only [hst, hg, he]; exact h
        · cases h
      · rename_i hg
        split at h
        · rename_i s1 he; rw [runOps]; simp only [hst, hg, he]; exact h
        · cases h
      · cases h

def runQ (tab : Tab) (all : List Oper) (D : List Nat) : List Oper → St → Option (List Oper × St)
  | [], s => some ([], s)
  | o :: rest, s => match stops all D s o with
    | true => some (o :: rest, s)
    | false => match o.dst with
      | none => some (o :: rest, s)
      | some d => match guardAV all s o.guard with
        | some true => match turns o.op with
          | true => some (o :: rest, s)
          | false => match evalV tab s o.op with
            | some v => match s.putT (some d) v with
              | some s' => runQ tab all D rest s'
              | none => some (o :: rest, s)
            | none => some (o :: rest, s)
        | some false => match s.putT (some d) (.t (.sc undef)) with
          | some s' => runQ tab all D rest s'
          | none => some (o :: rest, s)
        | none => some (o :: rest, s)
def runQ1 (tab : Tab) (all : List Oper) (D : List Nat) (ops : List Oper) (s : St) : Option (List Oper × St) :=
  match ops with
  | [] => none
  | o :: rest => match stops all D s o with
    | true => none
    | false => match o.dst with
      | some d => match guardAV all s o.guard with
        | some true => match turns o.op with
          | true => none
          | false => match evalV tab s o.op with
            | some v => match s.putT (some d) v with
              | some s' => runQ tab all D rest s'
              | none => none
            | none => none
        | some false => match s.putT (some d) (.t (.sc undef)) with
          | some s' => runQ tab all D rest s'
          | none => none
        | none => none
      | none => none
theorem runQ1_eq {tab : Tab} {all : List Oper} {D : List Nat} {ops : List Oper} {s : St} {r : List Oper × St} (h : runQ1 tab all D ops s = some r) : runQ tab all D ops s = some r := by
  unfold runQ1 at h
  split at h
  · cases h
  · rename_i o rest
    split at h
    · cases h
    · rename_i hst
      split at h
      · rename_i d hd
        split at h
        · rename_i hg
          split at h
          · cases h
          · rename_i ht
            split at h
            · rename_i v he
              split at h
              · rename_i s1 hp; rw [runQ]; simp only [hst, hd, hg, ht, he, hp]; exact h
              · cases h
            · cases h
        · rename_i hg
          split at h
          · rename_i s1 hp; rw [runQ]; simp only [hst, hd, hg, hp]; exact h
          · cases h
        · cases h
      · cases h

/-- a region under way; D: the slots whose truth is decided -/
structure Run (Φ : Rel3) (E : Env) (all : List Oper) (D : List Nat) (lo : Option (List Nat)) (ops : List Oper) (s : St) (K : St → Prop) : Prop where
  h : wpOps Φ E all ops s K
/-- a region in no order under way -/
structure RunQ (Φ : Rel3) (E : Env) (all : List Oper) (D : List Nat) (ops : List Oper) (s : St) (pend : List (Nat × QV × List (List T))) (K : St → Prop) : Prop where
  h : wpQ Φ E all ops s pend K

section
variable {Φ : Rel3} {E : Env} {all : List Oper} {D : List Nat} {lo : Option (List Nat)} {ops rest : List Oper} {o : Oper} {s s' s1 : St} {K : St → Prop} {pend : List (Nat × QV × List (List T))}

theorem isCall_of_stops {all : List Oper} {D : List Nat} {o : Oper} (h : stops all D s o = false) (hg : guardAV all s o.guard = some true) : isCall o.op = none := by
  have : stopsG D s o.op = false := by
    unfold stops at h
    split at h
    · split at h
      · split at h
        · split at h
          · rw [hg] at h; exact h
          · split at h
            · rw [hg] at h; cases h
            · cases h
        · cases h
      · cases h
    · exact h
  unfold isCall
  split
  · rename_i heq; rw [heq] at this; simp [stopsG] at this
  · rfl

theorem AdjW.ofL {K : St → Prop} : ∀ {as : List Adj} {s s1 : St}, adjL s as = some s1 → K s1 → AdjW K s := by
  intro as
  induction as with
  | nil => intro s s1 h k; rw [adjL] at h; cases h; exact AdjW.done _ k
  | cons a as ih =>
    intro s s1 h k
    rw [adjL] at h
    split at h
    case h_2 => cases h
    rename_i s2 h2
    exact .one a s s2 h2 (ih h k)
/-- turns at will -/
theorem Run.adjw (h : AdjW (fun s1 => Run Φ E all D lo ops s1 K) s) : Run Φ E all D lo ops s K := by
  have h := AdjW.mono (fun _ r => Run.h r) h
  refine ⟨?_⟩
  cases ops with
  | nil => exact AdjW.join h
  | cons o r => exact AdjW.join h
theorem Run.adj (as : List Adj) (h : adjL s as = some s1) (k : Run Φ E all D lo ops s1 K) : Run Φ E all D lo ops s K := Run.adjw (AdjW.ofL h k)

theorem Run.go (h : runOps E.tab all D ops s = some (rest, s')) (k : Run Φ E all D lo rest s' K) : Run Φ E all D lo ops s K := by
  replace k := k.h
  refine ⟨?_⟩
  induction ops generalizing s with
  | nil => rw [runOps] at h; cases h; exact k
  | cons o r ih =>
    rw [runOps] at h
    cases hst : stops all D s o with
    | true => rw [hst] at h; cases h; exact k
    | false =>
      rw [hst] at h
      cases hg : guardAV all s o.guard with
      | none => rw [hg] at h; cases h; exact k
      | some b =>
        rw [hg] at h
        cases b with
        | true =>
          cases he : evalO E.tab s o.op o.dst with
          | none => simp only [he] at h; cases h; exact k
          | some s1 =>
            simp only [he] at h
            refine AdjW.done _ ⟨true, hg, ?_⟩
            show wpOp _ _ _ _ _ _
            unfold wpOp
            simp only [isCall_of_stops hst hg]
            exact .inl ⟨s1, he, ih h⟩
        | false =>
          cases he : s.putT o.dst (.t (.sc undef)) with
          | none => simp only [he] at h; cases h; exact k
          | some s1 =>
            simp only [he] at h
            exact AdjW.done _ ⟨false, hg, s1, he, ih h⟩

theorem Run.go1 (h : runOps1 E.tab all D ops s = some (rest, s')) (k : Run Φ E all D lo rest s' K) : Run Φ E all D lo ops s K := Run.go (runOps1_eq h) k
/-- what lives on behind a region -/
def adjO (lo : Option (List Nat)) (s : St) : Option St :=
  match lo with
  | none => some s
  | some ts => adj s (.slots ts)
theorem Run.done (h : adjO lo s = some s') (k : K s') : Run Φ E all D lo [] s K := by
  refine ⟨?_⟩
  cases lo with
  | none => cases h; exact AdjW.done _ k
  | some ts => exact AdjW.one (.slots ts) _ _ h (AdjW.done _ k)

theorem RunQ.go (h : runQ E.tab all D ops s = some (rest, s')) (k : RunQ Φ E all D rest s' pend K) : RunQ Φ E all D ops s pend K := by
  replace k := k.h
  refine ⟨?_⟩
  induction ops generalizing s with
  | nil => rw [runQ] at h; cases h; exact k
  | cons o r ih =>
    rw [runQ] at h
    cases hst : stops all D s o with
    | true => rw [hst] at h; cases h; exact k
    | false =>
      rw [hst] at h
      cases hd : o.dst with
      | none => simp only [hd] at h; cases h; exact k
      | some d =>
        simp only [hd] at h
        cases hg : guardAV all s o.guard with
        | none => simp only [hg] at h; cases h; exact k
        | some b =>
          simp only [hg] at h
          cases b with
          | true =>
            cases ht : turns o.op with
            | true => simp only [ht] at h; cases h; exact k
            | false =>
              simp only [ht] at h
              cases he : evalV E.tab s o.op with
              | none => simp only [he] at h; cases h; exact k
              | some v =>
                simp only [he] at h
                cases hp : s.putT (some d) v with
                | none => simp only [hp] at h; cases h; exact k
                | some s1 =>
                  simp only [hp] at h
                  refine ⟨d, v, none, s1, hd, ⟨true, hg, ?_⟩, hp, ih h⟩
                  simp only [isCall_of_stops hst hg]
                  exact .inl ⟨he, ht, trivial⟩
          | false =>
            cases hp : s.putT (some d) (.t (.sc undef)) with
            | none => simp only [hp] at h; cases h; exact k
            | some s1 =>
              simp only [hp] at h
              exact ⟨d, _, none, s1, hd, ⟨false, hg, rfl, rfl⟩, hp, ih h⟩
theorem RunQ.go1 (h : runQ1 E.tab all D ops s = some (rest, s')) (k : RunQ Φ E all D rest s' pend K) : RunQ Φ E all D ops s pend K := RunQ.go (runQ1_eq h) k
theorem RunQ.done {t : List (Nat × AV)} {h : List (Nat × List AV)} {oo os : List (Nat × QV × List (List T))} {n : Nat} (ho : appS pend oo = some os) (k : K ⟨t, h, os, n⟩) : RunQ Φ E all D [] ⟨t, h, oo, n⟩ pend K := ⟨⟨os, ho, k⟩⟩
theorem RunQ.call {d : Nat} {f : Operand} {args : Array Operand} {g : FuncId} {as : List AV} {r v : AV} (hd : o.dst = some d) (hg : guardAV all s o.guard = some true) (hc : isCall o.op = some (f, args)) (hcg : calleeG s f = some g)
    (ha : argsAV E.md s f args.toList = some (g, as, s)) (hm : allF (modeOf E.md g) = true) (hr : Φ g as r) (hp : argsPlain E.md s f args.toList g = true ∨ r.own) (hq : qRes d r = some (v, none)) (he : s.putT (some d) v = some s') (k : RunQ Φ E all D rest s' pend K) : RunQ Φ E all D (o :: rest) s pend K := by
  refine ⟨⟨d, v, none, s', hd, ⟨true, hg, ?_⟩, he, k.h⟩⟩
  simp only [hc]
  exact ⟨g, as, r, hcg, ha, hm, hr, hp, hq⟩
theorem RunQ.callO {d : Nat} {f : Operand} {args : Array Operand} {g : FuncId} {as : List AV} {r v : AV} {rows : List (List T)} (hd : o.dst = some d) (hg : guardAV all s o.guard = some true) (hc : isCall o.op = some (f, args)) (hcg : calleeG s f = some g)
    (ha : argsAV E.md s f args.toList = some (g, as, s)) (hm : allF (modeOf E.md g) = true) (hr : Φ g as r) (hp : argsPlain E.md s f args.toList g = true ∨ r.own) (hq : qRes d r = some (v, some rows)) (he : s.putT (some d) v = some s') (hf : s.free d = true) (k : RunQ Φ E all D rest s' ((d, 0, rows) :: pend) K) : RunQ Φ E all D (o :: rest) s pend K := by
  refine ⟨⟨d, v, some rows, s', hd, ⟨true, hg, ?_⟩, he, hf, k.h⟩⟩
  simp only [hc]
  exact ⟨g, as, r, hcg, ha, hm, hr, hp, hq⟩

theorem RunQ.build {d : Nat} {rows : List (List T)} (hd : o.dst = some d) (hg : guardAV all s o.guard = some true) (hc : isCall o.op = none) (hb : buildQ E.tab s o.op = some rows) (he : s.putT (some d) (.rf d) = some s') (hf : s.free d = true) (k : RunQ Φ E all D rest s' ((d, 0, rows) :: pend) K) : RunQ Φ E all D (o :: rest) s pend K := by
  refine ⟨⟨d, _, some rows, s', hd, ⟨true, hg, ?_⟩, he, hf, k.h⟩⟩
  simp only [hc]
  exact .inr (by simpa using hb)

theorem pu_same {α : Type} {l : List (Nat × α)} {d : Nat} {v : α} (h : lk l d = some v) : pu l d v = some l := by
  induction l with
  | nil => cases h
  | cons x r ih =>
    obtain ⟨k, w⟩ := x
    rw [pu]
    rw [lk] at h
    cases hk : Nat.beq k d with
    | true => rw [hk] at h; cases h; rfl
    | false => rw [hk] at h; simp only [ih h]

/-- a truth in a slot is decided -/
theorem Run.split (d : Nat) {p : Bool} {t t1 t0 : List (Nat × AV)} {h : List (Nat × List AV)} {oo : List (Nat × QV × List (List T))} {n : Nat} (hd : lk t d = some (.t (.sc (.bool p)))) (h1 : pu t d (.t (.sc (.bool true))) = some t1) (h0 : pu t d (.t (.sc (.bool false))) = some t0)
    (k1 : p = true → Run Φ E all (d :: D) lo ops ⟨t1, h, oo, n⟩ K) (k0 : p = false → Run Φ E all (d :: D) lo ops ⟨t0, h, oo, n⟩ K) : Run Φ E all D lo ops ⟨t, h, oo, n⟩ K := by
  cases p with
  | true => rw [pu_same hd] at h1; cases h1; exact ⟨(k1 rfl).h⟩
  | false => rw [pu_same hd] at h0; cases h0; exact ⟨(k0 rfl).h⟩
theorem RunQ.split (d : Nat) {p : Bool} {t t1 t0 : List (Nat × AV)} {h : List (Nat × List AV)} {oo : List (Nat × QV × List (List T))} {n : Nat} (hd : lk t d = some (.t (.sc (.bool p)))) (h1 : pu t d (.t (.sc (.bool true))) = some t1) (h0 : pu t d (.t (.sc (.bool false))) = some t0)
    (k1 : p = true → RunQ Φ E all (d :: D) ops ⟨t1, h, oo, n⟩ pend K) (k0 : p = false → RunQ Φ E all (d :: D) ops ⟨t0, h, oo, n⟩ pend K) : RunQ Φ E all D ops ⟨t, h, oo, n⟩ pend K := by
  cases p with
  | true => rw [pu_same hd] at h1; cases h1; exact ⟨(k1 rfl).h⟩
  | false => rw [pu_same hd] at h0; cases h0; exact ⟨(k0 rfl).h⟩

theorem Run.splitG {j : Nat} {want : Bool} {dst : Option Nat} {op : Op} {tyr : Nat} {pos : String} {after : Array Edge} {q : Oper} {d : Nat} {p : Bool} {t t1 t0 : List (Nat × AV)} {h : List (Nat × List AV)} {oo : List (Nat × QV × List (List T))} {n : Nat}
    (hj : nthS all j = some q) (hq : q.dst = some d) (hD : memB d D = false) (hd : lk t d = some (.t (.sc (.bool p)))) (h1 : pu t d (.t (.sc (.bool true))) = some t1) (h0 : pu t d (.t (.sc (.bool false))) = some t0)
    (k1 : p = true → Run Φ E all (d :: D) lo ({ dst, op, type := tyr, pos, after, guard := some (j, want) } :: rest) ⟨t1, h, oo, n⟩ K)
    (k0 : p = false → Run Φ E all (d :: D) lo ({ dst, op, type := tyr, pos, after, guard := some (j, want) } :: rest) ⟨t0, h, oo, n⟩ K) :
    Run Φ E all D lo ({ dst, op, type := tyr, pos, after, guard := some (j, want) } :: rest) ⟨t, h, oo, n⟩ K := by
  have _ := hj; have _ := hq; have _ := hD
  exact Run.split d hd h1 h0 k1 k0
theorem Run.splitP {dst : Option Nat} {a b : Operand} {tyr : Nat} {pos : String} {after : Array Edge} {g : Option (Nat × Bool)} {d : Nat} {p : Bool} {t t1 t0 : List (Nat × AV)} {h : List (Nat × List AV)} {oo : List (Nat × QV × List (List T))} {n : Nat}
    (hD : memB d D = false) (hd : lk t d = some (.t (.sc (.bool p)))) (h1 : pu t d (.t (.sc (.bool true))) = some t1) (h0 : pu t d (.t (.sc (.bool false))) = some t0)
    (k1 : p = true → Run Φ E all (d :: D) lo ({ dst, op := .pick (.tmp d) a b, type := tyr, pos, after, guard := g } :: rest) ⟨t1, h, oo, n⟩ K)
    (k0 : p = false → Run Φ E all (d :: D) lo ({ dst, op := .pick (.tmp d) a b, type := tyr, pos, after, guard := g } :: rest) ⟨t0, h, oo, n⟩ K) :
    Run Φ E all D lo ({ dst, op := .pick (.tmp d) a b, type := tyr, pos, after, guard := g } :: rest) ⟨t, h, oo, n⟩ K := by
  have _ := hD
  exact Run.split d hd h1 h0 k1 k0
theorem RunQ.splitG {j : Nat} {want : Bool} {dst : Option Nat} {op : Op} {tyr : Nat} {pos : String} {after : Array Edge} {q : Oper} {d : Nat} {p : Bool} {t t1 t0 : List (Nat × AV)} {h : List (Nat × List AV)} {oo : List (Nat × QV × List (List T))} {n : Nat}
    (hj : nthS all j = some q) (hq : q.dst = some d) (hD : memB d D = false) (hd : lk t d = some (.t (.sc (.bool p)))) (h1 : pu t d (.t (.sc (.bool true))) = some t1) (h0 : pu t d (.t (.sc (.bool false))) = some t0)
    (k1 : p = true → RunQ Φ E all (d :: D) ({ dst, op, type := tyr, pos, after, guard := some (j, want) } :: rest) ⟨t1, h, oo, n⟩ pend K)
    (k0 : p = false → RunQ Φ E all (d :: D) ({ dst, op, type := tyr, pos, after, guard := some (j, want) } :: rest) ⟨t0, h, oo, n⟩ pend K) :
    RunQ Φ E all D ({ dst, op, type := tyr, pos, after, guard := some (j, want) } :: rest) ⟨t, h, oo, n⟩ pend K := by
  have _ := hj; have _ := hq; have _ := hD
  exact RunQ.split d hd h1 h0 k1 k0
theorem RunQ.splitP {dst : Option Nat} {a b : Operand} {tyr : Nat} {pos : String} {after : Array Edge} {g : Option (Nat × Bool)} {d : Nat} {p : Bool} {t t1 t0 : List (Nat × AV)} {h : List (Nat × List AV)} {oo : List (Nat × QV × List (List T))} {n : Nat}
    (hD : memB d D = false) (hd : lk t d = some (.t (.sc (.bool p)))) (h1 : pu t d (.t (.sc (.bool true))) = some t1) (h0 : pu t d (.t (.sc (.bool false))) = some t0)
    (k1 : p = true → RunQ Φ E all (d :: D) ({ dst, op := .pick (.tmp d) a b, type := tyr, pos, after, guard := g } :: rest) ⟨t1, h, oo, n⟩ pend K)
    (k0 : p = false → RunQ Φ E all (d :: D) ({ dst, op := .pick (.tmp d) a b, type := tyr, pos, after, guard := g } :: rest) ⟨t0, h, oo, n⟩ pend K) :
    RunQ Φ E all D ({ dst, op := .pick (.tmp d) a b, type := tyr, pos, after, guard := g } :: rest) ⟨t, h, oo, n⟩ pend K := by
  have _ := hD
  exact RunQ.split d hd h1 h0 k1 k0
def told : Option AV → Bool
  | some (.t (.sc (.bool true))) => true
  | some (.t (.sc (.bool false))) => true
  | _ => false
theorem Run.gT {j : Nat} {want : Bool} {dst : Option Nat} {op : Op} {tyr : Nat} {pos : String} {after : Array Edge} {q : Oper} {d : Nat}
    (hj : nthS all j = some q) (hq : q.dst = some d) (hD : memB d D = false) (hd : told (lk s.t d) = true) (k1 : Run Φ E all (d :: D) lo ({ dst, op, type := tyr, pos, after, guard := some (j, want) } :: rest) s K) :
    Run Φ E all D lo ({ dst, op, type := tyr, pos, after, guard := some (j, want) } :: rest) s K := by
  have _ := hj; have _ := hq; have _ := hD; have _ := hd
  exact ⟨k1.h⟩
theorem Run.pT {dst : Option Nat} {a b : Operand} {tyr : Nat} {pos : String} {after : Array Edge} {g : Option (Nat × Bool)} {d : Nat}
    (hD : memB d D = false) (hd : told (lk s.t d) = true) (k1 : Run Φ E all (d :: D) lo ({ dst, op := .pick (.tmp d) a b, type := tyr, pos, after, guard := g } :: rest) s K) :
    Run Φ E all D lo ({ dst, op := .pick (.tmp d) a b, type := tyr, pos, after, guard := g } :: rest) s K := by
  have _ := hD; have _ := hd
  exact ⟨k1.h⟩
theorem RunQ.gT {j : Nat} {want : Bool} {dst : Option Nat} {op : Op} {tyr : Nat} {pos : String} {after : Array Edge} {q : Oper} {d : Nat}
    (hj : nthS all j = some q) (hq : q.dst = some d) (hD : memB d D = false) (hd : told (lk s.t d) = true) (k1 : RunQ Φ E all (d :: D) ({ dst, op, type := tyr, pos, after, guard := some (j, want) } :: rest) s pend K) :
    RunQ Φ E all D ({ dst, op, type := tyr, pos, after, guard := some (j, want) } :: rest) s pend K := by
  have _ := hj; have _ := hq; have _ := hD; have _ := hd
  exact ⟨k1.h⟩
theorem RunQ.pT {dst : Option Nat} {a b : Operand} {tyr : Nat} {pos : String} {after : Array Edge} {g : Option (Nat × Bool)} {d : Nat}
    (hD : memB d D = false) (hd : told (lk s.t d) = true) (k1 : RunQ Φ E all (d :: D) ({ dst, op := .pick (.tmp d) a b, type := tyr, pos, after, guard := g } :: rest) s pend K) :
    RunQ Φ E all D ({ dst, op := .pick (.tmp d) a b, type := tyr, pos, after, guard := g } :: rest) s pend K := by
  have _ := hD; have _ := hd
  exact ⟨k1.h⟩
/-- a guard that is told already -/
theorem Run.hadG {j : Nat} {want : Bool} {dst : Option Nat} {op : Op} {tyr : Nat} {pos : String} {after : Array Edge} {q : Oper} {d : Nat}
    (hj : nthS all j = some q) (hq : q.dst = some d) (hD : memB d D = false) (k1 : Run Φ E all (d :: D) lo ({ dst, op, type := tyr, pos, after, guard := some (j, want) } :: rest) s K) :
    Run Φ E all D lo ({ dst, op, type := tyr, pos, after, guard := some (j, want) } :: rest) s K := by
  have _ := hj; have _ := hq; have _ := hD
  exact ⟨k1.h⟩

theorem Run.one (hg : guardAV all s o.guard = some true) (hc : isCall o.op = none) (he : evalO E.tab s o.op o.dst = some s') (k : Run Φ E all D lo rest s' K) : Run Φ E all D lo (o :: rest) s K := by
  refine ⟨AdjW.done _ ⟨true, hg, ?_⟩⟩
  show wpOp _ _ _ _ _ _
  unfold wpOp
  simp only [hc]
  exact .inl ⟨s', he, k.h⟩
/-- an operation that wants something to hold -/
theorem Run.cnd {c : Prop} (hg : guardAV all s o.guard = some true) (hc : isCall o.op = none) (he : evalC E.tab s o.op o.dst = some (c, s')) (hcc : c) (k : Run Φ E all D lo rest s' K) : Run Φ E all D lo (o :: rest) s K := by
  refine ⟨AdjW.done _ ⟨true, hg, ?_⟩⟩
  show wpOp _ _ _ _ _ _
  unfold wpOp
  simp only [hc]
  exact .inr (.inl ⟨c, s', .inl he, hcc, k.h⟩)
theorem Run.cnd2 {c : Prop} (hg : guardAV all s o.guard = some true) (hc : isCall o.op = none) (he : evalC2 E.tab s o.op o.dst = some (c, s')) (hcc : c) (k : Run Φ E all D lo rest s' K) : Run Φ E all D lo (o :: rest) s K := by
  refine ⟨AdjW.done _ ⟨true, hg, ?_⟩⟩
  show wpOp _ _ _ _ _ _
  unfold wpOp
  simp only [hc]
  exact .inr (.inl ⟨c, s', .inr (.inl he), hcc, k.h⟩)

theorem Run.call {f : Operand} {args : Array Operand} {g : FuncId} {as : List AV} {r : AV} (hg : guardAV all s o.guard = some true) (hc : isCall o.op = some (f, args))
    (ha : argsAV E.md s f args.toList = some (g, as, s1)) (hr : Φ g as r) (hp : argsPlain E.md s1 f args.toList g = true) (he : putBack s s1 o.dst args.toList r = some s') (k : Run Φ E all D lo rest s' K) : Run Φ E all D lo (o :: rest) s K := by
  refine ⟨AdjW.done _ ⟨true, hg, ?_⟩⟩
  show wpOp _ _ _ _ _ _
  unfold wpOp
  simp only [hc]
  exact ⟨g, as, r, s1, s', ha, hr, .inl hp, he, k.h⟩
theorem Run.callB {f : Operand} {args : Array Operand} {g : FuncId} {as : List AV} {r : AV} (hg : guardAV all s o.guard = some true) (hc : isCall o.op = some (f, args))
    (ha : argsAV E.md s f args.toList = some (g, as, s1)) (hr : Φ g as r) (hp : r.own) (he : putBack s s1 o.dst args.toList r = some s') (k : Run Φ E all D lo rest s' K) : Run Φ E all D lo (o :: rest) s K := by
  refine ⟨AdjW.done _ ⟨true, hg, ?_⟩⟩
  show wpOp _ _ _ _ _ _
  unfold wpOp
  simp only [hc]
  exact ⟨g, as, r, s1, s', ha, hr, .inr hp, he, k.h⟩

/-- a call of a function whose number is not told: nothing goes for good -/
def argsM (s : St) (f : Operand) (args : List Operand) : Option (FuncId × List AV × St) :=
  match movesL [] s args with
  | some (as, s) => match calleeAV s f with
    | some (g, caps) => match appS as caps with
      | some l => some (g, l, s)
      | none => none
    | none => none
  | none => none
def plainM (s : St) (f : Operand) (args : List Operand) : Bool :=
  match (s.ev f).plain with
  | true => allPlain [] s args
  | false => false
theorem Run.callF {f : Operand} {args : Array Operand} {g : FuncId} {as : List AV} {r : AV} (hg : guardAV all s o.guard = some true) (hc : isCall o.op = some (f, args)) (hcg : calleeG s f = some g) (hm : modeOf E.md g = [])
    (ha : argsM s f args.toList = some (g, as, s1)) (hr : Φ g as r) (hp : plainM s1 f args.toList = true) (he : putBack s s1 o.dst args.toList r = some s') (k : Run Φ E all D lo rest s' K) : Run Φ E all D lo (o :: rest) s K := by
  refine Run.call (g := g) (as := as) (s1 := s1) hg hc ?_ hr ?_ he k
  · unfold argsAV; unfold argsM at ha; simp only [hcg, hm]; exact ha
  · unfold argsPlain; unfold plainM at hp; simp only [hm]; exact hp
theorem Run.cnd3 {c : Prop} (hg : guardAV all s o.guard = some true) (hc : isCall o.op = none) (he : evalC3 E.tab s o.op o.dst = some (c, s')) (hcc : c) (k : Run Φ E all D lo rest s' K) : Run Φ E all D lo (o :: rest) s K := by
  refine ⟨AdjW.done _ ⟨true, hg, ?_⟩⟩
  show wpOp _ _ _ _ _ _
  unfold wpOp
  simp only [hc]
  exact .inr (.inl ⟨c, s', .inr (.inr (.inl he)), hcc, k.h⟩)

theorem Run.cnd4 {c : Prop} (hg : guardAV all s o.guard = some true) (hc : isCall o.op = none) (he : evalC4 E.tab s o.op o.dst = some (c, s')) (hcc : c) (k : Run Φ E all D lo rest s' K) : Run Φ E all D lo (o :: rest) s K := by
  refine ⟨AdjW.done _ ⟨true, hg, ?_⟩⟩
  show wpOp _ _ _ _ _ _
  unfold wpOp
  simp only [hc]
  exact .inr (.inl ⟨c, s', .inr (.inr (.inr he)), hcc, k.h⟩)
/-- is a slice nil? -/
theorem Run.nilc {n : Bool} {rows : List (List T)} {f : Bool → St} (hg : guardAV all s o.guard = some true) (hc : isCall o.op = none) (he : nilQ E.tab s o.op = some (n, rows)) (hp : ∀ b, s.putT o.dst (.t (.sc (.bool b))) = some (f b))
    (k1 : rows ≠ [] → Run Φ E all D lo rest (f n) K) (k2 : rows = [] → ∀ b, Run Φ E all D lo rest (f b) K) : Run Φ E all D lo (o :: rest) s K := by
  refine ⟨AdjW.done _ ⟨true, hg, ?_⟩⟩
  show wpOp _ _ _ _ _ _
  unfold wpOp
  simp only [hc]
  exact .inr (.inr ⟨n, rows, f, he, hp, fun h => (k1 h).h, fun h b => (k2 h b).h⟩)

/-- xs[i], its row told -/
theorem Run.ix {dst : Option Nat} {ty : Nat} {x i : Operand} {tyr : Nat} {pos : String} {after : Array Edge} {g : Option (Nat × Bool)} {xv y : AV} {rows : List (List T)} {kk : IntKind} {n : Int} {k : Nat} {e sz by' : Nat} {z : Option (List T)} {ei : TI} {r : List T}
    (hg : guardAV all s g = some true) (hx : evA s x = some xv) (hrows : rowsAV s xv = some rows) (hi : s.ev i = .t (.sc (.int kk n))) (ht : lk E.tab ty = some ⟨.sl e, sz, by', z⟩) (he : lk E.tab e = some ei)
    (hn : n = (k : Int)) (hr : rows[k]? = some r) (hl : lenS r ei.size = true) (hy : rowPtr xv k r = some y) (hp : s.putT dst y = some s') (K1 : Run Φ E all D lo rest s' K) :
    Run Φ E all D lo ({ dst, op := .indexAddr ty x i, type := tyr, pos, after, guard := g } :: rest) s K := by
  refine Run.one hg rfl ?_ K1
  subst hn
  have h0 : (0 : Int) ≤ (k : Int) := by omega
  simp only [evalO, turns, evalV, hi, indexAddrAV, ht, hx, hrows, he, h0, if_true, Int.toNat_natCast, hr, hl, hy, hp]
theorem RunQ.ix {d : Nat} {ty : Nat} {x i : Operand} {tyr : Nat} {pos : String} {after : Array Edge} {g : Option (Nat × Bool)} {xv y : AV} {rows : List (List T)} {kk : IntKind} {n : Int} {k : Nat} {e sz by' : Nat} {z : Option (List T)} {ei : TI} {r : List T}
    (hg : guardAV all s g = some true) (hx : evA s x = some xv) (hrows : rowsAV s xv = some rows) (hi : s.ev i = .t (.sc (.int kk n))) (ht : lk E.tab ty = some ⟨.sl e, sz, by', z⟩) (he : lk E.tab e = some ei)
    (hn : n = (k : Int)) (hr : rows[k]? = some r) (hl : lenS r ei.size = true) (hy : rowPtr xv k r = some y) (hp : s.putT (some d) y = some s') (K1 : RunQ Φ E all D rest s' pend K) :
    RunQ Φ E all D ({ dst := some d, op := .indexAddr ty x i, type := tyr, pos, after, guard := g } :: rest) s pend K := by
  refine ⟨⟨d, y, none, s', rfl, ⟨true, hg, ?_⟩, hp, K1.h⟩⟩
  subst hn
  have h0 : (0 : Int) ≤ (k : Int) := by omega
  refine .inl ⟨?_, rfl, rfl⟩
  simp only [evalV, hi, indexAddrAV, ht, hx, hrows, he, h0, if_true, Int.toNat_natCast, hr, hl, hy]

/-- what a load reads in a root's row -/
def loadRow (tab : Tab) (ty id k : Nat) (r : List T) : Option AV :=
  match lk tab ty with
  | some ti => match dropS k r with
    | some cs => match cellsRp id cs with
      | some cs => match ti.d.isAgg with
        | true => match takeS ti.size cs with
          | some l => some (.ag l)
          | none => none
        | false => match nthS cs 0 with
          | some v => fA v
          | none => none
      | none => none
    | none => none
  | none => none
theorem loadRow_eq {tab : Tab} {ty id i k : Nat} {q : QV} {rows : List (List T)} {r : List T} {v : AV} (ho : lk s.o id = some (q, rows)) (hr : rows[i]? = some r) (h : loadRow tab ty id k r = some v) : loadAV tab s ty (.rp id i k) = some v := by
  unfold loadRow at h
  unfold loadAV
  cases h1 : lk tab ty with
  | none => rw [h1] at h; cases h
  | some ti =>
    rw [h1] at h
    simp only [ptrCells, ho, hr] at h ⊢
    cases h2 : dropS k r with
    | none => rw [h2] at h; cases h
    | some c0 =>
      rw [h2] at h
      simp only at h ⊢
      cases h3 : cellsRp id c0 with
      | none => rw [h3] at h; cases h
      | some c1 => rw [h3] at h; exact h
theorem Run.ldr {dst : Option Nat} {ty : Nat} {p : Operand} {tyr : Nat} {pos : String} {after : Array Edge} {g : Option (Nat × Bool)} {id i k : Nat} {q : QV} {rows : List (List T)} {r : List T} {v : AV}
    (hg : guardAV all s g = some true) (hp : s.ev p = .rp id i k) (ho : lk s.o id = some (q, rows)) (hr : rows[i]? = some r) (hv : loadRow E.tab ty id k r = some v) (hput : s.putT dst v = some s') (K1 : Run Φ E all D lo rest s' K) :
    Run Φ E all D lo ({ dst, op := .load ty p, type := tyr, pos, after, guard := g } :: rest) s K := by
  refine Run.one hg rfl ?_ K1
  simp only [evalO, turns, evalV, hp, loadRow_eq ho hr hv, hput]
theorem RunQ.ldr {d : Nat} {ty : Nat} {p : Operand} {tyr : Nat} {pos : String} {after : Array Edge} {g : Option (Nat × Bool)} {id i k : Nat} {q : QV} {rows : List (List T)} {r : List T} {v : AV}
    (hg : guardAV all s g = some true) (hp : s.ev p = .rp id i k) (ho : lk s.o id = some (q, rows)) (hr : rows[i]? = some r) (hv : loadRow E.tab ty id k r = some v) (hput : s.putT (some d) v = some s') (K1 : RunQ Φ E all D rest s' pend K) :
    RunQ Φ E all D ({ dst := some d, op := .load ty p, type := tyr, pos, after, guard := g } :: rest) s pend K := by
  refine ⟨⟨d, v, none, s', rfl, ⟨true, hg, ?_⟩, hput, K1.h⟩⟩
  refine .inl ⟨?_, rfl, rfl⟩
  simp only [evalV, hp, loadRow_eq ho hr hv]

/-- what a store leaves of a root's row -/
def storeRow (s : St) (id i k size : Nat) (cs : List AV) (r : List T) : Option (List (List T) × St) :=
  match lenS cs size with
  | true => match absorbL s cs with
    | some (ts, s) => match lk s.o id with
      | some (q, rows) => match setS r k ts with
        | some r' => match s.putO id q (rows.set i r') with
          | some s => some (rows, s)
          | none => none
        | none => none
      | none => none
    | none => none
  | false => none
theorem storeRow_eq {id i k size : Nat} {cs : List AV} {r : List T} {rows : List (List T)} (h : storeRow s id i k size cs r = some (rows, s1)) (hr : rows[i]? = some r) : storeRp s id i k size cs = some s1 := by
  unfold storeRow at h
  unfold storeRp
  cases h1 : lenS cs size with
  | false => rw [h1] at h; cases h
  | true =>
    rw [h1] at h
    cases h2 : absorbL s cs with
    | none => rw [h2] at h; cases h
    | some p =>
      obtain ⟨ts, s2⟩ := p
      rw [h2] at h
      simp only at h ⊢
      cases h3 : lk s2.o id with
      | none => rw [h3] at h; cases h
      | some p =>
        obtain ⟨q, rows'⟩ := p
        rw [h3] at h
        simp only at h ⊢
        cases h4 : setS r k ts with
        | none => rw [h4] at h; cases h
        | some r' =>
          rw [h4] at h
          simp only at h ⊢
          cases h5 : s2.putO id q (rows'.set i r') with
          | none => rw [h5] at h; cases h
          | some s3 =>
            rw [h5] at h
            simp only at h
            cases h
            rw [hr]; simp only [h4, h5]
theorem Run.str {dst : Option Nat} {ty : Nat} {p x : Operand} {tyr : Nat} {pos : String} {after : Array Edge} {g : Option (Nat × Bool)} {ti : TI} {id i k : Nat} {cs0 cs : List AV} {rows : List (List T)} {r : List T} {q0 : QV}
    (hg : guardAV all s g = some true) (ht : lk E.tab ty = some ti) (hp : s.ev p = .rp id i k) (hx : (s.ev x).cells? = some cs0) (hx2 : mapS fA cs0 = some cs) (ho : lk s.o id = some (q0, rows)) (hr : rows[i]? = some r) (hs : storeRow s id i k ti.size cs r = some (rows, s1))
    (hput : s1.putT dst (.t (.sc undef)) = some s') (K1 : Run Φ E all D lo rest s' K) :
    Run Φ E all D lo ({ dst, op := .store ty p x, type := tyr, pos, after, guard := g } :: rest) s K := by
  have _ := ho
  refine Run.one hg rfl ?_ K1
  simp only [evalO, turns, evalM, ht, hx, hx2, hp, storeRow_eq hs hr, hput]
/-- a part of a shared slice -/
theorem Run.slt {dst : Option Nat} {ty : Nat} {x : Operand} {l0 hi : Option Operand} {tyr : Nat} {pos : String} {after : Array Edge} {g : Option (Nat × Bool)} {ow : Bool} {rows : List (List T)} {e sz by' : Nat} {z : Option (List T)} {ei : TI} {l h : Int}
    (hg : guardAV all s g = some true) (hx : s.ev x = .t (.sl ow rows)) (ht : lk E.tab ty = some ⟨.sl e, sz, by', z⟩) (he : lk E.tab e = some ei) (hl : boundAV s l0 0 = some l) (hh : boundAV s hi rows.length = some h)
    (hc : 0 ≤ l ∧ l ≤ h ∧ h ≤ rows.length ∧ ∀ r ∈ rows, r.length = ei.size) (hp : s.putT dst (.t (.sl false ((rows.take h.toNat).drop l.toNat))) = some s') (K1 : Run Φ E all D lo rest s' K) :
    Run Φ E all D lo ({ dst, op := .slice ty x l0 hi none, type := tyr, pos, after, guard := g } :: rest) s K := by
  refine Run.one hg rfl ?_ K1
  cases hi with
  | none =>
    simp only [boundAV, Option.some.injEq] at hh
    subst hh
    simp only [evalO, turns, evalV, hl, sliceAV, ht, hx, he, Option.getD_some, Option.getD_none]
    rw [if_pos hc]; simp only [hp]
  | some y =>
    have hh' : boundAV s (some y) 0 = some h := by simpa only [boundAV] using hh
    simp only [evalO, turns, evalV, hl, hh', sliceAV, ht, hx, he, Option.getD_some]
    rw [if_pos hc]; simp only [hp]
end

section
variable {Φ : Rel3} {E : Env} {s s' : St} {Q : Ex → St → Prop}
theorem wpOps_mono {Φ' : Rel3} (hΦ : ∀ f as r, Φ f as r → Φ' f as r) {all : List Oper} : ∀ (ops : List Oper) (s : St) (K K' : St → Prop), (∀ s, K s → K' s) → wpOps Φ E all ops s K → wpOps Φ' E all ops s K' := by
  intro ops
  induction ops with
  | nil => intro s K K' hk h; exact AdjW.mono hk h
  | cons o rest ih =>
    intro s K K' hk h
    refine AdjW.mono ?_ h
    rintro s0 ⟨b, hg, h⟩
    refine ⟨b, hg, ?_⟩
    cases b with
    | false => obtain ⟨s', hp, h⟩ := h; exact ⟨s', hp, ih _ _ _ hk h⟩
    | true =>
      simp only [wpOp] at h ⊢
      split
      · rename_i f args heq
        simp only [heq] at h
        obtain ⟨g, as, r, s1, s', ha, hr, hp, he, h⟩ := h
        exact ⟨g, as, r, s1, s', ha, hΦ _ _ _ hr, hp, he, ih _ _ _ hk h⟩
      · rename_i heq
        simp only [heq] at h
        rcases h with ⟨s', he, h⟩ | ⟨c, s', he, hc, h⟩ | ⟨n, rows, f, hn, hp, h1, h2⟩
        · exact .inl ⟨s', he, ih _ _ _ hk h⟩
        · exact .inr (.inl ⟨c, s', he, hc, ih _ _ _ hk h⟩)
        · exact .inr (.inr ⟨n, rows, f, hn, hp, fun h => ih _ _ _ hk (h1 h), fun h b => ih _ _ _ hk (h2 h b)⟩)
theorem wpQ_mono {Φ' : Rel3} (hΦ : ∀ f as r, Φ f as r → Φ' f as r) {all : List Oper} : ∀ (ops : List Oper) (s : St) (pend : List (Nat × QV × List (List T))) (K K' : St → Prop), (∀ s, K s → K' s) → wpQ Φ E all ops s pend K → wpQ Φ' E all ops s pend K' := by
  intro ops
  induction ops with
  | nil => intro s pend K K' hk h; obtain ⟨o, ho, h⟩ := h; exact ⟨o, ho, hk _ h⟩
  | cons o rest ih =>
    intro s pend K K' hk h
    obtain ⟨d, v, root, s', hd, ⟨b, hg, hq⟩, hp, h⟩ := h
    refine ⟨d, v, root, s', hd, ⟨b, hg, ?_⟩, hp, ?_⟩
    · cases b with
      | false => exact hq
      | true =>
        simp only at hq ⊢
        split
        · rename_i f args heq
          simp only [heq] at hq
          obtain ⟨g, as, r, hcg, ha, hm, hr, hp, he⟩ := hq
          exact ⟨g, as, r, hcg, ha, hm, hΦ _ _ _ hr, hp, he⟩
        · rename_i heq
          simp only [heq] at hq
          exact hq
    · cases root with
      | none => exact ih _ _ _ _ hk h
      | some rows => exact ⟨h.1, ih _ _ _ _ hk h.2⟩

theorem wpOp_mono' {Φ' : Rel3} (hΦ : ∀ f as r, Φ f as r → Φ' f as r) {op : Op} {dst : Option Nat} {s : St} {K K' : St → Prop} (hk : ∀ s, K s → K' s) (h : wpOp Φ E op dst s K) : wpOp Φ' E op dst s K' := by
  simp only [wpOp] at h ⊢
  split
  · rename_i f args heq
    simp only [heq] at h
    obtain ⟨g, as, r, s1, s', ha, hr, hp, he, h⟩ := h
    exact ⟨g, as, r, s1, s', ha, hΦ _ _ _ hr, hp, he, hk _ h⟩
  · rename_i heq
    simp only [heq] at h
    rcases h with ⟨s', he, h⟩ | ⟨c, s', he, hc, h⟩ | ⟨n, rows, f, hn, hp, h1, h2⟩
    · exact .inl ⟨s', he, hk _ h⟩
    · exact .inr (.inl ⟨c, s', he, hc, hk _ h⟩)
    · exact .inr (.inr ⟨n, rows, f, hn, hp, fun h => hk _ (h1 h), fun h b => hk _ (h2 h b)⟩)
theorem wpL_mono {Φ' : Rel3} (hΦ : ∀ f as r, Φ f as r → Φ' f as r) {all : List Oper} {ms X : List Nat} : ∀ (M : List Nat) (s : St) (K K' : St → Prop), (∀ s, K s → K' s) → wpL Φ E all ms X M s K → wpL Φ' E all ms X M s K' := by
  intro M
  induction M with
  | nil => intro s K K' hk h; exact hk _ h
  | cons i M ih =>
    intro s K K' hk h
    obtain ⟨o, ho, b, hg, h⟩ := h
    refine ⟨o, ho, b, hg, ?_⟩
    cases b with
    | false => obtain ⟨s', hp, hr, h⟩ := h; exact ⟨s', hp, hr, ih _ _ _ hk h⟩
    | true => exact wpOp_mono' hΦ (fun s h => ⟨h.1, ih _ _ _ hk h.2⟩) h
theorem exThen_mono {K K' : St → Prop} {Q Q' : Ex → St → Prop} (hk : ∀ s, K s → K' s) (hq : ∀ e s, Q e s → Q' e s) : ∀ e s, exThen K Q e s → exThen K' Q' e s := by
  intro e s h
  cases e <;> first | exact hk _ h | exact hq _ _ h
theorem exBlock_mono {id : Nat} {Q Q' : Ex → St → Prop} (hq : ∀ e s, Q e s → Q' e s) : ∀ e s, exBlock id Q e s → exBlock id Q' e s := by
  intro e s h
  cases e with
  | normal => exact hq _ _ h
  | ret => exact hq _ _ h
  | exit i =>
    simp only [exBlock] at h ⊢
    split
    · rename_i hi; simp only [hi, if_true] at h; exact hq _ _ h
    · rename_i hi; simp only [hi, if_false] at h; exact hq _ _ h

theorem wp_mono' {Φ' : Rel3} (hΦ : ∀ f as r, Φ f as r → Φ' f as r) : ∀ (c : Code) (s : St) (Q Q' : Ex → St → Prop), (∀ e s, Q e s → Q' e s) → Ev.wp Φ E c s Q → Ev.wp Φ' E c s Q' := by
  intro c
  induction c with
  | skip => intro s Q Q' hq h; exact hq _ _ h
  | region id ops draw =>
    intro s Q Q' hq h
    cases draw with
    | false => exact wpOps_mono hΦ _ _ _ _ (hq _) h
    | true =>
      rcases h with ⟨m, hm, h⟩ | ⟨X, M, l, hm, hl, h⟩
      · exact .inl ⟨m, hm, wpQ_mono hΦ _ _ _ _ _ (fun s h => wpOps_mono hΦ _ _ _ _ (hq _) h) h⟩
      · exact .inr ⟨X, M, l, hm, hl, wpQ_mono hΦ _ _ _ _ _ (fun s h => wpL_mono hΦ _ _ _ _ (fun s h => wpOps_mono hΦ _ _ _ _ (hq _) h) h) h⟩
  | seq a b iha ihb => intro s Q Q' hq h; exact iha _ _ _ (exThen_mono (fun s h => ihb _ _ _ hq h) hq) h
  | cond c a b iha ihb => intro s Q Q' hq h; obtain ⟨p, hc, ht, hf⟩ := h; exact ⟨p, hc, fun e => iha _ _ _ hq (ht e), fun e => ihb _ _ _ hq (hf e)⟩
  | block id b ih => intro s Q Q' hq h; exact ih _ _ _ (exBlock_mono hq) h
  | loop b ih =>
    intro s Q Q' hq h
    obtain ⟨n, h⟩ := h
    refine ⟨n, ?_⟩
    induction n generalizing s with
    | zero => exact h
    | succ n ihn =>
      exact AdjW.mono (fun s' h => ih _ _ _ (exThen_mono (fun s h => ihn s h) hq) h) h
  | exit id => intro s Q Q' hq h; exact hq _ _ h
  | ret => intro s Q Q' hq h; exact hq _ _ h
  | rangeFunc => intro s Q Q' hq h; exact h.elim
  | scope => intro s Q Q' hq h; exact h.elim
  | label => intro s Q Q' hq h; exact h.elim
  | goto => intro s Q Q' hq h; exact h.elim
  | refuse => intro s Q Q' hq h; exact h.elim

/-- code under way -/
structure W (Φ : Rel3) (E : Env) (c : Code) (s : St) (Q : Ex → St → Prop) : Prop where
  h : Ev.wp Φ E c s Q
/-- what is behind a piece of code, a block -/
structure Th (K : St → Prop) (Q : Ex → St → Prop) (e : Ex) (s : St) : Prop where
  h : exThen K Q e s
structure Bl (id : Nat) (Q : Ex → St → Prop) (e : Ex) (s : St) : Prop where
  h : exBlock id Q e s
theorem wp_region_i {id : Nat} {ops : Array Oper} (h : Run Φ E ops.toList [] none ops.toList s (Q .normal)) : W Φ E (.region id ops false) s Q := ⟨h.h⟩
theorem wp_region_t {id : Nat} {ops : Array Oper} (tbl : List (Nat × List Nat)) {lo : Option (List Nat)} (hl : lk tbl id = lo) (h : Run Φ E ops.toList [] lo ops.toList s (Q .normal)) : W Φ E (.region id ops false) s Q := by
  have _ := hl
  exact ⟨h.h⟩
theorem wp_region_q {id : Nat} {ops : Array Oper} (m : Nat) {l1 l2 : List Oper} (hm : drawOk ops.toList m = true) (h1 : ops.toList.take m = l1) (h2 : ops.toList.drop m = l2) (h : RunQ Φ E ops.toList [] l1 s [] fun s' => Run Φ E ops.toList [] none l2 s' (Q .normal)) : W Φ E (.region id ops true) s Q := ⟨.inl ⟨m, hm, by rw [h1, h2]; exact wpQ_mono (fun _ _ _ h => h) _ _ _ _ _ (fun _ r => Run.h r) h.h⟩⟩
theorem wp_region_qt {id : Nat} {ops : Array Oper} (tbl : List (Nat × List Nat)) {lo : Option (List Nat)} (hl : lk tbl id = lo) (m : Nat) {l1 l2 : List Oper} (hm : drawOk ops.toList m = true) (h1 : ops.toList.take m = l1) (h2 : ops.toList.drop m = l2) (h : RunQ Φ E ops.toList [] l1 s [] fun s' => Run Φ E ops.toList [] lo l2 s' (Q .normal)) : W Φ E (.region id ops true) s Q := by
  have _ := hl
  exact ⟨.inl ⟨m, hm, by rw [h1, h2]; exact wpQ_mono (fun _ _ _ h => h) _ _ _ _ _ (fun _ r => Run.h r) h.h⟩⟩
/-- one of the operations beside which others may be done late -/
structure RunL (Φ : Rel3) (E : Env) (all : List Oper) (ms X M : List Nat) (s : St) (K : St → Prop) : Prop where
  h : wpL Φ E all ms X M s K
theorem RunL.done {all : List Oper} {ms X : List Nat} {K : St → Prop} (k : K s) : RunL Φ E all ms X [] s K := ⟨k⟩
theorem RunL.call {all : List Oper} {ms X r : List Nat} {i : Nat} {o : Oper} {s1 : St} {K : St → Prop} {f : Operand} {args : Array Operand} {g : FuncId} {as : List AV} {v : AV} (ho : nthS all i = some o) (hg : guardAV all s o.guard = some true) (hc : isCall o.op = some (f, args))
    (ha : argsAV E.md s f args.toList = some (g, as, s1)) (hr : Φ g as v) (hp : argsPlain E.md s1 f args.toList g = true ∨ v.own) (he : putBack s s1 o.dst args.toList v = some s') (hrep : repL E.tab all ms i s' X s'.t = some s'.t) (k : RunL Φ E all ms X r s' K) : RunL Φ E all ms X (i :: r) s K := by
  refine ⟨o, ho, true, hg, ?_⟩
  show wpOp _ _ _ _ _ _
  unfold wpOp
  simp only [hc]
  exact ⟨g, as, v, s1, s', ha, hr, hp, he, hrep, k.h⟩
theorem RunL.one {all : List Oper} {ms X r : List Nat} {i : Nat} {o : Oper} {K : St → Prop} (ho : nthS all i = some o) (hg : guardAV all s o.guard = some true) (hc : isCall o.op = none) (he : evalO E.tab s o.op o.dst = some s') (hrep : repL E.tab all ms i s' X s'.t = some s'.t) (k : RunL Φ E all ms X r s' K) : RunL Φ E all ms X (i :: r) s K := by
  refine ⟨o, ho, true, hg, ?_⟩
  show wpOp _ _ _ _ _ _
  unfold wpOp
  simp only [hc]
  exact .inl ⟨s', he, hrep, k.h⟩
theorem RunL.cnd {all : List Oper} {ms X r : List Nat} {i : Nat} {o : Oper} {K : St → Prop} {c : Prop} (ho : nthS all i = some o) (hg : guardAV all s o.guard = some true) (hc : isCall o.op = none) (he : evalC E.tab s o.op o.dst = some (c, s')) (hcc : c) (hrep : repL E.tab all ms i s' X s'.t = some s'.t) (k : RunL Φ E all ms X r s' K) : RunL Φ E all ms X (i :: r) s K := by
  refine ⟨o, ho, true, hg, ?_⟩
  show wpOp _ _ _ _ _ _
  unfold wpOp
  simp only [hc]
  exact .inr (.inl ⟨c, s', .inl he, hcc, hrep, k.h⟩)
/-- a region in which operations (X) may be done late beside others (M) -/
theorem wp_region_l {id : Nat} {ops : Array Oper} (tbl : List (Nat × List Nat)) {lo : Option (List Nat)} (X M : List Nat) (ms : List Nat) {l l2 : List Oper} (hlo : lk tbl id = lo) (hm : drawOk2 ops.toList X M = true) (hms : masks ops.toList = ms) (hl : picks ops.toList X = some l) (h2 : ops.toList.drop (Nat.add X.length M.length) = l2)
    (h : RunQ Φ E ops.toList [] l s [] fun s1 => RunL Φ E ops.toList ms X M s1 fun s2 => Run Φ E ops.toList [] lo l2 s2 (Q .normal)) : W Φ E (.region id ops true) s Q := by
  have _ := hlo
  subst h2
  subst hms
  exact ⟨.inr ⟨X, M, l, hm, hl, wpQ_mono (fun _ _ _ h => h) _ _ _ _ _ (fun _ r => wpL_mono (fun _ _ _ h => h) _ _ _ _ (fun _ r => Run.h r) (RunL.h r)) h.h⟩⟩
theorem wp_skip_i (h : Q .normal s) : W Φ E .skip s Q := ⟨h⟩
theorem wp_ret_i (h : Q .ret s) : W Φ E .ret s Q := ⟨h⟩
theorem wp_exit_i {id : Nat} (h : Q (.exit id) s) : W Φ E (.exit id) s Q := ⟨h⟩
theorem wp_seq_i {a b : Code} (h : W Φ E a s (Th (fun s' => W Φ E b s' Q) Q)) : W Φ E (.seq a b) s Q := ⟨wp_mono' (fun _ _ _ h => h) a s _ (exThen (fun s' => Ev.wp Φ E b s' Q) Q) (fun e s h => exThen_mono (fun _ h => W.h h) (fun _ _ h => h) e s h.h) h.h⟩
theorem wp_block_i {id : Nat} {b : Code} (h : W Φ E b s (Bl id Q)) : W Φ E (.block id b) s Q := ⟨wp_mono' (fun _ _ _ h => h) b s _ (exBlock id Q) (fun _ _ h => h.h) h.h⟩
theorem wp_cond_i {c : Operand} {a b : Code} {p : Bool} (hc : s.ev c = .t (.sc (.bool p))) (ht : p = true → W Φ E a s Q) (hf : p = false → W Φ E b s Q) : W Φ E (.cond c a b) s Q := ⟨⟨p, hc, fun e => (ht e).h, fun e => (hf e).h⟩⟩
theorem wp_cond_t {c : Operand} {a b : Code} (hc : s.ev c = .t (.sc (.bool true))) (ht : W Φ E a s Q) : W Φ E (.cond c a b) s Q := ⟨⟨true, hc, fun _ => ht.h, nofun⟩⟩
theorem wp_cond_f {c : Operand} {a b : Code} (hc : s.ev c = .t (.sc (.bool false))) (hf : W Φ E b s Q) : W Φ E (.cond c a b) s Q := ⟨⟨false, hc, nofun, fun _ => hf.h⟩⟩
theorem wp_cond_k {d : Nat} {a b : Code} {p : Bool} {t t1 t0 : List (Nat × AV)} {h : List (Nat × List AV)} {oo : List (Nat × QV × List (List T))} {n : Nat} (hd : lk t d = some (.t (.sc (.bool p)))) (h1 : pu t d (.t (.sc (.bool true))) = some t1) (h0 : pu t d (.t (.sc (.bool false))) = some t0)
    (ht : p = true → W Φ E a ⟨t1, h, oo, n⟩ Q) (hf : p = false → W Φ E b ⟨t0, h, oo, n⟩ Q) : W Φ E (.cond (.tmp d) a b) ⟨t, h, oo, n⟩ Q := by
  refine ⟨⟨p, by simp only [St.ev, St.get, hd], ?_, ?_⟩⟩
  · intro e; subst e; rw [pu_same hd] at h1; cases h1; exact (ht rfl).h
  · intro e; subst e; rw [pu_same hd] at h0; cases h0; exact (hf rfl).h
theorem then_n {K : St → Prop} (h : K s) : Th K Q .normal s := ⟨h⟩
theorem then_e {K : St → Prop} {i : Nat} (h : Q (.exit i) s) : Th K Q (.exit i) s := ⟨h⟩
theorem then_r {K : St → Prop} (h : Q .ret s) : Th K Q .ret s := ⟨h⟩
theorem block_n {id : Nat} (h : Q .normal s) : Bl id Q .normal s := ⟨h⟩
theorem block_r {id : Nat} (h : Q .ret s) : Bl id Q .ret s := ⟨h⟩
theorem block_e {id : Nat} (h : Q .normal s) : Bl id Q (.exit id) s := by refine ⟨?_⟩; simp only [exBlock, if_true]; exact h
theorem block_o {id i : Nat} (hne : Nat.beq i id = false) (h : Q (.exit i) s) : Bl id Q (.exit i) s := by
  have := beq_f hne
  refine ⟨?_⟩
  simp only [exBlock, this, if_false]; exact h

/-- A loop: its head's state by a parameter. -/
theorem wp_loop_i {α : Type} {b : Code} (F : α → St) (I : α → Prop) (μ : α → Nat) (x0 : α) (h0 : AdjW (fun s => s = F x0) s) (hI : I x0)
    (round : ∀ x, I x → W Φ E b (F x) (Th (AdjW fun s' => ∃ y, s' = F y ∧ I y ∧ μ y < μ x) Q)) : W Φ E (.loop b) s Q := by
  have key : ∀ n x, μ x < n → I x → wp Φ E b (F x) (exThen (fun s' => loopN (fun s Q => wp Φ E b s Q) n s' Q) Q) := by
    intro n
    induction n with
    | zero => intro x h; exact absurd h (Nat.not_lt_zero _)
    | succ n ih =>
      intro x hm hx
      refine wp_mono' (fun _ _ _ h => h) _ _ _ _ (fun e s h => exThen_mono ?_ (fun _ _ h => h) e s h.h) (round x hx).h
      intro s' h
      refine AdjW.mono ?_ h
      rintro s1 ⟨y, rfl, hy, hlt⟩
      cases n with
      | zero => omega
      | succ n => exact ih y (by omega) hy
  refine ⟨⟨μ x0 + 2, AdjW.mono ?_ h0⟩⟩
  rintro s1 rfl
  exact key _ x0 (by omega) hI

def putL {α : Type} (l : List (Nat × α)) : List (Nat × α) → Option (List (Nat × α))
  | [] => some l
  | (k, v) :: r => match pu l k v with
    | some l => putL l r
    | none => none
def setSt (s : St) (ts : List (Nat × AV)) (hs : List (Nat × List AV)) (os : List (Nat × QV × List (List T))) : Option St :=
  match s with
  | ⟨t, h, o, n⟩ => match putL t ts with
    | some t => match putL h hs with
      | some h => match putL o os with
        | some o => some ⟨t, h, o, n⟩
        | none => none
      | none => none
    | none => none
/-- A loop whose head's state is what it is at the first time, but for some slots, boxes, roots. -/
theorem wp_loop_k {α : Type} {b : Code} (as : List Adj) (ts : α → List (Nat × AV)) (hs : α → List (Nat × List AV)) (os : α → List (Nat × QV × List (List T))) (I : α → Prop) (μ : α → Nat) (x0 : α) {s0 : St} {F : α → St}
    (h0 : adjL s as = some s0) (hF : ∀ x, setSt s0 (ts x) (hs x) (os x) = some (F x)) (hx : s0 = F x0) (hI : I x0)
    (round : ∀ x, I x → W Φ E b (F x) (Th (AdjW fun s' => ∃ y, s' = F y ∧ I y ∧ μ y < μ x) Q)) : W Φ E (.loop b) s Q := by
  have _ := hF
  exact wp_loop_i F I μ x0 (AdjW.ofL h0 hx) hI round
theorem back_i {α : Type} {F : α → St} {I : α → Prop} {μ : α → Nat} {x : α} {s1 : St} (as : List Adj) (y : α) (h : adjL s as = some s1) (e : s1 = F y) (hI : I y) (hm : μ y < μ x) : AdjW (fun s' => ∃ y, s' = F y ∧ I y ∧ μ y < μ x) s :=
  AdjW.ofL h ⟨y, e, hI, hm⟩

theorem Tells.of {P : Program} {E : Env} {X : Rel3} {f : FuncId} {args : List AV} {r : AV} (h : X f args r) : Tells P E X f args r := fun _ hX _ => hX _ _ _ h

theorem Tells.by {P : Program} {E : Env} {X : Rel3} {f : FuncId} {fn : Func} {args : List AV} {r : AV} (hf : P.funcs[f]? = some fn) (hn : (fn.name == "runtime.NumGoroutine") = false) (h : Body (Tells P E X) E fn args r) : Tells P E X f args r := by
  intro R hX hR
  refine hR _ _ _ _ hf hn ?_
  obtain ⟨c, s, hb, hn, hi, h⟩ := h
  refine ⟨c, s, hb, hn, hi, fun f => ?_⟩
  obtain ⟨o, ho, h⟩ := h f
  exact ⟨o, ho, wp_mono' (fun _ _ _ h => h R hX hR) _ _ _ _ (fun _ _ h => h) h⟩

theorem Body.i {fn : Func} {c : Code} {args : List AV} {r : AV} {t : List (Nat × AV)} {h : List (Nat × List AV)} {o : List (Nat × QV × List (List T))} {n : Nat} {o' : (Nat → Value) → List (Nat × QV × List (List T))} (hb : fn.body = some c) (hn : Nat.ble args.length fn.ntmps = true)
    (hi : initT ⟨[], [], [], fn.ntmps⟩ initKs args = some ⟨t, h, o, n⟩) (ht : ∀ f, telV f o = some (o' f)) (hw : ∀ f, W Φ E c ⟨t, h, o' f, n⟩ (retPost E.tab fn args f r)) : Body Φ E fn args r :=
  ⟨c, _, hb, Nat.le_of_ble_eq_true hn, hi, fun f => ⟨o' f, ht f, (hw f).h⟩⟩
theorem ret_m {fn : Func} {args : List AV} {f : Nat → Value} {r r' : AV} {s2 : St} (as : List Adj) (ha : adjL s as = some s') (h : resultsM1 E.tab fn.results.toList s' = some (r', s2)) (hr : r' = r) : retPost E.tab fn args f r .ret s := by rw [← hr]; exact AdjW.ofL ha (.inl ⟨s2, h⟩)
theorem ret_s {fn : Func} {args : List AV} {f : Nat → Value} {r r' : AV} (as : List Adj) (ha : adjL s as = some s') (h : resultsS E.tab fn.results.toList s' = some r') (hr : r' = r) : retPost E.tab fn args f r .ret s := by rw [← hr]; exact AdjW.ofL ha (.inr (.inl h))
/-- with what the arguments are at the end -/
theorem ret_o {fn : Func} {args : List AV} {f : Nat → Value} {r r0 : AV} {outs : List AV} {p : Prop} {s2 s3 : St} (fl : List Bool) (as : List Adj) (ha : adjL s as = some s') (h : resultsM E.tab fn.results.toList s' = some (r0, s2)) (ho : outsL f s2 initKs args fl = some (outs, p, s3)) (hp : p) (hr : AV.io (r0 :: outs) = r) : retPost E.tab fn args f r .ret s :=
  AdjW.ofL ha (.inr (.inr ⟨fl, r0, outs, p, s2, s3, h, ho, hp, hr⟩))
theorem retn_m {fn : Func} {args : List AV} {f : Nat → Value} {r r' : AV} {s2 : St} (as : List Adj) (ha : adjL s as = some s') (h : resultsM1 E.tab fn.results.toList s' = some (r', s2)) (hr : r' = r) : retPost E.tab fn args f r .normal s := by rw [← hr]; exact AdjW.ofL ha (.inl ⟨s2, h⟩)
theorem retn_s {fn : Func} {args : List AV} {f : Nat → Value} {r r' : AV} (as : List Adj) (ha : adjL s as = some s') (h : resultsS E.tab fn.results.toList s' = some r') (hr : r' = r) : retPost E.tab fn args f r .normal s := by rw [← hr]; exact AdjW.ofL ha (.inr (.inl h))
end
end Go.Ev

set_option linter.unusedVariables false
set_option linter.unusedSimpArgs false
namespace Go.Ev
open Go
theorem tabOk {P : Program} {tab : Tab} (h : ∀ p ∈ tab, tiOf P p.1 = some p.2) (hm : P.follows .mixedOrders = true) : TabOk P tab := by
  refine ⟨?_, hm⟩
  intro id ti hl
  induction tab with
  | nil => cases hl
  | cons p r ih =>
    obtain ⟨k, v⟩ := p
    rw [lk_cons] at hl
    split at hl
    · rename_i e; subst e; cases hl; exact h (k, _) (List.mem_cons_self ..)
    · exact ih (fun p hp => h p (List.mem_cons_of_mem _ hp)) hl
end Go.Ev
namespace Go.Proofs
open Go Go.Ev
set_option maxRecDepth 100000
def tab : Tab := [
  (0, ⟨TD.other, 1, 0, some [T.sc (Value.tuple { toList := [] })]⟩),
  (1, ⟨TD.other, 1, 8, some [T.sc Value.nilFunc]⟩),
  (2, ⟨TD.int IntKind.i64, 1, 8, some [T.sc (Value.int IntKind.i64 0)]⟩),
  (3, ⟨TD.int IntKind.i64, 1, 8, some [T.sc (Value.int IntKind.i64 0)]⟩),
  (4, ⟨TD.bool, 1, 1, some [T.sc (Value.bool false)]⟩),
  (5, ⟨TD.int IntKind.u8, 1, 1, some [T.sc (Value.int IntKind.u8 0)]⟩),
  (6, ⟨TD.int IntKind.u8, 1, 1, some [T.sc (Value.int IntKind.u8 0)]⟩),
  (7, ⟨TD.st [(0, 2), (1, 3), (2, 4), (3, 6)], 4, 24, some [T.sc (Value.int IntKind.i64 0), T.sc (Value.int IntKind.i64 0), T.sc (Value.bool false), T.sc (Value.int IntKind.u8 0)]⟩),
  (8, ⟨TD.st [(0, 2), (1, 3), (2, 4), (3, 6)], 4, 24, some [T.sc (Value.int IntKind.i64 0), T.sc (Value.int IntKind.i64 0), T.sc (Value.bool false), T.sc (Value.int IntKind.u8 0)]⟩),
  (9, ⟨TD.str, 1, 16, some [T.sc (Value.string { data := { toList := [] } })]⟩),
  (10, ⟨TD.str, 1, 16, some [T.sc (Value.string { data := { toList := [] } })]⟩),
  (11, ⟨TD.str, 1, 16, some [T.sc (Value.string { data := { toList := [] } })]⟩),
  (12, ⟨TD.int IntKind.u64, 1, 8, some [T.sc (Value.int IntKind.u64 0)]⟩),
  (13, ⟨TD.st [(0, 9), (1, 12)], 2, 24, some [T.sc (Value.string { data := { toList := [] } }), T.sc (Value.int IntKind.u64 0)]⟩),
  (14, ⟨TD.st [(0, 9), (1, 12)], 2, 24, some [T.sc (Value.string { data := { toList := [] } }), T.sc (Value.int IntKind.u64 0)]⟩),
  (15, ⟨TD.other, 1, 8, some [T.sc (Value.pointer none)]⟩),
  (16, ⟨TD.other, 1, 8, some [T.sc (Value.pointer none)]⟩),
  (17, ⟨TD.other, 1, 8, some [T.sc (Value.pointer none)]⟩),
  (18, ⟨TD.st [(0, 17)], 1, 8, some [T.sc (Value.pointer none)]⟩),
  (19, ⟨TD.st [(0, 17)], 1, 8, some [T.sc (Value.pointer none)]⟩),
  (20, ⟨TD.other, 1, 16, some [T.sc Value.nilIface]⟩),
  (21, ⟨TD.int IntKind.i32, 1, 4, some [T.sc (Value.int IntKind.i32 0)]⟩),
  (22, ⟨TD.sl 68, 1, 24, some [T.sc (Value.slice none 0 0)]⟩),
  (23, ⟨TD.st [(0, 3), (1, 3), (2, 3), (3, 22)], 4, 48, some [T.sc (Value.int IntKind.i64 0), T.sc (Value.int IntKind.i64 0), T.sc (Value.int IntKind.i64 0), T.sc (Value.slice none 0 0)]⟩),
  (24, ⟨TD.st [(0, 3), (1, 3), (2, 3), (3, 22)], 4, 48, some [T.sc (Value.int IntKind.i64 0), T.sc (Value.int IntKind.i64 0), T.sc (Value.int IntKind.i64 0), T.sc (Value.slice none 0 0)]⟩),
  (25, ⟨TD.other, 1, 8, some [T.sc Value.nilFunc]⟩),
  (26, ⟨TD.sl 4, 1, 24, some [T.sc (Value.slice none 0 0)]⟩),
  (27, ⟨TD.other, 1, 8, some [T.sc Value.nilFunc]⟩),
  (28, ⟨TD.sl 55, 1, 24, some [T.sc (Value.slice none 0 0)]⟩),
  (29, ⟨TD.st [(0, 3), (1, 3), (2, 3), (3, 28)], 4, 48, some [T.sc (Value.int IntKind.i64 0), T.sc (Value.int IntKind.i64 0), T.sc (Value.int IntKind.i64 0), T.sc (Value.slice none 0 0)]⟩),
  (30, ⟨TD.st [(0, 3), (1, 3), (2, 3), (3, 28)], 4, 48, some [T.sc (Value.int IntKind.i64 0), T.sc (Value.int IntKind.i64 0), T.sc (Value.int IntKind.i64 0), T.sc (Value.slice none 0 0)]⟩),
  (31, ⟨TD.other, 1, 8, some [T.sc Value.nilFunc]⟩),
  (32, ⟨TD.other, 1, 8, some [T.sc Value.nilFunc]⟩),
  (33, ⟨TD.other, 1, 8, some [T.sc Value.nilFunc]⟩),
  (34, ⟨TD.other, 1, 8, some [T.sc Value.nilFunc]⟩),
  (35, ⟨TD.other, 1, 8, some [T.sc Value.nilFunc]⟩),
  (36, ⟨TD.other, 1, 8, some [T.sc Value.nilFunc]⟩),
  (37, ⟨TD.sl 3, 1, 24, some [T.sc (Value.slice none 0 0)]⟩),
  (38, ⟨TD.other, 1, 8, some [T.sc Value.nilFunc]⟩),
  (39, ⟨TD.other, 1, 8, some [T.sc Value.nilFunc]⟩),
  (40, ⟨TD.other, 1, 8, some [T.sc Value.nilFunc]⟩),
  (41, ⟨TD.other, 1, 8, some [T.sc Value.nilFunc]⟩),
  (42, ⟨TD.other, 1, 8, some [T.sc Value.nilFunc]⟩),
  (43, ⟨TD.other, 1, 8, some [T.sc Value.nilFunc]⟩),
  (44, ⟨TD.other, 1, 8, some [T.sc Value.nilFunc]⟩),
  (45, ⟨TD.other, 1, 8, some [T.sc Value.nilFunc]⟩),
  (46, ⟨TD.other, 1, 8, some [T.sc Value.nilFunc]⟩),
  (47, ⟨TD.other, 1, 8, some [T.sc Value.nilFunc]⟩),
  (48, ⟨TD.other, 1, 8, some [T.sc Value.nilFunc]⟩),
  (49, ⟨TD.other, 1, 8, some [T.sc Value.nilFunc]⟩),
  (50, ⟨TD.other, 1, 8, some [T.sc Value.nilFunc]⟩),
  (51, ⟨TD.other, 1, 8, some [T.sc Value.nilFunc]⟩),
  (52, ⟨TD.other, 1, 8, some [T.sc Value.nilFunc]⟩),
  (53, ⟨TD.other, 1, 8, some [T.sc Value.nilFunc]⟩),
  (54, ⟨TD.st [(0, 3), (1, 3), (2, 3), (3, 3), (4, 3), (5, 37), (6, 3)], 7, 72, some [T.sc (Value.int IntKind.i64 0), T.sc (Value.int IntKind.i64 0), T.sc (Value.int IntKind.i64 0), T.sc (Value.int IntKind.i64 0), T.sc (Value.int IntKind.i64 0), T.sc (Value.slice none 0 0), T.sc (Value.int IntKind.i64 0)]⟩),
  (55, ⟨TD.st [(0, 3), (1, 3), (2, 3), (3, 3), (4, 3), (5, 37), (6, 3)], 7, 72, some [T.sc (Value.int IntKind.i64 0), T.sc (Value.int IntKind.i64 0), T.sc (Value.int IntKind.i64 0), T.sc (Value.int IntKind.i64 0), T.sc (Value.int IntKind.i64 0), T.sc (Value.slice none 0 0), T.sc (Value.int IntKind.i64 0)]⟩),
  (56, ⟨TD.other, 1, 8, some [T.sc Value.nilFunc]⟩),
  (57, ⟨TD.other, 1, 8, some [T.sc Value.nilFunc]⟩),
  (58, ⟨TD.sl 37, 1, 24, some [T.sc (Value.slice none 0 0)]⟩),
  (59, ⟨TD.other, 1, 8, some [T.sc Value.nilFunc]⟩),
  (60, ⟨TD.sl 26, 1, 24, some [T.sc (Value.slice none 0 0)]⟩),
  (61, ⟨TD.st [(0, 30), (4, 60), (5, 4)], 6, 80, some [T.sc (Value.int IntKind.i64 0), T.sc (Value.int IntKind.i64 0), T.sc (Value.int IntKind.i64 0), T.sc (Value.slice none 0 0), T.sc (Value.slice none 0 0), T.sc (Value.bool false)]⟩),
  (62, ⟨TD.st [(0, 30), (4, 60), (5, 4)], 6, 80, some [T.sc (Value.int IntKind.i64 0), T.sc (Value.int IntKind.i64 0), T.sc (Value.int IntKind.i64 0), T.sc (Value.slice none 0 0), T.sc (Value.slice none 0 0), T.sc (Value.bool false)]⟩),
  (63, ⟨TD.other, 1, 8, some [T.sc (Value.pointer none)]⟩),
  (64, ⟨TD.other, 1, 8, some [T.sc Value.nilFunc]⟩),
  (65, ⟨TD.other, 1, 8, some [T.sc Value.nilFunc]⟩),
  (66, ⟨TD.other, 1, 8, some [T.sc Value.nilFunc]⟩),
  (67, ⟨TD.other, 1, 8, some [T.sc Value.nilFunc]⟩),
  (68, ⟨TD.st [(0, 3), (1, 3), (2, 3), (3, 3), (4, 3), (5, 37), (6, 3)], 7, 72, some [T.sc (Value.int IntKind.i64 0), T.sc (Value.int IntKind.i64 0), T.sc (Value.int IntKind.i64 0), T.sc (Value.int IntKind.i64 0), T.sc (Value.int IntKind.i64 0), T.sc (Value.slice none 0 0), T.sc (Value.int IntKind.i64 0)]⟩),
  (69, ⟨TD.other, 1, 8, some [T.sc Value.nilFunc]⟩),
  (70, ⟨TD.other, 1, 8, some [T.sc Value.nilFunc]⟩),
  (71, ⟨TD.other, 1, 8, some [T.sc Value.nilFunc]⟩),
  (72, ⟨TD.other, 1, 8, some [T.sc Value.nilFunc]⟩),
  (73, ⟨TD.other, 1, 8, some [T.sc Value.nilFunc]⟩),
  (74, ⟨TD.other, 1, 8, some [T.sc Value.nilFunc]⟩),
  (75, ⟨TD.other, 1, 8, some [T.sc Value.nilFunc]⟩),
  (76, ⟨TD.ar 4 4, 4, 4, some [T.sc (Value.bool false), T.sc (Value.bool false), T.sc (Value.bool false), T.sc (Value.bool false)]⟩),
  (77, ⟨TD.other, 1, 8, some [T.sc Value.nilFunc]⟩),
  (78, ⟨TD.other, 1, 8, some [T.sc Value.nilFunc]⟩),
  (79, ⟨TD.other, 1, 8, some [T.sc Value.nilFunc]⟩),
  (80, ⟨TD.other, 1, 0, some [T.sc (Value.tuple { toList := [Value.string { data := { toList := [] } }, Value.bool false] })]⟩),
  (81, ⟨TD.other, 1, 8, some [T.sc Value.nilFunc]⟩),
  (82, ⟨TD.other, 1, 8, some [T.sc Value.nilFunc]⟩),
  (83, ⟨TD.sl 5, 1, 24, some [T.sc (Value.slice none 0 0)]⟩),
  (84, ⟨TD.other, 1, 8, some [T.sc Value.nilFunc]⟩),
  (85, ⟨TD.other, 1, 8, some [T.sc Value.nilFunc]⟩),
  (86, ⟨TD.other, 1, 8, some [T.sc Value.nilFunc]⟩),
  (87, ⟨TD.other, 1, 8, some [T.sc Value.nilFunc]⟩),
  (88, ⟨TD.other, 1, 8, some [T.sc Value.nilFunc]⟩),
  (89, ⟨TD.other, 1, 8, some [T.sc Value.nilFunc]⟩),
  (90, ⟨TD.other, 1, 8, some [T.sc Value.nilFunc]⟩),
  (91, ⟨TD.other, 1, 8, some [T.sc Value.nilFunc]⟩),
  (92, ⟨TD.int IntKind.u64, 1, 8, some [T.sc (Value.int IntKind.u64 0)]⟩),
  (93, ⟨TD.other, 1, 8, some [T.sc Value.nilFunc]⟩),
  (94, ⟨TD.other, 1, 8, some [T.sc Value.nilFunc]⟩),
  (95, ⟨TD.other, 1, 8, some [T.sc Value.nilFunc]⟩),
  (96, ⟨TD.other, 1, 8, some [T.sc Value.nilFunc]⟩),
  (97, ⟨TD.other, 1, 8, some [T.sc Value.nilFunc]⟩),
  (98, ⟨TD.other, 1, 8, some [T.sc Value.nilFunc]⟩),
  (99, ⟨TD.other, 1, 8, some [T.sc Value.nilFunc]⟩),
  (100, ⟨TD.other, 1, 8, some [T.sc Value.nilFunc]⟩),
  (101, ⟨TD.int IntKind.i64, 1, 8, some [T.sc (Value.int IntKind.i64 0)]⟩),
  (102, ⟨TD.other, 1, 0, some [T.sc (Value.tuple { toList := [Value.int IntKind.i64 0, Value.int IntKind.i64 0] })]⟩),
  (103, ⟨TD.other, 1, 8, some [T.sc Value.nilFunc]⟩),
  (104, ⟨TD.other, 1, 8, some [T.sc Value.nilFunc]⟩),
  (105, ⟨TD.other, 1, 8, some [T.sc Value.nilFunc]⟩),
  (106, ⟨TD.other, 1, 8, some [T.sc Value.nilFunc]⟩),
  (107, ⟨TD.other, 1, 0, some [T.sc (Value.tuple { toList := [Value.int IntKind.i64 0, Value.bool false] })]⟩),
  (108, ⟨TD.other, 1, 8, some [T.sc Value.nilFunc]⟩),
  (109, ⟨TD.other, 1, 8, some [T.sc Value.nilFunc]⟩),
  (110, ⟨TD.int IntKind.u32, 1, 4, some [T.sc (Value.int IntKind.u32 0)]⟩),
  (111, ⟨TD.other, 1, 8, some [T.sc Value.nilFunc]⟩),
  (112, ⟨TD.int IntKind.u64, 1, 8, some [T.sc (Value.int IntKind.u64 0)]⟩),
  (113, ⟨TD.int IntKind.u64, 1, 8, some [T.sc (Value.int IntKind.u64 0)]⟩),
  (114, ⟨TD.other, 1, 8, some [T.sc Value.nilFunc]⟩),
  (115, ⟨TD.other, 1, 8, some [T.sc Value.nilFunc]⟩),
  (116, ⟨TD.other, 1, 8, some [T.sc Value.nilFunc]⟩),
  (117, ⟨TD.other, 1, 8, some [T.sc (Value.pointer none)]⟩),
  (118, ⟨TD.other, 1, 8, some [T.sc Value.nilFunc]⟩),
  (119, ⟨TD.other, 1, 8, some [T.sc (Value.pointer none)]⟩),
  (120, ⟨TD.other, 1, 0, some [T.sc (Value.tuple { toList := [Value.int IntKind.i64 0, Value.int IntKind.i64 0] })]⟩),
  (121, ⟨TD.other, 1, 8, some [T.sc Value.nilFunc]⟩),
  (122, ⟨TD.other, 1, 8, some [T.sc Value.nilFunc]⟩),
  (123, ⟨TD.st [(0, 17), (1, 17), (2, 17), (3, 9)], 4, 40, some [T.sc (Value.pointer none), T.sc (Value.pointer none), T.sc (Value.pointer none), T.sc (Value.string { data := { toList := [] } })]⟩),
  (124, ⟨TD.st [(0, 17), (1, 17), (2, 17), (3, 9)], 4, 40, some [T.sc (Value.pointer none), T.sc (Value.pointer none), T.sc (Value.pointer none), T.sc (Value.string { data := { toList := [] } })]⟩),
  (125, ⟨TD.ar 0 16, 0, 0, some []⟩),
  (126, ⟨TD.st [(0, 125)], 0, 0, some []⟩),
  (127, ⟨TD.st [(0, 125)], 0, 0, some []⟩),
  (128, ⟨TD.other, 1, 8, some [T.sc Value.nilFunc]⟩),
  (129, ⟨TD.int IntKind.u8, 1, 1, some [T.sc (Value.int IntKind.u8 0)]⟩),
  (130, ⟨TD.int IntKind.u8, 1, 1, some [T.sc (Value.int IntKind.u8 0)]⟩),
  (131, ⟨TD.other, 1, 8, some [T.sc Value.nilFunc]⟩),
  (132, ⟨TD.other, 1, 8, some [T.sc (Value.pointer none)]⟩),
  (133, ⟨TD.int IntKind.i32, 1, 4, some [T.sc (Value.int IntKind.i32 0)]⟩),
  (134, ⟨TD.int IntKind.i32, 1, 4, some [T.sc (Value.int IntKind.i32 0)]⟩),
  (135, ⟨TD.st [(0, 12), (1, 12), (2, 110), (3, 129), (4, 5), (5, 5), (6, 130), (7, 131), (8, 132), (9, 133), (10, 134)], 11, 48, some [T.sc (Value.int IntKind.u64 0), T.sc (Value.int IntKind.u64 0), T.sc (Value.int IntKind.u32 0), T.sc (Value.int IntKind.u8 0), T.sc (Value.int IntKind.u8 0), T.sc (Value.int IntKind.u8 0), T.sc (Value.int IntKind.u8 0), T.sc Value.nilFunc, T.sc (Value.pointer none), T.sc (Value.int IntKind.i32 0), T.sc (Value.int IntKind.i32 0)]⟩),
  (136, ⟨TD.st [(0, 12), (1, 12), (2, 110), (3, 129), (4, 5), (5, 5), (6, 130), (7, 131), (8, 132), (9, 133), (10, 134)], 11, 48, some [T.sc (Value.int IntKind.u64 0), T.sc (Value.int IntKind.u64 0), T.sc (Value.int IntKind.u32 0), T.sc (Value.int IntKind.u8 0), T.sc (Value.int IntKind.u8 0), T.sc (Value.int IntKind.u8 0), T.sc (Value.int IntKind.u8 0), T.sc Value.nilFunc, T.sc (Value.pointer none), T.sc (Value.int IntKind.i32 0), T.sc (Value.int IntKind.i32 0)]⟩),
  (137, ⟨TD.other, 1, 8, some [T.sc (Value.pointer none)]⟩)]
theorem tab_ok : TabOk Try.prog tab := by
  refine tabOk ?_ rfl
  simp only [tab, List.forall_mem_cons]
  refine ⟨?_, ?_, ?_, ?_, ?_, ?_, ?_, ?_, ?_, ?_, ?_, ?_, ?_, ?_, ?_, ?_, ?_, ?_, ?_, ?_, ?_, ?_, ?_, ?_, ?_, ?_, ?_, ?_, ?_, ?_, ?_, ?_, ?_, ?_, ?_, ?_, ?_, ?_, ?_, ?_, ?_, ?_, ?_, ?_, ?_, ?_, ?_, ?_, ?_, ?_, ?_, ?_, ?_, ?_, ?_, ?_, ?_, ?_, ?_, ?_, ?_, ?_, ?_, ?_, ?_, ?_, ?_, ?_, ?_, ?_, ?_, ?_, ?_, ?_, ?_, ?_, ?_, ?_, ?_, ?_, ?_, ?_, ?_, ?_, ?_, ?_, ?_, ?_, ?_, ?_, ?_, ?_, ?_, ?_, ?_, ?_, ?_, ?_, ?_, ?_, ?_, ?_, ?_, ?_, ?_, ?_, ?_, ?_, ?_, ?_, ?_, ?_, ?_, ?_, ?_, ?_, ?_, ?_, ?_, ?_, ?_, ?_, ?_, ?_, ?_, ?_, ?_, ?_, ?_, ?_, ?_, ?_, ?_, ?_, ?_, ?_, ?_, ?_, fun _ h => by cases h⟩ <;> rfl
abbrev E0 : Env := ⟨tab, [(20, [true]), (36, [true]), (14, [true]), (69, [true]), (70, [true]), (44, [true]), (15, [true]), (98, [true]), (82, [true]), (100, [true]), (48, [true])]⟩
end Go.Proofs

set_option linter.unusedVariables false
set_option linter.unusedSimpArgs false
namespace Go.Proofs
open Go Go.Ev
set_option maxRecDepth 100000
abbrev iT (n : Int) : T := .sc (.int .i64 n)
abbrev iA (n : Int) : AV := .t (iT n)
abbrev bA (b : Bool) : AV := .t (.sc (.bool b))
abbrev iR (n : Int) : List T := [iT n]
structure Ins where
  op : Int
  d : Int
  x : Int
  y : Int
  n : Int
  l : List Int
  to_ : Int
  deriving DecidableEq
abbrev Ins.c (o : Bool) (i : Ins) : List T := [iT i.op, iT i.d, iT i.x, iT i.y, iT i.n, .sl o (i.l.map iR), iT i.to_]
abbrev Ins.a (o : Bool) (i : Ins) : AV := .ag [iA i.op, iA i.d, iA i.x, iA i.y, iA i.n, .t (.sl o (i.l.map iR)), iA i.to_]
variable {X : Rel3}
theorem w64 {n : Int} (h0 : -9223372036854775808 ≤ n) (h1 : n ≤ 9223372036854775807) : IntKind.i64.wrap n = n := by
  simp [IntKind.wrap, IntKind.bits, IntKind.signed]; omega
theorem w_succ {k n : Nat} (h : k < n) (hn : n ≤ 9223372036854775807) : IntKind.i64.wrap ((k : Int) + 1) = ((k + 1 : Nat) : Int) := by
  rw [w64] <;> omega

def mk : List Int → Int → List Int × Int
  | [], k => ([], k)
  | _ :: r, k => (k :: (mk r (IntKind.i64.wrap (k + 1))).1, (mk r (IntKind.i64.wrap (k + 1))).2)
theorem mk_snoc (l : List Int) (x k : Int) : mk (l ++ [x]) k = ((mk l k).1 ++ [(mk l k).2], IntKind.i64.wrap ((mk l k).2 + 1)) := by
  induction l generalizing k with
  | nil => rfl
  | cons y l ih => simp [mk, ih]
theorem mk_len (l : List Int) (k : Int) : (mk l k).1.length = l.length := by
  induction l generalizing k with
  | nil => rfl
  | cons y l ih => simp [mk, ih]
theorem markIntS_t (l : List Int) (k : Int) (hl : l.length ≤ 9223372036854775807) : Tells Try.prog E0 X 20 [.t (.sl true (l.map iR)), iA k] (.io [iA (mk l k).2, .t (.sl true ((mk l k).1.map iR)), .u]) := by
  refine Tells.by Try.func20 (by simp [Try.f20]) (Body.i rfl rfl rfl (fun _ => rfl) fun f => ?_)
  repeat' (first
    | refine wp_seq_i ?_ | refine wp_region_i ?_ | refine Run.done rfl ?_ | refine then_n ?_ | refine then_r ?_ | refine then_e ?_ | refine Run.go1 rfl ?_
    | refine wp_skip_i ?_ | refine wp_ret_i ?_ | refine wp_exit_i ?_ | refine wp_block_i ?_ | refine block_n ?_ | refine block_r ?_ | refine block_e ?_ | refine block_o rfl ?_
    | refine wp_cond_t rfl ?_ | refine wp_cond_f rfl ?_
    | (refine wp_cond_i rfl ?_ ?_ <;> intro _))
  refine wp_loop_k (α := Nat × Int × List Int) [.keep [0, 1, 4, 5] [100000]] (fun p => [(1, iA p.2.1), (5, iA p.1)]) (fun _ => []) (fun p => [(100000, ⟨0, some (f 100000)⟩, p.2.2.map iR)]) (fun p => p.1 ≤ l.length ∧ p.2.1 = (mk (l.take p.1) k).2 ∧ p.2.2 = (mk (l.take p.1) k).1 ++ l.drop p.1) (fun p => l.length - p.1) (0, k, l) rfl (fun _ => rfl) rfl ⟨by simp, by simp [mk], by simp [mk]⟩ ?_
  rintro ⟨j, c, m⟩ ⟨hj, hc, hm⟩
  simp only at hj hc hm
  have hml : m.length = l.length := by rw [hm]; simp [mk_len]; omega
  by_cases hlt : j < l.length
  · have ht : l.take (j + 1) = l.take j ++ [l[j]] := by simp
    have hx : (m.map iR)[j]? = some (iR (m[j]'(by omega))) := by simp [hml, hlt]
    repeat' (first
      | refine wp_seq_i ?_ | refine wp_region_i ?_ | refine Run.done rfl ?_ | refine then_n ?_ | refine then_r ?_ | refine then_e ?_ | refine Run.go1 rfl ?_
      | refine wp_skip_i ?_ | refine wp_ret_i ?_ | refine wp_exit_i ?_ | refine wp_block_i ?_ | refine block_n ?_ | refine block_r ?_ | refine block_e ?_ | refine block_o rfl ?_
      | refine wp_cond_t rfl ?_ | refine wp_cond_f rfl ?_ | refine Run.ix rfl rfl rfl rfl rfl rfl rfl hx rfl rfl rfl ?_ | refine Run.str rfl rfl rfl rfl rfl rfl hx rfl rfl ?_
      | (refine wp_cond_i rfl ?_ ?_ <;> intro _))
    · refine back_i [.keep [0, 1, 4, 5] [100000]] (j + 1, IntKind.i64.wrap (c + 1), m.set j c) rfl ?_ ⟨by simp; omega, ?_, ?_⟩ (by simp; omega)
      · simp only [List.map_set, w_succ hlt hl]
      · rw [ht, mk_snoc, hc]
      · rw [ht, mk_snoc, hm, List.drop_eq_getElem_cons hlt, hc]
        rw [List.set_append_right _ _ (by simp [mk_len]; omega)]
        simp only [mk_len, List.length_take, Nat.min_eq_left hj, Nat.sub_self, List.set_cons_zero, List.append_assoc, List.singleton_append]
    · rename_i h; simp [hml, hlt] at h
  · have hjl : j = l.length := by omega
    repeat' (first
      | refine wp_seq_i ?_ | refine wp_region_i ?_ | refine Run.done rfl ?_ | refine then_n ?_ | refine then_r ?_ | refine then_e ?_ | refine Run.go1 rfl ?_
      | refine wp_skip_i ?_ | refine wp_ret_i ?_ | refine wp_exit_i ?_ | refine wp_block_i ?_ | refine block_n ?_ | refine block_r ?_ | refine block_e ?_ | refine block_o rfl ?_
      | refine wp_cond_t rfl ?_ | refine wp_cond_f rfl ?_
      | (refine wp_cond_i rfl ?_ ?_ <;> intro _))
    · rename_i h; simp [hml, hjl] at h
    · refine ret_o [true] [] rfl rfl rfl ⟨rfl, trivial⟩ ?_
      subst hjl
      simp [hc, hm]
end Go.Proofs

set_option linter.unusedVariables false
set_option linter.unusedSimpArgs false
namespace Go.Proofs
open Go Go.Ev
set_option maxRecDepth 100000
variable {X : Rel3}
theorem set_hit {rows : List (List T)} {j : Nat} {r : List T} (h : j < rows.length) : (rows.set j r)[j]? = some r := by simp [h]
def nx (k : Int) : Int := IntKind.i64.wrap (k + 1)
def mkIns (i : Ins) (k : Int) : Ins × Int :=
  (⟨k, nx k, nx (nx k), nx (nx (nx k)), nx (nx (nx (nx k))), (mk i.l (nx (nx (nx (nx (nx k)))))).1, (mk i.l (nx (nx (nx (nx (nx k)))))).2⟩, nx (mk i.l (nx (nx (nx (nx (nx k)))))).2)
def mkInsS : List Ins → Int → List Ins × Int
  | [], k => ([], k)
  | i :: r, k => ((mkIns i k).1 :: (mkInsS r (mkIns i k).2).1, (mkInsS r (mkIns i k).2).2)
theorem mkInsS_snoc (l : List Ins) (x : Ins) (k : Int) : mkInsS (l ++ [x]) k = ((mkInsS l k).1 ++ [(mkIns x (mkInsS l k).2).1], (mkIns x (mkInsS l k).2).2) := by
  induction l generalizing k with
  | nil => rfl
  | cons y l ih => simp [mkInsS, ih]
theorem mkInsS_len (l : List Ins) (k : Int) : (mkInsS l k).1.length = l.length := by
  induction l generalizing k with
  | nil => rfl
  | cons y l ih => simp [mkInsS, ih]
theorem markInsS_t (l : List Ins) (k : Int) (hl : l.length ≤ 9223372036854775807) (hll : ∀ i ∈ l, i.l.length ≤ 9223372036854775807) : Tells Try.prog E0 X 36 [.t (.sl true (l.map (Ins.c true))), iA k] (.io [iA (mkInsS l k).2, .t (.sl true ((mkInsS l k).1.map (Ins.c true))), .u]) := by
  refine Tells.by Try.func36 (by simp [Try.f36]) (Body.i rfl rfl rfl (fun _ => rfl) fun f => ?_)
  repeat' (first
    | refine wp_seq_i ?_ | refine wp_region_i ?_ | refine Run.done rfl ?_ | refine then_n ?_ | refine then_r ?_ | refine then_e ?_ | refine Run.go1 rfl ?_
    | refine wp_skip_i ?_ | refine wp_ret_i ?_ | refine wp_exit_i ?_ | refine wp_block_i ?_ | refine block_n ?_ | refine block_r ?_ | refine block_e ?_ | refine block_o rfl ?_
    | refine wp_cond_t rfl ?_ | refine wp_cond_f rfl ?_
    | (refine wp_cond_i rfl ?_ ?_ <;> intro _))
  refine wp_loop_k (α := Nat × Int × List Ins) [.keep [0, 1, 4, 5] [100000]] (fun p => [(1, iA p.2.1), (5, iA p.1)]) (fun _ => []) (fun p => [(100000, ⟨0, some (f 100000)⟩, p.2.2.map (Ins.c true))]) (fun p => p.1 ≤ l.length ∧ p.2.1 = (mkInsS (l.take p.1) k).2 ∧ p.2.2 = (mkInsS (l.take p.1) k).1 ++ l.drop p.1) (fun p => l.length - p.1) (0, k, l) rfl (fun _ => rfl) rfl ⟨by simp, by simp [mkInsS], by simp [mkInsS]⟩ ?_
  rintro ⟨j, c, m⟩ ⟨hj, hc, hm⟩
  simp only at hj hc hm
  have hml : m.length = l.length := by rw [hm]; simp [mkInsS_len]; omega
  by_cases hlt : j < l.length
  · have hj' : j < m.length := by omega
    have hx : (m.map (Ins.c true))[j]? = some (Ins.c true m[j]) := by simp [hj']
    have ht : l.take (j + 1) = l.take j ++ [l[j]] := by simp
    have hmj : m[j] = l[j] := by subst hm; rw [List.getElem_append_right (by simp [mkInsS_len]; omega)]; simp [mkInsS_len, Nat.min_eq_left hj]
    have hlj : m[j].l.length ≤ 9223372036854775807 := by rw [hmj]; exact hll _ (List.getElem_mem _)
    repeat' (first
      | refine wp_seq_i ?_ | refine wp_region_i ?_ | refine Run.done rfl ?_ | refine then_n ?_ | refine then_r ?_ | refine then_e ?_ | refine Run.go1 rfl ?_
      | refine wp_skip_i ?_ | refine wp_ret_i ?_ | refine wp_exit_i ?_ | refine wp_block_i ?_ | refine block_n ?_ | refine block_r ?_ | refine block_e ?_ | refine block_o rfl ?_
      | refine wp_cond_t rfl ?_ | refine wp_cond_f rfl ?_
      | refine Run.ix rfl rfl rfl rfl rfl rfl rfl hx rfl rfl rfl ?_ | refine Run.str rfl rfl rfl rfl rfl rfl hx rfl rfl ?_ | refine Run.ix rfl rfl rfl rfl rfl rfl rfl (set_hit (by simp [hj'])) rfl rfl rfl ?_ | refine Run.str rfl rfl rfl rfl rfl rfl (set_hit (by simp [hj'])) rfl rfl ?_
      | refine Run.adjw (.hole 100000 j 5 900000 _ _ _ _ _ _ rfl (set_hit (by simp [hj'])) rfl (fun _ => rfl) fun u => .done _ (Run.ldr rfl rfl rfl (set_hit (by simp [hj'])) rfl rfl (Run.go1 rfl (Run.adjw (.tell 51 900000 _ _ _ _ _ rfl rfl rfl rfl (.done _ (Run.call rfl rfl rfl (markIntS_t _ _ hlj) rfl rfl (Run.adjw (.fill 100000 j 5 900000 _ _ _ _ _ _ _ rfl (set_hit (by simp [hj'])) rfl rfl rfl (.done _ ?_))))))))))
      | (refine wp_cond_i rfl ?_ ?_ <;> intro _))
    · refine back_i [.keep [0, 1, 4, 5] [100000]] (j + 1, (mkIns m[j] c).2, m.set j (mkIns m[j] c).1) rfl ?_ ⟨by simp; omega, ?_, ?_⟩ (by simp; omega)
      · simp only [List.map_set, List.set_set, w_succ hlt hl, mkIns, nx]
      · rw [ht, mkInsS_snoc, hmj, hc]
      · rw [ht, mkInsS_snoc, hmj, ← hc]
        conv => lhs; rw [hm]
        rw [List.drop_eq_getElem_cons hlt, List.set_append_right _ _ (by simp [mkInsS_len]; omega)]
        simp only [mkInsS_len, List.length_take, Nat.min_eq_left hj, Nat.sub_self, List.set_cons_zero, List.append_assoc, List.singleton_append]
    · rename_i h; simp [hml, hlt] at h
  · have hjl : j = l.length := by omega
    repeat' (first
      | refine wp_seq_i ?_ | refine wp_region_i ?_ | refine Run.done rfl ?_ | refine then_n ?_ | refine then_r ?_ | refine then_e ?_ | refine Run.go1 rfl ?_
      | refine wp_skip_i ?_ | refine wp_ret_i ?_ | refine wp_exit_i ?_ | refine wp_block_i ?_ | refine block_n ?_ | refine block_r ?_ | refine block_e ?_ | refine block_o rfl ?_
      | refine wp_cond_t rfl ?_ | refine wp_cond_f rfl ?_
      | (refine wp_cond_i rfl ?_ ?_ <;> intro _))
    · rename_i h; simp [hml, hjl] at h
    · refine ret_o [true] [] rfl rfl rfl ⟨rfl, trivial⟩ ?_
      subst hjl
      simp [hc, hm]
end Go.Proofs

set_option linter.unusedVariables false
set_option linter.unusedSimpArgs false
namespace Go.Proofs
open Go Go.Ev
set_option maxRecDepth 100000
variable {X : Rel3}
abbrev uR (n : Int) : List T := [.sc (.int .u8 n)]
def mkB : List Int → Int → List Int × Int
  | [], k => ([], k)
  | _ :: r, k => (IntKind.u8.wrap k :: (mkB r (nx k)).1, (mkB r (nx k)).2)
theorem mkB_snoc (l : List Int) (x k : Int) : mkB (l ++ [x]) k = ((mkB l k).1 ++ [IntKind.u8.wrap (mkB l k).2], nx (mkB l k).2) := by
  induction l generalizing k with
  | nil => rfl
  | cons y l ih => simp [mkB, ih]
theorem mkB_len (l : List Int) (k : Int) : (mkB l k).1.length = l.length := by
  induction l generalizing k with
  | nil => rfl
  | cons y l ih => simp [mkB, ih]
/-- what is marked is held -/
def heB : List Int → Int → Int
  | [], k => k
  | x :: r, k => if x = IntKind.u8.wrap k then heB r (nx k) else -1
structure Piece where
  lam : Int
  in_ : Int
  regs : Int
  ins : List Ins
  deriving DecidableEq
abbrev Piece.c (o : Bool) (p : Piece) : List T := [iT p.lam, iT p.in_, iT p.regs, .sl o (p.ins.map (Ins.c o))]
abbrev Piece.a (o : Bool) (p : Piece) : AV := .ag [iA p.lam, iA p.in_, iA p.regs, .t (.sl o (p.ins.map (Ins.c o)))]
theorem markPiece_t (p : Piece) (k : Int) (hl : p.ins.length ≤ 9223372036854775807) (hll : ∀ i ∈ p.ins, i.l.length ≤ 9223372036854775807) : Tells Try.prog E0 X 14 [p.a true, iA k] (.io [iA (mkInsS p.ins k).2, ({ p with ins := (mkInsS p.ins k).1 } : Piece).a true, .u]) := by
  refine Tells.by Try.func14 (by simp [Try.f14]) (Body.i rfl rfl rfl (fun _ => rfl) fun f => ?_)
  repeat' (first
     | refine wp_seq_i ?_ | refine wp_region_i ?_ | refine Run.done rfl ?_ | refine then_n ?_ | refine then_r ?_ | refine then_e ?_ | refine Run.go1 rfl ?_ | refine wp_skip_i ?_ | refine wp_ret_i ?_ | refine wp_exit_i ?_
     | refine wp_block_i ?_ | refine block_n ?_ | refine block_r ?_ | refine block_e ?_ | refine block_o rfl ?_ | refine wp_cond_t rfl ?_ | refine wp_cond_f rfl ?_ | refine Run.call rfl rfl rfl (markInsS_t _ _ hl hll) rfl rfl ?_
     | (refine wp_cond_i rfl ?_ ?_ <;> intro _))
  all_goals (refine ret_o [true] [] rfl rfl rfl ⟨?_, ?_⟩ rfl <;> simp)
end Go.Proofs

set_option linter.unusedVariables false
set_option linter.unusedSimpArgs false
namespace Go.Proofs
open Go Go.Ev
set_option maxRecDepth 100000
variable {X : Rel3}
theorem eqIntS_t (a b : List Int) (hl : a.length ≤ 1048576) : Tells Try.prog E0 X 19 [.t (.sl false (a.map (iR))), .t (.sl false (b.map (iR)))] (bA (decide (a = b))) := by
  refine Tells.by Try.func19 (by simp [Try.f19]) (Body.i rfl rfl rfl (fun _ => rfl) fun f => ?_)
  repeat' (first
     | refine wp_seq_i ?_ | refine wp_region_i ?_ | refine Run.done rfl ?_ | refine then_n ?_ | refine then_r ?_ | refine then_e ?_ | refine Run.go1 rfl ?_ | refine wp_skip_i ?_ | refine wp_ret_i ?_ | refine wp_exit_i ?_
     | refine wp_block_i ?_ | refine block_n ?_ | refine block_r ?_ | refine block_e ?_ | refine block_o rfl ?_ | refine wp_cond_t rfl ?_ | refine wp_cond_f rfl ?_ | (refine wp_cond_k rfl rfl rfl ?_ ?_ <;> intro _)
     | (refine wp_cond_i rfl ?_ ?_ <;> intro _))
  · rename_i h
    refine ret_m [] rfl rfl ?_
    simp at h
    simp; intro e; exact h (by rw [e])
  rename_i h
  have hab : a.length = b.length := by
    have : (a.length : Int) = b.length := by simpa using h
    omega
  refine wp_loop_k (α := Nat) [.keep [0, 1, 4, 5] []] (fun p => [(5, iA p)]) (fun _ => []) (fun _ => []) (fun p => p ≤ a.length ∧ a.take p = b.take p) (fun p => a.length - p) 0 rfl (fun _ => rfl) rfl ⟨by simp, by simp⟩ ?_
  rintro j ⟨hj, he⟩
  by_cases hlt : j < a.length
  · have hx : (a.map (iR))[j]? = some ((iR) a[j]) := by simp [hlt]
    have hy : (b.map (iR))[j]? = some ((iR) (b[j]'(by omega))) := by simp [← hab, hlt]
    have ta : a.take (j + 1) = a.take j ++ [a[j]] := by simp
    have tb : b.take (j + 1) = b.take j ++ [b[j]'(by omega)] := by simp
    repeat' (first
       | refine wp_seq_i ?_ | refine wp_region_i ?_ | refine Run.done rfl ?_ | refine then_n ?_ | refine then_r ?_ | refine then_e ?_ | refine Run.go1 rfl ?_ | refine wp_skip_i ?_ | refine wp_ret_i ?_ | refine wp_exit_i ?_
       | refine wp_block_i ?_ | refine block_n ?_ | refine block_r ?_ | refine block_e ?_ | refine block_o rfl ?_ | refine wp_cond_t rfl ?_ | refine wp_cond_f rfl ?_ | refine wp_region_q 9 rfl rfl rfl ?_ | refine RunQ.go1 rfl ?_
       | refine RunQ.done rfl ?_ | refine RunQ.ix rfl rfl rfl rfl rfl rfl rfl hx rfl rfl rfl ?_ | refine RunQ.ix rfl rfl rfl rfl rfl rfl rfl hy rfl rfl rfl ?_ | refine Run.ix rfl rfl rfl rfl rfl rfl rfl hx rfl rfl rfl ?_
       | refine Run.ix rfl rfl rfl rfl rfl rfl rfl hy rfl rfl rfl ?_ | (refine wp_cond_k rfl rfl rfl ?_ ?_ <;> intro _) | (refine wp_cond_i rfl ?_ ?_ <;> intro _))
    · rename_i h2
      refine ret_m [] rfl rfl ?_
      simp at h2
      simp; intro e; subst e; exact h2 rfl
    · rename_i h2
      simp at h2
      refine back_i [.keep [0, 1, 4, 5] []] (j + 1) rfl ?_ ⟨by omega, ?_⟩ (by omega)
      · simp only [w_succ hlt (show a.length ≤ 9223372036854775807 by omega)]
      · rw [ta, tb, he, h2]
    · rename_i h2; simp [hlt] at h2
  · have hjl : j = a.length := by omega
    repeat' (first
       | refine wp_seq_i ?_ | refine wp_region_i ?_ | refine Run.done rfl ?_ | refine then_n ?_ | refine then_r ?_ | refine then_e ?_ | refine Run.go1 rfl ?_ | refine wp_skip_i ?_ | refine wp_ret_i ?_ | refine wp_exit_i ?_
       | refine wp_block_i ?_ | refine block_n ?_ | refine block_r ?_ | refine block_e ?_ | refine block_o rfl ?_ | refine wp_cond_t rfl ?_ | refine wp_cond_f rfl ?_ | (refine wp_cond_k rfl rfl rfl ?_ ?_ <;> intro _)
       | (refine wp_cond_i rfl ?_ ?_ <;> intro _))
    · rename_i h2; simp [hjl] at h2
    · refine ret_m [] rfl rfl ?_
      rw [hjl] at he
      have : a = b := by rw [List.take_length, hab, List.take_length] at he; exact he
      simp [this]

theorem eqIns_t (a b : Ins) (hl : a.l.length ≤ 1048576) : Tells Try.prog E0 X 71 [a.a false, b.a false] (bA (decide (a = b))) := by
  refine Tells.by Try.func71 (by simp [Try.f71]) (Body.i rfl rfl rfl (fun _ => rfl) fun f => ?_)
  repeat' (first
     | refine wp_seq_i ?_ | refine wp_region_i ?_ | refine Run.done rfl ?_ | refine then_n ?_ | refine then_r ?_ | refine then_e ?_ | refine Run.go1 rfl ?_ | refine wp_skip_i ?_ | refine wp_ret_i ?_ | refine wp_exit_i ?_
     | refine wp_block_i ?_ | refine block_n ?_ | refine block_r ?_ | refine block_e ?_ | refine block_o rfl ?_ | refine wp_cond_t rfl ?_ | refine wp_cond_f rfl ?_ | refine Run.call rfl rfl rfl (eqIntS_t _ _ hl) rfl rfl ?_
     | refine wp_region_q 5 rfl rfl rfl ?_ | refine RunQ.go1 rfl ?_ | refine RunQ.done rfl ?_ | (refine Run.splitG rfl rfl rfl rfl rfl rfl ?_ ?_ <;> intro _) | (refine Run.splitP rfl rfl rfl rfl ?_ ?_ <;> intro _)
     | (refine wp_cond_k rfl rfl rfl ?_ ?_ <;> intro _) | (refine wp_cond_i rfl ?_ ?_ <;> intro _))
  all_goals (refine ret_m [] rfl rfl ?_; obtain ⟨a1, a2, a3, a4, a5, a6, a7⟩ := a; obtain ⟨b1, b2, b3, b4, b5, b6, b7⟩ := b; simp_all)
theorem eqInsS_t (a b : List Ins) (hl : a.length ≤ 1048576) (hll : ∀ i ∈ a, i.l.length ≤ 1048576) : Tells Try.prog E0 X 35 [.t (.sl false (a.map (Ins.c false))), .t (.sl false (b.map (Ins.c false)))] (bA (decide (a = b))) := by
  refine Tells.by Try.func35 (by simp [Try.f35]) (Body.i rfl rfl rfl (fun _ => rfl) fun f => ?_)
  repeat' (first
     | refine wp_seq_i ?_ | refine wp_region_i ?_ | refine Run.done rfl ?_ | refine then_n ?_ | refine then_r ?_ | refine then_e ?_ | refine Run.go1 rfl ?_ | refine wp_skip_i ?_ | refine wp_ret_i ?_ | refine wp_exit_i ?_
     | refine wp_block_i ?_ | refine block_n ?_ | refine block_r ?_ | refine block_e ?_ | refine block_o rfl ?_ | refine wp_cond_t rfl ?_ | refine wp_cond_f rfl ?_ | (refine wp_cond_k rfl rfl rfl ?_ ?_ <;> intro _)
     | (refine wp_cond_i rfl ?_ ?_ <;> intro _))
  · rename_i h
    refine ret_m [] rfl rfl ?_
    simp at h
    simp; intro e; exact h (by rw [e])
  rename_i h
  have hab : a.length = b.length := by
    have : (a.length : Int) = b.length := by simpa using h
    omega
  refine wp_loop_k (α := Nat) [.keep [0, 1, 4, 5] []] (fun p => [(5, iA p)]) (fun _ => []) (fun _ => []) (fun p => p ≤ a.length ∧ a.take p = b.take p) (fun p => a.length - p) 0 rfl (fun _ => rfl) rfl ⟨by simp, by simp⟩ ?_
  rintro j ⟨hj, he⟩
  by_cases hlt : j < a.length
  · have hx : (a.map (Ins.c false))[j]? = some ((Ins.c false) a[j]) := by simp [hlt]
    have hy : (b.map (Ins.c false))[j]? = some ((Ins.c false) (b[j]'(by omega))) := by simp [← hab, hlt]
    have ta : a.take (j + 1) = a.take j ++ [a[j]] := by simp
    have tb : b.take (j + 1) = b.take j ++ [b[j]'(by omega)] := by simp
    repeat' (first
       | refine wp_seq_i ?_ | refine wp_region_i ?_ | refine Run.done rfl ?_ | refine then_n ?_ | refine then_r ?_ | refine then_e ?_ | refine Run.go1 rfl ?_ | refine wp_skip_i ?_ | refine wp_ret_i ?_ | refine wp_exit_i ?_
       | refine wp_block_i ?_ | refine block_n ?_ | refine block_r ?_ | refine block_e ?_ | refine block_o rfl ?_ | refine wp_cond_t rfl ?_ | refine wp_cond_f rfl ?_ | refine wp_region_q 10 rfl rfl rfl ?_ | refine RunQ.go1 rfl ?_
       | refine RunQ.done rfl ?_ | refine RunQ.ix rfl rfl rfl rfl rfl rfl rfl hx rfl rfl rfl ?_ | refine RunQ.ix rfl rfl rfl rfl rfl rfl rfl hy rfl rfl rfl ?_ | refine Run.ix rfl rfl rfl rfl rfl rfl rfl hx rfl rfl rfl ?_
       | refine Run.ix rfl rfl rfl rfl rfl rfl rfl hy rfl rfl rfl ?_ | refine Run.call rfl rfl rfl (eqIns_t _ _ (hll _ (List.getElem_mem hlt))) rfl rfl ?_
       | refine RunQ.call rfl rfl rfl rfl rfl rfl (eqIns_t _ _ (hll _ (List.getElem_mem hlt))) (.inl rfl) rfl rfl ?_ | (refine wp_cond_k rfl rfl rfl ?_ ?_ <;> intro _) | (refine wp_cond_i rfl ?_ ?_ <;> intro _))
    · rename_i h2
      refine ret_m [] rfl rfl ?_
      simp at h2
      simp; intro e; subst e; exact h2 rfl
    · rename_i h2
      simp at h2
      refine back_i [.keep [0, 1, 4, 5] []] (j + 1) rfl ?_ ⟨by omega, ?_⟩ (by omega)
      · simp only [w_succ hlt (show a.length ≤ 9223372036854775807 by omega)]
      · rw [ta, tb, he, h2]
    · rename_i h2; simp [hlt] at h2
  · have hjl : j = a.length := by omega
    repeat' (first
       | refine wp_seq_i ?_ | refine wp_region_i ?_ | refine Run.done rfl ?_ | refine then_n ?_ | refine then_r ?_ | refine then_e ?_ | refine Run.go1 rfl ?_ | refine wp_skip_i ?_ | refine wp_ret_i ?_ | refine wp_exit_i ?_
       | refine wp_block_i ?_ | refine block_n ?_ | refine block_r ?_ | refine block_e ?_ | refine block_o rfl ?_ | refine wp_cond_t rfl ?_ | refine wp_cond_f rfl ?_ | (refine wp_cond_k rfl rfl rfl ?_ ?_ <;> intro _)
       | (refine wp_cond_i rfl ?_ ?_ <;> intro _))
    · rename_i h2; simp [hjl] at h2
    · refine ret_m [] rfl rfl ?_
      rw [hjl] at he
      have : a = b := by rw [List.take_length, hab, List.take_length] at he; exact he
      simp [this]
end Go.Proofs

set_option linter.unusedVariables false
set_option linter.unusedSimpArgs false
namespace Go.Proofs
open Go Go.Ev
set_option maxRecDepth 100000
variable {X : Rel3}
theorem fill_step {α : Type} (l : List α) (z : α) {j : Nat} (h : j < l.length) : (l.take j ++ List.replicate (l.length - j) z).set j l[j] = l.take (j + 1) ++ List.replicate (l.length - (j + 1)) z := by
  have e : l.length - j = (l.length - (j + 1)) + 1 := by omega
  rw [e, List.replicate_succ, List.set_append_right _ _ (by simp; omega)]
  simp only [List.length_take, Nat.min_eq_left (Nat.le_of_lt h), Nat.sub_self, List.set_cons_zero]
  rw [show l.take (j + 1) = l.take j ++ [l[j]] by simp, List.append_assoc]
  rfl
theorem toIntS_t (l : List Int) (hl : l.length ≤ 1048576) : Tells Try.prog E0 X 87 [.t (.sl false (l.map iR))] (.t (.sl true (l.map iR))) := by
  refine Tells.by Try.func87 (by simp [Try.f87]) (Body.i rfl rfl rfl (fun _ => rfl) fun f => ?_)
  repeat' (first
     | refine wp_seq_i ?_ | refine wp_region_i ?_ | refine Run.done rfl ?_ | refine then_n ?_ | refine then_r ?_ | refine then_e ?_ | refine Run.go1 rfl ?_ | refine wp_skip_i ?_ | refine wp_ret_i ?_ | refine wp_exit_i ?_
     | refine wp_block_i ?_ | refine block_n ?_ | refine block_r ?_ | refine block_e ?_ | refine block_o rfl ?_ | refine wp_cond_t rfl ?_ | refine wp_cond_f rfl ?_
     | refine Run.cnd2 rfl rfl rfl ⟨by simp, rfl, by simp; omega, by simp; omega⟩ ?_ | (refine wp_cond_i rfl ?_ ?_ <;> intro _))
  refine wp_loop_k (α := Nat × List Int) [.keep [0, 2, 3, 4] [7]] (fun p => [(4, iA p.1)]) (fun _ => []) (fun p => [(7, 0, p.2.map iR)]) (fun p => p.1 ≤ l.length ∧ p.2 = l.take p.1 ++ List.replicate (l.length - p.1) 0) (fun p => l.length - p.1) (0, List.replicate l.length 0) rfl (fun _ => rfl) (by simp) ⟨by simp, by simp⟩ ?_
  rintro ⟨j, m⟩ ⟨hj, hm⟩
  simp only at hj hm
  have hml : m.length = l.length := by rw [hm]; simp; omega
  by_cases hlt : j < l.length
  · have hx : (l.map iR)[j]? = some (iR l[j]) := by simp [hlt]
    have hy : (m.map iR)[j]? = some (iR (m[j]'(by omega))) := by simp [hml, hlt]
    repeat' (first
       | refine wp_seq_i ?_ | refine wp_region_i ?_ | refine Run.done rfl ?_ | refine then_n ?_ | refine then_r ?_ | refine then_e ?_ | refine Run.go1 rfl ?_ | refine wp_skip_i ?_ | refine wp_ret_i ?_ | refine wp_exit_i ?_
       | refine wp_block_i ?_ | refine block_n ?_ | refine block_r ?_ | refine block_e ?_ | refine block_o rfl ?_ | refine wp_cond_t rfl ?_ | refine wp_cond_f rfl ?_ | refine Run.ix rfl rfl rfl rfl rfl rfl rfl hx rfl rfl rfl ?_
       | refine Run.ix rfl rfl rfl rfl rfl rfl rfl hy rfl rfl rfl ?_ | refine Run.str rfl rfl rfl rfl rfl rfl hy rfl rfl ?_ | (refine wp_cond_i rfl ?_ ?_ <;> intro _))
    · refine back_i [.keep [0, 2, 3, 4] [7]] (j + 1, m.set j l[j]) rfl ?_ ⟨by simp; omega, ?_⟩ (by simp; omega)
      · simp only [List.map_set, w_succ hlt (by omega)]
      · simp only; rw [hm, fill_step l 0 hlt]
    · rename_i h; simp [hlt] at h
  · have hjl : j = l.length := by omega
    repeat' (first
       | refine wp_seq_i ?_ | refine wp_region_i ?_ | refine Run.done rfl ?_ | refine then_n ?_ | refine then_r ?_ | refine then_e ?_ | refine Run.go1 rfl ?_ | refine wp_skip_i ?_ | refine wp_ret_i ?_ | refine wp_exit_i ?_
       | refine wp_block_i ?_ | refine block_n ?_ | refine block_r ?_ | refine block_e ?_ | refine block_o rfl ?_ | refine wp_cond_t rfl ?_ | refine wp_cond_f rfl ?_ | (refine wp_cond_i rfl ?_ ?_ <;> intro _))
    · rename_i h; simp [hjl] at h
    · refine ret_m [] rfl rfl ?_
      subst hjl; simp [hm]
theorem toIns_t (i : Ins) (hl : i.l.length ≤ 1048576) : Tells Try.prog E0 X 61 [i.a false] (i.a true) := by
  refine Tells.by Try.func61 (by simp [Try.f61]) (Body.i rfl rfl rfl (fun _ => rfl) fun f => ?_)
  repeat' (first
     | refine wp_seq_i ?_ | refine wp_region_i ?_ | refine Run.done rfl ?_ | refine then_n ?_ | refine then_r ?_ | refine then_e ?_ | refine Run.go1 rfl ?_ | refine wp_skip_i ?_ | refine wp_ret_i ?_ | refine wp_exit_i ?_
     | refine wp_block_i ?_ | refine block_n ?_ | refine block_r ?_ | refine block_e ?_ | refine block_o rfl ?_ | refine wp_cond_t rfl ?_ | refine wp_cond_f rfl ?_ | refine Run.call rfl rfl rfl (toIntS_t _ hl) rfl rfl ?_
     | (refine wp_cond_i rfl ?_ ?_ <;> intro _))
  all_goals (refine ret_m [] rfl rfl ?_; simp)
def Ins.z : Ins := ⟨0, 0, 0, 0, 0, [], 0⟩
theorem toInsS_t (l : List Ins) (hl : l.length ≤ 1048576) (hll : ∀ i ∈ l, i.l.length ≤ 1048576) : Tells Try.prog E0 X 32 [.t (.sl false (l.map (Ins.c false)))] (.t (.sl true (l.map (Ins.c true)))) := by
  refine Tells.by Try.func32 (by simp [Try.f32]) (Body.i rfl rfl rfl (fun _ => rfl) fun f => ?_)
  repeat' (first
     | refine wp_seq_i ?_ | refine wp_region_i ?_ | refine Run.done rfl ?_ | refine then_n ?_ | refine then_r ?_ | refine then_e ?_ | refine Run.go1 rfl ?_ | refine wp_skip_i ?_ | refine wp_ret_i ?_ | refine wp_exit_i ?_
     | refine wp_block_i ?_ | refine block_n ?_ | refine block_r ?_ | refine block_e ?_ | refine block_o rfl ?_ | refine wp_cond_t rfl ?_ | refine wp_cond_f rfl ?_
     | refine Run.cnd2 rfl rfl rfl ⟨by simp, rfl, by simp; omega, by simp; omega⟩ ?_ | (refine wp_cond_i rfl ?_ ?_ <;> intro _))
  refine wp_loop_k (α := Nat × List Ins) [.keep [0, 2, 3, 4] [7]] (fun p => [(4, iA p.1)]) (fun _ => []) (fun p => [(7, 0, p.2.map (Ins.c true))]) (fun p => p.1 ≤ l.length ∧ p.2 = l.take p.1 ++ List.replicate (l.length - p.1) Ins.z) (fun p => l.length - p.1) (0, List.replicate l.length Ins.z) rfl (fun _ => rfl) (by simp [Ins.z, Ins.c]) ⟨by simp, by simp⟩ ?_
  rintro ⟨j, m⟩ ⟨hj, hm⟩
  simp only at hj hm
  have hml : m.length = l.length := by rw [hm]; simp; omega
  by_cases hlt : j < l.length
  · have hx : (l.map (Ins.c false))[j]? = some (Ins.c false l[j]) := by simp [hlt]
    have hy : (m.map (Ins.c true))[j]? = some (Ins.c true (m[j]'(by omega))) := by simp [hml, hlt]
    repeat' (first
       | refine wp_seq_i ?_ | refine wp_region_i ?_ | refine Run.done rfl ?_ | refine then_n ?_ | refine then_r ?_ | refine then_e ?_ | refine Run.go1 rfl ?_ | refine wp_skip_i ?_ | refine wp_ret_i ?_ | refine wp_exit_i ?_
       | refine wp_block_i ?_ | refine block_n ?_ | refine block_r ?_ | refine block_e ?_ | refine block_o rfl ?_ | refine wp_cond_t rfl ?_ | refine wp_cond_f rfl ?_ | refine Run.ix rfl rfl rfl rfl rfl rfl rfl hx rfl rfl rfl ?_
       | refine Run.ix rfl rfl rfl rfl rfl rfl rfl hy rfl rfl rfl ?_ | refine Run.str rfl rfl rfl rfl rfl rfl hy rfl rfl ?_ | refine Run.call rfl rfl rfl (toIns_t _ (hll _ (List.getElem_mem hlt))) rfl rfl ?_
       | (refine wp_cond_i rfl ?_ ?_ <;> intro _))
    · refine back_i [.keep [0, 2, 3, 4] [7]] (j + 1, m.set j l[j]) rfl ?_ ⟨by simp; omega, ?_⟩ (by simp; omega)
      · simp only [List.map_set, w_succ hlt (by omega)]
      · simp only; rw [hm, fill_step l Ins.z hlt]
    · rename_i h; simp [hlt] at h
  · have hjl : j = l.length := by omega
    repeat' (first
       | refine wp_seq_i ?_ | refine wp_region_i ?_ | refine Run.done rfl ?_ | refine then_n ?_ | refine then_r ?_ | refine then_e ?_ | refine Run.go1 rfl ?_ | refine wp_skip_i ?_ | refine wp_ret_i ?_ | refine wp_exit_i ?_
       | refine wp_block_i ?_ | refine block_n ?_ | refine block_r ?_ | refine block_e ?_ | refine block_o rfl ?_ | refine wp_cond_t rfl ?_ | refine wp_cond_f rfl ?_ | (refine wp_cond_i rfl ?_ ?_ <;> intro _))
    · rename_i h; simp [hjl] at h
    · refine ret_m [] rfl rfl ?_
      subst hjl; simp [hm]
end Go.Proofs

set_option linter.unusedVariables false
set_option linter.unusedSimpArgs false
namespace Go.Proofs
open Go Go.Ev
set_option maxRecDepth 100000
variable {X : Rel3}
structure Code where
  funs : List Piece
  main : Piece
  deriving DecidableEq
abbrev Code.a (o : Bool) (c : Code) : AV := .ag [.t (.sl o (c.funs.map (Piece.c o))), iA c.main.lam, iA c.main.in_, iA c.main.regs, .t (.sl o (c.main.ins.map (Ins.c o)))]
def Piece.ok (p : Piece) : Prop := p.ins.length ≤ 1048576 ∧ ∀ i ∈ p.ins, i.l.length ≤ 1048576
def Code.ok (c : Code) : Prop := c.funs.length ≤ 1048576 ∧ (∀ p ∈ c.funs, p.ok) ∧ c.main.ok
theorem toPiece_t (p : Piece) (hp : p.ok) : Tells Try.prog E0 X 10 [p.a false] (p.a true) := by
  refine Tells.by Try.func10 (by simp [Try.f10]) (Body.i rfl rfl rfl (fun _ => rfl) fun f => ?_)
  repeat' (first
     | refine wp_seq_i ?_ | refine wp_region_i ?_ | refine Run.done rfl ?_ | refine then_n ?_ | refine then_r ?_ | refine then_e ?_ | refine Run.go1 rfl ?_ | refine wp_skip_i ?_ | refine wp_ret_i ?_ | refine wp_exit_i ?_
     | refine wp_block_i ?_ | refine block_n ?_ | refine block_r ?_ | refine block_e ?_ | refine block_o rfl ?_ | refine wp_cond_t rfl ?_ | refine wp_cond_f rfl ?_ | refine Run.call rfl rfl rfl (toInsS_t _ hp.1 hp.2) rfl rfl ?_
     | (refine wp_cond_k rfl rfl rfl ?_ ?_ <;> intro _) | (refine wp_cond_i rfl ?_ ?_ <;> intro _))
  all_goals (refine ret_m [] rfl rfl ?_; simp)
def Piece.z : Piece := ⟨0, 0, 0, []⟩
end Go.Proofs

set_option linter.unusedVariables false
set_option linter.unusedSimpArgs false
namespace Go.Proofs
open Go Go.Ev
set_option maxRecDepth 100000
variable {X : Rel3}
theorem eqPiece_t (a b : Piece) (ha : a.ok) : Tells Try.prog E0 X 13 [a.a false, b.a false] (bA (decide (a = b))) := by
  refine Tells.by Try.func13 (by simp [Try.f13]) (Body.i rfl rfl rfl (fun _ => rfl) fun f => ?_)
  repeat' (first
     | refine wp_seq_i ?_ | refine wp_region_i ?_ | refine Run.done rfl ?_ | refine then_n ?_ | refine then_r ?_ | refine then_e ?_ | refine Run.go1 rfl ?_ | refine wp_skip_i ?_ | refine wp_ret_i ?_ | refine wp_exit_i ?_
     | refine wp_block_i ?_ | refine block_n ?_ | refine block_r ?_ | refine block_e ?_ | refine block_o rfl ?_ | refine wp_cond_t rfl ?_ | refine wp_cond_f rfl ?_ | refine Run.call rfl rfl rfl (eqInsS_t _ _ ha.1 ha.2) rfl rfl ?_
     | (refine Run.splitG rfl rfl rfl rfl rfl rfl ?_ ?_ <;> intro _) | (refine Run.splitP rfl rfl rfl rfl ?_ ?_ <;> intro _) | (refine wp_cond_k rfl rfl rfl ?_ ?_ <;> intro _) | (refine wp_cond_i rfl ?_ ?_ <;> intro _))
  all_goals (refine ret_m [] rfl rfl ?_; obtain ⟨a1, a2, a3, a4⟩ := a; obtain ⟨b1, b2, b3, b4⟩ := b; simp_all)
end Go.Proofs

set_option linter.unusedVariables false
set_option linter.unusedSimpArgs false
namespace Go.Proofs
open Go Go.Ev
set_option maxRecDepth 100000
variable {X : Rel3}
def mkPiece (p : Piece) (k : Int) : Piece × Int :=
  (⟨k, nx k, nx (nx k), (mkInsS p.ins (nx (nx (nx k)))).1⟩, (mkInsS p.ins (nx (nx (nx k)))).2)
def mkPieceS : List Piece → Int → List Piece × Int
  | [], k => ([], k)
  | i :: r, k => ((mkPiece i k).1 :: (mkPieceS r (mkPiece i k).2).1, (mkPieceS r (mkPiece i k).2).2)
theorem mkPieceS_snoc (l : List Piece) (x : Piece) (k : Int) : mkPieceS (l ++ [x]) k = ((mkPieceS l k).1 ++ [(mkPiece x (mkPieceS l k).2).1], (mkPiece x (mkPieceS l k).2).2) := by
  induction l generalizing k with
  | nil => rfl
  | cons y l ih => simp [mkPieceS, ih]
theorem mkPieceS_len (l : List Piece) (k : Int) : (mkPieceS l k).1.length = l.length := by
  induction l generalizing k with
  | nil => rfl
  | cons y l ih => simp [mkPieceS, ih]
end Go.Proofs

set_option linter.unusedVariables false
set_option linter.unusedSimpArgs false
namespace Go.Proofs
open Go Go.Ev
set_option maxRecDepth 100000
variable {X : Rel3}
def szIntS (l : List Int) (left : Int) : Int := if IntKind.i64.wrap (left - l.length) < 0 then -1 else IntKind.i64.wrap (left - l.length)
theorem szIntS_t (l : List Int) (left : Int) : Tells Try.prog E0 X 85 [.t (.sl false (l.map iR)), iA left] (iA (szIntS l left)) := by
  refine Tells.by Try.func85 (by simp [Try.f85]) (Body.i rfl rfl rfl (fun _ => rfl) fun f => ?_)
  repeat' (first
     | refine wp_seq_i ?_ | refine wp_region_i ?_ | refine Run.done rfl ?_ | refine then_n ?_ | refine then_r ?_ | refine then_e ?_ | refine Run.go1 rfl ?_ | refine wp_skip_i ?_ | refine wp_ret_i ?_ | refine wp_exit_i ?_
     | refine wp_block_i ?_ | refine block_n ?_ | refine block_r ?_ | refine block_e ?_ | refine block_o rfl ?_ | refine wp_cond_t rfl ?_ | refine wp_cond_f rfl ?_ | (refine wp_cond_k rfl rfl rfl ?_ ?_ <;> intro _)
     | (refine wp_cond_i rfl ?_ ?_ <;> intro _))
  all_goals (refine ret_m [] rfl rfl ?_; simp_all [szIntS] <;> omega)
def szIns (i : Ins) (left : Int) : Int := if szIntS i.l left < 0 then -1 else szIntS i.l left
theorem szIns_t (i : Ins) (left : Int) : Tells Try.prog E0 X 59 [i.a false, iA left] (iA (szIns i left)) := by
  refine Tells.by Try.func59 (by simp [Try.f59]) (Body.i rfl rfl rfl (fun _ => rfl) fun f => ?_)
  repeat' (first
     | refine wp_seq_i ?_ | refine wp_region_i ?_ | refine Run.done rfl ?_ | refine then_n ?_ | refine then_r ?_ | refine then_e ?_ | refine Run.go1 rfl ?_ | refine wp_skip_i ?_ | refine wp_ret_i ?_ | refine wp_exit_i ?_
     | refine wp_block_i ?_ | refine block_n ?_ | refine block_r ?_ | refine block_e ?_ | refine block_o rfl ?_ | refine wp_cond_t rfl ?_ | refine wp_cond_f rfl ?_ | refine Run.call rfl rfl rfl (szIntS_t _ _) rfl rfl ?_
     | (refine wp_cond_k rfl rfl rfl ?_ ?_ <;> intro _) | (refine wp_cond_i rfl ?_ ?_ <;> intro _))
  all_goals (refine ret_m [] rfl rfl ?_; simp_all [szIns] <;> omega)
def szL {α : Type} (f : α → Int → Int) : List α → Int → Int
  | [], left => left
  | x :: r, left => if f x left < 0 then -1 else szL f r (f x left)
def szInsS (l : List Ins) (left : Int) : Int := if IntKind.i64.wrap (left - l.length) < 0 then -1 else szL szIns l (IntKind.i64.wrap (left - l.length))
theorem szInsS_t (l : List Ins) (left : Int) (hl : l.length ≤ 9223372036854775807) : Tells Try.prog E0 X 29 [.t (.sl false (l.map (Ins.c false))), iA left] (iA (szInsS l left)) := by
  refine Tells.by Try.func29 (by simp [Try.f29]) (Body.i rfl rfl rfl (fun _ => rfl) fun f => ?_)
  repeat' (first
     | refine wp_seq_i ?_ | refine wp_region_i ?_ | refine Run.done rfl ?_ | refine then_n ?_ | refine then_r ?_ | refine then_e ?_ | refine Run.go1 rfl ?_ | refine wp_skip_i ?_ | refine wp_ret_i ?_ | refine wp_exit_i ?_
     | refine wp_block_i ?_ | refine block_n ?_ | refine block_r ?_ | refine block_e ?_ | refine block_o rfl ?_ | refine wp_cond_t rfl ?_ | refine wp_cond_f rfl ?_ | (refine wp_cond_k rfl rfl rfl ?_ ?_ <;> intro _)
     | (refine wp_cond_i rfl ?_ ?_ <;> intro _))
  · refine ret_m [] rfl rfl ?_; simp_all [szInsS]
  rename_i h0
  have h0 : ¬ IntKind.i64.wrap (left - l.length) < 0 := by simpa using h0
  refine wp_loop_k (α := Nat × Int) [.keep [0, 1, 4, 5] []] (fun p => [(1, iA p.2), (5, iA p.1)]) (fun _ => []) (fun _ => []) (fun p => p.1 ≤ l.length ∧ szL szIns (l.drop p.1) p.2 = szL szIns l (IntKind.i64.wrap (left - l.length))) (fun p => l.length - p.1) (0, IntKind.i64.wrap (left - (l.map (Ins.c false)).length)) rfl (fun _ => rfl) rfl ⟨by simp, by simp⟩ ?_
  rintro ⟨k, r⟩ ⟨hk, hI⟩
  simp only at hk hI
  have hgoal : szInsS l left = szL szIns l (IntKind.i64.wrap (left - l.length)) := if_neg h0
  by_cases hlt : k < l.length
  · have hx : (l.map (Ins.c false))[k]? = some ((Ins.c false) l[k]) := by simp [hlt]
    rw [List.drop_eq_getElem_cons hlt, szL] at hI
    repeat' (first
       | refine wp_seq_i ?_ | refine wp_region_i ?_ | refine Run.done rfl ?_ | refine then_n ?_ | refine then_r ?_ | refine then_e ?_ | refine Run.go1 rfl ?_ | refine wp_skip_i ?_ | refine wp_ret_i ?_ | refine wp_exit_i ?_
       | refine wp_block_i ?_ | refine block_n ?_ | refine block_r ?_ | refine block_e ?_ | refine block_o rfl ?_ | refine wp_cond_t rfl ?_ | refine wp_cond_f rfl ?_ | refine Run.ix rfl rfl rfl rfl rfl rfl rfl hx rfl rfl rfl ?_
       | refine Run.call rfl rfl rfl (szIns_t _ _) rfl rfl ?_ | (refine wp_cond_k rfl rfl rfl ?_ ?_ <;> intro _) | (refine wp_cond_i rfl ?_ ?_ <;> intro _))
    · rename_i h
      rw [if_pos (by simpa using h)] at hI
      refine ret_m [] rfl rfl ?_; rw [hgoal, ← hI]
    · rename_i h
      rw [if_neg (by simpa using h)] at hI
      refine back_i [.keep [0, 1, 4, 5] []] (k + 1, szIns l[k] r) rfl ?_ ⟨by simp; omega, hI⟩ (by simp; omega)
      simp only [w_succ hlt hl]
    · rename_i h; simp [hlt] at h
  · have hkl : k = l.length := by omega
    repeat' (first
       | refine wp_seq_i ?_ | refine wp_region_i ?_ | refine Run.done rfl ?_ | refine then_n ?_ | refine then_r ?_ | refine then_e ?_ | refine Run.go1 rfl ?_ | refine wp_skip_i ?_ | refine wp_ret_i ?_ | refine wp_exit_i ?_
       | refine wp_block_i ?_ | refine block_n ?_ | refine block_r ?_ | refine block_e ?_ | refine block_o rfl ?_ | refine wp_cond_t rfl ?_ | refine wp_cond_f rfl ?_ | (refine wp_cond_k rfl rfl rfl ?_ ?_ <;> intro _)
       | (refine wp_cond_i rfl ?_ ?_ <;> intro _))
    · rename_i h; simp [hkl] at h
    · refine ret_m [] rfl rfl ?_
      rw [hgoal, ← hI, hkl, List.drop_length]; rfl
def szPiece (p : Piece) (left : Int) : Int := if szInsS p.ins left < 0 then -1 else szInsS p.ins left
theorem szPiece_t (p : Piece) (left : Int) (hl : p.ins.length ≤ 9223372036854775807) : Tells Try.prog E0 X 8 [p.a false, iA left] (iA (szPiece p left)) := by
  refine Tells.by Try.func8 (by simp [Try.f8]) (Body.i rfl rfl rfl (fun _ => rfl) fun f => ?_)
  repeat' (first
     | refine wp_seq_i ?_ | refine wp_region_i ?_ | refine Run.done rfl ?_ | refine then_n ?_ | refine then_r ?_ | refine then_e ?_ | refine Run.go1 rfl ?_ | refine wp_skip_i ?_ | refine wp_ret_i ?_ | refine wp_exit_i ?_
     | refine wp_block_i ?_ | refine block_n ?_ | refine block_r ?_ | refine block_e ?_ | refine block_o rfl ?_ | refine wp_cond_t rfl ?_ | refine wp_cond_f rfl ?_ | refine Run.call rfl rfl rfl (szInsS_t _ _ hl) rfl rfl ?_
     | (refine wp_cond_k rfl rfl rfl ?_ ?_ <;> intro _) | (refine wp_cond_i rfl ?_ ?_ <;> intro _))
  all_goals (refine ret_m [] rfl rfl ?_; simp_all [szPiece] <;> omega)
def szPieceS (l : List Piece) (left : Int) : Int := if IntKind.i64.wrap (left - l.length) < 0 then -1 else szL szPiece l (IntKind.i64.wrap (left - l.length))
def szCode (c : Code) (left : Int) : Int := if szPieceS c.funs left < 0 then -1 else if szPiece c.main (szPieceS c.funs left) < 0 then -1 else szPiece c.main (szPieceS c.funs left)
end Go.Proofs

set_option linter.unusedVariables false
set_option linter.unusedSimpArgs false
set_option maxHeartbeats 4000000
namespace Go.Proofs
open Go Go.Ev
set_option maxRecDepth 100000
variable {X : Rel3}
theorem shr_It (l : List Int) : shrR (l.map iR) = l.map iR := by
  induction l with
  | nil => rfl
  | cons x r ih => simp [shrR, shrL, T.shr, ih]
theorem shr_Inst (l : List Ins) : shrR (l.map (Ins.c true)) = l.map (Ins.c false) := by
  induction l with
  | nil => rfl
  | cons x r ih => simp [shrR, shrL, T.shr, ih, shr_It]
theorem shr_Pt (l : List Piece) : shrR (l.map (Piece.c true)) = l.map (Piece.c false) := by
  induction l with
  | nil => rfl
  | cons x r ih => simp [shrR, shrL, T.shr, ih, shr_Inst]
/-- code whose memory is its own, to be read -/
abbrev Code.s (c : Code) : AV := .ag [.t (.sl false (shrR (c.funs.map (Piece.c true)))), iA c.main.lam, iA c.main.in_, iA c.main.regs, .t (.sl false (shrR (c.main.ins.map (Ins.c true))))]
theorem Code.s_eq (c : Code) : c.s = c.a false := by simp only [Code.s, Code.a, shr_Pt, shr_Inst]
theorem own_I (l : List Int) : ownR (l.map iR) := by
  induction l with
  | nil => simp [ownR]
  | cons x r ih => simp [ownR, ownL, T.own, ih]
theorem own_Ins (l : List Ins) : ownR (l.map (Ins.c true)) := by
  induction l with
  | nil => simp [ownR]
  | cons x r ih => simp [ownR, ownL, T.own, ih, own_I]
theorem own_P (l : List Piece) : ownR (l.map (Piece.c true)) := by
  induction l with
  | nil => simp [ownR]
  | cons x r ih => simp [ownR, ownL, T.own, ih, own_Ins]
theorem szIntS_ok {l : List Int} {left : Int} (hl : l.length ≤ 9223372036854775807) (h0 : 0 ≤ left ∧ left ≤ 1048576) (h : ¬ szIntS l left < 0) : l.length ≤ 1048576 ∧ 0 ≤ szIntS l left ∧ szIntS l left ≤ 1048576 := by
  unfold szIntS at h ⊢
  rw [w64 (by omega) (by omega)] at h ⊢
  split at h
  · omega
  · rename_i h1; rw [if_neg h1]; omega
theorem szIns_ok {i : Ins} {left : Int} (hl : i.l.length ≤ 9223372036854775807) (h0 : 0 ≤ left ∧ left ≤ 1048576) (h : ¬ szIns i left < 0) : i.l.length ≤ 1048576 ∧ 0 ≤ szIns i left ∧ szIns i left ≤ 1048576 := by
  unfold szIns at h ⊢
  split at h
  · omega
  · rename_i h1; rw [if_neg h1]; exact szIntS_ok hl h0 h1
theorem szL_ok {α : Type} {f : α → Int → Int} {ok : α → Prop} {pre : α → Prop} (hf : ∀ x left, pre x → 0 ≤ left ∧ left ≤ 1048576 → ¬ f x left < 0 → ok x ∧ 0 ≤ f x left ∧ f x left ≤ 1048576) :
    ∀ {l : List α} {left : Int}, (∀ x ∈ l, pre x) → 0 ≤ left ∧ left ≤ 1048576 → ¬ szL f l left < 0 → (∀ x ∈ l, ok x) ∧ 0 ≤ szL f l left ∧ szL f l left ≤ 1048576 := by
  intro l
  induction l with
  | nil => intro left _ h0 h; exact ⟨by simp, h0⟩
  | cons x r ih =>
    intro left hp h0 h
    rw [szL] at h ⊢
    split at h
    · omega
    · rename_i h1
      rw [if_neg h1]
      obtain ⟨a1, a2⟩ := hf x left (hp x (List.mem_cons_self ..)) h0 h1
      obtain ⟨b1, b2⟩ := ih (fun y hy => hp y (List.mem_cons_of_mem _ hy)) a2 h
      refine ⟨fun y hy => ?_, b2⟩
      rcases List.mem_cons.1 hy with rfl | hy
      · exact a1
      · exact b1 y hy
def Ins.len (i : Ins) : Prop := i.l.length ≤ 9223372036854775807
def Piece.len (p : Piece) : Prop := p.ins.length ≤ 9223372036854775807 ∧ ∀ i ∈ p.ins, i.len
def Code.len (c : Code) : Prop := c.funs.length ≤ 9223372036854775807 ∧ (∀ p ∈ c.funs, p.len) ∧ c.main.len
theorem szInsS_ok {l : List Ins} {left : Int} (hl : l.length ≤ 9223372036854775807) (hll : ∀ i ∈ l, i.len) (h0 : 0 ≤ left ∧ left ≤ 1048576) (h : ¬ szInsS l left < 0) : (l.length ≤ 1048576 ∧ ∀ i ∈ l, i.l.length ≤ 1048576) ∧ 0 ≤ szInsS l left ∧ szInsS l left ≤ 1048576 := by
  unfold szInsS at h ⊢
  rw [w64 (by omega) (by omega)] at h ⊢
  split at h
  · omega
  · rename_i h1
    rw [if_neg h1]
    obtain ⟨a, b⟩ := szL_ok (pre := Ins.len) (ok := fun i => i.l.length ≤ 1048576) (fun x left hp h0 h => szIns_ok hp h0 h) hll (by omega) h
    exact ⟨⟨by omega, a⟩, b⟩
theorem szPiece_ok {p : Piece} {left : Int} (hl : p.len) (h0 : 0 ≤ left ∧ left ≤ 1048576) (h : ¬ szPiece p left < 0) : p.ok ∧ 0 ≤ szPiece p left ∧ szPiece p left ≤ 1048576 := by
  unfold szPiece at h ⊢
  split at h
  · omega
  · rename_i h1; rw [if_neg h1]; exact szInsS_ok hl.1 hl.2 h0 h1
theorem szPieceS_ok {l : List Piece} {left : Int} (hl : l.length ≤ 9223372036854775807) (hll : ∀ i ∈ l, i.len) (h0 : 0 ≤ left ∧ left ≤ 1048576) (h : ¬ szPieceS l left < 0) : (l.length ≤ 1048576 ∧ ∀ p ∈ l, p.ok) ∧ 0 ≤ szPieceS l left ∧ szPieceS l left ≤ 1048576 := by
  unfold szPieceS at h ⊢
  rw [w64 (by omega) (by omega)] at h ⊢
  split at h
  · omega
  · rename_i h1
    rw [if_neg h1]
    obtain ⟨a, b⟩ := szL_ok (pre := Piece.len) (ok := Piece.ok) (fun x left hp h0 h => szPiece_ok hp h0 h) hll (by omega) h
    exact ⟨⟨by omega, a⟩, b⟩
theorem szCode_ok {c : Code} (hl : c.len) (h : ¬ szCode c 1048576 < 0) : c.ok := by
  unfold szCode at h
  split at h
  · omega
  · rename_i h1
    obtain ⟨⟨a1, a2⟩, a3⟩ := szPieceS_ok hl.1 hl.2.1 (by omega) h1
    split at h
    · omega
    · rename_i h2
      exact ⟨a1, a2, (szPiece_ok hl.2.2 a3 h2).1⟩
theorem nx_up {k : Int} (h0 : 0 ≤ k) (h : k ≤ 9223372036854775806) : nx k = k + 1 := by unfold nx; rw [w64] <;> omega
theorem mk_up : ∀ (l : List Int) (k : Int), 0 ≤ k → k + l.length ≤ 9223372036854775807 → (mk l k).2 = k + l.length
  | [], k, _, _ => by simp [mk]
  | x :: r, k, h0, h => by
    simp only [List.length_cons] at h ⊢
    have e : IntKind.i64.wrap (k + 1) = k + 1 := by rw [w64] <;> omega
    rw [mk, e]
    have := mk_up r (k + 1) (by omega) (by omega)
    simp only; omega
theorem mkB_up : ∀ (l : List Int) (k : Int), 0 ≤ k → k + l.length ≤ 9223372036854775806 → (mkB l k).2 = k + l.length
  | [], k, _, _ => by simp [mkB]
  | x :: r, k, h0, h => by
    simp only [List.length_cons] at h ⊢
    rw [mkB, nx_up h0 (by omega)]
    have := mkB_up r (k + 1) (by omega) (by omega)
    simp only; omega
theorem heB_mkB : ∀ (l : List Int) (k : Int), heB (mkB l k).1 k = (mkB l k).2
  | [], k => rfl
  | x :: r, k => by rw [mkB, heB, if_pos rfl]; exact heB_mkB r (nx k)
theorem mkB_len' (l : List Int) (k : Int) : (mkB l k).1.length = l.length := mkB_len l k
theorem mkIns_up {i : Ins} {k : Int} (hi : i.l.length ≤ 1048576) (h0 : 0 ≤ k) (h : k ≤ 9223372036850000000) : 0 ≤ (mkIns i k).2 ∧ (mkIns i k).2 ≤ k + 1048583 := by
  unfold mkIns
  simp only
  rw [nx_up h0 (by omega), nx_up (k := k + 1) (by omega) (by omega), nx_up (k := k + 1 + 1) (by omega) (by omega), nx_up (k := k + 1 + 1 + 1) (by omega) (by omega), nx_up (k := k + 1 + 1 + 1 + 1) (by omega) (by omega)]
  have h2 := mk_up i.l (k + 1 + 1 + 1 + 1 + 1) (by omega) (by omega)
  rw [h2, nx_up (by omega) (by omega)]
  omega
theorem mkInsS_up : ∀ {l : List Ins} {k : Int}, (∀ i ∈ l, i.l.length ≤ 1048576) → 0 ≤ k → k + 1048583 * l.length ≤ 9223372036850000000 → 0 ≤ (mkInsS l k).2 ∧ (mkInsS l k).2 ≤ k + 1048583 * l.length
  | [], k, _, h0, _ => by simp [mkInsS]; exact h0
  | i :: r, k, hl, h0, h => by
    simp only [List.length_cons] at h ⊢
    obtain ⟨a, b⟩ := mkIns_up (hl i (List.mem_cons_self ..)) h0 (by omega)
    obtain ⟨c, d⟩ := mkInsS_up (fun j hj => hl j (List.mem_cons_of_mem _ hj)) a (by omega)
    rw [mkInsS]
    simp only; omega
theorem mkPiece_up {p : Piece} {k : Int} (hp : p.ok) (h0 : 0 ≤ k) (h : k ≤ 9222000000000000000) : 0 ≤ (mkPiece p k).2 ∧ (mkPiece p k).2 ≤ k + 1099518968000 := by
  unfold mkPiece
  simp only
  have h1 := hp.1
  rw [nx_up h0 (by omega), nx_up (k := k + 1) (by omega) (by omega), nx_up (k := k + 1 + 1) (by omega) (by omega)]
  have := mkInsS_up (k := k + 1 + 1 + 1) hp.2 (by omega) (by omega)
  omega
theorem mkPieceS_up : ∀ {l : List Piece} {k : Int}, (∀ p ∈ l, p.ok) → 0 ≤ k → k + 1099518968000 * l.length ≤ 9222000000000000000 → 0 ≤ (mkPieceS l k).2 ∧ (mkPieceS l k).2 ≤ k + 1099518968000 * l.length
  | [], k, _, h0, _ => by simp [mkPieceS]; exact h0
  | i :: r, k, hl, h0, h => by
    simp only [List.length_cons] at h ⊢
    obtain ⟨a, b⟩ := mkPiece_up (hl i (List.mem_cons_self ..)) h0 (by omega)
    obtain ⟨c, d⟩ := mkPieceS_up (fun j hj => hl j (List.mem_cons_of_mem _ hj)) a (by omega)
    rw [mkPieceS]
    simp only; omega
theorem mkCode_up {c : Code} (hc : c.ok) : ¬ (mkInsS c.main.ins (mkPieceS c.funs 1).2).2 < 0 := by
  have h1 := hc.1
  have h2 := hc.2.2.1
  obtain ⟨a, b⟩ := mkPieceS_up (k := 1) hc.2.1 (by omega) (by omega)
  have := (mkInsS_up (k := (mkPieceS c.funs 1).2) hc.2.2.2 a (by omega)).1
  omega
end Go.Proofs

set_option linter.unusedVariables false
set_option linter.unusedSimpArgs false
set_option maxHeartbeats 4000000
namespace Go.Proofs
open Go Go.Ev
set_option maxRecDepth 100000
variable {X : Rel3}
/-- what is marked is held -/
def heI : List Int → Int → Int
  | [], k => k
  | x :: r, k => if x = k then heI r (IntKind.i64.wrap (k + 1)) else -1
theorem heI_mk : ∀ (l : List Int) (k : Int), heI (mk l k).1 k = (mk l k).2
  | [], k => rfl
  | x :: r, k => by rw [mk, heI, if_pos rfl]; exact heI_mk r _
theorem heldIntS_t (l : List Int) (k : Int) (hl : l.length ≤ 9223372036854775807) : Tells Try.prog E0 X 21 [.t (.sl false (l.map iR)), iA k] (iA (heI l k)) := by
  refine Tells.by Try.func21 (by simp [Try.f21]) (Body.i rfl rfl rfl (fun _ => rfl) fun f => ?_)
  repeat' (first
     | refine wp_seq_i ?_ | refine wp_region_i ?_ | refine Run.done rfl ?_ | refine then_n ?_ | refine then_r ?_ | refine then_e ?_ | refine Run.go1 rfl ?_ | refine wp_skip_i ?_ | refine wp_ret_i ?_ | refine wp_exit_i ?_
     | refine wp_block_i ?_ | refine block_n ?_ | refine block_r ?_ | refine block_e ?_ | refine block_o rfl ?_ | refine wp_cond_t rfl ?_ | refine wp_cond_f rfl ?_ | (refine wp_cond_k rfl rfl rfl ?_ ?_ <;> intro _)
     | (refine wp_cond_i rfl ?_ ?_ <;> intro _))
  refine wp_loop_k (α := Nat × Int) [.keep [0, 1, 4, 5] []] (fun p => [(1, iA p.2), (5, iA p.1)]) (fun _ => []) (fun _ => []) (fun p => p.1 ≤ l.length ∧ heI (l.drop p.1) p.2 = heI l k) (fun p => l.length - p.1) (0, k) rfl (fun _ => rfl) rfl ⟨by simp, by simp⟩ ?_
  rintro ⟨j, c⟩ ⟨hj, hc⟩
  simp only at hj hc
  by_cases hlt : j < l.length
  · have hx : (l.map iR)[j]? = some (iR l[j]) := by simp [hlt]
    rw [List.drop_eq_getElem_cons hlt, heI] at hc
    repeat' (first
       | refine wp_seq_i ?_ | refine wp_region_i ?_ | refine Run.done rfl ?_ | refine then_n ?_ | refine then_r ?_ | refine then_e ?_ | refine Run.go1 rfl ?_ | refine wp_skip_i ?_ | refine wp_ret_i ?_ | refine wp_exit_i ?_
       | refine wp_block_i ?_ | refine block_n ?_ | refine block_r ?_ | refine block_e ?_ | refine block_o rfl ?_ | refine wp_cond_t rfl ?_ | refine wp_cond_f rfl ?_ | refine Run.ix rfl rfl rfl rfl rfl rfl rfl hx rfl rfl rfl ?_
       | (refine wp_cond_k rfl rfl rfl ?_ ?_ <;> intro _) | (refine wp_cond_i rfl ?_ ?_ <;> intro _))
    · rename_i h
      rw [if_neg (by simpa using h)] at hc
      refine ret_m [] rfl rfl ?_
      rw [← hc]
    · rename_i h
      rw [if_pos (by simpa using h)] at hc
      refine back_i [.keep [0, 1, 4, 5] []] (j + 1, IntKind.i64.wrap (c + 1)) rfl ?_ ⟨by simp; omega, hc⟩ (by simp; omega)
      simp only [w_succ hlt hl]
    · rename_i h; simp [hlt] at h
  · have hjl : j = l.length := by omega
    repeat' (first
       | refine wp_seq_i ?_ | refine wp_region_i ?_ | refine Run.done rfl ?_ | refine then_n ?_ | refine then_r ?_ | refine then_e ?_ | refine Run.go1 rfl ?_ | refine wp_skip_i ?_ | refine wp_ret_i ?_ | refine wp_exit_i ?_
       | refine wp_block_i ?_ | refine block_n ?_ | refine block_r ?_ | refine block_e ?_ | refine block_o rfl ?_ | refine wp_cond_t rfl ?_ | refine wp_cond_f rfl ?_ | (refine wp_cond_k rfl rfl rfl ?_ ?_ <;> intro _)
       | (refine wp_cond_i rfl ?_ ?_ <;> intro _))
    · rename_i h; simp [hjl] at h
    · refine ret_m [] rfl rfl ?_
      rw [← hc, hjl, List.drop_length]; rfl
abbrev Piece.s (p : Piece) : AV := .ag [iA p.lam, iA p.in_, iA p.regs, .t (.sl false (shrR (p.ins.map (Ins.c true))))]
theorem Piece.s_eq (p : Piece) : p.s = p.a false := by simp only [Piece.s, Piece.a, shr_Inst]
theorem mkP_up {p : Piece} (hp : p.ok) : ¬ (mkInsS p.ins 1).2 < 0 := by
  have h2 := hp.1
  have := (mkInsS_up (k := 1) hp.2 (by omega) (by omega)).1
  omega
end Go.Proofs

set_option linter.unusedVariables false
set_option linter.unusedSimpArgs false
set_option maxHeartbeats 4000000
namespace Go.Proofs
open Go Go.Ev
set_option maxRecDepth 100000
variable {X : Rel3}
/-- what is added to a list in order -/
def addGo (n : Int) : Bool → List Int → List Int
  | put, [] => if put then [] else [n]
  | put, x :: r => (if !put && decide (x ≥ n) then [n] else []) ++ (if x ≠ n then [x] else []) ++ addGo n (put || decide (x ≥ n)) r
theorem l10Add_t (l : List Int) (n : Int) (hl : l.length ≤ 1000000000000) : Tells Try.prog E0 X 40 [.t (.sl false (l.map iR)), iA n] (.t (.sl true ((addGo n false l).map iR))) := by
  refine Tells.by Try.func40 (by simp [Try.f40]) (Body.i rfl rfl rfl (fun _ => rfl) fun f => ?_)
  repeat' (first
     | refine wp_seq_i ?_ | refine wp_region_i ?_ | refine Run.done rfl ?_ | refine then_n ?_ | refine then_r ?_ | refine then_e ?_ | refine Run.go1 rfl ?_ | refine wp_skip_i ?_ | refine wp_ret_i ?_ | refine wp_exit_i ?_
     | refine wp_block_i ?_ | refine block_n ?_ | refine block_r ?_ | refine block_e ?_ | refine block_o rfl ?_ | refine wp_cond_t rfl ?_ | refine wp_cond_f rfl ?_
     | refine Run.cnd rfl rfl rfl ⟨by simp; omega, by simp, by simp, .inl rfl, by simp [flatT]⟩ ?_ | (refine wp_cond_k rfl rfl rfl ?_ ?_ <;> intro _) | (refine wp_cond_i rfl ?_ ?_ <;> intro _))
  refine wp_loop_k (α := Nat × List Int × Bool) [.keep [0, 1, 5, 6, 7] [8]] (fun p => [(6, bA p.2.2), (7, iA p.1)]) (fun _ => []) (fun p => [(8, 0, p.2.1.map iR)]) (fun p => p.1 ≤ l.length ∧ p.2.1.length ≤ 2 * p.1 ∧ p.2.1 ++ addGo n p.2.2 (l.drop p.1) = addGo n false l) (fun p => l.length - p.1) (0, [], false) rfl (fun _ => rfl) rfl ⟨by simp, by simp, by simp⟩ ?_
  rintro ⟨j, c, put⟩ ⟨hj, hc, he⟩
  simp only at hj hc he
  by_cases hlt : j < l.length
  · have hx : (l.map iR)[j]? = some (iR l[j]) := by simp [hlt]
    repeat' (first
       | refine wp_seq_i ?_ | refine wp_region_i ?_ | refine Run.done rfl ?_ | refine then_n ?_ | refine then_r ?_ | refine then_e ?_ | refine Run.go1 rfl ?_ | refine wp_skip_i ?_ | refine wp_ret_i ?_ | refine wp_exit_i ?_
       | refine wp_block_i ?_ | refine block_n ?_ | refine block_r ?_ | refine block_e ?_ | refine block_o rfl ?_ | refine wp_cond_t rfl ?_ | refine wp_cond_f rfl ?_ | refine Run.gT rfl rfl rfl rfl ?_ | refine Run.pT rfl rfl ?_
       | (refine Run.splitG rfl rfl rfl rfl rfl rfl ?_ ?_ <;> intro _) | (refine Run.splitP rfl rfl rfl rfl ?_ ?_ <;> intro _) | refine Run.ix rfl rfl rfl rfl rfl rfl rfl hx rfl rfl rfl ?_
       | refine Run.cnd rfl rfl rfl ⟨by simp; omega, (by intro r hr; simp at hr; first | (rcases hr with ⟨a, _, rfl⟩ | rfl <;> rfl) | (obtain ⟨a, _, rfl⟩ := hr; rfl)), by simp, .inl rfl, by simp [flatT]⟩ ?_
       | (refine wp_cond_k rfl rfl rfl ?_ ?_ <;> intro _) | (refine wp_cond_i rfl ?_ ?_ <;> intro _))
    all_goals (try (exfalso; simp [hlt] at *; done))
    all_goals cases put
    all_goals first
    | (exfalso; simp at *; done)
    | (refine back_i [.keep [0, 1, 5, 6, 7] [41], .ren 41 8] (j + 1, c ++ [n] ++ [l[j]], true) rfl ?_ ⟨by simp; omega, by simp at hc ⊢; omega, ?_⟩ (by simp; omega)
       · simp only [List.map_append, List.map_cons, List.map_nil, w_succ hlt (by omega)]; try first | rfl | simp_all
       · (rw [← he, List.drop_eq_getElem_cons hlt, addGo]; first | (simp_all; done) | (by_cases p1 : n ≤ l[j] <;> by_cases p2 : l[j] = n <;> simp [p1, p2] at * <;> first | done | omega)); done)
    | (refine back_i [.keep [0, 1, 5, 6, 7] [28], .ren 28 8] (j + 1, c ++ [n], true) rfl ?_ ⟨by simp; omega, by simp at hc ⊢; omega, ?_⟩ (by simp; omega)
       · simp only [List.map_append, List.map_cons, List.map_nil, w_succ hlt (by omega)]; try first | rfl | simp_all
       · (rw [← he, List.drop_eq_getElem_cons hlt, addGo]; first | (simp_all; done) | (by_cases p1 : n ≤ l[j] <;> by_cases p2 : l[j] = n <;> simp [p1, p2] at * <;> first | done | omega)); done)
    | (refine back_i [.keep [0, 1, 5, 6, 7] [41], .ren 41 8] (j + 1, c ++ [l[j]], true) rfl ?_ ⟨by simp; omega, by simp at hc ⊢; omega, ?_⟩ (by simp; omega)
       · simp only [List.map_append, List.map_cons, List.map_nil, w_succ hlt (by omega)]; try first | rfl | simp_all
       · (rw [← he, List.drop_eq_getElem_cons hlt, addGo]; first | (simp_all; done) | (by_cases p1 : n ≤ l[j] <;> by_cases p2 : l[j] = n <;> simp [p1, p2] at * <;> first | done | omega)); done)
    | (refine back_i [.keep [0, 1, 5, 6, 7] [41], .ren 41 8] (j + 1, c ++ [l[j]], false) rfl ?_ ⟨by simp; omega, by simp at hc ⊢; omega, ?_⟩ (by simp; omega)
       · simp only [List.map_append, List.map_cons, List.map_nil, w_succ hlt (by omega)]; try first | rfl | simp_all
       · (rw [← he, List.drop_eq_getElem_cons hlt, addGo]; first | (simp_all; done) | (by_cases p1 : n ≤ l[j] <;> by_cases p2 : l[j] = n <;> simp [p1, p2] at * <;> first | done | omega)); done)
    | (refine back_i [.keep [0, 1, 5, 6, 7] [8]] (j + 1, c, true) rfl ?_ ⟨by simp; omega, by simp at hc ⊢; omega, ?_⟩ (by simp; omega)
       · simp only [List.map_append, List.map_cons, List.map_nil, w_succ hlt (by omega)]; try first | rfl | simp_all
       · (rw [← he, List.drop_eq_getElem_cons hlt, addGo]; first | (simp_all; done) | (by_cases p1 : n ≤ l[j] <;> by_cases p2 : l[j] = n <;> simp [p1, p2] at * <;> first | done | omega)); done)
    | (refine back_i [.keep [0, 1, 5, 6, 7] [8]] (j + 1, c, false) rfl ?_ ⟨by simp; omega, by simp at hc ⊢; omega, ?_⟩ (by simp; omega)
       · simp only [List.map_append, List.map_cons, List.map_nil, w_succ hlt (by omega)]; try first | rfl | simp_all
       · (rw [← he, List.drop_eq_getElem_cons hlt, addGo]; first | (simp_all; done) | (by_cases p1 : n ≤ l[j] <;> by_cases p2 : l[j] = n <;> simp [p1, p2] at * <;> first | done | omega)); done)
  · have hjl : j = l.length := by omega
    subst hjl
    rw [List.drop_length] at he
    repeat' (first
       | refine wp_seq_i ?_ | refine wp_region_i ?_ | refine Run.done rfl ?_ | refine then_n ?_ | refine then_r ?_ | refine then_e ?_ | refine Run.go1 rfl ?_ | refine wp_skip_i ?_ | refine wp_ret_i ?_ | refine wp_exit_i ?_
       | refine wp_block_i ?_ | refine block_n ?_ | refine block_r ?_ | refine block_e ?_ | refine block_o rfl ?_ | refine wp_cond_t rfl ?_ | refine wp_cond_f rfl ?_
       | refine Run.cnd rfl rfl rfl ⟨by simp; omega, by simp, by simp, .inl rfl, by simp [flatT]⟩ ?_
       | refine Run.cnd rfl rfl rfl ⟨by simp; omega, (by intro r hr; simp at hr; first | (rcases hr with ⟨a, _, rfl⟩ | rfl <;> rfl) | (obtain ⟨a, _, rfl⟩ := hr; rfl)), by simp, .inl rfl, by simp [flatT]⟩ ?_
       | (refine wp_cond_k rfl rfl rfl ?_ ?_ <;> intro _) | (refine wp_cond_i rfl ?_ ?_ <;> intro _))
    all_goals cases put
    all_goals first
    | (exfalso; simp at *; done)
    | (refine ret_m [] rfl rfl ?_; rw [← he]; simp [addGo]; done)
end Go.Proofs

set_option linter.unusedVariables false
set_option linter.unusedSimpArgs false
set_option maxHeartbeats 4000000
namespace Go.Proofs
open Go Go.Ev
set_option maxRecDepth 100000
variable {X : Rel3}
/-- the last place of what is not above i -/
def blk (i : Int) : List Int → Nat → Int → Int
  | [], _, b => b
  | x :: r, k, b => blk i r (k + 1) (if x ≤ i then (k : Int) else b)
theorem l20BlockOf_t (l : List Int) (i : Int) (hl : l.length ≤ 1000000000000) : Tells Try.prog E0 X 38 [.t (.sl false (l.map iR)), iA i] (iA (blk i l 0 (-1))) := by
  refine Tells.by Try.func38 (by simp [Try.f38]) (Body.i rfl rfl rfl (fun _ => rfl) fun f => ?_)
  repeat' (first
     | refine wp_seq_i ?_ | refine wp_region_i ?_ | refine Run.done rfl ?_ | refine then_n ?_ | refine then_r ?_ | refine then_e ?_ | refine Run.go1 rfl ?_ | refine wp_skip_i ?_ | refine wp_ret_i ?_ | refine wp_exit_i ?_
     | refine wp_block_i ?_ | refine block_n ?_ | refine block_r ?_ | refine block_e ?_ | refine block_o rfl ?_ | refine wp_cond_t rfl ?_ | refine wp_cond_f rfl ?_ | (refine wp_cond_k rfl rfl rfl ?_ ?_ <;> intro _)
     | (refine wp_cond_i rfl ?_ ?_ <;> intro _))
  refine wp_loop_k (α := Nat × Int) [.keep [0, 1, 5, 6] []] (fun p => [(5, iA p.2), (6, iA p.1)]) (fun _ => []) (fun _ => []) (fun p => p.1 ≤ l.length ∧ blk i (l.drop p.1) p.1 p.2 = blk i l 0 (-1)) (fun p => l.length - p.1) (0, -1) rfl (fun _ => rfl) rfl ⟨by simp, by simp⟩ ?_
  rintro ⟨j, b⟩ ⟨hj, he⟩
  simp only at hj he
  by_cases hlt : j < l.length
  · have hx : (l.map iR)[j]? = some (iR l[j]) := by simp [hlt]
    rw [List.drop_eq_getElem_cons hlt, blk] at he
    repeat' (first
       | refine wp_seq_i ?_ | refine wp_region_i ?_ | refine Run.done rfl ?_ | refine then_n ?_ | refine then_r ?_ | refine then_e ?_ | refine Run.go1 rfl ?_ | refine wp_skip_i ?_ | refine wp_ret_i ?_ | refine wp_exit_i ?_
       | refine wp_block_i ?_ | refine block_n ?_ | refine block_r ?_ | refine block_e ?_ | refine block_o rfl ?_ | refine wp_cond_t rfl ?_ | refine wp_cond_f rfl ?_ | refine Run.ix rfl rfl rfl rfl rfl rfl rfl hx rfl rfl rfl ?_
       | (refine wp_cond_k rfl rfl rfl ?_ ?_ <;> intro _) | (refine wp_cond_i rfl ?_ ?_ <;> intro _))
    all_goals first
    | (exfalso; simp [hlt] at *; done)
    | (refine back_i [.keep [0, 1, 5, 6] []] (j + 1, (j : Int)) rfl ?_ ⟨by simp; omega, ?_⟩ (by simp; omega)
       · simp only [w_succ hlt (by omega)]; try rfl
       · rename_i h; rw [if_pos (by simpa using h)] at he; exact he; done)
    | (refine back_i [.keep [0, 1, 5, 6] []] (j + 1, b) rfl ?_ ⟨by simp; omega, ?_⟩ (by simp; omega)
       · simp only [w_succ hlt (by omega)]; try rfl
       · rename_i h; rw [if_neg (by simpa using h)] at he; exact he; done)
    | trace_state
  · have hjl : j = l.length := by omega
    subst hjl
    rw [List.drop_length, blk] at he
    repeat' (first
       | refine wp_seq_i ?_ | refine wp_region_i ?_ | refine Run.done rfl ?_ | refine then_n ?_ | refine then_r ?_ | refine then_e ?_ | refine Run.go1 rfl ?_ | refine wp_skip_i ?_ | refine wp_ret_i ?_ | refine wp_exit_i ?_
       | refine wp_block_i ?_ | refine block_n ?_ | refine block_r ?_ | refine block_e ?_ | refine block_o rfl ?_ | refine wp_cond_t rfl ?_ | refine wp_cond_f rfl ?_ | (refine wp_cond_k rfl rfl rfl ?_ ?_ <;> intro _)
       | (refine wp_cond_i rfl ?_ ?_ <;> intro _))
    all_goals first
    | (exfalso; simp at *; done)
    | (refine ret_m [] rfl rfl ?_; rw [← he]; done)
    | (rw [← he]; refine ret_m [] rfl rfl rfl; done)
    | trace_state
end Go.Proofs

set_option linter.unusedVariables false
set_option linter.unusedSimpArgs false
set_option maxHeartbeats 4000000
namespace Go.Proofs
open Go Go.Ev
set_option maxRecDepth 100000
variable {X : Rel3}
/-- how far what follows is not above i -/
def blkI (i : Int) : List Int → Nat → Nat
  | [], k => k
  | x :: r, k => if x ≤ i then blkI i r (k + 1) else k
theorem blockOfI_t (l : List Int) (i : Int) (hl : l.length ≤ 1000000000000) : Tells Try.prog E0 X 43 [.t (.sl false (l.map iR)), iA i] (iA (blkI i (l.drop 1) 0 : Nat)) := by
  refine Tells.by Try.func43 (by simp [Try.f43]) (Body.i rfl rfl rfl (fun _ => rfl) fun f => ?_)
  repeat' (first
     | refine wp_seq_i ?_ | refine wp_region_i ?_ | refine Run.done rfl ?_ | refine then_n ?_ | refine then_r ?_ | refine then_e ?_ | refine Run.go1 rfl ?_ | refine wp_skip_i ?_ | refine wp_ret_i ?_ | refine wp_exit_i ?_
     | refine wp_block_i ?_ | refine block_n ?_ | refine block_r ?_ | refine block_e ?_ | refine block_o rfl ?_ | refine wp_cond_t rfl ?_ | refine wp_cond_f rfl ?_ | (refine wp_cond_k rfl rfl rfl ?_ ?_ <;> intro _)
     | (refine wp_cond_i rfl ?_ ?_ <;> intro _))
  refine wp_loop_k (α := Nat) [.keep [0, 1, 5] []] (fun p => [(5, iA p)]) (fun _ => []) (fun _ => []) (fun p => p ≤ l.length ∧ blkI i (l.drop (p + 1)) p = blkI i (l.drop 1) 0) (fun p => l.length - p) 0 rfl (fun _ => rfl) rfl ⟨by simp, by simp⟩ ?_
  rintro j ⟨hj, he⟩
  have hw : IntKind.i64.wrap ((j : Int) + 1) = ((j + 1 : Nat) : Int) := by rw [w64 (by omega) (by omega)]; simp
  by_cases hlt : j + 1 < l.length
  · have hx : (l.map iR)[j + 1]? = some (iR l[j + 1]) := by simp [hlt]
    rw [List.drop_eq_getElem_cons hlt, blkI] at he
    repeat' (first
       | refine wp_seq_i ?_ | refine wp_region_i ?_ | refine Run.done rfl ?_ | refine then_n ?_ | refine then_r ?_ | refine then_e ?_ | refine Run.go1 rfl ?_ | refine wp_skip_i ?_ | refine wp_ret_i ?_ | refine wp_exit_i ?_
       | refine wp_block_i ?_ | refine block_n ?_ | refine block_r ?_ | refine block_e ?_ | refine block_o rfl ?_ | refine wp_cond_t rfl ?_ | refine wp_cond_f rfl ?_ | refine Run.gT rfl rfl rfl rfl ?_ | refine Run.pT rfl rfl ?_
       | (refine Run.splitG rfl rfl rfl rfl rfl rfl ?_ ?_ <;> intro _) | (refine Run.splitP rfl rfl rfl rfl ?_ ?_ <;> intro _) | refine Run.ix rfl rfl rfl rfl rfl rfl hw hx rfl rfl rfl ?_
       | (refine wp_cond_k rfl rfl rfl ?_ ?_ <;> intro _) | (refine wp_cond_i rfl ?_ ?_ <;> intro _))
    all_goals first
    | (exfalso; simp [hlt, hw] at *; omega)
    | (refine back_i [.keep [0, 1, 5] []] (j + 1) rfl ?_ ⟨by omega, ?_⟩ (by omega)
       · simp only [hw]; try rfl
       · rename_i h; rw [if_pos (by simpa using h)] at he; exact he; done)
    | (refine ret_m [] rfl rfl ?_; rename_i h; rw [if_neg (by simpa using h)] at he; rw [← he]; done)
    | trace_state
  · rw [List.drop_eq_nil_of_le (by omega), blkI] at he
    repeat' (first
       | refine wp_seq_i ?_ | refine wp_region_i ?_ | refine Run.done rfl ?_ | refine then_n ?_ | refine then_r ?_ | refine then_e ?_ | refine Run.go1 rfl ?_ | refine wp_skip_i ?_ | refine wp_ret_i ?_ | refine wp_exit_i ?_
       | refine wp_block_i ?_ | refine block_n ?_ | refine block_r ?_ | refine block_e ?_ | refine block_o rfl ?_ | refine wp_cond_t rfl ?_ | refine wp_cond_f rfl ?_ | refine Run.gT rfl rfl rfl rfl ?_ | refine Run.pT rfl rfl ?_
       | (refine Run.splitG rfl rfl rfl rfl rfl rfl ?_ ?_ <;> intro _) | (refine Run.splitP rfl rfl rfl rfl ?_ ?_ <;> intro _) | (refine wp_cond_k rfl rfl rfl ?_ ?_ <;> intro _) | (refine wp_cond_i rfl ?_ ?_ <;> intro _))
    all_goals first
    | (exfalso; simp [hw] at *; omega)
    | (refine ret_m [] rfl rfl ?_; rw [← he]; done)
    | trace_state
end Go.Proofs

set_option linter.unusedVariables false
set_option linter.unusedSimpArgs false
set_option maxHeartbeats 4000000
namespace Go.Proofs
open Go Go.Ev
set_option maxRecDepth 100000
variable {X : Rel3}
def Asc (l : List Int) : Prop := l.Pairwise (· < ·)
theorem addGo_true (n : Int) : ∀ l, addGo n true l = l.filter (fun x => decide (x ≠ n))
  | [] => rfl
  | x :: r => by
    rw [addGo, Bool.true_or, addGo_true n r, List.filter_cons]
    by_cases h : x = n <;> simp [h]
theorem addGo_mem (n : Int) : ∀ (put : Bool) (l : List Int) (x : Int), x ∈ addGo n put l ↔ (put = false ∧ x = n) ∨ (x ≠ n ∧ x ∈ l)
  | put, [], x => by cases put <;> simp [addGo]
  | put, y :: r, x => by
    rw [addGo, List.mem_append, List.mem_append, addGo_mem n _ r x]
    by_cases hx : x = n
    · subst hx; cases put <;> by_cases h1 : x ≤ y <;> by_cases h2 : y = x <;> simp [h1, h2] <;> exact fun e => h2 e.symm
    · cases put <;> by_cases h1 : n ≤ y <;> by_cases h2 : y = n <;> simp [h1, h2, hx]
      all_goals (try (intro h; exact absurd (h.trans h2) hx))
theorem addGo_len (n : Int) : ∀ (put : Bool) (l : List Int), (addGo n put l).length ≤ l.length + (if put then 0 else 1)
  | put, [] => by cases put <;> simp [addGo]
  | put, y :: r => by
    rw [addGo]
    have := addGo_len n (put || decide (y ≥ n)) r
    simp only [List.length_append, List.length_cons]
    cases put <;> by_cases h1 : n ≤ y <;> by_cases h2 : y = n <;> simp [h1, h2] at this ⊢ <;> omega
theorem addGo_asc (n : Int) : ∀ (l : List Int), Asc l → Asc (addGo n false l)
  | [], _ => by simp [addGo, Asc]
  | y :: r, h => by
    obtain ⟨h1, h2⟩ := List.pairwise_cons.1 h
    rw [addGo]
    by_cases hy : n ≤ y
    · have ht : (false || decide (y ≥ n)) = true := by simp [hy]
      rw [ht, addGo_true]
      have hf : Asc (r.filter (fun x => decide (x ≠ n))) := h2.filter _
      by_cases e : y = n
      · subst e
        simp only [Bool.not_false, Bool.true_and, ge_iff_le, Int.le_refl, decide_true, if_true, ne_eq, not_true, if_false, List.append_nil, List.singleton_append]
        exact List.pairwise_cons.2 ⟨fun x hx => h1 x (List.mem_filter.1 hx).1, hf⟩
      · simp [hy, e]
        refine List.pairwise_cons.2 ⟨fun x hx => ?_, List.pairwise_cons.2 ⟨fun x hx => h1 x (List.mem_filter.1 hx).1, ?_⟩⟩
        · rcases List.mem_cons.1 hx with rfl | hx
          · omega
          · have := h1 x (List.mem_filter.1 hx).1; omega
        · have hf' := hf; unfold Asc at hf'; simpa using hf'
    · have ht : (false || decide (y ≥ n)) = false := by simp; omega
      have e : y ≠ n := by omega
      rw [ht]
      simp [hy, e]
      refine List.pairwise_cons.2 ⟨fun x hx => ?_, addGo_asc n r h2⟩
      rcases (addGo_mem n false r x).1 hx with ⟨_, rfl⟩ | ⟨_, hx⟩
      · omega
      · exact h1 x hx
theorem asc_ext : ∀ {a b : List Int}, Asc a → Asc b → (∀ x, x ∈ a ↔ x ∈ b) → a = b
  | [], [], _, _, _ => rfl
  | [], y :: r, _, _, h => absurd ((h y).2 (List.mem_cons_self ..)) (by simp)
  | y :: r, [], _, _, h => absurd ((h y).1 (List.mem_cons_self ..)) (by simp)
  | x :: r, y :: s, ha, hb, h => by
    obtain ⟨a1, a2⟩ := List.pairwise_cons.1 ha
    obtain ⟨b1, b2⟩ := List.pairwise_cons.1 hb
    have e : x = y := by
      rcases List.mem_cons.1 ((h x).1 (List.mem_cons_self ..)) with e | h1
      · exact e
      · rcases List.mem_cons.1 ((h y).2 (List.mem_cons_self ..)) with e | h2
        · exact e.symm
        · have := b1 x h1; have := a1 y h2; omega
    subst e
    refine congrArg _ (asc_ext a2 b2 fun z => ⟨fun hz => ?_, fun hz => ?_⟩)
    · rcases List.mem_cons.1 ((h z).1 (List.mem_cons_of_mem _ hz)) with rfl | h1
      · have := a1 z hz; omega
      · exact h1
    · rcases List.mem_cons.1 ((h z).2 (List.mem_cons_of_mem _ hz)) with rfl | h1
      · have := b1 z hz; omega
      · exact h1
/-- in order, each once -/
def ascOf (l : List Int) : List Int := Lib.compact (l.mergeSort fun x y => decide (x ≤ y))
theorem compact_asc {l : List Int} (h : l.Pairwise (· ≤ ·)) : Asc (Lib.compact l) ∧ ∀ x, x ∈ Lib.compact l ↔ x ∈ l := by
  have hp : ∀ i j (hi : i < l.length) (hj : j < l.length), i < j → l[i] ≤ l[j] := fun i j hi hj hij => List.pairwise_iff_getElem.1 h i j hi hj hij
  have key : ∀ m, m ≤ l.length → Asc (Lib.compactUpTo l.toArray m) ∧ (∀ x, x ∈ Lib.compactUpTo l.toArray m ↔ x ∈ l.take m) := by
    intro m
    induction m with
    | zero => intro _; simp [Lib.compactUpTo, Asc]
    | succ m ih =>
      intro hm
      obtain ⟨i1, i2⟩ := ih (by omega)
      have hg : l.toArray[m]! = l[m] := by rw [getElem!_pos l.toArray m (by simp; omega)]; simp
      rw [Lib.compactUpTo_succ, hg]
      have ht : l.take (m + 1) = l.take m ++ [l[m]] := by simp
      by_cases hk : Lib.keeps l.toArray m = true
      · rw [if_pos hk]
        refine ⟨List.pairwise_append.2 ⟨i1, by simp, fun x hx y hy => ?_⟩, fun x => by rw [ht, List.mem_append, List.mem_append, i2 x]⟩
        obtain rfl : y = l[m] := by simpa using hy
        obtain ⟨j, hj, rfl⟩ := List.mem_iff_getElem.1 ((i2 x).1 hx)
        rw [List.length_take] at hj
        rw [List.getElem_take]
        have hm0 : m ≠ 0 := by omega
        have hne : l[m] ≠ l[m - 1] := by
          have e2 : l.toArray[m - 1]! = l[m - 1] := by rw [getElem!_pos l.toArray (m - 1) (by simp; omega)]; simp
          intro e
          unfold Lib.keeps at hk
          rw [hg, e2] at hk
          simp [hm0, e] at hk
        have h1 : l[m - 1] ≤ l[m] := hp _ _ _ _ (by omega)
        have h2 : l[j] ≤ l[m - 1] := by
          by_cases hj1 : j = m - 1
          · subst hj1; omega
          · exact hp _ _ _ _ (by omega)
        omega
      · rw [if_neg hk, List.append_nil]
        refine ⟨i1, fun x => ?_⟩
        rw [i2 x, ht, List.mem_append]
        have hm0 : m ≠ 0 := by intro e; subst e; exact hk (by simp [Lib.keeps])
        have hne : l[m] = l[m - 1] := by
          have e2 : l.toArray[m - 1]! = l[m - 1] := by rw [getElem!_pos l.toArray (m - 1) (by simp; omega)]; simp
          unfold Lib.keeps at hk
          by_cases e : l[m] = l[m - 1]
          · exact e
          · exfalso; apply hk; rw [hg, e2]; simp [e, hm0]
        constructor
        · exact .inl
        · rintro (h | h)
          · exact h
          · obtain rfl : x = l[m] := by simpa using h
            rw [hne]
            exact List.mem_iff_getElem.2 ⟨m - 1, by simp; omega, by simp⟩
  have := key l.length (Nat.le_refl _)
  rw [List.take_length] at this
  exact this
theorem ascOf_asc (l : List Int) : Asc (ascOf l) := (compact_asc (by
  have := List.pairwise_mergeSort (le := fun x y : Int => decide (x ≤ y)) (fun a b c h1 h2 => by simp at *; omega) (fun a b => by simp; omega) l
  exact this.imp fun h => by simpa using h)).1
theorem ascOf_mem (l : List Int) (x : Int) : x ∈ ascOf l ↔ x ∈ l := ((compact_asc (by
  have := List.pairwise_mergeSort (le := fun x y : Int => decide (x ≤ y)) (fun a b c h1 h2 => by simp at *; omega) (fun a b => by simp; omega) l
  exact this.imp fun h => by simpa using h)).2 x).trans List.mem_mergeSort
theorem ascOf_len (l : List Int) : (ascOf l).length ≤ l.length := by
  have : (Lib.compact (l.mergeSort fun x y => decide (x ≤ y))).length ≤ (l.mergeSort fun x y => decide (x ≤ y)).length := by
    unfold Lib.compact Lib.compactUpTo
    rw [List.length_map]
    exact Nat.le_trans (List.length_filter_le ..) (by simp)
  rw [List.length_mergeSort] at this
  exact this
theorem compact_ne {l : List Int} (h : l ≠ []) : Lib.compact l ≠ [] := by
  obtain ⟨n, hn⟩ : ∃ n, l.length = n + 1 := ⟨l.length - 1, by have := List.length_pos_iff.2 h; omega⟩
  have key : ∀ m, Lib.compactUpTo l.toArray (m + 1) ≠ [] := by
    intro m
    induction m with
    | zero => rw [Lib.compactUpTo_succ]; simp [Lib.keeps]
    | succ m ih => rw [Lib.compactUpTo_succ]; intro e; exact ih (List.append_eq_nil_iff.1 e).1
  unfold Lib.compact
  rw [hn]
  exact key n
theorem compact_len (l : List Int) : (Lib.compact l).length ≤ l.length := by
  unfold Lib.compact Lib.compactUpTo
  rw [List.length_map]
  exact Nat.le_trans (List.length_filter_le ..) (by simp)
end Go.Proofs

set_option linter.unusedVariables false
set_option linter.unusedSimpArgs false
namespace Go.Proofs
open Go Go.Ev
set_option maxRecDepth 100000
variable {X : Rel3}
def rng (a lo hi : Int) : Bool := decide (lo ≤ a) && decide (a ≤ hi)
theorem rng_iff {a lo hi : Int} : rng a lo hi = true ↔ lo ≤ a ∧ a ≤ hi := by simp [rng]
theorem in_t (a lo hi : Int) : Tells Try.prog E0 X 42 [iA a, iA lo, iA hi] (bA (rng a lo hi)) := by
  refine Tells.by Try.func42 (by simp [Try.f42]) (Body.i rfl rfl rfl (fun _ => rfl) fun f => ?_)
  repeat' (first
     | refine wp_seq_i ?_ | refine wp_region_i ?_ | refine Run.done rfl ?_ | refine then_n ?_ | refine then_r ?_ | refine then_e ?_ | refine Run.go1 rfl ?_ | refine wp_skip_i ?_ | refine wp_ret_i ?_ | refine wp_exit_i ?_
     | refine wp_block_i ?_ | refine block_n ?_ | refine block_r ?_ | refine block_e ?_ | refine block_o rfl ?_ | refine wp_cond_t rfl ?_ | refine wp_cond_f rfl ?_ | (refine Run.splitG rfl rfl rfl rfl rfl rfl ?_ ?_ <;> intro _)
     | (refine Run.splitP rfl rfl rfl rfl ?_ ?_ <;> intro _) | (refine wp_cond_i rfl ?_ ?_ <;> intro _))
  all_goals (refine ret_m [] rfl rfl ?_; simp_all [rng] <;> omega)
theorem l1In_t (a lo hi : Int) : Tells Try.prog E0 X 45 [iA a, iA lo, iA hi] (bA (rng a lo hi)) := by
  refine Tells.by Try.func45 (by simp [Try.f45]) (Body.i rfl rfl rfl (fun _ => rfl) fun f => ?_)
  repeat' (first
     | refine wp_seq_i ?_ | refine wp_region_i ?_ | refine Run.done rfl ?_ | refine then_n ?_ | refine then_r ?_ | refine then_e ?_ | refine Run.go1 rfl ?_ | refine wp_skip_i ?_ | refine wp_ret_i ?_ | refine wp_exit_i ?_
     | refine wp_block_i ?_ | refine block_n ?_ | refine block_r ?_ | refine block_e ?_ | refine block_o rfl ?_ | refine wp_cond_t rfl ?_ | refine wp_cond_f rfl ?_ | (refine Run.splitG rfl rfl rfl rfl rfl rfl ?_ ?_ <;> intro _)
     | (refine Run.splitP rfl rfl rfl rfl ?_ ?_ <;> intro _) | (refine wp_cond_i rfl ?_ ?_ <;> intro _))
  all_goals (refine ret_m [] rfl rfl ?_; simp_all [rng] <;> omega)
def lamOk (p : Piece) : Bool := (p.lam == -1 && p.in_ == 0) || (rng p.lam 0 149 && decide (1 ≤ p.in_))
theorem lamOk_t (p : Piece) : Tells Try.prog E0 X 62 [p.a false] (bA (lamOk p)) := by
  refine Tells.by Try.func62 (by simp [Try.f62]) (Body.i rfl rfl rfl (fun _ => rfl) fun f => ?_)
  repeat' (first
     | refine wp_seq_i ?_ | refine wp_region_i ?_ | refine Run.done rfl ?_ | refine then_n ?_ | refine then_r ?_ | refine then_e ?_ | refine Run.go1 rfl ?_ | refine wp_skip_i ?_ | refine wp_ret_i ?_ | refine wp_exit_i ?_
     | refine wp_block_i ?_ | refine block_n ?_ | refine block_r ?_ | refine block_e ?_ | refine block_o rfl ?_ | refine wp_cond_t rfl ?_ | refine wp_cond_f rfl ?_ | refine Run.call rfl rfl rfl (in_t _ _ _) rfl rfl ?_
     | (refine Run.splitG rfl rfl rfl rfl rfl rfl ?_ ?_ <;> intro _) | (refine Run.splitP rfl rfl rfl rfl ?_ ?_ <;> intro _) | (refine wp_cond_i rfl ?_ ?_ <;> intro _))
  all_goals (refine ret_m [] rfl rfl ?_; simp_all [lamOk])
end Go.Proofs

set_option linter.unusedVariables false
set_option linter.unusedSimpArgs false
namespace Go.Proofs
open Go Go.Ev
set_option maxRecDepth 100000
variable {X : Rel3}
def uD (op : Int) : Bool := op == 1 || op == 2 || op == 3 || op == 8 || op == 4 || op == 9 || op == 10 || op == 5 || op == 6 || op == 7 || op == 14 || op == 17
def uX (op : Int) : Bool := op == 4 || op == 9 || op == 10 || op == 5 || op == 6 || op == 7 || op == 14 || op == 11 || op == 12 || op == 15 || op == 16
def uY (op : Int) : Bool := op == 5 || op == 6 || op == 7 || op == 14
def uT (op : Int) : Bool := op == 11 || op == 12 || op == 13 || op == 17
theorem l9Uses_t (op : Int) : Tells Try.prog E0 X 72 [iA op] (.ag [bA (uD op), bA (uX op), bA (uY op), bA (uT op)]) := by
  refine Tells.by Try.func72 (by simp [Try.f72]) (Body.i rfl rfl rfl (fun _ => rfl) fun f => ?_)
  repeat' (first
     | refine wp_seq_i ?_ | refine wp_region_i ?_ | refine Run.done rfl ?_ | refine then_n ?_ | refine then_r ?_ | refine then_e ?_ | refine Run.go1 rfl ?_ | refine wp_skip_i ?_ | refine wp_ret_i ?_ | refine wp_exit_i ?_
     | refine wp_block_i ?_ | refine block_n ?_ | refine block_r ?_ | refine block_e ?_ | refine block_o rfl ?_ | refine wp_cond_t rfl ?_ | refine wp_cond_f rfl ?_ | (refine wp_cond_k rfl rfl rfl ?_ ?_ <;> intro _)
     | (refine wp_cond_i rfl ?_ ?_ <;> intro _))
  all_goals (refine ret_m [] rfl rfl ?_; simp_all [uD, uX, uY, uT])
def l9Reg (has : Bool) (r regs : Int) : Bool := if has then rng r 0 (IntKind.i64.wrap (regs - 1)) else r == 0
theorem l9Reg_t (has : Bool) (r regs : Int) : Tells Try.prog E0 X 86 [bA has, iA r, iA regs] (bA (l9Reg has r regs)) := by
  refine Tells.by Try.func86 (by simp [Try.f86]) (Body.i rfl rfl rfl (fun _ => rfl) fun f => ?_)
  repeat' (first
     | refine wp_seq_i ?_ | refine wp_region_i ?_ | refine Run.done rfl ?_ | refine then_n ?_ | refine then_r ?_ | refine then_e ?_ | refine Run.go1 rfl ?_ | refine wp_skip_i ?_ | refine wp_ret_i ?_ | refine wp_exit_i ?_
     | refine wp_block_i ?_ | refine block_n ?_ | refine block_r ?_ | refine block_e ?_ | refine block_o rfl ?_ | refine wp_cond_t rfl ?_ | refine wp_cond_f rfl ?_ | refine Run.call rfl rfl rfl (l1In_t _ _ _) rfl rfl ?_
     | (refine wp_cond_k rfl rfl rfl ?_ ?_ <;> intro _) | (refine wp_cond_i rfl ?_ ?_ <;> intro _))
  all_goals (refine ret_m [] rfl rfl ?_; simp_all [l9Reg])
end Go.Proofs

set_option linter.unusedVariables false
set_option linter.unusedSimpArgs false
namespace Go.Proofs
open Go Go.Ev
set_option maxRecDepth 100000
variable {X : Rel3}
def sumB : List Int → Int → Int
  | [], n => n
  | x :: r, n => sumB r ((IntKind.i64.wrap (IntKind.i64.wrap (n * 31) + IntKind.i64.wrap x)).tmod 65521)
end Go.Proofs

set_option linter.unusedVariables false
set_option linter.unusedSimpArgs false
set_option maxHeartbeats 4000000
namespace Go.Proofs
open Go Go.Ev
set_option maxRecDepth 100000
variable {X : Rel3}
theorem w_pred {n : Int} (h0 : -9223372036854775807 ≤ n) (h1 : n ≤ 9223372036854775807) : IntKind.i64.wrap (n - 1) = n - 1 := by rw [w64] <;> omega
theorem map_at {α β : Type} {f : α → β} {l : List α} {k : Nat} (h : k < l.length) : (l.map f)[k]? = some (f l[k]) := by simp [h]
theorem all_step {α : Type} {f : α → Bool} {l : List α} {k : Nat} (h : k < l.length) : (l.drop k).all f = (f l[k] && (l.drop (k + 1)).all f) := by
  rw [List.drop_eq_getElem_cons h, List.all_cons]
def asc : List Int → Bool
  | [] => true
  | [_] => true
  | x :: y :: r => decide (x < y) && asc (y :: r)
theorem asc_step {l : List Int} {k : Nat} (h : k + 1 < l.length) : asc (l.drop k) = (decide (l[k] < l[k + 1]) && asc (l.drop (k + 1))) := by
  rw [List.drop_eq_getElem_cons (show k < l.length by omega), List.drop_eq_getElem_cons h, asc]
theorem asc_end {l : List Int} {k : Nat} (h : l.length ≤ k + 1) : asc (l.drop k) = true := by
  have : (l.drop k).length ≤ 1 := by simp; omega
  match h : l.drop k with
  | [] => rfl
  | [_] => rfl
  | _ :: _ :: _ => rw [h] at this; simp at this
def regB (has : Bool) (r regs : Int) : Bool := if has then rng r 0 (regs - 1) else r == 0
def allR (l : List Int) (hi : Int) : Bool := l.all fun r => rng r 0 hi
theorem allR_step {l : List Int} {hi : Int} {k : Nat} (h : k < l.length) : allR (l.drop k) hi = (rng l[k] 0 hi && allR (l.drop (k + 1)) hi) := all_step h
def numB (regs : Int) (i : Ins) : Bool :=
  if i.op = 1 then rng i.n (-1000000) 1000000
  else if i.op = 2 then rng i.n 0 1
  else if i.op = 5 then rng i.n 1 5
  else if i.op = 8 then allR i.l (regs - 1) && (rng i.n 0 149 && decide ((i.l.length : Int) < 100))
  else if i.op = 14 then asc i.l && (i.n == 0 && decide ((i.l.length : Int) ≤ 200))
  else i.n == 0
def insB (regs n : Int) (i : Ins) : Bool :=
  rng i.op 1 18 && regB (uD i.op) i.d regs && regB (uX i.op) i.x regs && regB (uY i.op) i.y regs && (if uT i.op then rng i.to_ 0 (n - 1) else i.to_ == 0) &&
  (i.op == 8 || i.op == 14 || !decide (0 < (i.l.length : Int))) && numB regs i
def k_l9Ins : List (Nat × List Nat) := [(0, [2, 3]), (1, [2, 3, 5]), (2, [2, 3, 68]), (3, [4]), (4, [2, 3, 82]), (5, [4]), (6, [2, 3, 84]), (7, [2, 3, 84, 85]), (8, [4]), (9, [2, 3, 84, 90]), (10, [4]), (11, [2, 3, 84, 95]), (12, [4]), (13, [2, 3, 84, 100]), (14, [2, 3, 6]), (15, [2, 3, 6, 106]), (16, [2, 3, 6]), (17, [2, 3, 6, 118]), (18, [4]), (19, [4]), (20, [3, 128]), (21, [3, 7]), (22, [3, 7, 134]), (23, [3, 7]), (24, [3, 7, 148]), (25, [4]), (26, [4]), (27, [4])]
theorem l9Ins_t (p : Piece) (i : Ins) (hr : 0 ≤ p.regs ∧ p.regs ≤ 400) (hn : p.ins.length ≤ 600) (hl : i.l.length ≤ 1048576) : Tells Try.prog E0 X 60 [p.a false, i.a false] (bA (insB p.regs p.ins.length i)) := by
  have hw : IntKind.i64.wrap (p.regs - 1) = p.regs - 1 := w_pred (by omega) (by omega)
  have hv : IntKind.i64.wrap ((p.ins.length : Int) - 1) = p.ins.length - 1 := w_pred (by omega) (by omega)
  have hreg : ∀ b r, Tells Try.prog E0 X 86 [bA b, iA r, iA p.regs] (bA (regB b r p.regs)) := by intro b r; have := l9Reg_t (X := X) b r p.regs; simpa only [l9Reg, regB, hw] using this
  refine Tells.by Try.func60 (by simp [Try.f60]) (Body.i rfl rfl rfl (fun _ => rfl) fun f => ?_)
  repeat' (first
     | refine wp_seq_i ?_ | refine wp_region_t k_l9Ins rfl ?_ | refine Run.done rfl ?_ | refine then_n ?_ | refine then_r ?_ | refine then_e ?_ | refine Run.go1 rfl ?_ | refine wp_skip_i ?_ | refine wp_ret_i ?_
     | refine wp_exit_i ?_ | refine wp_block_i ?_ | refine block_n ?_ | refine block_r ?_ | refine block_e ?_ | refine block_o rfl ?_ | refine wp_cond_t rfl ?_ | refine wp_cond_f rfl ?_ | refine Run.gT rfl rfl rfl rfl ?_
     | refine Run.pT rfl rfl ?_ | (refine Run.splitG rfl rfl rfl rfl rfl rfl ?_ ?_ <;> intro _) | (refine Run.splitP rfl rfl rfl rfl ?_ ?_ <;> intro _) | refine Run.call rfl rfl rfl (l1In_t _ _ _) rfl rfl ?_
     | refine Run.call rfl rfl rfl (l9Uses_t _) rfl rfl ?_ | refine Run.call rfl rfl rfl (hreg _ _) rfl rfl ?_ | refine Run.one rfl rfl rfl ?_ | (refine wp_cond_k rfl rfl rfl ?_ ?_ <;> intro _)
     | (refine wp_cond_i rfl ?_ ?_ <;> intro _))
  any_goals (refine ret_m [] rfl rfl ?_; first | (simp_all [insB]; done) | (simp_all [insB, numB]; done))
  any_goals (exfalso; clear hreg hw hv; simp_all [uT]; done)
  · refine wp_loop_k (α := Nat) [.keep [3, 7] [3]] (fun k => [(7, iA k)]) (fun _ => []) (fun _ => []) (fun k => (1 ≤ k ∧ k ≤ i.l.length + 1) ∧ asc (i.l.drop (k - 1)) = asc i.l) (fun k => i.l.length - k) 1 rfl (fun _ => rfl) rfl ?_ ?_
    · simp
    rintro k ⟨hk, hI⟩
    by_cases hlt : k < i.l.length
    · have hx : (i.l.map iR)[k]? = some (iR i.l[k]) := by simp [hlt]
      have hy : (i.l.map iR)[k - 1]? = some (iR (i.l[k - 1]'(by omega))) := by simp [hlt] <;> omega
      have hkk : IntKind.i64.wrap ((k : Int) - 1) = ((k - 1 : Nat) : Int) := by rw [w_pred] <;> omega
      have hst := asc_step (l := i.l) (k := k - 1) (by omega)
      have e1 : k - 1 + 1 = k := by omega
      simp only [e1] at hst
      repeat' (first
         | refine wp_seq_i ?_ | refine wp_region_t k_l9Ins rfl ?_ | refine Run.done rfl ?_ | refine then_n ?_ | refine then_r ?_ | refine then_e ?_ | refine Run.go1 rfl ?_ | refine wp_skip_i ?_ | refine wp_ret_i ?_
         | refine wp_exit_i ?_ | refine wp_block_i ?_ | refine block_n ?_ | refine block_r ?_ | refine block_e ?_ | refine block_o rfl ?_ | refine wp_cond_t rfl ?_ | refine wp_cond_f rfl ?_
         | refine wp_region_qt k_l9Ins rfl 12 rfl rfl rfl ?_ | refine RunQ.go1 rfl ?_ | refine RunQ.done rfl ?_ | refine RunQ.ix rfl rfl rfl rfl rfl rfl rfl hx rfl rfl rfl ?_
         | refine RunQ.ix rfl rfl rfl rfl rfl rfl hkk hy rfl rfl rfl ?_ | (refine wp_cond_k rfl rfl rfl ?_ ?_ <;> intro _) | (refine wp_cond_i rfl ?_ ?_ <;> intro _))
      · rename_i h1 h2
        refine ret_m [] rfl rfl ?_
        have : asc i.l = false := by rw [← hI, hst]; simp at h2; simp; omega
        simp_all [insB, numB]
      · rename_i h1 h2
        refine back_i [.keep [3, 7] [3]] (k + 1) rfl ?_ ⟨by omega, ?_⟩ (by omega)
        · simp only [w_succ hlt (by omega)]
        · rw [← hI, hst]; simp at h2; simp; omega
      · rename_i h; simp [hlt] at h
    · have hend := asc_end (l := i.l) (k := k - 1) (by omega)
      repeat' (first
         | refine wp_seq_i ?_ | refine wp_region_t k_l9Ins rfl ?_ | refine Run.done rfl ?_ | refine then_n ?_ | refine then_r ?_ | refine then_e ?_ | refine Run.go1 rfl ?_ | refine wp_skip_i ?_ | refine wp_ret_i ?_
         | refine wp_exit_i ?_ | refine wp_block_i ?_ | refine block_n ?_ | refine block_r ?_ | refine block_e ?_ | refine block_o rfl ?_ | refine wp_cond_t rfl ?_ | refine wp_cond_f rfl ?_ | refine Run.gT rfl rfl rfl rfl ?_
         | refine Run.pT rfl rfl ?_ | (refine Run.splitG rfl rfl rfl rfl rfl rfl ?_ ?_ <;> intro _) | (refine Run.splitP rfl rfl rfl rfl ?_ ?_ <;> intro _) | (refine wp_cond_k rfl rfl rfl ?_ ?_ <;> intro _)
         | (refine wp_cond_i rfl ?_ ?_ <;> intro _))
      · rename_i h; simp [hlt] at h
      all_goals (refine ret_m [] rfl rfl ?_; simp_all [insB, numB])
  · refine wp_loop_k (α := Nat) [.keep [2, 3, 6] [2, 3]] (fun k => [(6, iA k)]) (fun _ => []) (fun _ => []) (fun k => k ≤ i.l.length ∧ allR (i.l.drop k) (p.regs - 1) = allR i.l (p.regs - 1)) (fun k => i.l.length - k) 0 rfl (fun _ => rfl) rfl ?_ ?_
    · simp
    rintro k ⟨hk, hI⟩
    by_cases hlt : k < i.l.length
    · have hx : (i.l.map iR)[k]? = some (iR i.l[k]) := by simp [hlt]
      rw [allR_step hlt] at hI
      repeat' (first
         | refine wp_seq_i ?_ | refine wp_region_t k_l9Ins rfl ?_ | refine Run.done rfl ?_ | refine then_n ?_ | refine then_r ?_ | refine then_e ?_ | refine Run.go1 rfl ?_ | refine wp_skip_i ?_ | refine wp_ret_i ?_
         | refine wp_exit_i ?_ | refine wp_block_i ?_ | refine block_n ?_ | refine block_r ?_ | refine block_e ?_ | refine block_o rfl ?_ | refine wp_cond_t rfl ?_ | refine wp_cond_f rfl ?_
         | refine wp_region_qt k_l9Ins rfl 10 rfl rfl rfl ?_ | refine RunQ.go1 rfl ?_ | refine RunQ.done rfl ?_ | refine RunQ.ix rfl rfl rfl rfl rfl rfl rfl hx rfl rfl rfl ?_
         | refine RunQ.call rfl rfl rfl rfl rfl rfl (l1In_t _ _ _) (.inl rfl) rfl rfl ?_ | (refine wp_cond_k rfl rfl rfl ?_ ?_ <;> intro _) | (refine wp_cond_i rfl ?_ ?_ <;> intro _))
      · rename_i h1 h2
        refine ret_m [] rfl rfl ?_
        rw [hw] at h2
        have : allR i.l (p.regs - 1) = false := by rw [← hI]; simp at h2; simp [h2]
        simp_all [insB, numB]
      · rename_i h1 h2
        refine back_i [.keep [2, 3, 6] [2, 3]] (k + 1) rfl ?_ ⟨by omega, ?_⟩ (by omega)
        · simp only [w_succ hlt (by omega)]
        · rw [hw] at h2; rw [← hI]; simp at h2; simp [h2]
      · rename_i h; simp [hlt] at h
    · have hk : k = i.l.length := by omega
      subst hk
      have hI : allR i.l (p.regs - 1) = true := by rw [← hI]; simp [allR]
      repeat' (first
         | refine wp_seq_i ?_ | refine wp_region_t k_l9Ins rfl ?_ | refine Run.done rfl ?_ | refine then_n ?_ | refine then_r ?_ | refine then_e ?_ | refine Run.go1 rfl ?_ | refine wp_skip_i ?_ | refine wp_ret_i ?_
         | refine wp_exit_i ?_ | refine wp_block_i ?_ | refine block_n ?_ | refine block_r ?_ | refine block_e ?_ | refine block_o rfl ?_ | refine wp_cond_t rfl ?_ | refine wp_cond_f rfl ?_ | refine Run.gT rfl rfl rfl rfl ?_
         | refine Run.pT rfl rfl ?_ | (refine Run.splitG rfl rfl rfl rfl rfl rfl ?_ ?_ <;> intro _) | (refine Run.splitP rfl rfl rfl rfl ?_ ?_ <;> intro _) | refine Run.call rfl rfl rfl (l1In_t _ _ _) rfl rfl ?_
         | (refine wp_cond_k rfl rfl rfl ?_ ?_ <;> intro _) | (refine wp_cond_i rfl ?_ ?_ <;> intro _))
      · rename_i h; simp at h
      all_goals (refine ret_m [] rfl rfl ?_; simp_all [insB, numB])
end Go.Proofs

set_option linter.unusedVariables false
set_option linter.unusedSimpArgs false
set_option maxHeartbeats 4000000
namespace Go.Proofs
open Go Go.Ev
set_option maxRecDepth 100000
variable {X : Rel3}
def headB (p : Piece) : Bool := lamOk p && rng p.regs p.in_ 400 && rng p.ins.length 1 600
theorem headB_iff {p : Piece} : headB p = true ↔ ((p.lam = -1 ∧ p.in_ = 0) ∨ (0 ≤ p.lam ∧ p.lam ≤ 149 ∧ 1 ≤ p.in_)) ∧ p.in_ ≤ p.regs ∧ p.regs ≤ 400 ∧ 1 ≤ p.ins.length ∧ p.ins.length ≤ 600 := by
  simp [headB, lamOk, rng]; omega
def lastB (l : List Ins) : Bool := match l.getLast? with
  | some i => i.op == 15 || i.op == 13
  | none => false
theorem lastB_eq {l : List Ins} (h : 0 < l.length) : lastB l = (l[l.length - 1].op == 15 || l[l.length - 1].op == 13) := by
  simp only [lastB, List.getLast?_eq_getElem?, List.getElem?_eq_getElem (show l.length - 1 < l.length by omega)]
def allI (regs n : Int) (l : List Ins) : Bool := l.all (insB regs n)
theorem allI_step {regs n : Int} {l : List Ins} {k : Nat} (h : k < l.length) : allI regs n (l.drop k) = (insB regs n l[k] && allI regs n (l.drop (k + 1))) := all_step h
def pieceB (p : Piece) : Bool := headB p && (allI p.regs p.ins.length p.ins && lastB p.ins)
def k_l9Piece : List (Nat × List Nat) := [(0, [1]), (1, [1, 3]), (2, [1, 3, 49]), (3, [2]), (4, [1, 3, 4]), (5, [1, 3, 4, 52]), (6, [1, 3, 4]), (7, [1, 3, 4, 62]), (8, [2]), (9, [2])]
theorem l9Piece_t (p : Piece) (hp : p.ok) : Tells Try.prog E0 X 30 [p.a false] (bA (pieceB p)) := by
  refine Tells.by Try.func30 (by simp [Try.f30]) (Body.i rfl rfl rfl (fun _ => rfl) fun f => ?_)
  repeat' (first
     | refine wp_seq_i ?_ | refine wp_region_t k_l9Piece rfl ?_ | refine Run.done rfl ?_ | refine then_n ?_ | refine then_r ?_ | refine then_e ?_ | refine Run.go1 rfl ?_ | refine wp_skip_i ?_ | refine wp_ret_i ?_
     | refine wp_exit_i ?_ | refine wp_block_i ?_ | refine block_n ?_ | refine block_r ?_ | refine block_e ?_ | refine block_o rfl ?_ | refine wp_cond_t rfl ?_ | refine wp_cond_f rfl ?_ | refine Run.gT rfl rfl rfl rfl ?_
     | refine Run.pT rfl rfl ?_ | (refine Run.splitG rfl rfl rfl rfl rfl rfl ?_ ?_ <;> intro _) | (refine Run.splitP rfl rfl rfl rfl ?_ ?_ <;> intro _) | refine Run.call rfl rfl rfl (l1In_t _ _ _) rfl rfl ?_
     | (refine wp_cond_k rfl rfl rfl ?_ ?_ <;> intro _) | (refine wp_cond_i rfl ?_ ?_ <;> intro _))
  any_goals (refine ret_m [] rfl rfl ?_; have : headB p = false := Bool.eq_false_iff.2 (fun h => by have := headB_iff.1 h; simp [rng] at *; omega); simp [pieceB, this])
  all_goals (
    have hh : headB p = true := by (refine headB_iff.2 ?_; simp [rng] at *; omega)
    have hh' := headB_iff.1 hh
    have hv : IntKind.i64.wrap (((p.ins.map (Ins.c false)).length : Int) - 1) = ((p.ins.length - 1 : Nat) : Int) := by rw [List.length_map, w_pred] <;> omega
    refine wp_loop_k (α := Nat) [.keep [1, 3, 4] [1]] (fun k => [(4, iA k)]) (fun _ => []) (fun _ => []) (fun k => k ≤ p.ins.length ∧ allI p.regs p.ins.length (p.ins.drop k) = allI p.regs p.ins.length p.ins) (fun k => p.ins.length - k) 0 rfl (fun _ => rfl) (by simp) ?_ ?_
    · simp
    rintro k ⟨hk, hI⟩
    by_cases hlt : k < p.ins.length
    · have hx : (p.ins.map (Ins.c false))[k]? = some (Ins.c false p.ins[k]) := by simp [hlt]
      rw [allI_step hlt] at hI
      repeat' (first
         | refine wp_seq_i ?_ | refine wp_region_t k_l9Piece rfl ?_ | refine Run.done rfl ?_ | refine then_n ?_ | refine then_r ?_ | refine then_e ?_ | refine Run.go1 rfl ?_ | refine wp_skip_i ?_ | refine wp_ret_i ?_
         | refine wp_exit_i ?_ | refine wp_block_i ?_ | refine block_n ?_ | refine block_r ?_ | refine block_e ?_ | refine block_o rfl ?_ | refine wp_cond_t rfl ?_ | refine wp_cond_f rfl ?_
         | refine wp_region_qt k_l9Piece rfl 8 rfl rfl rfl ?_ | refine RunQ.go1 rfl ?_ | refine RunQ.done rfl ?_ | refine RunQ.ix rfl rfl rfl rfl rfl rfl rfl hx rfl rfl rfl ?_
         | refine RunQ.call rfl rfl rfl rfl rfl rfl (l9Ins_t p p.ins[k] (by omega) (by omega) (hp.2 _ (List.getElem_mem hlt))) (.inl rfl) rfl rfl ?_ | (refine wp_cond_k rfl rfl rfl ?_ ?_ <;> intro _)
         | (refine wp_cond_i rfl ?_ ?_ <;> intro _))
      · rename_i h1 h2
        refine ret_m [] rfl rfl ?_
        have : allI p.regs p.ins.length p.ins = false := by rw [← hI]; simp at h2; simp [h2]
        simp [pieceB, this]
      · rename_i h1 h2
        refine back_i [.keep [1, 3, 4] [1]] (k + 1) rfl ?_ ⟨by omega, ?_⟩ (by omega)
        · simp only [w_succ hlt (by omega)]
        · rw [← hI]; simp at h2; simp [h2]
      · rename_i h; simp [hlt] at h
    · have hk : k = p.ins.length := by omega
      subst hk
      have hI : allI p.regs p.ins.length p.ins = true := by rw [← hI]; simp [allI]
      have hx : (p.ins.map (Ins.c false))[p.ins.length - 1]? = some (Ins.c false (p.ins[p.ins.length - 1]'(by omega))) := map_at (by omega)
      have hl := lastB_eq (l := p.ins) (by omega)
      repeat' (first
         | refine wp_seq_i ?_ | refine wp_region_t k_l9Piece rfl ?_ | refine Run.done rfl ?_ | refine then_n ?_ | refine then_r ?_ | refine then_e ?_ | refine Run.go1 rfl ?_ | refine wp_skip_i ?_ | refine wp_ret_i ?_
         | refine wp_exit_i ?_ | refine wp_block_i ?_ | refine block_n ?_ | refine block_r ?_ | refine block_e ?_ | refine block_o rfl ?_ | refine wp_cond_t rfl ?_ | refine wp_cond_f rfl ?_ | refine Run.gT rfl rfl rfl rfl ?_
         | refine Run.pT rfl rfl ?_ | (refine Run.splitG rfl rfl rfl rfl rfl rfl ?_ ?_ <;> intro _) | (refine Run.splitP rfl rfl rfl rfl ?_ ?_ <;> intro _) | refine Run.ix rfl rfl rfl rfl rfl rfl hv hx rfl rfl rfl ?_
         | (refine wp_cond_k rfl rfl rfl ?_ ?_ <;> intro _) | (refine wp_cond_i rfl ?_ ?_ <;> intro _))
      any_goals (refine ret_m [] rfl rfl ?_; simp_all [pieceB]; done)
      all_goals (rename_i h; simp at h))
end Go.Proofs

set_option linter.unusedVariables false
set_option linter.unusedSimpArgs false
set_option maxHeartbeats 4000000
namespace Go.Proofs
open Go Go.Ev
set_option maxRecDepth 100000
variable {X : Rel3}
theorem shrI_b (l : List Int) : shrR (l.map iR) = l.map iR := by
  induction l with
  | nil => rfl
  | cons x r ih => simp [shrR, shrL, T.shr, ih]
theorem ownI_b (l : List Int) : ownR (l.map iR) := by
  induction l with
  | nil => simp [ownR]
  | cons x r ih => simp [ownR, ownL, T.own, ih]
theorem l10Add_s (l : List Int) (n : Int) (hl : l.length ≤ 1000000000000) : Tells Try.prog E0 X 40 [.t (.sl false (shrR (l.map iR))), iA n] (.t (.sl true ((addGo n false l).map iR))) := by rw [shrI_b]; exact l10Add_t l n hl
def jumpB (op : Int) : Bool := uT op || op == 15 || op == 16 || op == 14
/-- the leaders that an instruction makes -/
def leadAdd (n i : Nat) (x : Ins) : List Int := (if uT x.op then [x.to_] else []) ++ (if jumpB x.op && decide (i + 1 < n) then [((i + 1 : Nat) : Int)] else [])
def addL (c l : List Int) : List Int := l.foldl (fun a m => addGo m false a) c
def leadGo (n : Nat) : List Ins → Nat → List Int → List Int
  | [], _, c => c
  | x :: r, i, c => leadGo n r (i + 1) (addL c (leadAdd n i x))
def leads (l : List Ins) : List Int := leadGo l.length l 0 [0]
theorem addL_len : ∀ (l c : List Int), (addL c l).length ≤ c.length + l.length
  | [], c => by simp [addL]
  | x :: r, c => by
    have h1 := addGo_len x false c
    have h2 := addL_len r (addGo x false c)
    simp [addL] at h1 h2 ⊢; omega
theorem leadAdd_len (n i : Nat) (x : Ins) : (leadAdd n i x).length ≤ 2 := by unfold leadAdd; split <;> split <;> simp
theorem leadGo_len (n : Nat) : ∀ (l : List Ins) (i : Nat) (c : List Int), (leadGo n l i c).length ≤ c.length + 2 * l.length
  | [], _, c => by simp [leadGo]
  | x :: r, i, c => by
    have h1 := leadGo_len n r (i + 1) (addL c (leadAdd n i x))
    have h2 := addL_len (leadAdd n i x) c
    have h3 := leadAdd_len n i x
    rw [leadGo]; simp only [List.length_cons]; omega
theorem leads_len (l : List Ins) : (leads l).length ≤ 1 + 2 * l.length := by have := leadGo_len l.length l 0 [0]; simpa [leads] using this
def k_l20Lead : List (Nat × List Nat) := [(0, [1]), (1, [1, 3]), (2, [1, 3, 4]), (3, [1, 3, 4, 12]), (4, [1, 3, 4]), (5, [1, 3, 4, 5]), (6, [1, 3, 4, 5, 6]), (7, [1, 3, 4, 5, 6, 24]), (8, [1, 3, 4, 5, 6]), (9, [1, 3, 4, 52]), (10, [1, 3, 4]), (11, [2])]
theorem l20Lead_t (p : Piece) (hp : p.ins.length ≤ 1048576) : Tells Try.prog E0 X 37 [p.a false] (.t (.sl true ((leads p.ins).map iR))) := by
  refine Tells.by Try.func37 (by simp [Try.f37]) (Body.i rfl rfl rfl (fun _ => rfl) fun f => ?_)
  repeat' (first
     | refine wp_seq_i ?_ | refine wp_region_t k_l20Lead rfl ?_ | refine Run.done rfl ?_ | refine then_n ?_ | refine then_r ?_ | refine then_e ?_ | refine Run.go1 rfl ?_ | refine wp_skip_i ?_ | refine wp_ret_i ?_
     | refine wp_exit_i ?_ | refine wp_block_i ?_ | refine block_n ?_ | refine block_r ?_ | refine block_e ?_ | refine block_o rfl ?_ | refine wp_cond_t rfl ?_ | refine wp_cond_f rfl ?_
     | (refine wp_cond_k rfl rfl rfl ?_ ?_ <;> intro _) | (refine wp_cond_i rfl ?_ ?_ <;> intro _))
  refine wp_loop_k (α := Nat × List Int) [.keep [1, 3, 4] [1, 7]] (fun q => [(4, iA q.1)]) (fun _ => []) (fun q => [(7, 0, q.2.map iR)]) (fun q => q.1 ≤ p.ins.length ∧ q.2.length ≤ 2 * q.1 + 1 ∧ leadGo p.ins.length (p.ins.drop q.1) q.1 q.2 = leads p.ins) (fun q => p.ins.length - q.1) (0, [0]) rfl (fun _ => rfl) rfl ⟨by simp, by simp, rfl⟩ ?_
  rintro ⟨k, c⟩ ⟨hk, hc, he⟩
  simp only at hk hc he
  by_cases hlt : k < p.ins.length
  · have hx : (p.ins.map (Ins.c false))[k]? = some (Ins.c false p.ins[k]) := by simp [hlt]
    rw [List.drop_eq_getElem_cons hlt, leadGo] at he
    generalize p.ins[k] = i at hx he
    have hw := w_succ hlt (by omega)
    repeat' (first
       | refine wp_seq_i ?_ | refine wp_region_t k_l20Lead rfl ?_ | refine Run.done rfl ?_ | refine then_n ?_ | refine then_r ?_ | refine then_e ?_ | refine Run.go1 rfl ?_ | refine wp_skip_i ?_ | refine wp_ret_i ?_
       | refine wp_exit_i ?_ | refine wp_block_i ?_ | refine block_n ?_ | refine block_r ?_ | refine block_e ?_ | refine block_o rfl ?_ | refine wp_cond_t rfl ?_ | refine wp_cond_f rfl ?_ | refine Run.gT rfl rfl rfl rfl ?_
       | refine Run.pT rfl rfl ?_ | (refine Run.splitG rfl rfl rfl rfl rfl rfl ?_ ?_ <;> intro _) | (refine Run.splitP rfl rfl rfl rfl ?_ ?_ <;> intro _) | refine Run.ix rfl rfl rfl rfl rfl rfl rfl hx rfl rfl rfl ?_
       | refine Run.call rfl rfl rfl (l9Uses_t _) rfl rfl ?_ | refine Run.callB rfl rfl rfl (l10Add_s _ _ (by simp; have := addGo_len i.to_ false c; simp at this; omega)) (by simp [AV.own, T.own, ownI_b]) rfl ?_
       | refine Run.callB rfl rfl rfl (l10Add_s _ _ (by simp; omega)) (by simp [AV.own, T.own, ownI_b]) rfl ?_ | (refine wp_cond_k rfl rfl rfl ?_ ?_ <;> intro _) | (refine wp_cond_i rfl ?_ ?_ <;> intro _))
    all_goals first
    | (exfalso; clear he hx; simp_all; done)
    | (have hA : leadAdd p.ins.length k i = [i.to_, ((k + 1 : Nat) : Int)] := by (clear he hx; simp only [hw, List.length_map] at *; simp_all [leadAdd, jumpB] <;> omega)
       have hl := addL_len (leadAdd p.ins.length k i) c
       rw [hA] at he hl
       refine back_i [.keep [1, 3, 4] [1, 56], .ren 56 7] (k + 1, addL c [i.to_, ((k + 1 : Nat) : Int)]) rfl ?_ ⟨by simp; omega, by simp at hl ⊢; omega, he⟩ (by simp; omega)
       simp only [hw, addL, List.foldl_cons, List.foldl_nil]; done)
    | (have hA : leadAdd p.ins.length k i = [((k + 1 : Nat) : Int)] := by (clear he hx; simp only [hw, List.length_map] at *; simp_all [leadAdd, jumpB] <;> omega)
       have hl := addL_len (leadAdd p.ins.length k i) c
       rw [hA] at he hl
       refine back_i [.keep [1, 3, 4] [1, 56], .ren 56 7] (k + 1, addL c [((k + 1 : Nat) : Int)]) rfl ?_ ⟨by simp; omega, by simp at hl ⊢; omega, he⟩ (by simp; omega)
       simp only [hw, addL, List.foldl_cons, List.foldl_nil]; done)
    | (have hA : leadAdd p.ins.length k i = [i.to_] := by (clear he hx; simp only [hw, List.length_map] at *; simp_all [leadAdd, jumpB] <;> omega)
       have hl := addL_len (leadAdd p.ins.length k i) c
       rw [hA] at he hl
       refine back_i [.keep [1, 3, 4] [1, 28], .ren 28 7] (k + 1, addL c [i.to_]) rfl ?_ ⟨by simp; omega, by simp at hl ⊢; omega, he⟩ (by simp; omega)
       simp only [hw, addL, List.foldl_cons, List.foldl_nil]; done)
    | (have hA : leadAdd p.ins.length k i = [] := by (clear he hx; simp only [hw, List.length_map] at *; simp_all [leadAdd, jumpB] <;> omega)
       have hl := addL_len (leadAdd p.ins.length k i) c
       rw [hA] at he hl
       refine back_i [.keep [1, 3, 4] [1, 7]] (k + 1, addL c []) rfl ?_ ⟨by simp; omega, by simp at hl ⊢; omega, he⟩ (by simp; omega)
       simp only [hw, addL, List.foldl_cons, List.foldl_nil]; done)
    | trace_state
  · have hjl : k = p.ins.length := by omega
    subst hjl
    rw [List.drop_length, leadGo] at he
    repeat' (first
       | refine wp_seq_i ?_ | refine wp_region_t k_l20Lead rfl ?_ | refine Run.done rfl ?_ | refine then_n ?_ | refine then_r ?_ | refine then_e ?_ | refine Run.go1 rfl ?_ | refine wp_skip_i ?_ | refine wp_ret_i ?_
       | refine wp_exit_i ?_ | refine wp_block_i ?_ | refine block_n ?_ | refine block_r ?_ | refine block_e ?_ | refine block_o rfl ?_ | refine wp_cond_t rfl ?_ | refine wp_cond_f rfl ?_
       | (refine wp_cond_k rfl rfl rfl ?_ ?_ <;> intro _) | (refine wp_cond_i rfl ?_ ?_ <;> intro _))
    all_goals first
    | (exfalso; simp at *; done)
    | (refine ret_m [] rfl rfl ?_; rw [← he]; done)
    | trace_state
end Go.Proofs

namespace Go.Proofs
open Go.Shelf
def Try.laysSort_ren : Go.Shelf.Ren := ⟨fun | 189 => 69 | 125 => 94 | 257 => 93 | 128 => 114 | 129 => 115 | 294 => 105 | 295 => 106 | 296 => 107 | 297 => 108 | 298 => 109 | 299 => 110 | 216 => 111 | 300 => 112 | 301 => 113 | 328 => 116 | 329 => 117 | 330 => 118 | 331 => 119 | 332 => 120 | 215 => 121 | 343 => 122 | n => n, fun | 28 => 37 | 3 => 3 | 46 => 92 | 0 => 0 | 51 => 110 | 53 => 112 | 4 => 4 | 183 => 102 | 182 => 101 | 131 => 107 | 5 => 5 | 9 => 9 | 218 => 113 | 222 => 117 | 228 => 119 | 229 => 120 | n => n, fun | n => n⟩
theorem Try.laysSort : Go.Proofs.Lays.n189 Try.prog Try.laysSort_ren := {
  mixed := by kernel_rfl
  f125 := Try.func94.trans (congrArg some (by kernel_rfl))
  f128 := Try.func114.trans (congrArg some (by kernel_rfl))
  f129 := Try.func115.trans (congrArg some (by kernel_rfl))
  f189 := Try.func69.trans (congrArg some (by kernel_rfl))
  f215 := Try.func121.trans (congrArg some (by kernel_rfl))
  f216 := Try.func111.trans (congrArg some (by kernel_rfl))
  f257 := Try.func93.trans (congrArg some (by kernel_rfl))
  f294 := Try.func105.trans (congrArg some (by kernel_rfl))
  f295 := Try.func106.trans (congrArg some (by kernel_rfl))
  f296 := Try.func107.trans (congrArg some (by kernel_rfl))
  f297 := Try.func108.trans (congrArg some (by kernel_rfl))
  f298 := Try.func109.trans (congrArg some (by kernel_rfl))
  f299 := Try.func110.trans (congrArg some (by kernel_rfl))
  f300 := Try.func112.trans (congrArg some (by kernel_rfl))
  f301 := Try.func113.trans (congrArg some (by kernel_rfl))
  f328 := Try.func116.trans (congrArg some (by kernel_rfl))
  f329 := Try.func117.trans (congrArg some (by kernel_rfl))
  f330 := Try.func118.trans (congrArg some (by kernel_rfl))
  f331 := Try.func119.trans (congrArg some (by kernel_rfl))
  f332 := Try.func120.trans (congrArg some (by kernel_rfl))
  f343 := Try.func122.trans (congrArg some (by kernel_rfl))
  t0 := Try.underlying0
  a0 := Try.isAgg0
  z0 := Try.sizeOf0
  v0 := Try.zeroValue0
  t3 := Try.underlying3
  a3 := Try.isAgg3
  z3 := Try.sizeOf3
  v3 := Try.zeroValue3
  t4 := Try.underlying4
  a4 := Try.isAgg4
  z4 := Try.sizeOf4
  v4 := Try.zeroValue4
  t5 := Try.underlying5
  a5 := Try.isAgg5
  z5 := Try.sizeOf5
  v5 := Try.zeroValue5
  t9 := Try.underlying9
  a9 := Try.isAgg9
  z9 := Try.sizeOf9
  v9 := Try.zeroValue9
  t28 := Try.underlying37
  a28 := Try.isAgg37
  z28 := Try.sizeOf37
  v28 := Try.zeroValue37
  t46 := Try.underlying92
  a46 := Try.isAgg92
  z46 := Try.sizeOf92
  v46 := Try.zeroValue92
  t51 := Try.underlying110
  a51 := Try.isAgg110
  z51 := Try.sizeOf110
  v51 := Try.zeroValue110
  t53 := Try.underlying112
  a53 := Try.isAgg112
  z53 := Try.sizeOf112
  v53 := Try.zeroValue112
  t131 := Try.underlying107
  a131 := Try.isAgg107
  z131 := Try.sizeOf107
  v131 := Try.zeroValue107
  t182 := Try.underlying101
  a182 := Try.isAgg101
  z182 := Try.sizeOf101
  v182 := Try.zeroValue101
  t183 := Try.underlying102
  a183 := Try.isAgg102
  z183 := Try.sizeOf102
  v183 := Try.zeroValue102
  t218 := Try.underlying113
  a218 := Try.isAgg113
  z218 := Try.sizeOf113
  v218 := Try.zeroValue113
  t222 := Try.underlying117
  a222 := Try.isAgg117
  z222 := Try.sizeOf117
  v222 := Try.zeroValue117
  t228 := Try.underlying119
  a228 := Try.isAgg119
  z228 := Try.sizeOf119
  v228 := Try.zeroValue119
  t229 := Try.underlying120
  a229 := Try.isAgg120
  z229 := Try.sizeOf120
  v229 := Try.zeroValue120 }
def Try.laysCompact_ren : Go.Shelf.Ren := ⟨fun | 20 => 70 | n => n, fun | 22 => 37 | 3 => 3 | 4 => 4 | 0 => 0 | n => n, fun | n => n⟩
theorem Try.laysCompact : Go.Proofs.Lays2.n20 Try.prog Try.laysCompact_ren := {
  mixed := by kernel_rfl
  f20 := Try.func70.trans (congrArg some (by kernel_rfl))
  t0 := Try.underlying0
  a0 := Try.isAgg0
  z0 := Try.sizeOf0
  v0 := Try.zeroValue0
  t3 := Try.underlying3
  a3 := Try.isAgg3
  z3 := Try.sizeOf3
  v3 := Try.zeroValue3
  t4 := Try.underlying4
  a4 := Try.isAgg4
  z4 := Try.sizeOf4
  v4 := Try.zeroValue4
  t22 := Try.underlying37
  a22 := Try.isAgg37
  z22 := Try.sizeOf37
  v22 := Try.zeroValue37
  i3 := by kernel_rfl }
end Go.Proofs

set_option linter.unusedVariables false
set_option linter.unusedSimpArgs false
set_option maxHeartbeats 4000000
namespace Go.Proofs
open Go Go.Ev Go.Shelf Go.Sort
set_option maxRecDepth 100000
/-- only the block b's cells have turned, and what is new -/
structure KB (b : Nat) (w w' : World) : Prop where
  os : w'.os = w.os
  tape : w'.tape = w.tape
  output : w'.output = w.output
  size : w.heap.size ≤ w'.heap.size
  other : ∀ k, k < w.heap.size → k ≠ b → w'.heap[k]? = w.heap[k]?
  cells : ∀ cs ty fr, w.heap[b]? = some (.cells cs ty fr) → ∃ cs', w'.heap[b]? = some (.cells cs' ty fr) ∧ cs'.size = cs.size
theorem KB.refl (b : Nat) (w : World) : KB b w w := ⟨rfl, rfl, rfl, Nat.le_refl _, fun _ _ _ => rfl, fun cs _ _ h => ⟨cs, h, rfl⟩⟩
theorem KB.trans {b : Nat} {w w1 w2 : World} (h : KB b w w1) (h' : KB b w1 w2) : KB b w w2 :=
  ⟨h'.os.trans h.os, h'.tape.trans h.tape, h'.output.trans h.output, Nat.le_trans h.size h'.size, fun k hk hb => (h'.other k (Nat.lt_of_lt_of_le hk h.size) hb).trans (h.other k hk hb),
    fun cs ty fr hc => by
      obtain ⟨c1, e1, s1⟩ := h.cells cs ty fr hc
      obtain ⟨c2, e2, s2⟩ := h'.cells c1 ty fr e1
      exact ⟨c2, e2, s2.trans s1⟩⟩
theorem KB.ahead (b n : Nat) (w : World) : KB b w (Sort.ahead w n) := ⟨rfl, rfl, rfl, Nat.le_refl _, fun _ _ _ => rfl, fun cs _ _ h => ⟨cs, h, rfl⟩⟩
theorem KB.row {α : Type} [Inhabited α] (enc : α → Value) (b off : Nat) (d : Array α) (w : World) : KB b w (putRow enc w b off d) := by
  refine ⟨rfl, rfl, rfl, by simp, fun k _ hk => ?_, fun cs ty fr h => ⟨putCells enc off d cs, ?_, by simp [putCells]⟩⟩
  · simp [putRow, mapBlock, Array.getElem?_modify, Ne.symm hk]
  · simp [putRow, mapBlock, Array.getElem?_modify, h, onCells]
theorem KB.grow {b : Nat} {w w' : World} (h : KB b w w') (hb : b < w.heap.size) (os : Array Obj) : KB b w (Sort.grow w' os) := by
  have hs := h.size
  refine ⟨h.os, h.tape, h.output, by simp; omega, fun k hk hn => ?_, fun cs ty fr hc => ?_⟩
  · rw [← h.other k hk hn]; simp only [Sort.grow]; rw [Array.getElem?_append_left (by omega)]
  · obtain ⟨c, e, s⟩ := h.cells cs ty fr hc
    exact ⟨c, by simp only [Sort.grow]; rw [Array.getElem?_append_left (by omega)]; exact e, s⟩
theorem holds_grow {α : Type} [Inhabited α] {enc : α → Value} {w : World} {b off : Nat} {d : Array α} (h : Holds enc w b off d) (os : Array Obj) : Holds enc (Sort.grow w os) b off d := by
  intro j hj
  obtain ⟨h1, h2⟩ := h j hj
  obtain ⟨c, e, fr, hb, hc⟩ := cells_of_cell? h1
  have hlt : b < w.heap.size := by
    rcases Nat.lt_or_ge b w.heap.size with h | h
    · exact h
    · rw [Array.getElem?_eq_none h] at hb; cases hb
  have he : (Sort.grow w os).heap[b]? = w.heap[b]? := by simp only [Sort.grow]; rw [Array.getElem?_append_left hlt]
  refine ⟨?_, ?_⟩
  · rw [← h1]; simp only [World.cell?, he]
  · rw [← h2]; simp only [World.frozen?, he]
abbrev eI : Int → Value := Value.int .i64
theorem sort_c (b off cap : Nat) (zs : List Int) (w : World) (hH : Holds eI w b off zs.toArray) (hb : b < w.heap.size) (hz : zs.length < 4611686018427387904) :
    Calls Try.prog 69 #[.slice (some ⟨b, off, none⟩) zs.length cap] w fun e w' => e = .returned (.tuple #[]) ∧ Holds eI w' b off (zs.mergeSort fun x y => decide (x ≤ y)).toArray ∧ KB b w w' := by
  refine (Any.slices_Sort_int Try.laysSort b off cap zs w hH hb hz).mono ?_
  rintro e w' ⟨he, n, os, rfl⟩
  refine ⟨he, holds_grow (holds_putRow eI _ b off zs.toArray _ (holds_ahead eI w n b off _ hH) (by simp)) os, KB.grow ((KB.ahead b n w).trans (KB.row ..)) hb os⟩
theorem sort_n (a : Option Addr) (cap : Nat) (w : World) : Calls Try.prog 69 #[.slice a 0 cap] w fun e w' => e = .returned (.tuple #[]) ∧ w' = w :=
  Any.slices_Sort_int_none Try.laysSort a cap w
theorem comp_c (b off cap : Nat) (zs : List Int) (w : World) (hH : Holds eI w b off zs.toArray) (hz : zs.length ≤ 9223372036854775807) (hc : zs.length ≤ cap) :
    Calls Try.prog 70 #[.slice (some ⟨b, off, none⟩) zs.length cap] w fun e w' => e = .returned (.slice (some ⟨b, off, none⟩) (Lib.compact zs).length cap) ∧ Holds eI w' b off (Lib.compact zs ++ List.replicate (zs.length - (Lib.compact zs).length) 0).toArray ∧ KB b w w' := by
  refine (calls_of_every_depth fun D => AnyS.slices_Compact_int_in Try.laysCompact D b off cap zs w hH hz hc).mono ?_
  rintro e w' ⟨he, n, rfl⟩
  have hl := compact_len zs
  exact ⟨he, holds_putRow eI _ b off zs.toArray _ (holds_ahead eI w n b off _ hH) (by simp; omega), (KB.ahead b n w).trans (KB.row ..)⟩
theorem comp_n (a : Option Addr) (cap : Nat) (w : World) : Calls Try.prog 70 #[.slice a 0 cap] w fun e w' => e = .returned (.slice a 0 cap) ∧ w' = w :=
  calls_of_every_depth fun D => AnyS.slices_Compact_int_empty_in Try.laysCompact D a cap w
theorem own_holds {w : World} {B F : Nat → Prop} {l : List Int} {v : Value} (h : Own w B (.sl true (l.map iR)) v F) :
    (l = [] ∧ ∃ a cap, v = .slice a 0 cap) ∨ (l ≠ [] ∧ ∃ b off cap cs ty, v = .slice (some ⟨b, off, none⟩) l.length cap ∧ w.heap[b]? = some (.cells cs ty (0, 0)) ∧ off + cap ≤ cs.size ∧ l.length ≤ cap ∧ F b ∧ Holds eI w b off l.toArray) := by
  by_cases hl0 : l = []
  · subst hl0
    refine .inl ⟨rfl, ?_⟩
    cases h with
    | nil => exact ⟨_, _, rfl⟩
    | sl => exact ⟨_, _, rfl⟩
  · refine .inr ⟨hl0, ?_⟩
    have hlen : 0 < l.length := List.length_pos_iff.2 hl0
    generalize hrows : l.map iR = rows at h
    cases h with
    | nil => exact absurd (by simpa using hrows) hl0
    | sl _ b off cap sz us Fs F cs ty hh hcap hc hl hw hrr hoo hdd hbb hFb hFF htt =>
      subst hrows
      have hsz : sz = 1 := by
        have := hl 0 (iR l[0]) (by simp [hlen])
        simpa using this.symm
      subst hsz
      have hval : ∀ j (hj : j < l.length), us j 0 = .int .i64 l[j] := fun j hj => by
        have := hrr j (iR l[j]) 0 (iT l[j]) (by simp [hj]) rfl
        generalize us j 0 = u at this
        cases this; rfl
      refine ⟨b, off, cap, cs, ty, by rw [List.length_map], hh, by simpa using hcap, by simpa using hc, hFb, ?_⟩
      intro j hj
      have hj' : j < l.length := by simpa using hj
      have h3 := hw j (iR l[j]) 0 (iT l[j]) (by simp [hj']) rfl
      rw [hval j hj', Nat.mul_one, Nat.add_zero] at h3
      refine ⟨?_, ?_⟩
      · simp only [World.cell?, hh]
        rw [getElem!_pos l.toArray j hj]
        simp [h3]
      · simp [World.frozen?, hh]
theorem holds_own {w : World} {B : Nat → Prop} {l r : List Int} {b off cap : Nat} {cs : Array Value} {ty : TypeId} (hh : w.heap[b]? = some (.cells cs ty (0, 0))) (hcap : off + cap ≤ cs.size) (hc : l.length ≤ cap) (hl : l ≠ []) (hR : Holds eI w b off (l ++ r).toArray) :
    Own w B (.sl true (l.map iR)) (.slice (some ⟨b, off, none⟩) l.length cap) (fun k => k = b) := by
  have hcell : ∀ j (hj : j < l.length), cs[off + j]? = some (.int .i64 l[j]) := fun j hj => by
    obtain ⟨h4, _⟩ := hR j (by simp; omega)
    simp only [World.cell?, hh] at h4
    rw [getElem!_pos _ j (by simp; omega)] at h4
    simpa [List.getElem_append_left hj] using h4
  have := Own.sl (w := w) (B := B) (l.map iR) b off cap 1 (fun i _ => .int .i64 (l[i]?.getD 0)) (fun _ _ _ => False) (fun k => k = b) cs ty hh (by simpa using hcap) (by simpa using hc)
    (fun i r h => by
      obtain ⟨x, _, rfl⟩ := List.mem_map.1 (List.mem_of_getElem? h); rfl)
    (fun i r k x hi hk => by
      rw [List.getElem?_map, Option.map_eq_some_iff] at hi
      obtain ⟨z, hz1, rfl⟩ := hi
      obtain ⟨hi1, rfl⟩ := List.getElem?_eq_some_iff.1 hz1
      cases k with
      | zero => rw [Nat.mul_one, Nat.add_zero, hcell i hi1]; simp [hi1]
      | succ k => simp at hk)
    (fun i r k x hi hk => by
      rw [List.getElem?_map, Option.map_eq_some_iff] at hi
      obtain ⟨z, hz1, rfl⟩ := hi
      cases k with
      | zero => simp at hk; subst hk; rw [hz1]; exact .sc _ _
      | succ k => simp at hk)
    (fun i r k x hi hk => rfl)
    (fun _ _ _ _ _ h => h.elim) (fun _ _ h => h) rfl (fun _ _ _ h => h.elim)
    (fun h => absurd (by simpa using h) hl)
  rw [List.length_map] at this
  exact this
theorem fam_one {w : World} {B Fin : Nat → Prop} {t : T} {vs : List Value} (h : Fam (VS w B) [.t t] vs Fin) : ∃ v G, vs = [v] ∧ Own w B t v G ∧ ∀ b, G b → Fin b := by
  cases h with
  | cons x xs v vs' G F' _ hx hr hd h1 h2 =>
  cases hr
  rcases hx with ⟨y, hy, ho⟩ | ⟨cs, us, h, _⟩ | ⟨_, _, _, _, _, h, _⟩
  · cases hy; exact ⟨_, _, rfl, ho, h1⟩
  · cases h
  · cases h
/-- slices.Sort at []int, told from outside: what is handed on for good is in order behind it. -/
theorem sort_sound (l : List Int) (hz : l.length < 4611686018427387904) : Sound Try.prog 69 [.t (.sl true (l.map iR))] (.io [.tp [], .t (.sl true ((l.mergeSort fun x y => decide (x ≤ y)).map iR))]) := by
  refine ⟨⟨Try.f69, Try.func69, rfl, by simp [Try.f69]⟩, ?_⟩
  intro w vs B Fin hB hF hfam
  obtain ⟨v, G, rfl, ho, hG⟩ := fam_one hfam
  rcases own_holds ho with ⟨rfl, a, cap, rfl⟩ | ⟨hl0, b, off, cap, cs, ty, rfl, hh, hcap, hc, hb, hH⟩
  · refine (sort_n a cap w).mono ?_
    rintro e w' ⟨rfl, rfl⟩
    exact ⟨_, B, G, rfl, .inr ⟨_, _, fun _ => False, G, rfl, .inr ⟨[], [], rfl, rfl, .nil _⟩, .cons _ _ _ _ G (fun _ => False) G (.inr (.inl ⟨_, rfl, by rw [List.mergeSort_nil]; exact ho⟩)) (.nil _) (fun _ _ h => h) (fun _ h => h) (fun _ h => h.elim), fun _ h => h.elim, fun _ h => h.elim, fun _ h => h⟩,
      fun k hk => ⟨(hB k hk).1, fun h => (hB k hk).2 (hG k h), .inl hk⟩, fun k h => ⟨hF k (hG k h), .inl (hG k h)⟩, Keeps.refl _ _⟩
  · have hlt : b < w.heap.size := hF b (hG b hb)
    refine (sort_c b off cap l w hH hlt hz).mono ?_
    rintro e w' ⟨rfl, hR, hk⟩
    obtain ⟨cs', hh', hs'⟩ := hk.cells cs ty _ hh
    have hne : l.mergeSort (fun x y => decide (x ≤ y)) ≠ [] := fun h => hl0 (by have := congrArg List.length h; simpa using this)
    have hO := holds_own (B := B) (r := []) hh' (by rw [hs']; exact hcap) (by simpa using hc) hne (by simpa using hR)
    rw [List.length_mergeSort] at hO
    exact ⟨_, B, fun k => k = b, rfl, .inr ⟨_, _, fun _ => False, fun k => k = b, rfl, .inr ⟨[], [], rfl, rfl, .nil _⟩, .cons _ _ _ _ (fun k => k = b) (fun _ => False) _ (.inr (.inl ⟨_, rfl, hO⟩)) (.nil _) (fun _ _ h => h) (fun _ h => h) (fun _ h => h.elim), fun _ h => h.elim, fun _ h => h.elim, fun _ h => h⟩,
      fun k hk' => ⟨Nat.lt_of_lt_of_le (hB k hk').1 hk.size, fun h => (hB k hk').2 (h ▸ hG b hb), .inl hk'⟩, fun k h => by subst h; exact ⟨Nat.lt_of_lt_of_le hlt hk.size, .inl (hG _ hb)⟩,
      ⟨hk.os, hk.tape, hk.output, hk.size, fun k hk1 hk2 => hk.other k hk1 fun e => hk2 (e ▸ hG b hb)⟩⟩
/-- slices.Compact at []int, told from outside. -/
theorem comp_sound (l : List Int) (hz : l.length ≤ 9223372036854775807) : Sound Try.prog 70 [.t (.sl true (l.map iR))] (.t (.sl true ((Lib.compact l).map iR))) := by
  refine ⟨⟨Try.f70, Try.func70, rfl, by simp [Try.f70]⟩, ?_⟩
  intro w vs B Fin hB hF hfam
  obtain ⟨v, G, rfl, ho, hG⟩ := fam_one hfam
  rcases own_holds ho with ⟨rfl, a, cap, rfl⟩ | ⟨hl0, b, off, cap, cs, ty, rfl, hh, hcap, hc, hb, hH⟩
  · refine (comp_n a cap w).mono ?_
    rintro e w' ⟨rfl, rfl⟩
    exact ⟨_, B, G, rfl, .inl ⟨rfl, .inl (.inl ⟨_, rfl, ho⟩)⟩, fun k hk => ⟨(hB k hk).1, fun h => (hB k hk).2 (hG k h), .inl hk⟩, fun k h => ⟨hF k (hG k h), .inl (hG k h)⟩, Keeps.refl _ _⟩
  · have hlt : b < w.heap.size := hF b (hG b hb)
    refine (comp_c b off cap l w hH hz hc).mono ?_
    rintro e w' ⟨rfl, hR, hk⟩
    obtain ⟨cs', hh', hs'⟩ := hk.cells cs ty _ hh
    have hle := compact_len l
    have hO := holds_own (B := B) hh' (by rw [hs']; exact hcap) (by omega) (compact_ne hl0) hR
    exact ⟨_, B, fun k => k = b, rfl, .inl ⟨rfl, .inl (.inl ⟨_, rfl, hO⟩)⟩,
      fun k hk' => ⟨Nat.lt_of_lt_of_le (hB k hk').1 hk.size, fun h => (hB k hk').2 (h ▸ hG b hb), .inl hk'⟩, fun k h => by subst h; exact ⟨Nat.lt_of_lt_of_le hlt hk.size, .inl (hG _ hb)⟩,
      ⟨hk.os, hk.tape, hk.output, hk.size, fun k hk1 hk2 => hk.other k hk1 fun e => hk2 (e ▸ hG b hb)⟩⟩
/-- what is told from outside -/
def XS : Rel3 := fun f args r => (∃ l : List Int, l.length < 4611686018427387904 ∧ f = 69 ∧ args = [.t (.sl true (l.map iR))] ∧ r = .io [.tp [], .t (.sl true ((l.mergeSort fun x y => decide (x ≤ y)).map iR))]) ∨
  (∃ l : List Int, l.length ≤ 9223372036854775807 ∧ f = 70 ∧ args = [.t (.sl true (l.map iR))] ∧ r = .t (.sl true ((Lib.compact l).map iR)))
theorem XS_sound (f : FuncId) (args : List AV) (r : AV) (h : XS f args r) : Sound Try.prog f args r := by
  rcases h with ⟨l, hl, rfl, rfl, rfl⟩ | ⟨l, hl, rfl, rfl, rfl⟩
  · exact sort_sound l hl
  · exact comp_sound l hl
theorem Sort_t (l : List Int) (hz : l.length < 4611686018427387904) : Tells Try.prog E0 XS 69 [.t (.sl true (l.map iR))] (.io [.tp [], .t (.sl true ((l.mergeSort fun x y => decide (x ≤ y)).map iR))]) := Tells.of (.inl ⟨l, hz, rfl, rfl, rfl⟩)
theorem Compact_t (l : List Int) (hz : l.length ≤ 9223372036854775807) : Tells Try.prog E0 XS 70 [.t (.sl true (l.map iR))] (.t (.sl true ((Lib.compact l).map iR))) := Tells.of (.inr ⟨l, hz, rfl, rfl, rfl⟩)
end Go.Proofs

set_option linter.unusedVariables false
set_option linter.unusedSimpArgs false
set_option maxHeartbeats 4000000
namespace Go.Proofs
open Go Go.Ev
set_option maxRecDepth 100000
variable {X : Rel3}
theorem ascending_t (l : List Int) (hz : l.length < 4611686018427387904) : Tells Try.prog E0 XS 44 [.t (.sl true (l.map iR))] (.t (.sl true ((ascOf l).map iR))) := by
  refine Tells.by Try.func44 (by simp [Try.f44]) (Body.i rfl rfl rfl (fun _ => rfl) fun f => ?_)
  repeat' (first
     | refine wp_seq_i ?_ | refine wp_region_i ?_ | refine Run.done rfl ?_ | refine then_n ?_ | refine then_r ?_ | refine then_e ?_ | refine Run.go1 rfl ?_ | refine wp_skip_i ?_ | refine wp_ret_i ?_ | refine wp_exit_i ?_
     | refine wp_block_i ?_ | refine block_n ?_ | refine block_r ?_ | refine block_e ?_ | refine block_o rfl ?_ | refine wp_cond_t rfl ?_ | refine wp_cond_f rfl ?_ | refine Run.call rfl rfl rfl (Sort_t l hz) rfl rfl ?_
     | refine Run.call rfl rfl rfl (Compact_t _ (by simp; omega)) rfl rfl ?_ | (refine wp_cond_k rfl rfl rfl ?_ ?_ <;> intro _) | (refine wp_cond_i rfl ?_ ?_ <;> intro _))
  refine ret_m [] rfl rfl rfl
def addsGo (n : Nat) : List Ins → Nat → List Int
  | [], _ => []
  | x :: r, i => leadAdd n i x ++ addsGo n r (i + 1)
theorem addL_app (c a b : List Int) : addL (addL c a) b = addL c (a ++ b) := by simp [addL]
theorem leadGo_eq (n : Nat) : ∀ (l : List Ins) (i : Nat) (c : List Int), leadGo n l i c = addL c (addsGo n l i)
  | [], _, c => rfl
  | x :: r, i, c => by rw [leadGo, leadGo_eq n r, addL_app, addsGo]
theorem addL_asc : ∀ (l c : List Int), Asc c → Asc (addL c l)
  | [], c, h => h
  | x :: r, c, h => addL_asc r _ (addGo_asc x c h)
theorem addL_mem : ∀ (l c : List Int) (x : Int), x ∈ addL c l ↔ x ∈ c ∨ x ∈ l
  | [], c, x => by simp [addL]
  | y :: r, c, x => by
    have h := addL_mem r (addGo y false c) x
    rw [addGo_mem] at h
    simp only [addL, List.foldl_cons] at h ⊢
    rw [h]
    by_cases e : x = y <;> simp [e]
theorem leads_eq (l : List Ins) : ascOf (0 :: addsGo l.length l 0) = leads l := by
  refine asc_ext (ascOf_asc _) (by rw [leads, leadGo_eq]; exact addL_asc _ _ (by simp [Asc])) fun x => ?_
  rw [ascOf_mem, leads, leadGo_eq, addL_mem]; simp
theorem leads_asc (l : List Ins) : Asc (leads l) := by rw [← leads_eq]; exact ascOf_asc _
theorem leads_zero (l : List Ins) : 0 ∈ leads l := by rw [← leads_eq, ascOf_mem]; simp
theorem blk_none (i : Int) : ∀ (l : List Int) (k : Nat) (b : Int), (∀ x ∈ l, i < x) → blk i l k b = b
  | [], _, _, _ => rfl
  | x :: r, k, b, h => by
    have := h x (List.mem_cons_self ..)
    rw [blk, if_neg (by omega)]; exact blk_none i r _ _ fun y hy => h y (List.mem_cons_of_mem _ hy)
theorem blk_asc (i : Int) : ∀ (l : List Int) (k : Nat), Asc l → blk i l (k + 1) k = blkI i l k
  | [], _, _ => rfl
  | x :: r, k, h => by
    obtain ⟨h1, h2⟩ := List.pairwise_cons.1 h
    by_cases hx : x ≤ i
    · have := blk_asc i r (k + 1) h2
      rw [blk, if_pos hx, blkI, if_pos hx, ← this]
    · rw [blk, if_neg hx, blkI, if_neg hx]; exact blk_none i r _ _ fun y hy => by have := h1 y hy; omega
theorem blk_leads (l : List Ins) (i : Int) (hi : 0 ≤ i) : blk i (leads l) 0 (-1) = blkI i ((leads l).drop 1) 0 := by
  have ha := leads_asc l
  have h0 := leads_zero l
  generalize leads l = m at ha h0
  cases m with
  | nil => cases h0
  | cons y r =>
    obtain ⟨h1, h2⟩ := List.pairwise_cons.1 ha
    have hy : y ≤ i := by
      rcases List.mem_cons.1 h0 with e | h
      · omega
      · have := h1 0 h; omega
    rw [blk, if_pos hy]
    exact blk_asc i r 0 h2
def leadsB (p : Piece) : List Int := if pieceB p then leads p.ins else []
def blockB (p : Piece) (i : Int) : Int := if pieceB p && rng i 0 (p.ins.length - 1) then blkI i ((leads p.ins).drop 1) 0 else -1
theorem leadsB_len (p : Piece) (hp : p.ok) : (leadsB p).length ≤ 3000000 := by
  have := leads_len p.ins
  have := hp.1
  unfold leadsB; split <;> simp; omega
theorem addsGo_len (n : Nat) : ∀ (l : List Ins) (i : Nat), (addsGo n l i).length ≤ 2 * l.length
  | [], _ => by simp [addsGo]
  | x :: r, i => by
    have h1 := addsGo_len n r (i + 1)
    have h3 := leadAdd_len n i x
    rw [addsGo]; simp only [List.length_cons, List.length_append]; omega
def k_LeadS : List (Nat × List Nat) := [(0, [1]), (1, [1, 5]), (2, [2]), (3, [2])]
theorem l20BlockOf_s (l : List Int) (i : Int) (hl : l.length ≤ 1000000000000) : Tells Try.prog E0 X 38 [.t (.sl false (shrR (l.map iR))), iA i] (iA (blk i l 0 (-1))) := by rw [shrI_b]; exact l20BlockOf_t l i hl
def k_BlockS : List (Nat × List Nat) := [(0, [1, 2]), (1, [1, 2, 16]), (2, [4]), (3, [4])]
end Go.Proofs

set_option linter.unusedVariables false
set_option linter.unusedSimpArgs false
set_option maxHeartbeats 4000000
namespace Go.Proofs
open Go Go.Ev
set_option maxRecDepth 100000
variable {X : Rel3}
/-- what is marked, how often -/
def cntT : List Bool → Nat
  | [] => 0
  | b :: r => (if b then 1 else 0) + cntT r
theorem cntT_le : ∀ l : List Bool, cntT l ≤ l.length
  | [] => Nat.le_refl _
  | b :: r => by have := cntT_le r; simp only [cntT, List.length_cons]; split <;> omega
theorem cntT_set : ∀ {l : List Bool} {i : Nat}, l[i]? = some false → cntT (l.set i true) = cntT l + 1
  | [], i, h => by simp at h
  | b :: r, 0, h => by simp at h; subst h; simp [cntT]; omega
  | b :: r, i + 1, h => by
    have := cntT_set (l := r) (i := i) (by simpa using h)
    simp only [List.set_cons_succ, cntT]; omega
theorem cntT_lt {l : List Bool} {i : Nat} (h : l[i]? = some false) : cntT l < l.length := by
  have h1 := cntT_set h
  have h2 := cntT_le (l.set i true)
  simp at h2; omega
theorem cntT_rep (n : Nat) : cntT (List.replicate n false) = 0 := by
  induction n with
  | zero => rfl
  | succ n ih => simp [List.replicate_succ, cntT, ih]
def mayB (op : Int) : Bool := op == 5 || op == 14 || op == 16 || op == 9 || op == 10 || op == 11 || op == 12
/-- the open tries ahead of a place -/
def guardGo : List Ins → Nat → List Int → List Int
  | [], _, s => s
  | x :: r, k, s => guardGo r (k + 1) (if x.op = 17 then s ++ [(k : Int)] else if x.op = 18 then s.dropLast else s)
def lastI (s : List Int) : Int := match s.getLast? with
  | some k => k
  | none => -1
def guardI (l : List Ins) (i : Nat) : Int := lastI (guardGo (l.take i) 0 [])
theorem guardGo_mem {l : List Ins} : ∀ (m : List Ins) (k : Nat) (s : List Int), m = l.drop k → (∀ x ∈ s, ∃ j : Nat, x = j ∧ ∃ y, l[j]? = some y ∧ y.op = 17) → ∀ (i : Nat), ∀ x ∈ guardGo (m.take i) k s, ∃ j : Nat, x = j ∧ ∃ y, l[j]? = some y ∧ y.op = 17
  | [], k, s, _, hs, i => by simp [guardGo]; exact hs
  | y :: r, k, s, he, hs, 0 => by simp [guardGo]; exact hs
  | y :: r, k, s, he, hs, i + 1 => by
    have hy : l[k]? = some y := by
      have := congrArg (fun m : List Ins => m[0]?) he
      simpa [List.getElem?_drop] using this.symm
    have hr : r = l.drop (k + 1) := by
      have := congrArg List.tail he
      simpa using this
    rw [List.take_succ_cons, guardGo]
    refine guardGo_mem r (k + 1) _ hr ?_ i
    intro x hx
    split at hx
    · rename_i h17
      rcases List.mem_append.1 hx with hx | hx
      · exact hs x hx
      · obtain rfl : x = (k : Int) := by simpa using hx
        exact ⟨k, rfl, y, hy, h17⟩
    · split at hx
      · exact hs x (List.dropLast_subset _ hx)
      · exact hs x hx
theorem guardI_is {l : List Ins} {i : Nat} (h : 0 ≤ guardI l i) : ∃ j : Nat, guardI l i = j ∧ ∃ y, l[j]? = some y ∧ y.op = 17 := by
  unfold guardI at h ⊢
  unfold lastI at h ⊢
  split at h
  · rename_i k hk
    exact guardGo_mem (l := l) l 0 [] (by simp) (by simp) i k (List.mem_of_getLast? hk)
  · omega
def waysL (x : Ins) (i : Nat) : List Int := (if x.op == 13 || x.op == 11 || x.op == 12 then [x.to_] else []) ++ (if x.op != 13 && x.op != 15 && x.op != 16 then [((i + 1 : Nat) : Int)] else [])
def toAt (l : List Ins) (k : Int) : Int := match l[k.toNat]? with
  | some x => x.to_
  | none => 0
def guardL (l : List Ins) (i : Nat) (x : Ins) : List Int := if decide (0 ≤ guardI l i) && mayB x.op then [toAt l (guardI l i)] else []
/-- where it goes on, in order -/
def nexts (l : List Ins) (i : Nat) : List Int := match l[i]? with
  | some x => ascOf (waysL x i ++ guardL l i x)
  | none => []
theorem nexts_len (l : List Ins) (i : Nat) : (nexts l i).length ≤ 3 := by
  unfold nexts
  split
  · rename_i x _
    refine Nat.le_trans (ascOf_len _) ?_
    unfold waysL guardL
    rw [List.length_append, List.length_append]
    split <;> split <;> split <;> simp
  · simp
/-- what is met: from the first on, and nothing that is cut -/
inductive Reach (l : List Ins) (c : Int) : Nat → Prop
  | zero (h : c ≠ 0) : Reach l c 0
  | step {i y : Nat} (h : Reach l c i) (hy : (y : Int) ∈ nexts l i) (hc : (y : Int) ≠ c) : Reach l c y
noncomputable def metC (l : List Ins) (c : Int) : List Bool := (List.range l.length).map fun i => @decide (Reach l c i) (Classical.propDecidable _)
theorem metC_len (l : List Ins) (c : Int) : (metC l c).length = l.length := by simp [metC]
theorem metC_at {l : List Ins} {c : Int} {i : Nat} : (metC l c)[i]? = some true ↔ i < l.length ∧ Reach l c i := by
  unfold metC
  rw [List.getElem?_map, Option.map_eq_some_iff]
  constructor
  · rintro ⟨j, hj, h⟩
    obtain ⟨h1, h2⟩ := List.getElem?_eq_some_iff.1 hj
    simp at h1 h2; subst h2
    exact ⟨h1, @of_decide_eq_true _ (Classical.propDecidable _) h⟩
  · rintro ⟨h1, h2⟩
    exact ⟨i, by simp [h1], @decide_eq_true _ (Classical.propDecidable _) h2⟩
theorem met_of {l : List Ins} {c : Int} {out : List Bool} (hl : out.length = l.length) (h1 : ∀ i, out[i]? = some true → Reach l c i) (h0 : c ≠ 0 → out[0]? = some true)
    (h2 : ∀ i, out[i]? = some true → ∀ y : Nat, (y : Int) ∈ nexts l i → (y : Int) ≠ c → out[y]? = some true) : out = metC l c := by
  have all : ∀ i, Reach l c i → out[i]? = some true := by
    intro i h
    induction h with
    | zero h => exact h0 h
    | step h hy hc ih => exact h2 _ ih _ hy hc
  refine List.ext_getElem? fun i => ?_
  by_cases hi : i < l.length
  · have e1 : out[i]? = some out[i] := List.getElem?_eq_getElem (by omega)
    have e2 : (metC l c)[i]? = some ((metC l c)[i]'(by rw [metC_len]; exact hi)) := List.getElem?_eq_getElem (by rw [metC_len]; exact hi)
    cases hb : out[i] with
    | true =>
      rw [hb] at e1
      rw [e1]; exact (metC_at.2 ⟨hi, h1 i e1⟩).symm
    | false =>
      rw [e1, hb, e2]
      congr 1
      cases hm : (metC l c)[i]'(by rw [metC_len]; exact hi) with
      | false => rfl
      | true =>
        rw [hm] at e2
        have := all i (metC_at.1 e2).2
        rw [e1, hb] at this; simp at this
  · rw [List.getElem?_eq_none (by omega), List.getElem?_eq_none (by rw [metC_len]; omega)]
theorem ins_at {p : Piece} (h : pieceB p = true) {i : Nat} {x : Ins} (hx : p.ins[i]? = some x) : insB p.regs p.ins.length x = true := by
  unfold pieceB at h
  simp only [Bool.and_eq_true] at h
  exact List.all_eq_true.1 h.2.1 x (List.mem_of_getElem? hx)
theorem to_at {p : Piece} (h : pieceB p = true) {i : Nat} {x : Ins} (hx : p.ins[i]? = some x) (ht : uT x.op = true) : 0 ≤ x.to_ ∧ x.to_ < p.ins.length := by
  have := ins_at h hx
  unfold insB at this
  rw [ht] at this
  simp [regB, rng] at this
  omega
theorem last_at {p : Piece} (h : pieceB p = true) {x : Ins} (hx : p.ins[p.ins.length - 1]? = some x) : x.op = 15 ∨ x.op = 13 := by
  unfold pieceB at h
  simp only [Bool.and_eq_true] at h
  have hl := h.2.2
  unfold lastB at hl
  rw [List.getLast?_eq_getElem?, hx] at hl
  simpa using hl
theorem len_pos {p : Piece} (h : pieceB p = true) : 1 ≤ p.ins.length ∧ p.ins.length ≤ 600 := by
  unfold pieceB at h
  simp only [Bool.and_eq_true] at h
  exact (headB_iff.1 h.1).2.2.2
theorem ways_in {p : Piece} (h : pieceB p = true) {i : Nat} {x : Ins} (hx : p.ins[i]? = some x) {y : Int} (hy : y ∈ waysL x i) : 0 ≤ y ∧ y < p.ins.length := by
  unfold waysL at hy
  rcases List.mem_append.1 hy with hy | hy
  · split at hy
    · rename_i hop
      obtain rfl : y = x.to_ := by simpa using hy
      exact to_at h hx (by simp at hop; rcases hop with (e | e) | e <;> simp [uT, e])
    · cases hy
  · split at hy
    · rename_i hop
      obtain rfl : y = ((i + 1 : Nat) : Int) := by simpa using hy
      have hi : i < p.ins.length := (List.getElem?_eq_some_iff.1 hx).1
      have : i ≠ p.ins.length - 1 := by
        rintro rfl
        simp at hop
        rcases last_at h hx with e | e <;> simp [e] at hop
      omega
    · cases hy
theorem nexts_in {p : Piece} (h : pieceB p = true) {i : Nat} {y : Int} (hy : y ∈ nexts p.ins i) : 0 ≤ y ∧ y < p.ins.length := by
  unfold nexts at hy
  split at hy
  · rename_i x hx
    rw [ascOf_mem] at hy
    rcases List.mem_append.1 hy with hy | hy
    · exact ways_in h hx hy
    · unfold guardL at hy
      split at hy
      · rename_i hg
        simp only [Bool.and_eq_true, decide_eq_true_eq] at hg
        obtain ⟨j, hj, z, hz, h17⟩ := guardI_is hg.1
        obtain rfl : y = toAt p.ins (guardI p.ins i) := by simpa using hy
        unfold toAt
        rw [hj, Int.toNat_natCast, hz]
        exact to_at h hz (by simp [uT, h17])
      · cases hy
  · cases hy
theorem reach_lt {p : Piece} (h : pieceB p = true) {c : Int} {i : Nat} (hr : Reach p.ins c i) : i < p.ins.length := by
  cases hr with
  | zero => have := (len_pos h).1; omega
  | step _ hy _ => have := nexts_in h hy; omega
end Go.Proofs

set_option linter.unusedVariables false
set_option linter.unusedSimpArgs false
namespace Go.Ev
open Go
/-- a slice expression of a shared tree, of text: what is to be shown, what it tells -/
def evalSl (tab : Tab) (s : St) (o : Op) : Option (Prop × AV) :=
  match o with
  | .slice ty x lo hi none => match lk tab ty with
    | some ⟨.sl e, _, _, _⟩ => match lk tab e with
      | some ei => match s.ev x with
        | .t (.sl _ rows) => match boundAV s lo 0 with
          | some l => match hi with
            | none => some ((0 ≤ l ∧ l ≤ (rows.length : Int) ∧ ∀ r ∈ rows, r.length = ei.size), .t (.sl false (rows.drop l.toNat)))
            | some hx => match boundAV s (some hx) 0 with
              | some h => some ((0 ≤ l ∧ l ≤ h ∧ h ≤ (rows.length : Int) ∧ ∀ r ∈ rows, r.length = ei.size), .t (.sl false ((rows.take h.toNat).drop l.toNat)))
              | none => none
          | none => none
        | _ => none
      | none => none
    | some ⟨.str, _, _, _⟩ => match s.ev x with
      | .t (.sc (.string b)) => match boundAV s lo 0 with
        | some l => match hi with
          | none => some ((0 ≤ l ∧ l ≤ (b.size : Int)), .t (.sc (.string (b.extract l.toNat b.size))))
          | some hx => match boundAV s (some hx) 0 with
            | some h => some ((0 ≤ l ∧ l ≤ h ∧ h ≤ (b.size : Int)), .t (.sc (.string (b.extract l.toNat h.toNat))))
            | none => none
        | none => none
      | _ => none
    | _ => none
  | _ => none
theorem evalSl_eq {tab : Tab} {s : St} {o : Op} {c : Prop} {v : AV} (h : evalSl tab s o = some (c, v)) (hc : c) : evalV tab s o = some v ∧ turns o = false := by
  unfold evalSl at h
  split at h
  case h_2 => cases h
  rename_i ty x lo hi
  split at h
  case h_3 => cases h
  · rename_i e _ _ _ ht
    split at h
    case h_2 => cases h
    rename_i ei hei
    split at h
    case h_2 => cases h
    rename_i o' rows hx
    split at h
    case h_2 => cases h
    rename_i l hl
    split at h
    · cases h
      refine ⟨?_, rfl⟩
      simp only [evalV, hl, sliceAV, ht, hx, hei, Option.getD_some, Option.getD_none]
      rw [if_pos ⟨hc.1, hc.2.1, Int.le_refl _, hc.2.2⟩]
      simp
    · rename_i hx2
      split at h
      case h_2 => cases h
      rename_i hh hhi
      cases h
      refine ⟨?_, rfl⟩
      simp only [evalV, hl, hhi, sliceAV, ht, hx, hei, Option.getD_some]
      rw [if_pos hc]
  · rename_i ht
    split at h
    case h_2 => cases h
    rename_i b hx
    split at h
    case h_2 => cases h
    rename_i l hl
    split at h
    · cases h
      refine ⟨?_, rfl⟩
      simp only [evalV, hl, sliceAV, ht, hx, Option.getD_some, Option.getD_none]
      rw [if_pos ⟨hc.1, hc.2, Int.le_refl _⟩]
      simp
    · rename_i hx2
      split at h
      case h_2 => cases h
      rename_i hh hhi
      cases h
      refine ⟨?_, rfl⟩
      simp only [evalV, hl, hhi, sliceAV, ht, hx, Option.getD_some]
      rw [if_pos hc]
section
variable {Φ : Rel3} {E : Env} {all : List Oper} {D : List Nat} {lo : Option (List Nat)} {ops rest : List Oper} {o : Oper} {s s' : St} {K : St → Prop} {pend : List (Nat × QV × List (List T))}
theorem Run.csl {c : Prop} {v : AV} (hg : guardAV all s o.guard = some true) (hc : isCall o.op = none) (he : evalSl E.tab s o.op = some (c, v)) (hcc : c) (hp : s.putT o.dst v = some s') (k : Run Φ E all D lo rest s' K) : Run Φ E all D lo (o :: rest) s K := by
  obtain ⟨h1, h2⟩ := evalSl_eq he hcc
  refine Run.one hg hc ?_ k
  simp only [evalO, h2, h1]
  exact hp
end
end Go.Ev

set_option linter.unusedVariables false
set_option linter.unusedSimpArgs false
set_option maxHeartbeats 4000000
namespace Go.Proofs
open Go Go.Ev
set_option maxRecDepth 100000
variable {X : Rel3}
theorem l10May_t (op : Int) : Tells Try.prog E0 X 75 [iA op] (bA (mayB op)) := by
  refine Tells.by Try.func75 (by simp [Try.f75]) (Body.i rfl rfl rfl (fun _ => rfl) fun f => ?_)
  repeat' (first
     | refine wp_seq_i ?_ | refine wp_region_i ?_ | refine Run.done rfl ?_ | refine then_n ?_ | refine then_r ?_ | refine then_e ?_ | refine Run.go1 rfl ?_ | refine wp_skip_i ?_ | refine wp_ret_i ?_ | refine wp_exit_i ?_
     | refine wp_block_i ?_ | refine block_n ?_ | refine block_r ?_ | refine block_e ?_ | refine block_o rfl ?_ | refine wp_cond_t rfl ?_ | refine wp_cond_f rfl ?_ | (refine wp_cond_k rfl rfl rfl ?_ ?_ <;> intro _)
     | (refine wp_cond_i rfl ?_ ?_ <;> intro _))
  all_goals (refine ret_m [] rfl rfl ?_; simp_all [mayB]; done)
theorem raises_t (op : Int) : Tells Try.prog E0 X 68 [iA op] (bA (mayB op)) := by
  refine Tells.by Try.func68 (by simp [Try.f68]) (Body.i rfl rfl rfl (fun _ => rfl) fun f => ?_)
  repeat' (first
     | refine wp_seq_i ?_ | refine wp_region_i ?_ | refine Run.done rfl ?_ | refine then_n ?_ | refine then_r ?_ | refine then_e ?_ | refine Run.go1 rfl ?_ | refine wp_skip_i ?_ | refine wp_ret_i ?_ | refine wp_exit_i ?_
     | refine wp_block_i ?_ | refine block_n ?_ | refine block_r ?_ | refine block_e ?_ | refine block_o rfl ?_ | refine wp_cond_t rfl ?_ | refine wp_cond_f rfl ?_ | (refine wp_cond_k rfl rfl rfl ?_ ?_ <;> intro _)
     | (refine wp_cond_i rfl ?_ ?_ <;> intro _))
  all_goals (refine ret_m [] rfl rfl ?_; simp_all [mayB]; done)
theorem guardGo_len : ∀ (l : List Ins) (k : Nat) (s : List Int), (guardGo l k s).length ≤ s.length + l.length
  | [], _, s => by simp [guardGo]
  | x :: r, k, s => by
    have := guardGo_len r (k + 1) (if x.op = 17 then s ++ [(k : Int)] else if x.op = 18 then s.dropLast else s)
    rw [guardGo]
    split at this
    · simp at this ⊢; rename_i h; simp [h]; omega
    · split at this
      · simp at this ⊢; rename_i h1 h; simp [h]; omega
      · simp at this ⊢; rename_i h1 h; simp [h, h1]; omega
theorem lastI_at {s : List Int} (h : 0 < s.length) : lastI s = s[s.length - 1] := by
  unfold lastI
  rw [List.getLast?_eq_getElem?, List.getElem?_eq_getElem (show s.length - 1 < s.length by omega)]
theorem lastI_nil {s : List Int} (h : ¬ 0 < s.length) : lastI s = -1 := by
  have : s = [] := List.length_eq_zero_iff.1 (by omega)
  subst this; rfl
theorem wlen (s : List Int) (h0 : 0 < s.length) (h : s.length ≤ 9223372036854775807) : IntKind.i64.wrap (((s.map iR).length : Int) - 1) = ((s.length - 1 : Nat) : Int) := by rw [List.length_map, w64] <;> omega
theorem cutLast (s : List Int) (h0 : 0 < s.length) (h : s.length ≤ 9223372036854775807) : (List.take (IntKind.i64.wrap (((s.map iR).length : Int) - 1)).toNat (s.map iR)) = s.dropLast.map iR := by
  rw [wlen s h0 h, Int.toNat_natCast, List.dropLast_eq_take, List.map_take]
def k_l10Guard : List (Nat × List Nat) := [(0, [1, 2]), (1, [1, 2, 5]), (2, [1, 2, 5, 6]), (3, [1, 2, 5, 6, 17]), (4, [1, 2, 5, 6]), (5, [1, 2, 5, 6, 25]), (6, [1, 2, 5, 6, 25, 26]), (7, [1, 2, 5, 6]), (8, [1, 2, 5, 6, 32]), (9, [1, 2, 5, 6, 36]), (10, [1, 2, 5, 6]), (11, [5, 53]), (12, [4]), (13, [4])]
theorem l10Guard_t (p : Piece) (i : Nat) (hp : p.ins.length ≤ 1048576) (hi : i < p.ins.length) : Tells Try.prog E0 X 95 [p.a false, iA i] (iA (guardI p.ins i)) := by
  refine Tells.by Try.func95 (by simp [Try.f95]) (Body.i rfl rfl rfl (fun _ => rfl) fun f => ?_)
  repeat' (first
     | refine wp_seq_i ?_ | refine wp_region_t k_l10Guard rfl ?_ | refine Run.done rfl ?_ | refine then_n ?_ | refine then_r ?_ | refine then_e ?_ | refine Run.go1 rfl ?_ | refine wp_skip_i ?_ | refine wp_ret_i ?_
     | refine wp_exit_i ?_ | refine wp_block_i ?_ | refine block_n ?_ | refine block_r ?_ | refine block_e ?_ | refine block_o rfl ?_ | refine wp_cond_t rfl ?_ | refine wp_cond_f rfl ?_
     | (refine wp_cond_k rfl rfl rfl ?_ ?_ <;> intro _) | (refine wp_cond_i rfl ?_ ?_ <;> intro _))
  refine wp_loop_k (α := Nat × List Int × Nat) [.keep [1, 2, 5, 6] [2, 7]] (fun z => [(6, iA z.1)]) (fun _ => []) (fun z => [(7, ⟨z.2.2, none⟩, z.2.1.map iR)]) (fun z => z.1 ≤ i ∧ z.2.1.length ≤ z.1 ∧ (z.2.2 = 0 ∨ z.2.2 = 1) ∧ guardGo ((p.ins.take i).drop z.1) z.1 z.2.1 = guardGo (p.ins.take i) 0 []) (fun z => i - z.1) (0, [], 0) rfl (fun _ => rfl) rfl ⟨by simp, by simp, by simp, by simp⟩ ?_
  rintro ⟨k, s, q⟩ ⟨hk, hsl, hq, he⟩
  simp only at hk hsl hq he
  have hti : (p.ins.take i).length = i := by simp; omega
  by_cases hlt : k < i
  · have hx : (p.ins.map (Ins.c false))[k]? = some (Ins.c false (p.ins[k]'(by omega))) := map_at (by omega)
    have hdr : (p.ins.take i).drop k = (p.ins[k]'(by omega)) :: (p.ins.take i).drop (k + 1) := by
      rw [List.drop_eq_getElem_cons (by rw [hti]; exact hlt)]; simp
    rw [hdr, guardGo] at he
    generalize (p.ins[k]'(by omega)) = x at hx he
    have hw := w_succ hlt (by omega)
    by_cases hs : 0 < s.length
    all_goals (
      repeat' (first
         | refine wp_seq_i ?_ | refine wp_region_t k_l10Guard rfl ?_ | refine Run.done rfl ?_ | refine then_n ?_ | refine then_r ?_ | refine then_e ?_ | refine Run.go1 rfl ?_ | refine wp_skip_i ?_ | refine wp_ret_i ?_
         | refine wp_exit_i ?_ | refine wp_block_i ?_ | refine block_n ?_ | refine block_r ?_ | refine block_e ?_ | refine block_o rfl ?_ | refine wp_cond_t rfl ?_ | refine wp_cond_f rfl ?_ | refine Run.gT rfl rfl rfl rfl ?_
         | refine Run.pT rfl rfl ?_ | (refine Run.splitG rfl rfl rfl rfl rfl rfl ?_ ?_ <;> intro _) | (refine Run.splitP rfl rfl rfl rfl ?_ ?_ <;> intro _) | refine Run.ix rfl rfl rfl rfl rfl rfl rfl hx rfl rfl rfl ?_
         | refine Run.cnd rfl rfl rfl ⟨by simp; omega, (by intro r hr; simp at hr; first | (rcases hr with ⟨a, _, rfl⟩ | rfl <;> rfl) | (obtain ⟨a, _, rfl⟩ := hr; rfl)), by simp, by first | exact .inl rfl | exact hq, by simp [flatT]⟩ ?_
         | refine Run.cnd2 rfl rfl rfl ⟨by decide, by rw [wlen s hs (by omega)]; omega, by rw [wlen s hs (by omega)]; simp, by simp, by first | exact .inl rfl | exact hq, by decide⟩ ?_
         | (refine wp_cond_k rfl rfl rfl ?_ ?_ <;> intro _) | (refine wp_cond_i rfl ?_ ?_ <;> intro _))
      all_goals first
      | (exfalso; clear he hx hdr; simp_all; done)
      | (exfalso; clear he hx hdr; simp only [List.length_map, beq_iff_eq, beq_eq_false_iff_ne, decide_eq_true_eq, decide_eq_false_iff_not] at *; omega)
      | (rename_i h17
         refine back_i [.keep [1, 2, 5, 6] [2, 31], .ren 31 7] (k + 1, s ++ [(k : Int)], q) rfl ?_ ⟨by simp; omega, by simp; omega, by simpa using hq, by rw [← he, if_pos (by simpa using h17)]⟩ (by simp; omega)
         simp only [hw, List.map_append, List.map_cons, List.map_nil]; try rfl; done)
      | (refine back_i [.keep [1, 2, 5, 6] [2, 41], .ren 41 7] (k + 1, s.dropLast, 1) rfl ?_ ⟨by simp; omega, by simp; omega, by simp, ?_⟩ (by simp; omega)
         · simp only [hw, Int.toNat_zero, List.drop_zero]; rw [cutLast s hs (by omega)]; try rfl
         · rw [← he, if_neg (by simp_all), if_pos (by simp_all)]; done)
      | (refine back_i [.keep [1, 2, 5, 6] [2, 7]] (k + 1, s, q) rfl ?_ ⟨by simp; omega, by simp; omega, by simpa using hq, ?_⟩ (by simp; omega)
         · simp only [hw]; try rfl
         · (by_cases h18 : x.op = 18
            · first
              | (exfalso; clear he hx hdr; simp_all; done)
              | (have : s = [] := List.length_eq_zero_iff.1 (by omega)
                 subst this
                 rw [← he, if_neg (by omega), if_pos h18]; rfl)
            · rw [← he, if_neg (by simp_all), if_neg h18]); done)
      | trace_state)
  · have hki : k = i := by omega
    subst hki
    rw [List.drop_of_length_le (by omega), guardGo] at he
    have hrng : rng k 0 (IntKind.i64.wrap (((p.ins.map (Ins.c false)).length : Int) - 1)) = true := by rw [List.length_map, w64 (by omega) (by omega)]; simp [rng]; omega
    have hg : guardI p.ins k = lastI s := by rw [guardI, he]
    by_cases hs : 0 < s.length
    · have hx2 : (s.map iR)[s.length - 1]? = some (iR s[s.length - 1]) := map_at (by omega)
      have hl := lastI_at hs
      repeat' (first
         | refine wp_seq_i ?_ | refine wp_region_t k_l10Guard rfl ?_ | refine Run.done rfl ?_ | refine then_n ?_ | refine then_r ?_ | refine then_e ?_ | refine Run.go1 rfl ?_ | refine wp_skip_i ?_ | refine wp_ret_i ?_
         | refine wp_exit_i ?_ | refine wp_block_i ?_ | refine block_n ?_ | refine block_r ?_ | refine block_e ?_ | refine block_o rfl ?_ | refine wp_cond_t rfl ?_ | refine wp_cond_f rfl ?_ | refine Run.gT rfl rfl rfl rfl ?_
         | refine Run.pT rfl rfl ?_ | (refine Run.splitG rfl rfl rfl rfl rfl rfl ?_ ?_ <;> intro _) | (refine Run.splitP rfl rfl rfl rfl ?_ ?_ <;> intro _) | refine Run.call rfl rfl rfl (l1In_t _ _ _) rfl rfl ?_
         | refine Run.ix rfl rfl rfl rfl rfl rfl (wlen s hs (by omega)) hx2 rfl rfl rfl ?_ | refine Run.ldr rfl rfl rfl hx2 rfl rfl ?_ | (refine wp_cond_k rfl rfl rfl ?_ ?_ <;> intro _) | (refine wp_cond_i rfl ?_ ?_ <;> intro _))
      all_goals first
      | (exfalso; clear he; simp_all; done)
      | (exfalso; clear he; simp only [List.length_map, beq_iff_eq, beq_eq_false_iff_ne, decide_eq_true_eq, decide_eq_false_iff_not] at *; omega)
      | (refine ret_m [] rfl rfl ?_; rw [hg, hl]; done)
      | trace_state
    · have hl := lastI_nil hs
      repeat' (first
         | refine wp_seq_i ?_ | refine wp_region_t k_l10Guard rfl ?_ | refine Run.done rfl ?_ | refine then_n ?_ | refine then_r ?_ | refine then_e ?_ | refine Run.go1 rfl ?_ | refine wp_skip_i ?_ | refine wp_ret_i ?_
         | refine wp_exit_i ?_ | refine wp_block_i ?_ | refine block_n ?_ | refine block_r ?_ | refine block_e ?_ | refine block_o rfl ?_ | refine wp_cond_t rfl ?_ | refine wp_cond_f rfl ?_ | refine Run.gT rfl rfl rfl rfl ?_
         | refine Run.pT rfl rfl ?_ | (refine Run.splitG rfl rfl rfl rfl rfl rfl ?_ ?_ <;> intro _) | (refine Run.splitP rfl rfl rfl rfl ?_ ?_ <;> intro _) | refine Run.call rfl rfl rfl (l1In_t _ _ _) rfl rfl ?_
         | (refine wp_cond_k rfl rfl rfl ?_ ?_ <;> intro _) | (refine wp_cond_i rfl ?_ ?_ <;> intro _))
      all_goals first
      | (exfalso; clear he; simp_all; done)
      | (exfalso; clear he; simp only [List.length_map, beq_iff_eq, beq_eq_false_iff_ne, decide_eq_true_eq, decide_eq_false_iff_not] at *; omega)
      | (refine ret_m [] rfl rfl ?_; rw [hg, hl]; done)
      | trace_state
end Go.Proofs

set_option linter.unusedVariables false
set_option linter.unusedSimpArgs false
set_option maxHeartbeats 4000000
namespace Go.Proofs
open Go Go.Ev
set_option maxRecDepth 100000
variable {X : Rel3}
def guardTo (l : List Ins) (i : Nat) : Int := if guardI l i < 0 then -1 else toAt l (guardI l i)
theorem guard_row {l : List Ins} {i : Nat} (h : ¬ guardI l i < 0) : guardI l i = ((guardI l i).toNat : Int) ∧ ∃ x, (l.map (Ins.c false))[(guardI l i).toNat]? = some (Ins.c false x) ∧ x.to_ = toAt l (guardI l i) := by
  obtain ⟨j, hj, y, hy, _⟩ := guardI_is (l := l) (i := i) (by omega)
  refine ⟨by omega, y, ?_, ?_⟩
  · rw [hj, Int.toNat_natCast, List.getElem?_map, hy]; rfl
  · unfold toAt; rw [hj, Int.toNat_natCast, hy]
def normS (x : Ins) (i : Nat) : List Int :=
  if x.op == 15 || x.op == 16 then [] else if x.op == 13 then [x.to_] else if x.op == 11 || x.op == 12 then
    (if x.to_ < ((i + 1 : Nat) : Int) then [x.to_, ((i + 1 : Nat) : Int)] else if ((i + 1 : Nat) : Int) < x.to_ then [((i + 1 : Nat) : Int), x.to_] else [((i + 1 : Nat) : Int)]) else [((i + 1 : Nat) : Int)]
theorem normS_eq (x : Ins) (i : Nat) : normS x i = ascOf (waysL x i) := by
  refine asc_ext ?_ (ascOf_asc _) fun y => ?_
  · unfold normS
    repeat' split
    all_goals simp [Asc]
    all_goals omega
  · rw [ascOf_mem]
    unfold normS waysL
    by_cases h1 : x.op = 15
    · simp [h1]
    by_cases h2 : x.op = 16
    · simp [h2]
    by_cases h3 : x.op = 13
    · simp [h3]
    by_cases h4 : x.op = 11
    · simp only [h4]
      simp
      repeat' split
      all_goals simp
      all_goals omega
    by_cases h5 : x.op = 12
    · simp only [h5]
      simp
      repeat' split
      all_goals simp
      all_goals omega
    simp [h1, h2, h3, h4, h5]
theorem normS_len (x : Ins) (i : Nat) : (normS x i).length ≤ 2 := by
  unfold normS
  repeat' split
  all_goals simp
theorem nextsS_eq {p : Piece} (h : pieceB p = true) {i : Nat} {x : Ins} (hx : p.ins[i]? = some x) :
    (if decide (0 ≤ guardTo p.ins i) && mayB x.op then addGo (guardTo p.ins i) false (normS x i) else normS x i) = nexts p.ins i := by
  have hg : decide (0 ≤ guardTo p.ins i) = decide (0 ≤ guardI p.ins i) := by
    unfold guardTo
    split
    · simp; omega
    · rename_i hn
      obtain ⟨j, hj, y, hy, h17⟩ := guardI_is (l := p.ins) (i := i) (by omega)
      have := to_at h hy (by simp [uT, h17])
      have ht : toAt p.ins (guardI p.ins i) = y.to_ := by unfold toAt; rw [hj, Int.toNat_natCast, hy]
      rw [ht]; simp; omega
  unfold nexts
  rw [hx]
  simp only
  rw [hg, normS_eq]
  unfold guardL
  cases hc : (decide (0 ≤ guardI p.ins i) && mayB x.op) with
  | false => simp
  | true =>
    have h0 : 0 ≤ guardI p.ins i := by simp at hc; exact hc.1
    have ht : guardTo p.ins i = toAt p.ins (guardI p.ins i) := by unfold guardTo; rw [if_neg (by omega)]
    simp only [if_true, ht]
    refine asc_ext (addGo_asc _ _ (ascOf_asc _)) (ascOf_asc _) fun y => ?_
    rw [addGo_mem, ascOf_mem, ascOf_mem, List.mem_append, List.mem_singleton]
    by_cases e : y = toAt p.ins (guardI p.ins i) <;> simp [e]
def k_GuardS : List (Nat × List Nat) := [(0, [1, 2]), (1, [2, 5]), (2, [2, 5, 10]), (3, [4]), (4, [4])]
theorem GuardS_t (p : Piece) (i : Nat) (hp : p.ins.length ≤ 1048576) (hi : i < p.ins.length) : Tells Try.prog E0 X 74 [p.a false, iA i] (iA (guardTo p.ins i)) := by
  by_cases hg : guardI p.ins i < 0
  · refine Tells.by Try.func74 (by simp [Try.f74]) (Body.i rfl rfl rfl (fun _ => rfl) fun f => ?_)
    repeat' (first
       | refine wp_seq_i ?_ | refine wp_region_t k_GuardS rfl ?_ | refine Run.done rfl ?_ | refine then_n ?_ | refine then_r ?_ | refine then_e ?_ | refine Run.go1 rfl ?_ | refine wp_skip_i ?_ | refine wp_ret_i ?_
       | refine wp_exit_i ?_ | refine wp_block_i ?_ | refine block_n ?_ | refine block_r ?_ | refine block_e ?_ | refine block_o rfl ?_ | refine wp_cond_t rfl ?_ | refine wp_cond_f rfl ?_
       | refine Run.call rfl rfl rfl (l10Guard_t p i hp hi) rfl rfl ?_ | (refine wp_cond_k rfl rfl rfl ?_ ?_ <;> intro _) | (refine wp_cond_i rfl ?_ ?_ <;> intro _))
    all_goals first
    | (exfalso; rename_i h; simp [hg] at h; done)
    | (refine ret_m [] rfl rfl ?_; simp [guardTo, hg]; done)
    | trace_state
  · obtain ⟨hj, x, hx, hto⟩ := guard_row hg
    refine Tells.by Try.func74 (by simp [Try.f74]) (Body.i rfl rfl rfl (fun _ => rfl) fun f => ?_)
    repeat' (first
       | refine wp_seq_i ?_ | refine wp_region_t k_GuardS rfl ?_ | refine Run.done rfl ?_ | refine then_n ?_ | refine then_r ?_ | refine then_e ?_ | refine Run.go1 rfl ?_ | refine wp_skip_i ?_ | refine wp_ret_i ?_
       | refine wp_exit_i ?_ | refine wp_block_i ?_ | refine block_n ?_ | refine block_r ?_ | refine block_e ?_ | refine block_o rfl ?_ | refine wp_cond_t rfl ?_ | refine wp_cond_f rfl ?_
       | refine Run.call rfl rfl rfl (l10Guard_t p i hp hi) rfl rfl ?_ | refine Run.ix rfl rfl rfl rfl rfl rfl hj hx rfl rfl rfl ?_ | (refine wp_cond_k rfl rfl rfl ?_ ?_ <;> intro _) | (refine wp_cond_i rfl ?_ ?_ <;> intro _))
    all_goals first
    | (exfalso; rename_i h; simp [hg] at h; done)
    | (refine ret_m [] rfl rfl ?_; simp [guardTo, hg, hto]; done)
    | trace_state
def k_Normal : List (Nat × List Nat) := [(0, [1, 2]), (1, [1, 5]), (2, [1, 5, 12]), (3, [1, 5, 12, 13]), (4, [1, 5, 12, 13]), (5, [4]), (6, [1, 5, 12, 17]), (7, [4]), (8, [1, 5, 12, 22]), (9, [1, 5, 22]), (10, [1, 5, 29]), (11, [4]), (12, [1, 5, 39]), (13, [4]), (14, [4])]
theorem Normal_t (p : Piece) (i : Nat) (x : Ins) (hp : p.ins.length ≤ 1048576) (hx0 : p.ins[i]? = some x) : Tells Try.prog E0 X 73 [p.a false, iA i] (.t (.sl true ((normS x i).map iR))) := by
  have hi : i < p.ins.length := (List.getElem?_eq_some_iff.1 hx0).1
  have hx : (p.ins.map (Ins.c false))[i]? = some (Ins.c false x) := by rw [List.getElem?_map, hx0]; rfl
  have hw := w_succ hi (by omega)
  refine Tells.by Try.func73 (by simp [Try.f73]) (Body.i rfl rfl rfl (fun _ => rfl) fun f => ?_)
  repeat' (first
     | refine wp_seq_i ?_ | refine wp_region_t k_Normal rfl ?_ | refine Run.done rfl ?_ | refine then_n ?_ | refine then_r ?_ | refine then_e ?_ | refine Run.go1 rfl ?_ | refine wp_skip_i ?_ | refine wp_ret_i ?_
     | refine wp_exit_i ?_ | refine wp_block_i ?_ | refine block_n ?_ | refine block_r ?_ | refine block_e ?_ | refine block_o rfl ?_ | refine wp_cond_t rfl ?_ | refine wp_cond_f rfl ?_
     | refine Run.ix rfl rfl rfl rfl rfl rfl rfl hx rfl rfl rfl ?_ | (refine wp_cond_k rfl rfl rfl ?_ ?_ <;> intro _) | (refine wp_cond_i rfl ?_ ?_ <;> intro _))
  all_goals first
  | (exfalso; clear hx hx0; simp_all; done)
  | (refine ret_m [] rfl rfl ?_
     clear hx hx0
     simp only [decide_eq_true_eq, decide_eq_false_iff_not, beq_iff_eq, beq_eq_false_iff_ne] at *
     rw [hw] at *
     unfold normS
     simp only [beq_iff_eq, Bool.or_eq_true]
     repeat' split
     all_goals first
     | rfl
     | (exfalso; omega)
     | (exfalso; simp_all; omega))
  | trace_state
theorem l10Add_r (l : List Int) (n : Int) (hl : l.length ≤ 1000000000000) : Tells Try.prog E0 X 40 [.t (.sl false (shrR (l.map iR))), iA n] (.t (.sl true ((addGo n false l).map iR))) := l10Add_s l n hl
def k_NextsS : List (Nat × List Nat) := [(0, [1, 2]), (1, [1, 2, 13]), (2, [4]), (3, [1, 2, 5]), (4, [1, 2, 5, 6]), (5, [5, 6, 31]), (6, [5]), (7, [4])]
theorem NextsS_t (p : Piece) (i : Nat) (hb : pieceB p = true) (hp : p.ins.length ≤ 1048576) (hi : i < p.ins.length) : Tells Try.prog E0 X 39 [p.a false, iA i] (.t (.sl true ((nexts p.ins i).map iR))) := by
  obtain ⟨x, hx0⟩ : ∃ x, p.ins[i]? = some x := ⟨_, List.getElem?_eq_getElem hi⟩
  have hx : (p.ins.map (Ins.c false))[i]? = some (Ins.c false x) := by rw [List.getElem?_map, hx0]; rfl
  have hrng : rng i 0 (IntKind.i64.wrap (((p.ins.map (Ins.c false)).length : Int) - 1)) = true := by rw [List.length_map, w64 (by omega) (by omega)]; simp [rng]; omega
  have he := nextsS_eq hb hx0
  have hnl := normS_len x i
  refine Tells.by Try.func39 (by simp [Try.f39]) (Body.i rfl rfl rfl (fun _ => rfl) fun f => ?_)
  repeat' (first
     | refine wp_seq_i ?_ | refine wp_region_t k_NextsS rfl ?_ | refine Run.done rfl ?_ | refine then_n ?_ | refine then_r ?_ | refine then_e ?_ | refine Run.go1 rfl ?_ | refine wp_skip_i ?_ | refine wp_ret_i ?_
     | refine wp_exit_i ?_ | refine wp_block_i ?_ | refine block_n ?_ | refine block_r ?_ | refine block_e ?_ | refine block_o rfl ?_ | refine wp_cond_t rfl ?_ | refine wp_cond_f rfl ?_ | refine Run.gT rfl rfl rfl rfl ?_
     | refine Run.pT rfl rfl ?_ | (refine Run.splitG rfl rfl rfl rfl rfl rfl ?_ ?_ <;> intro _) | (refine Run.splitP rfl rfl rfl rfl ?_ ?_ <;> intro _) | refine Run.call rfl rfl rfl (l1In_t _ _ _) rfl rfl ?_
     | refine Run.call rfl rfl rfl (Normal_t p i x hp hx0) rfl rfl ?_ | refine Run.call rfl rfl rfl (GuardS_t p i hp hi) rfl rfl ?_ | refine Run.ix rfl rfl rfl rfl rfl rfl rfl hx rfl rfl rfl ?_
     | refine Run.call rfl rfl rfl (l10May_t _) rfl rfl ?_ | refine Run.callB rfl rfl rfl (l10Add_s _ _ (by omega)) (by simp [AV.own, T.own, ownI_b]) rfl ?_ | (refine wp_cond_k rfl rfl rfl ?_ ?_ <;> intro _)
     | (refine wp_cond_i rfl ?_ ?_ <;> intro _))
  all_goals first
  | (exfalso; clear hx hx0 he; simp_all; done)
  | (have hc : (decide (0 ≤ guardTo p.ins i) && mayB x.op) = true := by
       clear he hx hx0
       first | (simp_all; done) | (simp_all; omega)
     rw [hc, if_pos rfl] at he
     refine ret_m [] rfl rfl ?_; rw [← he]; done)
  | (have hc : (decide (0 ≤ guardTo p.ins i) && mayB x.op) = false := by
       clear he hx hx0
       first | (simp_all; done) | (simp_all; intro h; omega)
     rw [hc] at he
     simp only [Bool.false_eq_true, if_false] at he
     refine ret_m [] rfl rfl ?_; rw [← he]; done)
  | trace_state
end Go.Proofs

set_option linter.unusedVariables false
set_option linter.unusedSimpArgs false
set_option maxHeartbeats 4000000
namespace Go.Proofs
open Go Go.Ev
set_option maxRecDepth 100000
variable {X : Rel3}
/-- the first place where something is so -/
def idx {α : Type} (f : α → Bool) : List α → Nat → Int
  | [], _ => -1
  | x :: r, k => if f x then k else idx f r (k + 1)
theorem idx_step {α : Type} {f : α → Bool} {l : List α} {k j : Nat} (h : k < l.length) : idx f (l.drop k) j = if f l[k] then (j : Int) else idx f (l.drop (k + 1)) (j + 1) := by
  rw [List.drop_eq_getElem_cons h, idx]
theorem idx_any {α : Type} {f : α → Bool} {l : List α} {k : Nat} : decide (0 ≤ idx f l k) = l.any f := by
  induction l generalizing k with
  | nil => simp [idx]
  | cons x r ih => simp only [idx, List.any_cons]; split <;> simp_all
theorem idx_lt {α : Type} {f : α → Bool} {l : List α} {k : Nat} : idx f l k < k + l.length := by
  induction l generalizing k with
  | nil => simp [idx]; omega
  | cons x r ih => simp only [idx]; split <;> simp <;> have := ih (k := k + 1) <;> omega
def funAt (l : List Piece) (lam : Int) : Int := idx (fun p => p.lam == lam) l 0
def k_l9Fun : List (Nat × List Nat) := [(0, [1, 2]), (1, [1, 2, 5]), (2, [1, 2, 5, 10]), (3, [1, 2, 5]), (4, [1, 2, 5, 20]), (5, [4]), (6, [4])]
end Go.Proofs

