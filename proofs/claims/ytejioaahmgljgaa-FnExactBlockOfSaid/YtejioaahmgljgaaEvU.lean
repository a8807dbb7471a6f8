/- An evaluator over trees: what it tells is so (9): what comes into a frame; turns at will. -/
import Derived.Test.YtejioaahmgljgaaEvT
set_option linter.unusedVariables false
set_option linter.unusedSimpArgs false
namespace Go.Ev
open Go Go.RowKit

section
variable {P : Program} {tab : Tab} {w0 w : World} {B0 Fin : Nat → Prop} {s s' : St} {a : Act} {g g' : Gh}

theorem clear_keep {id : Nat} (h : s.clear id = some s') : ∀ i, i ≠ id → lk s'.o i = lk s.o i := by
  intro i hi
  unfold St.clear at h
  split at h
  · cases h; rfl
  · unfold St.drop at h
    split at h
    case h_2 => cases h
    rename_i t hh o n hk
    split at h
    case h_2 => cases h
    split at h
    case h_2 => cases h
    rename_i o' ho'
    cases h
    obtain ⟨k1, _⟩ := kill_parts hk
    show lk o' i = _
    rw [lk_rmv ho', if_neg (Ne.symm hi), ← k1]

/-- a frame has roots more, of names from lo to hi -/
structure Ext (s : St) (g : Gh) (s' : St) (g' : Gh) (lo hi : Nat) (G : Nat → Prop) : Prop where
  B : g'.B = g.B
  o : ∀ i r, (i < lo ∨ hi ≤ i) → lk s.o i = some r → lk s'.o i = some r ∧ g'.rv i = g.rv i
  used : ∀ b, used g' s' b → used g s b ∨ G b
theorem Ext.refl (s : St) (g : Gh) (lo hi : Nat) (G : Nat → Prop) : Ext s g s g lo hi G := ⟨rfl, fun _ _ _ h => ⟨h, rfl⟩, fun _ h => .inl h⟩
theorem Ext.trans {s1 s2 : St} {g1 g2 : Gh} {lo mid hi : Nat} {G G1 G2 : Nat → Prop} (h1 : Ext s g s1 g1 lo mid G1) (h2 : Ext s1 g1 s2 g2 mid hi G2) (hl : lo ≤ mid) (hh : mid ≤ hi) (hG1 : ∀ b, G1 b → G b) (hG2 : ∀ b, G2 b → G b) : Ext s g s2 g2 lo hi G := by
  refine ⟨h2.B.trans h1.B, ?_, ?_⟩
  · intro i r hi' hr
    obtain ⟨h3, h4⟩ := h1.o i r (by omega) hr
    obtain ⟨h5, h6⟩ := h2.o i r (by omega) h3
    exact ⟨h5, h6.trans h4⟩
  · intro b hb
    rcases h2.used b hb with h | h
    · rcases h1.used b h with h | h
      · exact .inl h
      · exact .inr (hG1 b h)
    · exact .inr (hG2 b h)

/-- a value that came in -/
inductive Imp (w : World) (g : Gh) (o : Rts) (lo hi : Nat) : AV → Value → Prop
  | t (x : T) (v : Value) (hr : Rep w g.B x v) : Imp w g o lo hi (.t x) v
  | rf (i : Nat) (rows : QV × List (List T)) (h1 : lo ≤ i) (h2 : i < hi) (hi' : lk o i = some rows) : Imp w g o lo hi (.rf i) (g.rv i)
  | ag (cs : List AV) (vs : List Value) (hl : cs.length = vs.length)
      (hr : ∀ (k : Nat) (x : AV) (v : Value), cs[k]? = some x → vs[k]? = some v → Imp w g o lo hi x v) : Imp w g o lo hi (.ag cs) (.agg vs.toArray)
  | tp (cs : List AV) (vs : List Value) (hl : cs.length = vs.length)
      (hr : ∀ (k : Nat) (x : AV) (v : Value), cs[k]? = some x → vs[k]? = some v → Imp w g o lo hi x v) : Imp w g o lo hi (.tp cs) (.tuple vs.toArray)
theorem Imp.cr {o : Rts} {lo hi : Nat} {x : AV} {v : Value} (h : Imp w g o lo hi x v) (bx : Bxs) : CR w g bx o x v := by
  induction h with
  | t x v hr => exact .t _ _ hr
  | rf i rows _ _ hi => exact .rf i rows hi
  | ag cs vs hl _ ih => exact .ag cs vs hl ih
  | tp cs vs hl _ ih => exact .tp cs vs hl ih
theorem Imp.ext {lo mid hi : Nat} {G : Nat → Prop} {x : AV} {v : Value} (h : Imp w g s.o lo mid x v) (he : Ext s g s' g' mid hi G) (hh : mid ≤ hi) : Imp w g' s'.o lo hi x v := by
  induction h with
  | t x v hr => exact .t _ _ (by rw [he.B]; exact hr)
  | rf i rows h1 h2 hi =>
    obtain ⟨h3, h4⟩ := he.o i rows (.inl h2) hi
    rw [← h4]; exact .rf i rows h1 (by omega) h3
  | ag cs vs hl _ ih => exact .ag cs vs hl ih
  | tp cs vs hl _ ih => exact .tp cs vs hl ih
theorem Imp.low {o : Rts} {lo lo' hi : Nat} {x : AV} {v : Value} (h : Imp w g o lo' hi x v) (hl : lo ≤ lo') : Imp w g o lo hi x v := by
  induction h with
  | t x v hr => exact .t _ _ hr
  | rf i rows h1 h2 hi => exact .rf i rows (by omega) h2 hi
  | ag cs vs hl _ ih => exact .ag cs vs hl ih
  | tp cs vs hl _ ih => exact .tp cs vs hl ih

/-- blocks that a frame may take for itself -/
def Take (w0 w : World) (Fin : Nat → Prop) (g : Gh) (s : St) (G : Nat → Prop) : Prop := ∀ b, G b → b < w.heap.size ∧ (Fin b ∨ w0.heap.size ≤ b) ∧ ¬ used g s b
theorem Take.sub {G G' : Nat → Prop} (h : Take w0 w Fin g s G) (hG : ∀ b, G' b → G b) : Take w0 w Fin g s G' := fun b hb => h b (hG b hb)
theorem Take.ext {lo hi : Nat} {G G' : Nat → Prop} (h : Take w0 w Fin g s G) (he : Ext s g s' g' lo hi G') (hd : ∀ b, G b → ¬ G' b) : Take w0 w Fin g' s' G := fun b hb => ⟨(h b hb).1, (h b hb).2.1, fun hu => by
  rcases he.used b hu with h' | h'
  · exact (h b hb).2.2 h'
  · exact hd b hb h'⟩

/-- what has memory of its own has a name -/
def ArgC (s : St) (g : Gh) (id : Nat) (x : AV) (v : Value) : Prop := ∀ rows, x = .t (.sl true rows) → (∃ r, lk s.o id = some r) ∧ g.rv id = v
def ArgA (s : St) (g : Gh) (id : Nat) (x : AV) (v : Value) : Prop := ArgC s g id x v ∧ ∀ (cs : List AV) (vs : List Value), x = .ag cs → v = .agg vs.toArray → cs.length = vs.length ∧ ∀ (j : Nat) (y : AV) (u : Value), cs[j]? = some y → vs[j]? = some u → ArgC s g (id + 1000 * j) y u
theorem ArgC.ext {id lo hi : Nat} {x : AV} {v : Value} {G : Nat → Prop} (h : ArgC s g id x v) (he : Ext s g s' g' lo hi G) (hl : id < lo) : ArgC s' g' id x v := by
  intro rows hx
  obtain ⟨⟨r, hr⟩, h2⟩ := h rows hx
  obtain ⟨h3, h4⟩ := he.o id r (.inl hl) hr
  exact ⟨⟨r, h3⟩, h4.trans h2⟩

theorem imp1_sound (F : FR w0 B0 Fin s a w g) {id : Nat} {x y : AV} {v : Value} {G : Nat → Prop} (hx : VC w g.B x v G) (hG : Take w0 w Fin g s G) (h : imp1 s id x = some (y, s')) :
    ∃ g', FR w0 B0 Fin s' a w g' ∧ Ext s g s' g' id (id + 1000) G ∧ Imp w g' s'.o id (id + 1000) y v ∧ ArgC s' g' id x v := by
  obtain ⟨t, rfl, hx⟩ := hx
  simp only [imp1] at h
  split at h
  · rename_i rows
    split at h
    case h_2 => cases h
    rename_i s1 h1
    split at h
    case h_2 => cases h
    rename_i s2 h2
    cases h
    obtain ⟨sz, hr⟩ := hx.root
    obtain ⟨F1, hf1, hf2, hbx, hrx⟩ := F.clear h1
    have hsub : Subs s s1 := ⟨hbx, hrx⟩
    obtain ⟨e1, e2, e3, e4⟩ := putO_parts h2
    refine ⟨_, F1.newRoot h2 hf2 hr (fun b hb => ⟨(hG b hb).1, (hG b hb).2.1, fun hu => (hG b hb).2.2 (hsub.used hu)⟩), ⟨rfl, ?_, ?_⟩, ?_, ?_⟩
    · intro i r hi hr'
      have hne : i ≠ id := by omega
      refine ⟨?_, upd_other _ _ hne⟩
      rw [e4, if_neg (Ne.symm hne), clear_keep h1 i hne]; exact hr'
    · rintro b (hb | ⟨i, c, hi, rfl⟩ | ⟨j, r, hj, hb⟩)
      · exact .inl (.inl hb)
      · rw [e2] at hi
        obtain ⟨c', hc'⟩ := hbx i c hi
        exact .inl (.inr (.inl ⟨i, c', hc', rfl⟩))
      · by_cases hj' : j = id
        · subst hj'; simp only [upd_same] at hb; exact .inr hb
        · rw [e4, if_neg (Ne.symm hj')] at hj
          simp only [upd_other _ _ hj'] at hb
          exact .inl (.inr (.inr ⟨j, r, hrx j r hj, hb⟩))
    · have := Imp.rf (w := w) (g := { g with rv := upd g.rv id v, sz := upd g.sz id sz, fo := upd g.fo id G }) (o := s'.o) (lo := id) (hi := id + 1000) id _ (Nat.le_refl _) (by omega) (by rw [e4, if_pos rfl])
      simpa [upd] using this
    · intro rows' _; exact ⟨⟨_, by rw [e4, if_pos rfl]⟩, upd_same _ _ _⟩
  · cases h
    cases hx with
    | sh rows v F h => exact ⟨g, F, .refl _ _ _ _ _, .t _ _ h, fun _ h => by cases h⟩
  · cases h
    cases hx with
    | sc v F => exact ⟨g, by assumption, .refl _ _ _ _ _, .t _ _ (.sc _), fun _ h => by cases h⟩
  · cases h
    cases hx with
    | pt cs v F h => exact ⟨g, by assumption, .refl _ _ _ _ _, .t _ _ h, fun _ h => by cases h⟩
  · cases h
    cases hx with
    | fn f cs v F h => exact ⟨g, by assumption, .refl _ _ _ _ _, .t _ _ h, fun _ h => by cases h⟩

theorem impL_sound : ∀ {cs : List AV} {s s' : St} {g : Gh} {id n : Nat} {l : List AV} {vs : List Value} {G : Nat → Prop}, FR w0 B0 Fin s a w g → Fam (VC w g.B) cs vs G → Take w0 w Fin g s G → impL s id cs = some (l, s', n) →
    ∃ g', FR w0 B0 Fin s' a w g' ∧ Ext s g s' g' id n G ∧ id ≤ n ∧ l.length = vs.length ∧ (∀ (k : Nat) (x : AV) (v : Value), l[k]? = some x → vs[k]? = some v → Imp w g' s'.o id n x v) ∧ ∀ (j : Nat) (y : AV) (u : Value), cs[j]? = some y → vs[j]? = some u → ArgC s' g' (id + 1000 * j) y u := by
  intro cs
  induction cs with
  | nil =>
    intro s s' g id n l vs G F hc hG h
    rw [impL] at h; cases h
    cases hc
    exact ⟨g, F, .refl _ _ _ _ _, Nat.le_refl _, rfl, fun k x v hk => by simp at hk, fun j y u hk => by simp at hk⟩
  | cons x cs ih =>
    intro s s' g id n l vs G F hc hG h
    rw [impL] at h
    split at h
    case h_2 => cases h
    rename_i y s1 h1
    split at h
    case h_2 => cases h
    rename_i l' s2 n' h2
    cases h
    cases hc with
    | cons _ _ v us G1 G2 _ hx hs hd hs1 hs2 =>
      obtain ⟨g1, F1, E1, I1, A1⟩ := imp1_sound F hx (hG.sub hs1) h1
      have hs' : Fam (VC w g1.B) cs us G2 := by rw [E1.B]; exact hs
      obtain ⟨g2, F2, E2, hn, hl, I2, A2⟩ := ih F1 hs' ((hG.sub hs2).ext E1 fun b hb hb' => hd b hb' hb) h2
      refine ⟨g2, F2, E1.trans E2 (by omega) hn hs1 hs2, by simp at hn ⊢; omega, by simp [hl], ?_, ?_⟩
      · intro k z u hk hu
        cases k with
        | zero => simp at hk hu; subst hk; subst hu; exact I1.ext E2 hn
        | succ k => exact (I2 k z u (by simpa using hk) (by simpa using hu)).low (by simp)
      · intro j z u hk hu
        cases j with
        | zero => simp at hk hu; subst hk; subst hu; exact A1.ext E2 (by simp)
        | succ j =>
          have := A2 j z u (by simpa using hk) (by simpa using hu)
          rw [show id + 1000 * (j + 1) = (id.add 1000) + 1000 * j by simp; omega]; exact this

theorem imp2_sound (F : FR w0 B0 Fin s a w g) {id n : Nat} {x y : AV} {v : Value} {G : Nat → Prop} (hx : VS w g.B x v G) (hG : Take w0 w Fin g s G) (h : imp2 s id x = some (y, s', n)) :
    ∃ g', FR w0 B0 Fin s' a w g' ∧ Ext s g s' g' id n G ∧ id ≤ n ∧ Imp w g' s'.o id n y v ∧ ArgA s' g' id x v := by
  rcases hx with hx | ⟨cs, vs, rfl, rfl, hx⟩
  · obtain ⟨t, rfl, hx⟩ := hx
    simp only [imp2] at h
    split at h
    case h_2 => cases h
    rename_i y' s1 h1
    cases h
    obtain ⟨g1, F1, E1, I1, A1⟩ := imp1_sound F ⟨t, rfl, hx⟩ hG h1
    exact ⟨g1, F1, E1, by simp, I1, A1, fun _ _ h => (by cases h)⟩
  · simp only [imp2] at h
    split at h
    case h_2 => cases h
    rename_i l s1 n' h1
    cases h
    obtain ⟨g1, F1, E1, hn, hl, I1, A1⟩ := impL_sound F hx hG h1
    refine ⟨g1, F1, E1, hn, .ag _ _ hl I1, (fun _ h => by cases h), ?_⟩
    intro cs' vs' h1 h2
    cases h1
    have : vs = vs' := by have := Value.agg.inj h2; simpa using this
    subst this
    exact ⟨hx.length, A1⟩

theorem impT_sound : ∀ {cs : List AV} {s s' : St} {g : Gh} {id : Nat} {l : List AV} {vs : List Value} {G : Nat → Prop}, FR w0 B0 Fin s a w g → Fam (VS w g.B) cs vs G → Take w0 w Fin g s G → impT s id cs = some (l, s') →
    ∃ g' n, FR w0 B0 Fin s' a w g' ∧ Ext s g s' g' id n G ∧ id ≤ n ∧ l.length = vs.length ∧ ∀ (k : Nat) (x : AV) (v : Value), l[k]? = some x → vs[k]? = some v → Imp w g' s'.o id n x v := by
  intro cs
  induction cs with
  | nil =>
    intro s s' g id l vs G F hc hG h
    rw [impT] at h; cases h
    cases hc
    exact ⟨g, id, F, .refl _ _ _ _ _, Nat.le_refl _, rfl, fun k x v hk => by simp at hk⟩
  | cons x cs ih =>
    intro s s' g id l vs G F hc hG h
    rw [impT] at h
    split at h
    case h_2 => cases h
    rename_i y s1 n1 h1
    split at h
    case h_2 => cases h
    rename_i l' s2 h2
    cases h
    cases hc with
    | cons _ _ v us G1 G2 _ hx hs hd hs1 hs2 =>
      obtain ⟨g1, F1, E1, hn1, I1, _⟩ := imp2_sound F hx (hG.sub hs1) h1
      have hs' : Fam (VS w g1.B) cs us G2 := by rw [E1.B]; exact hs
      obtain ⟨g2, n, F2, E2, hn, hl, I2⟩ := ih F1 hs' ((hG.sub hs2).ext E1 fun b hb hb' => hd b hb' hb) h2
      refine ⟨g2, n, F2, E1.trans E2 hn1 hn hs1 hs2, by omega, by simp [hl], ?_⟩
      intro k z u hk hu
      cases k with
      | zero => simp at hk hu; subst hk; subst hu; exact I1.ext E2 hn
      | succ k => exact (I2 k z u (by simpa using hk) (by simpa using hu)).low hn1

theorem impA_sound (F : FR w0 B0 Fin s a w g) {id : Nat} {x y : AV} {v : Value} {G : Nat → Prop} (hx : VR w g.B x v G) (hG : Take w0 w Fin g s G) (h : impA s id x = some (y, s')) :
    ∃ g' n, FR w0 B0 Fin s' a w g' ∧ Ext s g s' g' id n G ∧ Imp w g' s'.o id n y v := by
  rcases hx with hx | ⟨cs, vs, rfl, rfl, hx⟩
  · have h' : ∃ n, imp2 s id x = some (y, s', n) := by
      rcases hx with ⟨t, rfl, hx⟩ | ⟨cs, vs, rfl, rfl, hx⟩
      all_goals (
        simp only [impA] at h
        split at h
        case h_2 => cases h
        rename_i h1
        cases h
        exact ⟨_, h1⟩)
    obtain ⟨n, h'⟩ := h'
    obtain ⟨g1, F1, E1, _, I1, _⟩ := imp2_sound F hx hG h'
    exact ⟨g1, n, F1, E1, I1⟩
  · simp only [impA] at h
    split at h
    case h_2 => cases h
    rename_i l s1 h1
    cases h
    obtain ⟨g1, n, F1, E1, hn, hl, I1⟩ := impT_sound F hx hG h1
    exact ⟨g1, n, F1, E1, .tp _ _ hl I1⟩

/-- a result comes in -/
theorem putRes_sound (F : FR w0 B0 Fin s a w g) {dst : Option Nat} {r : AV} {v : Value} {G : Nat → Prop} (hx : VR w g.B r v G) (hG : Take w0 w Fin g s G) (h : putRes s dst r = some s') :
    ∃ g', FR w0 B0 Fin s' (a.put dst v) w g' := by
  unfold putRes at h
  split at h
  · split at h
    case h_2 => cases h
    rename_i y s1 h1
    obtain ⟨g1, n, F1, E1, I1⟩ := impA_sound F hx hG h1
    exact ⟨g1, F1.put h (I1.cr _)⟩
  · cases h; exact ⟨g, F⟩
end
end Go.Ev
