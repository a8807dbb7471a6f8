/- An evaluator over trees: what it tells is so (10): turns at will. -/
import Derived.Test.YtejioaahmgljgaaEvU
import Derived.Laws.IdiomStrings
set_option linter.unusedVariables false
set_option linter.unusedSimpArgs false
namespace Go.Ev
open Go Go.RowKit

section
variable {P : Program} {tab : Tab} {w0 w : World} {B0 Fin : Nat → Prop} {s s' : St} {a : Act} {g g' : Gh}

/-- blocks more that are shared -/
theorem FR.grow (F : FR w0 B0 Fin s a w g) (B' : Nat → Prop) (hB : ∀ b, B' b → b < w.heap.size ∧ (B0 b ∨ Fin b ∨ w0.heap.size ≤ b) ∧ (g.B b ∨ ¬ used g s b)) : FR w0 B0 Fin s a w { g with B := fun b => g.B b ∨ B' b } := by
  have key : ∀ x v, CR w g s.h s.o x v → CR w { g with B := fun b => g.B b ∨ B' b } s.h s.o x v := fun x v hx => hx.mono (w' := w) (g' := { g with B := fun b => g.B b ∨ B' b }) (h' := s.h) (o' := s.o) (fun b hb => ⟨.inl hb, rfl⟩) (fun id cs _ h1 => ⟨⟨cs, h1⟩, rfl⟩) (fun id rows _ h1 => ⟨⟨rows, h1, rfl⟩, rfl, rfl⟩) (fun id rows b _ _ h3 _ => ⟨h3, rfl⟩)
  refine ⟨F.n, F.df, F.kp, ?_, ?_, ?_, ?_, F.bi, F.rr, F.br, F.tv⟩
  · rintro b (hb | hb)
    · exact F.bb b hb
    · exact ⟨(hB b hb).1, (hB b hb).2.1⟩
  · intro k x hk
    obtain ⟨v, hv, hr⟩ := F.tm k x hk
    exact ⟨v, hv, key _ _ hr⟩
  · intro id cs hi
    obtain ⟨h1, h2, vs, ty, h3, h4⟩ := F.bx id cs hi
    refine ⟨h1, ?_, vs, ty, h3, h4.mono fun k x v _ hx => key _ _ hx⟩
    rintro (hb | hb)
    · exact h2 hb
    · rcases (hB _ hb).2.2 with h5 | h5
      · exact h2 h5
      · exact h5 (.inr (.inl ⟨id, cs, hi, rfl⟩))
  · intro id rows hi
    obtain ⟨h1, h2⟩ := F.rt id rows hi
    refine ⟨h1.mono (fun b hb => ⟨.inl hb, rfl⟩) (fun b hb => rfl), fun b hb => ⟨(h2 b hb).1, (h2 b hb).2.1, ?_⟩⟩
    rintro (h3 | h3)
    · exact (h2 b hb).2.2 h3
    · rcases (hB _ h3).2.2 with h5 | h5
      · exact (h2 b hb).2.2 h5
      · exact h5 (.inr (.inr ⟨id, rows, hi, hb⟩))

/-- a slot told in another way -/
theorem FR.retell (F : FR w0 B0 Fin s a w g) {d : Nat} {x : AV} {v : Value} (hv : a.tmps[d]? = some v) (h : s.putT (some d) x = some s') (hx : CR w g s.h s.o x v) : FR w0 B0 Fin s' a w g := by
  have F' := F.put h hx
  have e : a.put (some d) v = a := by
    obtain ⟨hd, hv'⟩ := Array.getElem?_eq_some_iff.1 hv
    simp only [Act.put]
    congr 1
    subst hv'
    apply Array.ext (by simp)
    intro i h1 h2
    rw [Array.getElem_setIfInBounds]
    split
    · rename_i e; subst e; rfl
    · rfl
  rwa [e] at F'
theorem get_slot (F : FR w0 B0 Fin s a w g) {d : Nat} {x : AV} (hx : s.get d = x) (hu : x ≠ .u) : ∃ v, a.tmps[d]? = some v ∧ CR w g s.h s.o x v := by
  unfold St.get at hx
  cases hk : lk s.t d with
  | none => rw [hk] at hx; exact absurd hx.symm hu
  | some y => rw [hk] at hx; simp only at hx; subst hx; exact F.tm d y hk

/-- a box's cells told in another way -/
theorem FR.reH (F : FR w0 B0 Fin s a w g) {id : Nat} {cells cells' : List AV} (hi : lk s.h id = some cells) (h : s.putH id cells' = some s') (hc : ∀ vs, CRs w g s.h s.o cells vs → CRs w g s.h s.o cells' vs) : FR w0 B0 Fin s' a w g := by
  obtain ⟨e1, e2, e3, e4⟩ := putH_parts h
  have hold : ∀ i c, lk s.h i = some c → ∃ c', lk s'.h i = some c' := by
    intro i c hc
    rw [e4]; split
    · exact ⟨_, rfl⟩
    · exact ⟨c, hc⟩
  have hold' : ∀ i c, lk s'.h i = some c → ∃ c', lk s.h i = some c' := by
    intro i c hc
    rw [e4] at hc; split at hc
    · rename_i e; subst e; exact ⟨_, hi⟩
    · exact ⟨c, hc⟩
  have key : ∀ x v, CR w g s.h s.o x v → CR w g s'.h s'.o x v := fun x v hx => hx.mono (fun b hb => ⟨hb, rfl⟩) (fun i cs _ h1 => ⟨hold i cs h1, rfl⟩) (fun i rows _ h1 => ⟨⟨rows, by rw [e2]; exact h1, rfl⟩, rfl, rfl⟩) (fun id rows b _ _ h3 _ => ⟨h3, rfl⟩)
  refine ⟨by rw [e3]; exact F.n, F.df, F.kp, F.bb, ?_, ?_, ?_, ?_, ?_, ?_, fun i r u h1 h2 => F.tv i r u (by rw [e2] at h1; exact h1) h2⟩
  · intro k x hk
    rw [e1] at hk
    obtain ⟨v, hv, hr⟩ := F.tm k x hk
    exact ⟨v, hv, key _ _ hr⟩
  · intro i cs h1
    rw [e4] at h1
    split at h1
    · rename_i e; subst e; cases h1
      obtain ⟨h1, h2, vs, ty, h3, h4⟩ := F.bx id cells hi
      exact ⟨h1, h2, vs, ty, h3, (hc vs h4).mono fun k x v _ hx => key _ _ hx⟩
    · obtain ⟨h1, h2, vs, ty, h3, h4⟩ := F.bx i cs h1
      exact ⟨h1, h2, vs, ty, h3, h4.mono fun k x v _ hx => key _ _ hx⟩
  · intro i rows h1; rw [e2] at h1; exact F.rt i rows h1
  · intro i j ci cj h1 h2 h3
    obtain ⟨c1, h1⟩ := hold' i ci h1
    obtain ⟨c2, h2⟩ := hold' j cj h2
    exact F.bi i j c1 c2 h1 h2 h3
  · intro i j ri rj b h1 h2 h3 h4; rw [e2] at h1 h2; exact F.rr i j ri rj b h1 h2 h3 h4
  · intro i j ci rj h1 h2
    obtain ⟨c1, h1⟩ := hold' i ci h1
    rw [e2] at h2; exact F.br i j c1 rj h1 h2

theorem hasI_has (i : Nat) (x : AV) (hi : x.hasI i = true) : x.has i = true := by
  suffices H : (∀ x : AV, x.hasI i = true → x.has i = true) ∧ True from H.1 x hi
  refine ⟨?_, trivial⟩
  intro x
  apply AV.rec (motive_1 := fun x => x.hasI i = true → x.has i = true) (motive_2 := fun l => hasIL i l = true → hasL i l = true)
  all_goals (intros; simp_all [AV.hasI, AV.has, hasIL, hasL])
  all_goals (try (split <;> simp_all))
theorem gone_has (ns : List Nat) (i : Nat) (x : AV) (hg : x.gone ns = false) (hi : x.has i = true) : ctn ns i = true := by
  suffices H : (∀ x : AV, x.gone ns = false → x.has i = true → ctn ns i = true) ∧ True from H.1 x hg hi
  refine ⟨?_, trivial⟩
  intro x
  apply AV.rec (motive_1 := fun x => x.gone ns = false → x.has i = true → ctn ns i = true) (motive_2 := fun l => goneL ns l = false → hasL i l = true → ctn ns i = true)
  case bp => intro j o h1 h2; simp only [AV.gone, Bool.not_eq_false'] at h1; simp only [AV.has] at h2; rw [← beq_t h2]; exact h1
  case rf => intro j h1 h2; simp only [AV.gone, Bool.not_eq_false'] at h1; simp only [AV.has] at h2; rw [← beq_t h2]; exact h1
  case rw => intro j _ _ h1 h2; simp only [AV.gone, Bool.not_eq_false'] at h1; simp only [AV.has] at h2; rw [← beq_t h2]; exact h1
  case rp => intro j _ _ h1 h2; simp only [AV.gone, Bool.not_eq_false'] at h1; simp only [AV.has] at h2; rw [← beq_t h2]; exact h1
  case bw => intro x j h1 h2; simp only [AV.gone, Bool.not_eq_false'] at h1; simp only [AV.has] at h2; rw [← beq_t h2]; exact h1
  case u => intro _ h2; simp [AV.has] at h2
  case t => intro _ _ h2; simp [AV.has] at h2
  case iw => intro _ _ h2; simp [AV.has] at h2
  case fn => intro _ cs ih h1 h2; simp only [AV.gone] at h1; simp only [AV.has] at h2; exact ih h1 h2
  case ag => intro cs ih h1 h2; simp only [AV.gone] at h1; simp only [AV.has] at h2; exact ih h1 h2
  case tp => intro cs ih h1 h2; simp only [AV.gone] at h1; simp only [AV.has] at h2; exact ih h1 h2
  case io => intro cs ih h1 h2; simp only [AV.gone] at h1; simp only [AV.has] at h2; exact ih h1 h2
  case nil => intro _ h2; simp [hasL] at h2
  case cons =>
    intro x r ihx ihr h1 h2
    simp only [goneL] at h1
    split at h1
    · cases h1
    · rename_i hx
      simp only [hasL] at h2
      split at h2
      · rename_i hx2; exact ihx hx hx2
      · exact ihr h1 h2
theorem ctn_elem : ∀ (l : List Nat) (k : Nat), ctn l k = true → l.elem k = true
  | [], k, h => by simp [ctn] at h
  | x :: r, k, h => by
    simp only [ctn] at h
    split at h
    · rename_i e; have := beq_t e; subst this; simp
    · have := ctn_elem r k h; simp only [List.elem_eq_mem, List.mem_cons, decide_eq_true_eq] at this ⊢; exact .inr this

theorem keep_sound (F : FR w0 B0 Fin s a w g) {ts ns : List Nat} (h : adj s (.keep ts ns) = some s') : FR w0 B0 Fin s' a w g := by
  simp only [adj] at h
  split at h
  case h_2 => cases h
  rename_i t h1 o n hk
  split at h
  case h_2 => cases h
  rename_i t' ht
  split at h
  case h_2 => cases h
  rename_i h' hh
  split at h
  case h_2 => cases h
  rename_i o' ho
  cases h
  obtain ⟨k1, k2, k3, k4, k5⟩ := kill_parts hk
  simp only at k1 k2 k3 k4 k5
  have hkf := F.kill (w' := w) (g' := g) hk { t := t, h := h', o := o', n := n } rfl (fun b hb => ⟨hb, rfl⟩)
    (fun x hx i cs hi hc => by
      obtain ⟨ds, hd⟩ := k5 i cs hc
      exact ⟨⟨ds, by rw [lk_keep' hh, if_pos (ctn_elem _ _ (gone_has ns i x hx hi))]; exact hd⟩, rfl⟩)
    (fun x hx i rows hi hr => ⟨⟨rows, by rw [lk_keep' ho, if_pos (ctn_elem _ _ (gone_has ns i x hx hi)), k1]; exact hr, rfl⟩, rfl, rfl⟩)
    (fun x hx i rows b hi hr h3 _ => ⟨h3, rfl⟩)
  have hsub : ∀ i ds, lk h' i = some ds → lk h1 i = some ds ∧ ∃ cs, lk s.h i = some cs := by
    intro i ds hi
    have hi := lk_keep hh hi
    obtain ⟨cs, hc, _⟩ := k4 i ds hi
    exact ⟨hi, cs, hc⟩
  have hsubo : ∀ i r, lk o' i = some r → lk s.o i = some r := by
    intro i r hi
    have := lk_keep ho hi
    rwa [k1] at this
  have F1 : FR w0 B0 Fin { t := t, h := h', o := o', n := n } a w g := by
    refine ⟨by rw [F.n]; exact k2.symm, F.df, F.kp, F.bb, hkf.1, ?_, ?_, ?_, ?_, ?_, fun i r u h1 h2 => F.tv i r u (hsubo i r h1) h2⟩
    · intro i ds hi
      obtain ⟨e, cs, hc⟩ := hsub i ds hi
      obtain ⟨h1, h2, _⟩ := F.bx i cs hc
      obtain ⟨vs, ty, h3, h4⟩ := hkf.2 i ds e
      exact ⟨h1, h2, vs, ty, h3, h4⟩
    · intro i rows hi; exact F.rt i rows (hsubo i rows hi)
    · intro i j ci cj h1 h2 h3
      obtain ⟨_, c1, hc1⟩ := hsub i ci h1
      obtain ⟨_, c2, hc2⟩ := hsub j cj h2
      exact F.bi i j c1 c2 hc1 hc2 h3
    · intro i j ri rj b h1 h2
      exact F.rr i j ri rj b (hsubo i ri h1) (hsubo j rj h2)
    · intro i j ci rj h1 h2
      obtain ⟨_, c1, hc1⟩ := hsub i ci h1
      exact F.br i j c1 rj hc1 (hsubo j rj h2)
  exact F1.congr (fun k x hk => lk_keep ht hk) (fun _ => rfl) (fun _ => rfl) rfl

theorem renP_key {id d : Nat} (p q : Nat × AV) (h : renP id d p = some q) : q.1 = p.1 := by
  obtain ⟨k, x⟩ := p
  simp only [renP] at h
  split at h
  · cases h; rfl
  · cases h
theorem renB_key {id d : Nat} (p q : Nat × List AV) (h : renB id d p = some q) : q.1 = p.1 := by
  obtain ⟨k, x⟩ := p
  simp only [renB] at h
  split at h
  · cases h; rfl
  · cases h

theorem ren_sound (F : FR w0 B0 Fin s a w g) {id d : Nat} (h : adj s (.ren id d) = some s') : ∃ g', FR w0 B0 Fin s' a w g' := by
  simp only [adj] at h
  split at h
  · cases h; exact ⟨g, F⟩
  rename_i hne
  have hne := beq_f hne
  split at h
  case h_2 => cases h
  rename_i t hh o n hc
  obtain ⟨F1, hn1, hn2, _, _⟩ := F.clear hc
  simp only at hn1 hn2
  split at h
  case h_2 => cases h
  rename_i rows hi
  split at h
  case h_2 => cases h
  rename_i o1 ho1
  split at h
  case h_2 => cases h
  rename_i o2 ho2
  split at h
  case h_2 => cases h
  rename_i t' ht
  split at h
  case h_2 => cases h
  rename_i h' hh'
  cases h
  clear F hc
  let g' : Gh := { g with rv := upd g.rv d (g.rv id), sz := upd g.sz d (g.sz id), fo := upd g.fo d (g.fo id) }
  have hlo : ∀ i, lk o2 i = if d = i then some rows else if id = i then none else lk o i := fun i => by rw [lk_pu ho2, lk_rmv ho1]
  have hlo' : ∀ i r, lk o2 i = some r → ∃ j, lk o j = some r ∧ g'.rv i = g.rv j ∧ g'.sz i = g.sz j ∧ g'.fo i = g.fo j ∧ (i = d ∧ j = id ∨ i ≠ d ∧ j = i ∧ i ≠ id) := by
    intro i r hr
    rw [hlo] at hr
    split at hr
    · rename_i e; subst e; cases hr; exact ⟨id, hi, upd_same _ _ _, upd_same _ _ _, upd_same _ _ _, .inl ⟨rfl, rfl⟩⟩
    · rename_i e
      split at hr
      · cases hr
      · rename_i e2
        exact ⟨i, hr, upd_other _ _ (Ne.symm e), upd_other _ _ (Ne.symm e), upd_other _ _ (Ne.symm e), .inr ⟨Ne.symm e, rfl, Ne.symm e2⟩⟩
  have hlh : ∀ i c, lk hh i = some c → ∃ c', lk h' i = some c' := fun i c hi => by
    obtain ⟨y, hy, _⟩ := lk_mapS' renB_key hh' hi
    exact ⟨y, hy⟩
  have hold : ∀ (x : AV) v, x.has id = false → CR w g hh o x v → CR w g' h' o2 x v := fun x v hx hc => hc.mono (w' := w) (g' := g') (h' := h') (o' := o2) (fun b hb => ⟨hb, rfl⟩) (fun i cs _ h1 => ⟨hlh i cs h1, rfl⟩)
    (fun i r hi' h1 => by
      have e1 : id ≠ i := fun e => by subst e; rw [hx] at hi'; cases hi'
      have e2 : d ≠ i := fun e => by subst e; rw [hn2] at h1; cases h1
      exact ⟨⟨r, by rw [hlo, if_neg e2, if_neg e1]; exact h1, rfl⟩, upd_other _ _ (Ne.symm e2), upd_other _ _ (Ne.symm e2)⟩)
    (fun i r b hi' h1 h2 _ => by
      have e2 : d ≠ i := fun e => by subst e; rw [hn2] at h1; cases h1
      exact ⟨by show upd g.fo d (g.fo id) i b; rw [upd_other _ _ (Ne.symm e2)]; exact h2, rfl⟩)
  have key : ∀ x y v, renA id d x = some y → CR w g hh o x v → CR w g' h' o2 y v := by
    intro x y v hxy hx
    have hrest : (match x.has id with
      | true => some AV.u
      | false => fA x) = some y → CR w g' h' o2 y v := by
      intro hq
      split at hq
      · cases hq; exact .u _
      · rename_i hf; rw [fA_eq hq]; exact hold x v hf hx
    unfold renA at hxy
    split at hxy
    · rename_i i
      split at hxy
      · rename_i e; have := beq_t e; subst this
        cases hxy
        cases hx with
        | rf i r hi' =>
          have := CR.rf (w := w) (g := g') (h := h') (o := o2) d rows (by rw [hlo, if_pos rfl])
          simpa [g', upd] using this
      · rename_i e; cases hxy
        exact hold _ v (by simp only [AV.has]; exact e) hx
    · rename_i i l hl
      split at hxy
      · rename_i e; have := beq_t e; subst this
        cases hxy
        cases hx with
        | rw i l hl r hi' h1 h2 =>
          rw [hi] at hi'; cases hi'
          have := CR.rw (w := w) (g := g') (h := h') (o := o2) d l hl rows (by rw [hlo, if_pos rfl]) h1 h2
          simpa [g', upd] using this
      · rename_i e; cases hxy
        exact hold _ v (by simp only [AV.has]; exact e) hx
    · exact hrest hxy
  refine ⟨g', F1.n, F1.df, F1.kp, F1.bb, ?_, ?_, ?_, ?_, ?_, ?_, fun i r u h1 h2 => by
    obtain ⟨j, hj, e1, _⟩ := hlo' i r h1
    rw [e1]; exact F1.tv j r u hj h2⟩
  · intro k y hy
    obtain ⟨x, hx, hq⟩ := lk_mapS renP_key ht hy
    simp only [renP] at hq
    split at hq
    · rename_i z hz; cases hq
      obtain ⟨v, hv, hr⟩ := F1.tm k x hx
      exact ⟨v, hv, key _ _ _ hz hr⟩
    · cases hq
  · intro i ds hd
    obtain ⟨cs, hcs, hq⟩ := lk_mapS renB_key hh' hd
    simp only [renB] at hq
    split at hq
    · rename_i l hl; cases hq
      obtain ⟨h1, h2, vs, ty, h3, h4⟩ := F1.bx i cs hcs
      obtain ⟨h5, h6⟩ := mapS_eq hl
      refine ⟨h1, h2, vs, ty, h3, by rw [h5]; exact h4.1, ?_⟩
      intro k y v hk hv
      have hkl := nth_lt hk
      rw [h5] at hkl
      obtain ⟨z, hz, hq⟩ := h6 k _ (List.getElem?_eq_getElem hkl)
      rw [hk] at hz; cases hz
      exact key _ _ _ hq (h4.2 k _ v (List.getElem?_eq_getElem hkl) hv)
    · cases hq
  · intro i r hr
    obtain ⟨j, hj, e1, e2, e3, _⟩ := hlo' i r hr
    rw [e1, e2, e3]
    exact F1.rt j r hj
  · intro i j ci cj h1 h2 h3
    obtain ⟨c1, h1, _⟩ := lk_mapS renB_key hh' h1
    obtain ⟨c2, h2, _⟩ := lk_mapS renB_key hh' h2
    exact F1.bi i j c1 c2 h1 h2 h3
  · intro i j ri rj b h1 h2 h3 h4
    obtain ⟨i', hi', _, _, e3, hc1⟩ := hlo' i ri h1
    obtain ⟨j', hj', _, _, e4, hc2⟩ := hlo' j rj h2
    rw [e3] at h3
    rw [e4] at h4
    have := F1.rr i' j' ri rj b hi' hj' h3 h4
    omega
  · intro i j ci rj h1 h2 h3
    obtain ⟨c1, h1, _⟩ := lk_mapS renB_key hh' h1
    obtain ⟨j', hj', _, _, e4, _⟩ := hlo' j rj h2
    rw [e4] at h3
    exact F1.br i j' c1 rj h1 hj' h3

theorem nil_root (F : FR w0 B0 Fin s a w g) {d : Nat} (h : s.putO d 0 [] = some s') (hf : lk s.o d = none) : ∃ g', FR w0 B0 Fin s' a w g' ∧ g'.rv d = .slice none 0 0 ∧ g'.B = g.B ∧ lk s'.o d = some (0, []) ∧ s'.t = s.t ∧ s'.h = s.h ∧
    (∀ x v, CR w g s.h s.o x v → CR w g' s'.h s'.o x v) := by
  obtain ⟨e1, e2, e3, e4⟩ := putO_parts h
  have hne : ∀ i c, lk s.o i = some c → i ≠ d := fun i c hi e => by subst e; rw [hf] at hi; cases hi
  refine ⟨_, F.newRoot (q := 0) (v := .slice none 0 0) (sz := 0) (G := fun _ => False) h hf (.inl ⟨rfl, rfl⟩) (fun b hb => hb.elim), by simp [upd], rfl, by rw [e4, if_pos rfl], e1, e2, ?_⟩
  intro x v hx
  refine hx.mono (w' := w) (g' := { g with rv := upd g.rv d _, sz := upd g.sz d _, fo := upd g.fo d _ }) (h' := s'.h) (o' := s'.o) (fun b hb => ⟨hb, rfl⟩)
    (fun i cs _ h1 => ⟨⟨cs, by rw [e2]; exact h1⟩, rfl⟩) (fun i r _ h1 => ⟨⟨r, by rw [e4, if_neg (Ne.symm (hne i r h1))]; exact h1, rfl⟩, upd_other _ _ (hne i r h1), upd_other _ _ (hne i r h1)⟩)
    (fun i r b _ h1 h2 _ => ⟨by show upd g.fo d _ i b; rw [upd_other _ _ (hne i r h1)]; exact h2, rfl⟩)

theorem adj_sound (F : FR w0 B0 Fin s a w g) {x : Adj} (h : adj s x = some s') : ∃ g', FR w0 B0 Fin s' a w g' := by
  cases x with
  | keep ts ns => exact ⟨g, keep_sound F h⟩
  | ren id d => exact ren_sound F h
  | nilT slot d =>
    simp only [adj] at h
    split at h
    case h_2 => cases h
    rename_i hs0
    split at h
    case h_2 => cases h
    rename_i s1 h1
    split at h
    case h_2 => cases h
    rename_i hs1
    split at h
    case h_2 => cases h
    rename_i s2 h2
    obtain ⟨F1, _, hn2, _, _⟩ := F.clear h1
    obtain ⟨g', F2, hv, hB, hl, e1, e2, _⟩ := nil_root F1 h2 hn2
    obtain ⟨v, hv1, hr⟩ := get_slot F1 hs1 (by simp)
    have := cr_sc hr; subst this
    exact ⟨g', F2.retell hv1 h (by rw [← hv]; exact .rf d _ hl)⟩
  | nilH box cell d =>
    simp only [adj] at h
    split at h
    case h_2 => cases h
    rename_i s1 h1
    split at h
    case h_2 => cases h
    rename_i cells hc
    split at h
    case h_2 => cases h
    rename_i hx
    split at h
    case h_2 => cases h
    rename_i s2 h2
    split at h
    case h_2 => cases h
    rename_i cells' hs
    obtain ⟨F1, _, hn2, _, _⟩ := F.clear h1
    obtain ⟨g', F2, hv, hB, hl, e1, e2, _⟩ := nil_root F1 h2 hn2
    refine ⟨g', F2.reH (by rw [e2]; exact hc) h ?_⟩
    intro vs hvs
    obtain ⟨rfl, hlen⟩ := setS_eq hs
    rw [nthS_eq] at hx
    refine ⟨by have := hvs.1; simp at hlen ⊢; omega, ?_⟩
    intro k y v hk hv'
    by_cases e : k = cell
    · subst e
      have : CR w g' s2.h s2.o _ v := hvs.2 k _ v hx hv'
      have := cr_sc this; subst this
      have hk' : y = .rf d := by
        simp only [List.length_cons, List.length_nil] at hlen
        rw [List.append_assoc, List.getElem?_append_right (by simp; omega), List.getElem?_append_left (by simp; omega)] at hk
        simp at hk
        have hmin : min k cells.length = k := by omega
        rw [hmin] at hk
        simpa using hk.symm
      subst hk'
      rw [← hv]; exact .rf d _ hl
    · refine hvs.2 k y v ?_ hv'
      simp only [List.length_cons, List.length_nil] at hlen
      rw [← hk]
      rcases Nat.lt_or_ge k cell with h3 | h3
      · rw [List.append_assoc, List.getElem?_append_left (by simp; omega), List.getElem?_take, if_pos h3]
      · rw [List.append_assoc, List.getElem?_append_right (by simp; omega), List.getElem?_append_right (by simp; omega), List.getElem?_drop]
        congr 1
        simp; omega
  | slots ts =>
    obtain ⟨t, hh, o, n⟩ := s
    simp only [adj] at h
    split at h
    case h_2 => cases h
    rename_i t1 ht
    cases h
    exact ⟨g, F.congr (fun k x hk => lk_keep ht hk) (fun _ => rfl) (fun _ => rfl) rfl⟩
  | share slot =>
    simp only [adj] at h
    split at h
    case h_2 => cases h
    rename_i id hs0
    split at h
    case h_2 => cases h
    rename_i q rows hi
    split at h
    case h_2 => cases h
    rename_i s1 h1
    obtain ⟨v, hv, hr⟩ := get_slot F hs0 (by simp)
    obtain ⟨F1, hsub, _, hroot, hfr⟩ := drop_root F hi h1
    have F2 := F1.grow (g.fo id) (fun b hb => ⟨(hfr b hb).1, .inr (hfr b hb).2.1, .inr (hfr b hb).2.2.1⟩)
    refine ⟨_, F2.retell hv h ?_⟩
    cases hr with
    | rf _ r hi' =>
      refine .t _ _ ?_
      exact rep_shrR (hroot.rep (fun b hb => .inl hb) (fun b hb => .inr hb) false)

theorem set_nth {α : Type} {l l' : List α} {k : Nat} {x : α} (h : setS l k [x] = some l') : l'.length = l.length ∧ k < l.length ∧ l'[k]? = some x ∧ ∀ j, j ≠ k → l'[j]? = l[j]? := by
  obtain ⟨rfl, hn⟩ := setS_eq h
  simp only [List.length_cons, List.length_nil] at hn
  refine ⟨by simp; omega, by omega, ?_, ?_⟩
  · rw [List.append_assoc, List.getElem?_append_right (by simp; omega), List.getElem?_append_left (by simp; omega)]
    have hm : min k l.length = k := by omega
    simp [hm]
  · intro j hj
    rcases Nat.lt_or_ge j k with h3 | h3
    · rw [List.append_assoc, List.getElem?_append_left (by simp; omega), List.getElem?_take, if_pos h3]
    · rw [List.append_assoc, List.getElem?_append_right (by simp; omega), List.getElem?_append_right (by simp; omega), List.getElem?_drop]
      congr 1
      simp; omega

/-- a row's cell told in another way: what stands there -/
theorem root_tell {B : Nat → Prop} {n : Nat} {rows : List (List T)} {v : Value} {sz : Nat} {F : Nat → Prop} (h : Root w B n rows v sz F) {i k : Nat} {row : List T} {x : T} (hi : rows[i]? = some row) (hk : row[k]? = some x) :
    ∃ u G, Own w B x u G ∧ (∀ b, G b → F b) ∧ (∀ b, topOf v b → ¬ G b) ∧ (∀ b, topOf v b → F b) ∧ ∀ (y : T) (row' : List T) (G' : Nat → Prop) (F' : Nat → Prop), setS row k [y] = some row' → Own w B y u G' → (∀ b, topOf v b → ¬ G' b) → (∀ b, F b → ¬ G b → ¬ G' b) → (∀ b, F b → ¬ G b → F' b) → (∀ b, G' b → F' b) → Root w B n (rows.set i row') v sz F' := by
  have hil := nth_lt hi
  rcases h with ⟨rfl, rfl⟩ | ⟨b, off, cap, us, Fs, cs, ty, rfl, hh, hcap, hc, hl, hw, hd, hb, h1, h2, h3⟩
  · simp at hi
  · obtain ⟨c1, c2, c3⟩ := hw i row k x hi hk
    refine ⟨us i k, Fs i k, c2, h2 i k, fun c hc' => ?_, fun c hc' => ?_, ?_⟩
    · simp only [topOf] at hc'; subst hc'; exact hb i k
    · simp only [topOf] at hc'; subst hc'; exact h1
    intro y row' G' F' hs hy ht hdis hF1 hF2
    obtain ⟨l1, l2, l3, l4⟩ := set_nth hs
    have hset : ∀ i' r', (rows.set i row')[i']? = some r' → (i' = i ∧ r' = row') ∨ (i' ≠ i ∧ rows[i']? = some r') := by
      intro i' r' hr
      rw [List.getElem?_set] at hr
      split at hr
      · rename_i e; subst e; first | (rw [if_pos hil] at hr; cases hr; exact .inl ⟨rfl, rfl⟩) | (cases hr; exact .inl ⟨rfl, rfl⟩)
      · rename_i e; exact .inr ⟨Ne.symm e, hr⟩
    let Fs' : Nat → Nat → Nat → Prop := fun i' k' c => if i' = i ∧ k' = k then G' c else Fs i' k' c
    have hFs : ∀ i' k' c, Fs' i' k' c → (i' = i ∧ k' = k ∧ G' c) ∨ (¬ (i' = i ∧ k' = k) ∧ Fs i' k' c) := by
      intro i' k' c hq
      simp only [Fs'] at hq
      split at hq
      · rename_i e; exact .inl ⟨e.1, e.2, hq⟩
      · rename_i e; exact .inr ⟨e, hq⟩
    have hFn : ∀ i' k' c, ¬ (i' = i ∧ k' = k) → Fs i' k' c → ¬ Fs i k c := fun i' k' c hne hf hf' => hne (hd i' k' i k c hf hf')
    have hrl : (rows.set i row').length = rows.length := by simp
    refine .inr ⟨b, off, cap, us, Fs', cs, ty, by rw [hrl], hh, hcap, by rw [hrl]; exact hc, ?_, ?_, ?_, ?_, ?_, ?_, ?_⟩
    · intro i' r' hr
      rcases hset i' r' hr with ⟨_, rfl⟩ | ⟨_, hr⟩
      · rw [l1]; exact hl i row hi
      · exact hl i' r' hr
    · intro i' r' k' x' hr hk'
      rcases hset i' r' hr with ⟨rfl, rfl⟩ | ⟨hne, hr⟩
      · by_cases e : k' = k
        · subst e
          rw [l3] at hk'; cases hk'
          exact ⟨c1, by simp only [Fs', and_self, if_true]; exact hy, c3⟩
        · rw [l4 k' e] at hk'
          obtain ⟨d1, d2, d3⟩ := hw i' row k' x' hi hk'
          exact ⟨d1, by simp only [Fs', e, and_false, if_false]; exact d2, d3⟩
      · obtain ⟨d1, d2, d3⟩ := hw i' r' k' x' hr hk'
        exact ⟨d1, by simp only [Fs', hne, false_and, if_false]; exact d2, d3⟩
    · intro i1 k1 i2 k2 c hq1 hq2
      rcases hFs _ _ _ hq1 with ⟨rfl, rfl, g1⟩ | ⟨n1, g1⟩
      · rcases hFs _ _ _ hq2 with ⟨rfl, rfl, g2⟩ | ⟨n2, g2⟩
        · exact ⟨rfl, rfl⟩
        · exact absurd g1 (hdis c (h2 _ _ _ g2) (hFn _ _ _ n2 g2))
      · rcases hFs _ _ _ hq2 with ⟨rfl, rfl, g2⟩ | ⟨n2, g2⟩
        · exact absurd g2 (hdis c (h2 _ _ _ g1) (hFn _ _ _ n1 g1))
        · exact hd _ _ _ _ _ g1 g2
    · intro i' k' hq
      rcases hFs _ _ _ hq with ⟨_, _, g1⟩ | ⟨_, g1⟩
      · exact ht b rfl g1
      · exact hb _ _ g1
    · exact hF1 b h1 (hb i k)
    · intro i' k' c hq
      rcases hFs _ _ _ hq with ⟨_, _, g1⟩ | ⟨n1, g1⟩
      · exact hF2 c g1
      · exact hF1 c (h2 _ _ _ g1) (hFn _ _ _ n1 g1)
    · rcases h3 with ⟨h3, h4⟩ | h3
      · refine .inl ⟨h3, fun he => ?_⟩
        have : rows.length = 0 := by rw [← hrl, he]; rfl
        omega
      · exact .inr h3

theorem hole_sound (F : FR w0 B0 Fin s a w g) {id i k d : Nat} {q : QV} {rows : List (List T)} {row : List T} {inner : List (List T)} (h1 : lk s.o id = some (q, rows)) (h2 : rows[i]? = some row) (h3 : nthS row k = some (.sl true inner)) :
    ∃ u, ∀ s', holeS s id q rows i row k d inner u = some s' → ∃ g', FR w0 B0 Fin s' a w g' := by
  rw [nthS_eq] at h3
  obtain ⟨hroot, hfo⟩ := F.rt id _ h1
  simp only at hroot
  obtain ⟨u, G, hown, hG1, hG2, hG3, hnew⟩ := root_tell hroot h2 h3
  refine ⟨u, ?_⟩
  intro s' h
  unfold holeS at h
  split at h
  · cases h
  rename_i hne
  have hne := beq_f hne
  split at h
  case h_2 => cases h
  rename_i s1 hc
  split at h
  case h_2 => cases h
  rename_i s2 hk
  split at h
  case h_2 => cases h
  rename_i row' hrow
  split at h
  case h_2 => cases h
  rename_i s3 hp
  obtain ⟨F1, hn1, hn2, _, hrx⟩ := F.clear hc
  have hid1 : lk s1.o id = some (q, rows) := by rw [clear_keep hc id (Ne.symm hne)]; exact h1
  obtain ⟨k1, k2, k3, k4, k5⟩ := kill_parts hk
  obtain ⟨p1, p2, p3, p4⟩ := putO_parts hp
  obtain ⟨p1', p2', p3', p4'⟩ := putO_parts h
  clear hp h
  obtain ⟨sz', hin⟩ := hown.root
  let F' : Nat → Prop := fun b => g.fo id b ∧ ¬ G b
  have hRid : Root w g.B q.n (rows.set i row') (g.rv id) (g.sz id) F' := hnew (.sc u) row' (fun _ => False) F' hrow (.sc _ _) (fun _ _ h => h) (fun _ _ _ h => h) (fun b hb hn => ⟨hb, hn⟩) (fun _ h => h.elim)
  let g' : Gh := { g with rv := upd g.rv d u, sz := upd g.sz d sz', fo := upd (upd g.fo id F') d G }
  have hfd : g'.fo d = G := upd_same _ _ _
  have hfi : g'.fo id = F' := by show upd (upd g.fo id F') d G id = F'; rw [upd_other _ _ (Ne.symm hne), upd_same]
  have hfx : ∀ j, j ≠ id → j ≠ d → g'.fo j = g.fo j := fun j e1 e2 => by show upd (upd g.fo id F') d G j = _; rw [upd_other _ _ e2, upd_other _ _ e1]
  have hlo : ∀ j, lk s'.o j = if d = j then some (⟨0, some u⟩, inner) else if id = j then some (q, rows.set i row') else lk s1.o j := fun j => by rw [p4', p4, k1]
  have hlo' : ∀ j r, lk s'.o j = some r → (j = d ∧ r = (⟨0, some u⟩, inner)) ∨ (j = id ∧ r = (q, rows.set i row')) ∨ (j ≠ d ∧ j ≠ id ∧ lk s1.o j = some r) := by
    intro j r hj
    rw [hlo] at hj
    split at hj
    · rename_i e; cases hj; exact .inl ⟨e.symm, rfl⟩
    · rename_i e
      split at hj
      · rename_i e2; cases hj; exact .inr (.inl ⟨e2.symm, rfl⟩)
      · rename_i e2; exact .inr (.inr ⟨Ne.symm e, Ne.symm e2, hj⟩)
  have hsub : ∀ j b, (∃ r, lk s'.o j = some r) → g'.fo j b → (j = d ∧ G b) ∨ (j = id ∧ F' b) ∨ (j ≠ d ∧ j ≠ id ∧ g.fo j b) := by
    intro j b ⟨r, hr⟩ hb
    rcases hlo' j r hr with ⟨rfl, _⟩ | ⟨rfl, _⟩ | ⟨e1, e2, _⟩
    · rw [hfd] at hb; exact .inl ⟨rfl, hb⟩
    · rw [hfi] at hb; exact .inr (.inl ⟨rfl, hb⟩)
    · rw [hfx j e2 e1] at hb; exact .inr (.inr ⟨e1, e2, hb⟩)
  have hkf := F1.kill (w' := w) (g' := g') hk s' (by rw [p1', p1]) (fun b hb => ⟨hb, rfl⟩)
    (fun x hx i' cs hi' hc' => by
      obtain ⟨ds, hd⟩ := k5 i' cs hc'
      exact ⟨⟨ds, by rw [p2', p2]; exact hd⟩, rfl⟩)
    (fun x hx i' r hi' hr => by
      have e1 : i' ≠ d := fun e => by subst e; rw [hn2] at hr; cases hr
      refine ⟨?_, upd_other _ _ e1, upd_other _ _ e1⟩
      by_cases e2 : id = i'
      · subst e2
        rw [hid1] at hr; cases hr
        exact ⟨_, by rw [hlo, if_neg (Ne.symm e1), if_pos rfl], by simp⟩
      · exact ⟨r, by rw [hlo, if_neg (Ne.symm e1), if_neg e2]; exact hr, rfl⟩)
    (fun x hx i' r b hi' hr hb _ => by
      have e1 : i' ≠ d := fun e => by subst e; rw [hn2] at hr; cases hr
      have e2 : i' ≠ id := fun e => by subst e; rw [hx] at hi'; cases hi'
      exact ⟨by rw [hfx i' e2 e1]; exact hb, rfl⟩)
  have hbo : ∀ i' ci, lk s'.h i' = some ci → ∃ c, lk s1.h i' = some c := by
    intro i' ci hi'
    rw [p2', p2] at hi'
    obtain ⟨cs, hcs, _⟩ := k4 i' ci hi'
    exact ⟨cs, hcs⟩
  have hGF : ∀ b, G b → ¬ F' b := fun b h1 h2 => h2.2 h1
  refine ⟨g', by rw [p3', p3, k2]; exact F1.n, F1.df, F1.kp, F1.bb, hkf.1, ?_, ?_, ?_, ?_, ?_, ?_⟩
  · intro i' ds hd
    rw [p2', p2] at hd
    obtain ⟨cs, hcs, _⟩ := k4 i' ds hd
    obtain ⟨a1, a2, _⟩ := F1.bx i' cs hcs
    obtain ⟨vs, ty, a3, a4⟩ := hkf.2 i' ds hd
    exact ⟨a1, a2, vs, ty, a3, a4⟩
  · intro j r hr
    rcases hlo' j r hr with ⟨rfl, rfl⟩ | ⟨rfl, rfl⟩ | ⟨e1, e2, hr1⟩
    · rw [hfd]
      refine ⟨?_, fun b hb => hfo b (hG1 b hb)⟩
      show Root w g.B 0 inner (upd g.rv j u j) (upd g.sz j sz' j) G
      rw [upd_same, upd_same]; exact hin
    · rw [hfi]
      refine ⟨?_, fun b hb => hfo b hb.1⟩
      show Root w g.B q.n (rows.set i row') (upd g.rv d u j) (upd g.sz d sz' j) F'
      rw [upd_other _ _ (Ne.symm hne), upd_other _ _ (Ne.symm hne)]; exact hRid
    · rw [hfx j e2 e1]
      show Root w g.B r.1.n r.2 (upd g.rv d u j) (upd g.sz d sz' j) (g.fo j) ∧ _
      rw [upd_other _ _ e1, upd_other _ _ e1]
      exact F1.rt j r hr1
  · intro i' j' ci cj a1 a2 a3
    obtain ⟨c1, a1⟩ := hbo i' ci a1
    obtain ⟨c2, a2⟩ := hbo j' cj a2
    exact F1.bi i' j' c1 c2 a1 a2 a3
  · intro i' j' ri rj b a1 a2 b1 b2
    have hs1 := hlo' i' ri a1
    have hs2 := hlo' j' rj a2
    rcases hsub i' b ⟨ri, a1⟩ b1 with ⟨rfl, c1⟩ | ⟨rfl, c1⟩ | ⟨e1, e2, c1⟩
    · rcases hsub j' b ⟨rj, a2⟩ b2 with ⟨rfl, c2⟩ | ⟨rfl, c2⟩ | ⟨e3, e4, c2⟩
      · rfl
      · exact absurd c2 (hGF b c1)
      · rcases hs2 with ⟨e, _⟩ | ⟨e, _⟩ | ⟨_, _, hr2⟩
        · exact absurd e e3
        · exact absurd e e4
        · exact absurd (F1.rr id j' _ rj b hid1 hr2 (hG1 b c1) c2).symm e4
    · rcases hsub j' b ⟨rj, a2⟩ b2 with ⟨rfl, c2⟩ | ⟨rfl, c2⟩ | ⟨e3, e4, c2⟩
      · exact absurd c1 (hGF b c2)
      · rfl
      · rcases hs2 with ⟨e, _⟩ | ⟨e, _⟩ | ⟨_, _, hr2⟩
        · exact absurd e e3
        · exact absurd e e4
        · exact absurd (F1.rr i' j' _ rj b hid1 hr2 c1.1 c2).symm e4
    · rcases hs1 with ⟨e, _⟩ | ⟨e, _⟩ | ⟨_, _, hr1⟩
      · exact absurd e e1
      · exact absurd e e2
      rcases hsub j' b ⟨rj, a2⟩ b2 with ⟨rfl, c2⟩ | ⟨rfl, c2⟩ | ⟨e3, e4, c2⟩
      · exact absurd (F1.rr i' id ri _ b hr1 hid1 c1 (hG1 b c2)) e2
      · exact absurd (F1.rr i' j' ri _ b hr1 hid1 c1 c2.1) e2
      · rcases hs2 with ⟨e, _⟩ | ⟨e, _⟩ | ⟨_, _, hr2⟩
        · exact absurd e e3
        · exact absurd e e4
        · exact F1.rr i' j' ri rj b hr1 hr2 c1 c2
  · intro i' j' ci rj a1 a2 b1
    obtain ⟨c1, a1⟩ := hbo i' ci a1
    have hs2 := hlo' j' rj a2
    rcases hsub j' _ ⟨rj, a2⟩ b1 with ⟨rfl, c2⟩ | ⟨rfl, c2⟩ | ⟨e3, e4, c2⟩
    · exact F1.br i' id c1 _ a1 hid1 (hG1 _ c2)
    · exact F1.br i' j' c1 _ a1 hid1 c2.1
    · rcases hs2 with ⟨e, _⟩ | ⟨e, _⟩ | ⟨_, _, hr2⟩
      · exact e3 e
      · exact e4 e
      · exact F1.br i' j' c1 rj a1 hr2 c2
  · intro j r u' hr hu
    rcases hlo' j r hr with ⟨rfl, rfl⟩ | ⟨rfl, rfl⟩ | ⟨e1, e2, hr1⟩
    · cases hu; exact upd_same _ _ _
    · show upd g.rv d u j = u'
      rw [upd_other _ _ (Ne.symm hne)]; exact F1.tv j _ u' hid1 hu
    · show upd g.rv d u j = u'
      rw [upd_other _ _ e1]; exact F1.tv j r u' hr1 hu

theorem fillR_sound (F : FR w0 B0 Fin s a w g) {id i k d : Nat} {q : QV} {rows : List (List T)} {row : List T} {inner : List (List T)} {u : Value} (h1 : lk s.o id = some (q, rows)) (h2 : rows[i]? = some row) (h3 : nthS row k = some (.sc u)) (h4 : lk s.o d = some (⟨0, some u⟩, inner))
    (h : fillS s id q rows i row k d inner = some s') : ∃ g', FR w0 B0 Fin s' a w g' := by
  rw [nthS_eq] at h3
  unfold fillS at h
  split at h
  · cases h
  rename_i hne
  have hne := beq_f hne
  split at h
  case h_2 => cases h
  rename_i s1 hd
  split at h
  case h_2 => cases h
  rename_i row' hrow
  have hu : g.rv d = u := F.tv d _ u h4 rfl
  obtain ⟨F1, hsub, hn, hrd, hfr⟩ := drop_root F h4 hd
  have hid1 : lk s1.o id = some (q, rows) := by
    rw [(F.drop hd).2.2 id, if_neg hne]; exact h1
  obtain ⟨hroot, hfo⟩ := F1.rt id _ hid1
  simp only at hroot hrd
  obtain ⟨u', G, hown, hG1, hG2, hG3, hnew⟩ := root_tell hroot h2 h3
  have huu : u' = u := by cases hown; rfl
  subst huu
  rw [hu] at hrd
  have hdis : ∀ b, g.fo id b → ¬ g.fo d b := fun b hb hb' => hne (F.rr d id _ _ b h4 h1 hb' hb)
  have hR := hnew (.sl true inner) row' (g.fo d) (fun b => g.fo id b ∨ g.fo d b) hrow (Root.own hrd) (fun b hb => hdis b (hG3 b hb)) (fun b hb _ => hdis b hb) (fun b hb _ => .inl hb) (fun b hb => .inr hb)
  have hslice : ∃ b off n cap, g.rv id = .slice (some ⟨b, off, none⟩) n cap := by
    rcases hroot with ⟨rfl, _⟩ | ⟨b, off, cap, us, Fs, cs, ty, e, _⟩
    · simp at h2
    · exact ⟨b, off, _, cap, e⟩
  obtain ⟨b, off, n, cap, hv⟩ := hslice
  exact ⟨_, F1.setRoot hid1 h (by simp) hv (fun c _ => rfl) rfl rfl rfl rfl hR (fun c hc => .inl hc) (fun c hc => by
    rcases hc with hc | hc
    · exact .inl hc
    · exact .inr ⟨(hfr c hc).1, (hfr c hc).2.1, (hfr c hc).2.2.1⟩)⟩

theorem AdjW.sound {K : St → Prop} (h : AdjW K s) (F : FR w0 B0 Fin s a w g) : ∃ s' g', K s' ∧ FR w0 B0 Fin s' a w g' := by
  induction h generalizing g with
  | done s h => exact ⟨s, g, h, F⟩
  | one x s s' h _ ih =>
    obtain ⟨g1, F1⟩ := adj_sound F h
    exact ih F1
  | hole id i k d s q rows row inner f h1 h2 h3 h4 _ ih =>
    obtain ⟨u, hu⟩ := hole_sound (d := d) F h1 h2 h3
    obtain ⟨g1, F1⟩ := hu (f u) (h4 u)
    exact ih u F1
  | fill id i k d s s' q rows row inner u h1 h2 h3 h4 h5 _ ih =>
    obtain ⟨g1, F1⟩ := fillR_sound F h1 h2 h3 h4 h5
    exact ih F1
  | tell slot d s s' q rows u h1 h2 h3 h4 _ ih =>
    obtain ⟨v, hv, hr⟩ := get_slot F h1 (by simp)
    have hvu := cr_sc hr
    refine ih (F.retell hv h4 ?_)
    have := F.tv d _ u h2 h3
    rw [hvu, ← this]; exact .rf d _ h2
  | tellC slot j d s s' q rows u cs cs' h1 h0 h2 h3 h5 h4 _ ih =>
    obtain ⟨v, hv, hr⟩ := get_slot F h1 (by simp)
    refine ih (F.retell hv h4 ?_)
    have ht := F.tv d _ u h2 h3
    rw [nthS_eq] at h0
    obtain ⟨l1, l2, l3, l4⟩ := set_nth h5
    cases hr with
    | ag _ vs hl hq =>
      refine .ag _ _ (by rw [l1]; exact hl) ?_
      intro k y v hk hv'
      by_cases e : k = j
      · subst e
        rw [l3] at hk; cases hk
        have := cr_sc (hq k _ v h0 hv')
        rw [this, ← ht]; exact .rf d _ h2
      · rw [l4 k e] at hk
        exact hq k y v hk hv'

theorem adjL_sound : ∀ {l : List Adj} {s s' : St} {g : Gh}, FR w0 B0 Fin s a w g → adjL s l = some s' → ∃ g', FR w0 B0 Fin s' a w g' := by
  intro l
  induction l with
  | nil => intro s s' g F h; rw [adjL] at h; cases h; exact ⟨g, F⟩
  | cons x l ih =>
    intro s s' g F h
    rw [adjL] at h
    split at h
    case h_2 => cases h
    rename_i s1 h1
    obtain ⟨g1, F1⟩ := adj_sound F h1
    exact ih F1 h

theorem evalC3_sound (hT : TabOk P tab) (F : FR w0 B0 Fin s a w g) {o : Oper} {c : Prop} (h : evalC3 tab s o.op o.dst = some (c, s')) :
    ∃ u w' g', (execOp a.eval o).run P w = .ok (.value u) w' ∧ FR w0 B0 Fin s' (a.put o.dst u) w' g' := by
  unfold evalC3 at h
  split at h
  case h_2 => cases h
  rename_i src ty x ho
  split at h
  case h_2 => cases h
  rename_i hs
  split at h
  case h_2 => cases h
  rename_i e _ _ _ ht
  split at h
  case h_2 => cases h
  rename_i he
  split at h
  case h_2 => cases h
  rename_i b hx
  split at h
  case h_2 => cases h
  rename_i s1 hp
  cases h
  obtain ⟨d1, _, h1, hP1⟩ := ti_und (hT.1 _ _ hs) w
  obtain ⟨d2, _, h2, hP2⟩ := ti_und (hT.1 _ _ ht) w
  obtain ⟨d3, _, h3, hP3⟩ := ti_und (hT.1 _ _ he) w
  cases td_str h1
  cases td_sl h2
  cases td_int h3
  have hxv := F.ev x
  rw [hx] at hxv
  have hxe := cr_sc hxv
  have hrun := run_bytes_of_string w src ty e b hP1 hP2 hP3
  generalize hcap : grownCap w b.size 0 e = cap at hrun
  let w' := w.drew.alloc (.cells (bytesRow b cap) e ((bytesRow b cap).size, (bytesRow b cap).size + 1))
  have hsz : w'.heap.size = w.heap.size + 1 := by
    show (w.heap.push _).size = _
    simp
  have hold : ∀ c, c < w.heap.size → w'.heap[c]? = w.heap[c]? := fun c hc => by
    show (w.heap.push _)[c]? = _
    rw [Array.getElem?_push, if_neg (by omega)]
  have hnew : w'.heap[w.heap.size]? = some (.cells (bytesRow b cap) e ((bytesRow b cap).size, (bytesRow b cap).size + 1)) := by
    show (w.heap.push _)[w.heap.size]? = _
    simp
  have hk : Keeps Fin w0 w' := F.kp.step (G := fun _ => False) ⟨rfl, rfl, rfl, by omega, fun c hc _ => hold c hc⟩ (fun _ _ h => h.elim)
  have F1 := F.world (w' := w') (by omega) (fun c hc => hold c (F.used_lt hc)) hk
  have F2 := F1.grow (fun c => c = w.heap.size) (fun c hc => by subst hc; exact ⟨by omega, .inr (.inr F.kp.size), .inr fun hu => by have := F.used_lt hu; omega⟩)
  refine ⟨.slice (some ⟨w.heap.size, 0, none⟩) b.size cap, w', { g with B := fun c => g.B c ∨ c = w.heap.size }, ?_, F2.put hp (.t _ _ ?_)⟩
  · simp only [execOp, ho, hxe, Sem.run_bind]
    rw [hrun]
    rfl
  · have hlen : (byteRows b).length = b.size := by unfold byteRows; rw [List.length_map, Array.length_toList]; rfl
    rw [← hlen]
    have hrow : ∀ (i : Nat) (r : List T), (byteRows b)[i]? = some r → ∃ hi : i < b.data.size, r = [.sc (.int .u8 (b.data[i]).toNat)] := by
      intro i r hr
      have hi := nth_lt hr
      rw [hlen] at hi
      have hi : i < b.data.size := hi
      refine ⟨hi, ?_⟩
      simp only [byteRows, List.getElem?_map, Array.getElem?_toList, Array.getElem?_eq_getElem hi, Option.map_some, Option.some.injEq] at hr
      exact hr.symm
    refine .sl _ _ w.heap.size 0 cap 1 (fun i _ => .int .u8 ((b.data[i]?).getD 0).toNat) (fun _ => .inr rfl) ?_ ?_ ?_ ?_
    · rw [hlen, ← hcap]; exact grownCap_ge w b.size 0 e
    · intro i r hr; obtain ⟨_, rfl⟩ := hrow i r hr; rfl
    · intro i r k y hr hk'
      obtain ⟨hi, rfl⟩ := hrow i r hr
      have hk0 : k = 0 := by have := nth_lt hk'; simpa using this
      subst hk0
      have hc : (bytesRow b cap)[i]? = some (.int .u8 ((b.data[i]?).getD 0).toNat) := by
        unfold bytesRow
        rw [Array.getElem?_append, if_pos (by rw [Array.size_map]; exact hi), Array.getElem?_map, Array.getElem?_eq_getElem hi]
        rfl
      simp only [World.cell?, hnew, Nat.mul_one, Nat.add_zero, Nat.zero_add, hc]
      rfl
    · intro i r k y hr hk'
      obtain ⟨hi, rfl⟩ := hrow i r hr
      have hk0 : k = 0 := by have := nth_lt hk'; simpa using this
      subst hk0
      simp at hk'; subst hk'
      simp only [Array.getElem?_eq_getElem hi, Option.getD_some]
      exact .sc _
/-- a tree stands where its cells read the same -/
theorem Rep.cells {w w' : World} {B : Nat → Prop} (hB : ∀ a : Addr, B a.block → w'.cell? a = w.cell? a) {x : T} {v : Value} (h : Rep w B x v) : Rep w' B x v := by
  induction h with
  | sc v => exact .sc v
  | nil o => exact .nil o
  | em o a cap => exact .em o a cap
  | sl o rows b off cap sz us hb hc hl hw _ ih => exact .sl o rows b off cap sz us hb hc hl (fun i r k x hi hk => by rw [hB _ (hb (ne_of_nth hi))]; exact hw i r k x hi hk) ih
  | pt cells b off us hb hw _ ih => exact .pt cells b off us hb (fun k x hk => by rw [hB _ hb]; exact hw k x hk) ih
  | fn g caps vs hl _ ih => exact .fn g caps vs hl ih

theorem evalC4_sound (hT : TabOk P tab) (F : FR w0 B0 Fin s a w g) {o : Oper} {c : Prop} (h : evalC4 tab s o.op o.dst = some (c, s')) (hcc : c) :
    ∃ u w' g', (execOp a.eval o).run P w = .ok (.value u) w' ∧ FR w0 B0 Fin s' (a.put o.dst u) w' g' := by
  unfold evalC4 at h
  split at h
  case h_2 => cases h
  rename_i src ty x ho
  split at h
  case h_2 => cases h
  rename_i hb
  have e := beq_t hb; subst e
  split at h
  case h_2 => cases h
  rename_i e _ _ _ ht
  split at h
  case h_2 => cases h
  rename_i he
  split at h
  case h_2 => cases h
  rename_i id hx
  split at h
  case h_2 => cases h
  rename_i q rows hi
  split at h
  case h_2 => cases h
  rename_i s1 hd
  split at h
  case h_2 => cases h
  rename_i s2 hp
  cases h
  obtain ⟨d2, _, h2, hP2⟩ := ti_und (hT.1 _ _ ht) w
  obtain ⟨d3, _, h3, hP3⟩ := ti_und (hT.1 _ _ he) w
  cases td_sl h2
  cases td_int h3
  have hxv := F.ev x
  rw [hx] at hxv
  have hxe : a.eval x = g.rv id := by generalize a.eval x = z at hxv; cases hxv with | rf _ _ _ => rfl
  obtain ⟨F1, hs1, _, hr, hfr⟩ := drop_root F hi hd
  rcases hr with ⟨rfl, _⟩ | ⟨b, off, cap, us, Fs, cs, ty', hv, hh, hcap, hc, hl, hw, hdj, hnb, h4, h5, h6⟩
  · exact absurd rfl hcc
  have hblt := (Array.getElem?_eq_some_iff.1 hh).1
  let w' := w.freeze ⟨b, cs.size, none⟩ 1
  have hother : ∀ c, c ≠ b → w'.heap[c]? = w.heap[c]? := fun c hc => by
    show (World.freeze _ _ _).heap[c]? = _
    unfold World.freeze
    rw [if_neg (by decide)]
    simp [Array.getElem?_modify, Ne.symm hc]
  have hthis : w'.heap[b]? = some (.cells cs ty' (cs.size, cs.size + 1)) := by
    show (World.freeze _ _ _).heap[b]? = _
    unfold World.freeze
    rw [if_neg (by decide)]
    simp [Array.getElem?_modify, hh]
  have hsz : w'.heap.size = w.heap.size := by
    show (World.freeze _ _ _).heap.size = _
    unfold World.freeze
    rw [if_neg (by decide)]
    simp
  have hcell : ∀ a : Addr, w'.cell? a = w.cell? a := fun a => by
    unfold World.cell?
    by_cases hab : a.block = b
    · rw [hab, hthis, hh]
    · rw [hother _ hab]
  have hfb := hfr b h4
  have hk : Keeps Fin w0 w' := F.kp.step (G := fun c => c = b) ⟨by show (World.freeze _ _ _).os = _; unfold World.freeze; rw [if_neg (by decide)], by show (World.freeze _ _ _).tape = _; unfold World.freeze; rw [if_neg (by decide)], by show (World.freeze _ _ _).output = _; unfold World.freeze; rw [if_neg (by decide)], by omega, fun c _ hne => hother c hne⟩ (fun c hc hcb => by
    subst hcb
    rcases hfb.2.1 with h | h
    · exact h
    · omega)
  have F2 := F1.world (w' := w') (by omega) (fun c hc => hother c fun e => by subst e; exact hfb.2.2.1 hc) hk
  have F3 := F2.grow (g.fo id) (fun c hc => by
    have := hfr c hc
    exact ⟨by rw [hsz]; exact this.1, .inr this.2.1, .inr this.2.2.1⟩)
  have hown : Own w (fun c => g.B c ∨ g.fo id c) (.sl true rows) (g.rv id) (g.fo id) := by
    rw [hv]
    refine .sl rows b off cap (g.sz id) us Fs (g.fo id) cs ty' hh hcap hc hl (fun i r k x hi hk => (hw i r k x hi hk).1) (fun i r k x hi hk => (hw i r k x hi hk).2.1.mono (fun c hc => ⟨.inl hc, rfl⟩) fun _ _ => rfl) (fun i r k x hi hk => (hw i r k x hi hk).2.2) hdj hnb h4 h5 (fun e => absurd e hcc)
  have hrep : Rep w' (fun c => g.B c ∨ g.fo id c) (.sl false (shrR rows)) (g.rv id) := by
    have := (hown.rep (B' := fun c => g.B c ∨ g.fo id c) (fun _ h => h) (fun _ h => .inr h)).shr
    exact this.cells fun a _ => hcell a
  refine ⟨g.rv id, w', _, ?_, F3.put hp (.t _ _ hrep)⟩
  simp only [execOp, ho, hxe, hv, Sem.run_bind]
  have hsh : w.shape? b = some (ty', cs.size) := by unfold World.shape?; rw [hh]
  simp [convert, run_underlying hP2, run_underlying hP3, markStringish, hsh]
  rfl
end
end Go.Ev

