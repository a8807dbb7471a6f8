/- An evaluator over trees: what it tells is so (5): boxes and roots. -/
import Derived.Test.YtejioaahmgljgaaEvQ
set_option linter.unusedVariables false
set_option linter.unusedSimpArgs false
namespace Go.Ev
open Go Go.RowKit

/-- the blocks that a frame stands on -/
def used (g : Gh) (s : St) (b : Nat) : Prop := g.B b ∨ (∃ i c, lk s.h i = some c ∧ b = g.lc i) ∨ ∃ j r, lk s.o j = some r ∧ g.fo j b

section
variable {P : Program} {tab : Tab} {w0 w : World} {B0 Fin : Nat → Prop} {s s' : St} {a : Act} {g : Gh}

theorem FR.used_lt (F : FR w0 B0 Fin s a w g) {b : Nat} (h : used g s b) : b < w.heap.size := by
  rcases h with h | ⟨i, c, hi, rfl⟩ | ⟨j, r, hj, hb⟩
  · exact (F.bb b h).1
  · exact F.lt hi
  · exact ((F.rt j r hj).2 b hb).1

/-- memory goes on elsewhere -/
theorem FR.world (F : FR w0 B0 Fin s a w g) {w' : World} (hs : w.heap.size ≤ w'.heap.size) (hu : ∀ b, used g s b → w'.heap[b]? = w.heap[b]?) (hk : Keeps Fin w0 w') : FR w0 B0 Fin s a w' g := by
  have key : ∀ x v, CR w g s.h s.o x v → CR w' g s.h s.o x v := fun x v hx => hx.mono (fun b hb => ⟨hb, hu b (.inl hb)⟩) (fun id cs _ h1 => ⟨⟨cs, h1⟩, rfl⟩) (fun id rows _ h1 => ⟨⟨rows, h1, rfl⟩, rfl, rfl⟩) (fun id rows b _ h2 h3 _ => ⟨h3, hu b (.inr (.inr ⟨id, rows, h2, h3⟩))⟩)
  refine ⟨F.n, F.df, hk, fun b hb => ⟨by have := (F.bb b hb).1; omega, (F.bb b hb).2⟩, ?_, ?_, ?_, F.bi, F.rr, F.br, F.tv⟩
  · intro k x hx
    obtain ⟨v, hv, hr⟩ := F.tm k x hx
    exact ⟨v, hv, key _ _ hr⟩
  · intro id cs hi
    obtain ⟨h1, h2, vs, ty, h3, h4⟩ := F.bx id cs hi
    exact ⟨h1, h2, vs, ty, by rw [hu _ (.inr (.inl ⟨id, cs, hi, rfl⟩))]; exact h3, h4.mono fun k x v _ hx => key _ _ hx⟩
  · intro id rows hi
    obtain ⟨h1, h2⟩ := F.rt id rows hi
    exact ⟨h1.mono (fun b hb => ⟨hb, hu b (.inl hb)⟩) (fun b hb => hu b (.inr (.inr ⟨id, rows, hi, hb⟩))), fun b hb => ⟨by have := (h2 b hb).1; omega, (h2 b hb).2⟩⟩

theorem FR.drop (F : FR w0 B0 Fin s a w g) {id : Nat} (h : s.drop id = some s') : FR w0 B0 Fin s' a w g ∧ (∀ i, lk s'.h i = none ↔ (i = id ∨ lk s.h i = none)) ∧ (∀ i, lk s'.o i = if id = i then none else lk s.o i) := by
  unfold St.drop at h
  split at h
  case h_2 => cases h
  rename_i t hh o n hk
  split at h
  case h_2 => cases h
  rename_i h' hh'
  split at h
  case h_2 => cases h
  rename_i o' ho'
  cases h
  obtain ⟨k1, k2, k3, k4, k5⟩ := kill_parts hk
  simp only at k1 k2 k3 k4 k5
  have hne : ∀ (x : AV), x.has id = false → ∀ i, x.has i = true → id ≠ i := fun x hx i hi e => by subst e; rw [hx] at hi; cases hi
  have hI : ∀ (x : AV) i, x.hasI i = true → x.has i = true := by
    intro x i hi
    suffices H : (∀ x : AV, x.hasI i = true → x.has i = true) ∧ True from H.1 x hi
    refine ⟨?_, trivial⟩
    intro x
    apply AV.rec (motive_1 := fun x => x.hasI i = true → x.has i = true) (motive_2 := fun l => hasIL i l = true → hasL i l = true)
    all_goals (intros; simp_all [AV.hasI, AV.has, hasIL, hasL])
    all_goals (try (split <;> simp_all))
  have hkf := F.kill (w' := w) (g' := g) hk { t := t, h := h', o := o', n := n } rfl (fun b hb => ⟨hb, rfl⟩)
    (fun x hx i cs hi hc => by
      obtain ⟨ds, hd⟩ := k5 i cs hc
      exact ⟨⟨ds, by rw [lk_rmv hh', if_neg (hne x hx i hi)]; exact hd⟩, rfl⟩)
    (fun x hx i rows hi hr => ⟨⟨rows, by rw [lk_rmv ho', if_neg (hne x hx i hi), k1]; exact hr, rfl⟩, rfl, rfl⟩)
    (fun x hx i rows b hi hr h3 _ => ⟨h3, rfl⟩)
  have hsub : ∀ i ds, lk h' i = some ds → id ≠ i ∧ ∃ cs, lk s.h i = some cs := by
    intro i ds hi
    rw [lk_rmv hh'] at hi
    split at hi
    · cases hi
    · rename_i e
      obtain ⟨cs, hc, _⟩ := k4 i ds hi
      exact ⟨e, cs, hc⟩
  have hsubo : ∀ i r, lk o' i = some r → id ≠ i ∧ lk s.o i = some r := by
    intro i r hi
    rw [lk_rmv ho'] at hi
    split at hi
    · cases hi
    · rename_i e; rw [k1] at hi; exact ⟨e, hi⟩
  refine ⟨⟨by rw [F.n]; exact k2.symm, F.df, F.kp, F.bb, hkf.1, ?_, ?_, ?_, ?_, ?_, fun i r u h1 h2 => F.tv i r u (hsubo i r h1).2 h2⟩, ?_, ?_⟩
  · intro i ds hi
    obtain ⟨e, cs, hc⟩ := hsub i ds hi
    obtain ⟨h1, h2, _⟩ := F.bx i cs hc
    have hi' : lk hh i = some ds := by rw [lk_rmv hh', if_neg e] at hi; exact hi
    obtain ⟨vs, ty, h3, h4⟩ := hkf.2 i ds hi'
    exact ⟨h1, h2, vs, ty, h3, h4⟩
  · intro i rows hi
    exact F.rt i rows (hsubo i rows hi).2
  · intro i j ci cj h1 h2 h3
    obtain ⟨_, c1, hc1⟩ := hsub i ci h1
    obtain ⟨_, c2, hc2⟩ := hsub j cj h2
    exact F.bi i j c1 c2 hc1 hc2 h3
  · intro i j ri rj b h1 h2
    exact F.rr i j ri rj b (hsubo i ri h1).2 (hsubo j rj h2).2
  · intro i j ci rj h1 h2
    obtain ⟨_, c1, hc1⟩ := hsub i ci h1
    exact F.br i j c1 rj hc1 (hsubo j rj h2).2
  · intro i
    constructor
    · intro hn
      by_cases e : i = id
      · exact .inl e
      · refine .inr ?_
        cases hc : lk s.h i with
        | none => rfl
        | some cs =>
          obtain ⟨ds, hd⟩ := k5 i cs hc
          simp only at hn
          rw [lk_rmv hh', if_neg (Ne.symm e), hd] at hn; cases hn
    · intro hn
      cases hc : lk h' i with
      | none => rfl
      | some ds =>
        obtain ⟨e, cs, hc'⟩ := hsub i ds hc
        rcases hn with rfl | hn
        · exact absurd rfl e
        · rw [hn] at hc'; cases hc'
  · intro i
    show lk o' i = _
    rw [lk_rmv ho', k1]

theorem FR.clear (F : FR w0 B0 Fin s a w g) {id : Nat} (h : s.clear id = some s') : FR w0 B0 Fin s' a w g ∧ lk s'.h id = none ∧ lk s'.o id = none ∧ (∀ i c, lk s'.h i = some c → ∃ c', lk s.h i = some c') ∧ (∀ i r, lk s'.o i = some r → lk s.o i = some r) := by
  unfold St.clear at h
  split at h
  · rename_i hf
    cases h
    unfold St.free at hf
    split at hf
    · cases hf
    · rename_i h1
      split at hf
      · cases hf
      · rename_i h2; exact ⟨F, h1, h2, fun i c h => ⟨c, h⟩, fun i r h => h⟩
  · obtain ⟨F', h1, h2⟩ := F.drop h
    refine ⟨F', (h1 id).2 (.inl rfl), by rw [h2 id]; simp, ?_, ?_⟩
    · intro i c hi
      cases hc : lk s.h i with
      | none => have := (h1 i).2 (.inr hc); rw [hi] at this; cases this
      | some c' => exact ⟨c', rfl⟩
    · intro i r hi
      rw [h2 i] at hi
      split at hi
      · cases hi
      · exact hi

theorem used_sub (h1 : ∀ i c, lk s'.h i = some c → ∃ c', lk s.h i = some c') (h2 : ∀ i r, lk s'.o i = some r → ∃ r', lk s.o i = some r') {b : Nat} (h : used g s' b) : used g s b := by
  rcases h with h | ⟨i, c, hi, e⟩ | ⟨j, r, hj, hb⟩
  · exact .inl h
  · obtain ⟨c', hc⟩ := h1 i c hi; exact .inr (.inl ⟨i, c', hc, e⟩)
  · obtain ⟨r', hr⟩ := h2 j r hj; exact .inr (.inr ⟨j, r', hr, hb⟩)

def upd {α : Type} (f : Nat → α) (id : Nat) (b : α) (i : Nat) : α := if i = id then b else f i
theorem upd_same {α : Type} (f : Nat → α) (id : Nat) (b : α) : upd f id b id = b := by simp [upd]
theorem upd_other {α : Type} (f : Nat → α) {id i : Nat} (b : α) (h : i ≠ id) : upd f id b i = f i := by simp [upd, h]

theorem putH_parts {id : Nat} {cells : List AV} (h : s.putH id cells = some s') : s'.t = s.t ∧ s'.o = s.o ∧ s'.n = s.n ∧ ∀ m, lk s'.h m = if id = m then some cells else lk s.h m := by
  obtain ⟨t, hh, o, n⟩ := s
  simp only [St.putH] at h
  split at h
  · rename_i h' hp; cases h; exact ⟨rfl, rfl, rfl, lk_pu hp⟩
  · cases h
theorem putO_parts {id : Nat} {q : QV} {rows : List (List T)} (h : s.putO id q rows = some s') : s'.t = s.t ∧ s'.h = s.h ∧ s'.n = s.n ∧ ∀ m, lk s'.o m = if id = m then some (q, rows) else lk s.o m := by
  obtain ⟨t, hh, o, n⟩ := s
  simp only [St.putO] at h
  split at h
  · rename_i h' hp; cases h; exact ⟨rfl, rfl, rfl, lk_pu hp⟩
  · cases h

/-- a box anew, at a block anew -/
theorem FR.newBox (F : FR w0 B0 Fin s a w g) {id : Nat} {cells : List AV} {vs : List Value} {ty : TypeId} (h : s.putH id cells = some s') (hf : lk s.h id = none) (hc : CRs w g s.h s.o cells vs) :
    FR w0 B0 Fin s' a { w with heap := w.heap.push (.cells vs.toArray ty) } { g with lc := upd g.lc id w.heap.size } := by
  obtain ⟨e1, e2, e3, e4⟩ := putH_parts h
  let w' : World := { w with heap := w.heap.push (.cells vs.toArray ty) }
  let g' : Gh := { g with lc := upd g.lc id w.heap.size }
  have hsz : w'.heap.size = w.heap.size + 1 := by simp [w']
  have hold : ∀ b, b < w.heap.size → w'.heap[b]? = w.heap[b]? := fun b hb => by
    show (w.heap.push _)[b]? = _
    rw [Array.getElem?_push, if_neg (by omega)]
  have hk : Keeps Fin w0 w' := F.kp.step (G := fun _ => False) ⟨rfl, rfl, rfl, by simp [w'], fun b hb _ => hold b hb⟩ (fun _ _ h => h.elim)
  have hne : ∀ i c, lk s.h i = some c → i ≠ id := fun i c hi e => by subst e; rw [hf] at hi; cases hi
  have key : ∀ x v, CR w g s.h s.o x v → CR w' g' s'.h s'.o x v := fun x v hx => hx.mono (w' := w') (g' := g') (h' := s'.h) (o' := s'.o) (fun b hb => ⟨hb, hold b (F.bb b hb).1⟩)
    (fun i cs _ h1 => ⟨⟨cs, by rw [e4, if_neg (Ne.symm (hne i cs h1))]; exact h1⟩, upd_other _ _ (hne i cs h1)⟩) (fun i rows _ h1 => ⟨⟨rows, by rw [e2]; exact h1, rfl⟩, rfl, rfl⟩)
    (fun i rows b _ h1 h2 _ => ⟨h2, hold b ((F.rt i rows h1).2 b h2).1⟩)
  refine ⟨by rw [e3]; exact F.n, F.df, hk, fun b hb => ⟨by have := (F.bb b hb).1; show b < w'.heap.size; omega, (F.bb b hb).2⟩, ?_, ?_, ?_, ?_, ?_, ?_, fun i r u h1 h2 => F.tv i r u (by rw [e2] at h1; exact h1) h2⟩
  · intro k x hx
    rw [e1] at hx
    obtain ⟨v, hv, hr⟩ := F.tm k x hx
    exact ⟨v, hv, key _ _ hr⟩
  · intro i ci hi
    rw [e4] at hi
    split at hi
    · rename_i e; subst e; cases hi
      simp only [upd_same]
      exact ⟨.inr F.kp.size, fun hb => absurd (F.bb _ hb).1 (Nat.lt_irrefl _), vs, ty, by simp, hc.mono fun k x v _ hx => key _ _ hx⟩
    · rename_i e
      simp only [upd_other _ _ (Ne.symm e)]
      obtain ⟨h1, h2, us, ty', h3, h4⟩ := F.bx i ci hi
      exact ⟨h1, h2, us, ty', (hold _ (F.lt hi)).trans h3, h4.mono fun k x v _ hx => key _ _ hx⟩
  · intro i rows hi
    rw [e2] at hi
    obtain ⟨h1, h2⟩ := F.rt i rows hi
    exact ⟨h1.mono (fun b hb => ⟨hb, hold b (F.bb b hb).1⟩) (fun b hb => hold b (h2 b hb).1), fun b hb => ⟨by have := (h2 b hb).1; show b < w'.heap.size; omega, (h2 b hb).2⟩⟩
  · intro i j ci cj hi hj he
    rw [e4] at hi hj
    by_cases ei : id = i
    · by_cases ej : id = j
      · exact ei.symm.trans ej
      · rw [if_neg ej] at hj
        subst ei
        simp only [upd_same, upd_other _ _ (Ne.symm ej)] at he
        have := F.lt hj; omega
    · rw [if_neg ei] at hi
      by_cases ej : id = j
      · subst ej
        simp only [upd_same, upd_other _ _ (Ne.symm ei)] at he
        have := F.lt hi; omega
      · rw [if_neg ej] at hj
        simp only [upd_other _ _ (Ne.symm ei), upd_other _ _ (Ne.symm ej)] at he
        exact F.bi i j ci cj hi hj he
  · intro i j ri rj b h1 h2
    rw [e2] at h1 h2
    exact F.rr i j ri rj b h1 h2
  · intro i j ci rj hi hj hb
    rw [e4] at hi
    rw [e2] at hj
    by_cases ei : id = i
    · subst ei
      simp only [upd_same] at hb
      have := ((F.rt j rj hj).2 _ hb).1; omega
    · rw [if_neg ei] at hi
      simp only [upd_other _ _ (Ne.symm ei)] at hb
      exact F.br i j ci rj hi hj hb

/-- a store into a box -/
theorem FR.storeBox (F : FR w0 B0 Fin s a w g) {id off : Nat} {cells cs l : List AV} {vs : List Value} (hi : lk s.h id = some cells) (hs : setS cells off cs = some l) (hp : s.putH id l = some s') (hc : CRs w g s.h s.o cs vs)
    {old : List Value} {ty : TypeId} (ho : w.heap[g.lc id]? = some (.cells old.toArray ty (0, 0))) (hcr : CRs w g s.h s.o cells old) :
    FR w0 B0 Fin s' a (w.setRow (g.lc id) (old.take off ++ vs ++ old.drop (off + vs.length)).toArray) g := by
  obtain ⟨e1, e2, e3, e4⟩ := putH_parts hp
  let w' := w.setRow (g.lc id) (old.take off ++ vs ++ old.drop (off + vs.length)).toArray
  have hold : ∀ b, b ≠ g.lc id → w'.heap[b]? = w.heap[b]? := fun b hb => setRow_other _ _ _ _ hb
  obtain ⟨hM, hnB, _⟩ := F.bx id cells hi
  have hk : Keeps Fin w0 w' := F.kp.step (G := fun b => b = g.lc id) ⟨rfl, rfl, rfl, by simp [w'], fun b hb hne => hold b hne⟩ (fun b hb e => by
    subst e
    rcases hM with h | h
    · exact h
    · omega)
  have hB : ∀ b, g.B b → b ≠ g.lc id := fun b hb e => hnB (e ▸ hb)
  have key : ∀ x v, CR w g s.h s.o x v → CR w' g s'.h s'.o x v := fun x v hx => hx.mono (fun b hb => ⟨hb, hold b (hB b hb)⟩)
    (fun i cs _ h1 => ⟨by rw [e4]; split <;> exact ⟨_, by first | rfl | exact h1⟩, rfl⟩) (fun i rows _ h1 => ⟨⟨rows, by rw [e2]; exact h1, rfl⟩, rfl, rfl⟩)
    (fun i rows b _ h1 h2 _ => ⟨h2, hold b fun e => F.br id i cells rows hi h1 (e ▸ h2)⟩)
  obtain ⟨rfl, hn⟩ := setS_eq hs
  have hold' : ∀ i ci, lk s'.h i = some ci → ∃ c, lk s.h i = some c := by
    intro i ci h1
    rw [e4] at h1
    split at h1
    · rename_i e; subst e; exact ⟨_, hi⟩
    · exact ⟨_, h1⟩
  have hws : w'.heap.size = w.heap.size := by simp [w']
  refine ⟨by rw [e3]; exact F.n, F.df, hk, fun b hb => ⟨by rw [hws]; exact (F.bb b hb).1, (F.bb b hb).2⟩, ?_, ?_, ?_, ?_, ?_, ?_, fun i r u h1 h2 => F.tv i r u (by rw [e2] at h1; exact h1) h2⟩
  · intro k x hx
    rw [e1] at hx
    obtain ⟨v, hv, hr⟩ := F.tm k x hx
    exact ⟨v, hv, key _ _ hr⟩
  · intro i ci h1
    rw [e4] at h1
    split at h1
    · rename_i e; subst e
      cases h1
      refine ⟨hM, hnB, _, ty, setRow_heap _ _ _ _ _ _ ho, ?_⟩
      have hll := hc.1
      have km : ∀ {cs : List AV} {vs : List Value}, CRs w g s.h s.o cs vs → CRs w' g s'.h s'.o cs vs := fun q => q.mono fun k x v _ hx => key _ _ hx
      exact (((km hcr).take off).app (km hc)).app (CRs.cast (by rw [hll]) ((km hcr).drop (off + cs.length)))
    · rename_i e
      obtain ⟨h2, h2', us, ty', h3, h4⟩ := F.bx i ci h1
      refine ⟨h2, h2', us, ty', ?_, h4.mono fun k x v _ hx => key _ _ hx⟩
      rw [hold _ (fun e' => e (F.bi i id ci cells h1 hi e').symm)]
      exact h3
  · intro i rows h1
    rw [e2] at h1
    obtain ⟨h2, h3⟩ := F.rt i rows h1
    exact ⟨h2.mono (fun b hb => ⟨hb, hold b (hB b hb)⟩) (fun b hb => hold b fun e => F.br id i cells rows hi h1 (e ▸ hb)), fun b hb => ⟨by rw [hws]; exact (h3 b hb).1, (h3 b hb).2⟩⟩
  · intro i j ci cj h1 h2 he
    obtain ⟨x, hx⟩ := hold' i ci h1
    obtain ⟨y, hy⟩ := hold' j cj h2
    exact F.bi i j x y hx hy he
  · intro i j ri rj b h1 h2
    rw [e2] at h1 h2
    exact F.rr i j ri rj b h1 h2
  · intro i j ci rj h1 h2
    obtain ⟨x, hx⟩ := hold' i ci h1
    rw [e2] at h2
    exact F.br i j x rj hx h2

/-- a root anew: its blocks are none that the frame stands on -/
theorem FR.newRoot (F : FR w0 B0 Fin s a w g) {id : Nat} {q : QV} {rows : List (List T)} {v : Value} {sz : Nat} {G : Nat → Prop} (h : s.putO id q rows = some s') (hf : lk s.o id = none) (hr : Root w g.B q.n rows v sz G)
    (hG : ∀ b, G b → b < w.heap.size ∧ (Fin b ∨ w0.heap.size ≤ b) ∧ ¬ used g s b) (hq : ∀ u, q.v = some u → v = u := by intro u h; cases h) :
    FR w0 B0 Fin s' a w { g with rv := upd g.rv id v, sz := upd g.sz id sz, fo := upd g.fo id G } := by
  obtain ⟨e1, e2, e3, e4⟩ := putO_parts h
  have hne : ∀ i c, lk s.o i = some c → i ≠ id := fun i c hi e => by subst e; rw [hf] at hi; cases hi
  have key : ∀ x v', CR w g s.h s.o x v' → CR w { g with rv := upd g.rv id v, sz := upd g.sz id sz, fo := upd g.fo id G } s'.h s'.o x v' := fun x v' hx => hx.mono (g' := { g with rv := upd g.rv id v, sz := upd g.sz id sz, fo := upd g.fo id G }) (w' := w) (h' := s'.h) (o' := s'.o) (fun b hb => ⟨hb, rfl⟩)
    (fun i cs _ h1 => ⟨⟨cs, by rw [e2]; exact h1⟩, rfl⟩) (fun i r _ h1 => ⟨⟨r, by rw [e4, if_neg (Ne.symm (hne i r h1))]; exact h1, rfl⟩, upd_other _ _ (hne i r h1), upd_other _ _ (hne i r h1)⟩)
    (fun i r b _ h1 h2 _ => ⟨by show upd g.fo id G i b; rw [upd_other _ _ (hne i r h1)]; exact h2, rfl⟩)
  refine ⟨by rw [e3]; exact F.n, F.df, F.kp, F.bb, ?_, ?_, ?_, ?_, ?_, ?_, ?_⟩
  · intro k x hx
    rw [e1] at hx
    obtain ⟨u, hu, hq⟩ := F.tm k x hx
    exact ⟨u, hu, key _ _ hq⟩
  · intro i ci hi
    rw [e2] at hi
    obtain ⟨h1, h2, us, ty', h3, h4⟩ := F.bx i ci hi
    exact ⟨h1, h2, us, ty', h3, h4.mono fun k x v _ hx => key _ _ hx⟩
  · intro i r hi
    rw [e4] at hi
    split at hi
    · rename_i e; subst e; cases hi
      simp only [upd_same]
      exact ⟨hr, fun b hb => ⟨(hG b hb).1, (hG b hb).2.1, fun hb' => (hG b hb).2.2 (.inl hb')⟩⟩
    · rename_i e
      simp only [upd_other _ _ (Ne.symm e)]
      exact F.rt i r hi
  · intro i j ci cj hi hj
    rw [e2] at hi hj
    exact F.bi i j ci cj hi hj
  · intro i j ri rj b hi hj hb1 hb2
    rw [e4] at hi hj
    by_cases ei : id = i
    · by_cases ej : id = j
      · exact ei.symm.trans ej
      · rw [if_neg ej] at hj
        subst ei
        simp only [upd_same, upd_other _ _ (Ne.symm ej)] at hb1 hb2
        exact absurd (.inr (.inr ⟨j, rj, hj, hb2⟩)) (hG b hb1).2.2
    · rw [if_neg ei] at hi
      by_cases ej : id = j
      · subst ej
        simp only [upd_same, upd_other _ _ (Ne.symm ei)] at hb1 hb2
        exact absurd (.inr (.inr ⟨i, ri, hi, hb1⟩)) (hG b hb2).2.2
      · rw [if_neg ej] at hj
        simp only [upd_other _ _ (Ne.symm ei), upd_other _ _ (Ne.symm ej)] at hb1 hb2
        exact F.rr i j ri rj b hi hj hb1 hb2
  · intro i j ci rj hi hj hb
    rw [e2] at hi
    rw [e4] at hj
    by_cases ej : id = j
    · subst ej
      simp only [upd_same] at hb
      exact (hG _ hb).2.2 (.inr (.inl ⟨i, ci, hi, rfl⟩))
    · rw [if_neg ej] at hj
      simp only [upd_other _ _ (Ne.symm ej)] at hb
      exact F.br i j ci rj hi hj hb
  · intro i r u h1 h2
    rw [e4] at h1
    split at h1
    · rename_i e; subst e; cases h1; simp only [upd_same]; exact hq u h2
    · rename_i e; simp only [upd_other _ _ (Ne.symm e)]; exact F.tv i r u h1 h2
end
end Go.Ev
