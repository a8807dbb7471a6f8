/- An evaluator over trees: what it tells is so (8): what goes to a call. -/
import Derived.Test.YtejioaahmgljgaaEvN4
set_option linter.unusedVariables false
set_option linter.unusedSimpArgs false
namespace Go.Ev
open Go Go.RowKit

/-- things that stand side by side: no block in two of them -/
inductive Fam {α : Type} (R : α → Value → (Nat → Prop) → Prop) : List α → List Value → (Nat → Prop) → Prop
  | nil (F : Nat → Prop) : Fam R [] [] F
  | cons (x : α) (xs : List α) (v : Value) (vs : List Value) (G F' F : Nat → Prop) (h : R x v G) (hs : Fam R xs vs F') (hd : ∀ b, G b → ¬ F' b) (h1 : ∀ b, G b → F b) (h2 : ∀ b, F' b → F b) : Fam R (x :: xs) (v :: vs) F
theorem Fam.length {α : Type} {R : α → Value → (Nat → Prop) → Prop} {xs : List α} {vs : List Value} {F : Nat → Prop} (h : Fam R xs vs F) : xs.length = vs.length := by
  induction h with
  | nil => rfl
  | cons => simp_all
theorem Fam.map {α β : Type} {R : α → Value → (Nat → Prop) → Prop} {S : β → Value → (Nat → Prop) → Prop} (f : α → β) {xs : List α} {vs : List Value} {F : Nat → Prop} (h : Fam R xs vs F) (hf : ∀ x v G, (∀ b, G b → F b) → R x v G → S (f x) v G) : Fam S (xs.map f) vs F := by
  induction h with
  | nil => exact .nil _
  | cons x xs v vs G F' F h hs hd h1 h2 ih => exact .cons _ _ _ _ G F' F (hf _ _ _ h1 h) (ih fun x v G hG => hf x v G fun b hb => h2 b (hG b hb)) hd h1 h2
theorem Fam.imp {α : Type} {R S : α → Value → (Nat → Prop) → Prop} {xs : List α} {vs : List Value} {F : Nat → Prop} (h : Fam R xs vs F) (hf : ∀ x v G, (∀ b, G b → F b) → R x v G → S x v G) : Fam S xs vs F := by
  induction h with
  | nil => exact .nil _
  | cons x xs v vs G F' F h hs hd h1 h2 ih => exact .cons _ _ _ _ G F' F (hf _ _ _ h1 h) (ih fun x v G hG => hf x v G fun b hb => h2 b (hG b hb)) hd h1 h2
theorem Fam.sub {α : Type} {R : α → Value → (Nat → Prop) → Prop} {xs : List α} {vs : List Value} {F F' : Nat → Prop} (h : Fam R xs vs F) (hF : ∀ b, F b → F' b) : Fam R xs vs F' := by
  cases h with
  | nil => exact .nil _
  | cons x xs v vs G F1 F h hs hd h1 h2 => exact .cons _ _ _ _ G F1 _ h hs hd (fun b hb => hF b (h1 b hb)) (fun b hb => hF b (h2 b hb))
theorem Fam.app {α : Type} {R : α → Value → (Nat → Prop) → Prop} {xs ys : List α} {vs us : List Value} {F1 F2 F : Nat → Prop} (h1 : Fam R xs vs F1) (h2 : Fam R ys us F2) (hd : ∀ b, F1 b → ¬ F2 b) (hF1 : ∀ b, F1 b → F b) (hF2 : ∀ b, F2 b → F b) : Fam R (xs ++ ys) (vs ++ us) F := by
  induction h1 generalizing F with
  | nil => exact h2.sub hF2
  | cons x xs v vs G F' F0 h hs hd' h1 h2' ih =>
    refine .cons _ _ _ _ G (fun b => F' b ∨ F2 b) _ h (ih (fun b hb => hd b (h2' b hb)) (fun b hb => .inl hb) (fun b hb => .inr hb)) ?_ (fun b hb => hF1 b (h1 b hb)) ?_
    · rintro b hb (h' | h')
      · exact hd' b hb h'
      · exact hd b (h1 b hb) h'
    · rintro b (h' | h')
      · exact hF1 b (h2' b h')
      · exact hF2 b h'
theorem Fam.of {α : Type} {R : α → Value → (Nat → Prop) → Prop} {F : Nat → Prop} : ∀ {xs : List α} {vs : List Value}, xs.length = vs.length → (∀ (k : Nat) (x : α) (v : Value), xs[k]? = some x → vs[k]? = some v → R x v fun _ => False) → Fam R xs vs F
  | [], [], _, _ => .nil _
  | x :: xs, v :: vs, hl, h => .cons _ _ _ _ (fun _ => False) (fun _ => False) _ (h 0 x v rfl rfl) (Fam.of (by simpa using hl) fun k x v hk hv => h (k + 1) x v (by simpa using hk) (by simpa using hv)) (fun _ h => h.elim) (fun _ h => h.elim) (fun _ h => h.elim)
  | [], _ :: _, hl, _ => by simp at hl
  | _ :: _, [], hl, _ => by simp at hl

/-- a cell that goes from one frame to another -/
def VC (w : World) (B : Nat → Prop) (x : AV) (v : Value) (F : Nat → Prop) : Prop := ∃ y, x = .t y ∧ Own w B y v F
/-- an argument -/
def VS (w : World) (B : Nat → Prop) (x : AV) (v : Value) (F : Nat → Prop) : Prop := VC w B x v F ∨ ∃ cs vs, x = .ag cs ∧ v = .agg vs.toArray ∧ Fam (VC w B) cs vs F
/-- a result -/
def VR (w : World) (B : Nat → Prop) (x : AV) (v : Value) (F : Nat → Prop) : Prop := VS w B x v F ∨ ∃ cs vs, x = .tp cs ∧ v = .tuple vs.toArray ∧ Fam (VS w B) cs vs F

theorem VC.mono {w w' : World} {B B' : Nat → Prop} (hB : ∀ b, B b → B' b ∧ w'.heap[b]? = w.heap[b]?) {x : AV} {v : Value} {F : Nat → Prop} (h : VC w B x v F) (hF : ∀ b, F b → w'.heap[b]? = w.heap[b]?) : VC w' B' x v F := by
  obtain ⟨y, rfl, h⟩ := h
  exact ⟨y, rfl, h.mono hB hF⟩
theorem VS.mono {w w' : World} {B B' : Nat → Prop} (hB : ∀ b, B b → B' b ∧ w'.heap[b]? = w.heap[b]?) {x : AV} {v : Value} {F : Nat → Prop} (h : VS w B x v F) (hF : ∀ b, F b → w'.heap[b]? = w.heap[b]?) : VS w' B' x v F := by
  rcases h with h | ⟨cs, vs, rfl, rfl, h⟩
  · exact .inl (h.mono hB hF)
  · exact .inr ⟨cs, vs, rfl, rfl, h.imp fun x v G hG hx => hx.mono hB fun b hb => hF b (hG b hb)⟩
theorem VR.mono {w w' : World} {B B' : Nat → Prop} (hB : ∀ b, B b → B' b ∧ w'.heap[b]? = w.heap[b]?) {x : AV} {v : Value} {F : Nat → Prop} (h : VR w B x v F) (hF : ∀ b, F b → w'.heap[b]? = w.heap[b]?) : VR w' B' x v F := by
  rcases h with h | ⟨cs, vs, rfl, rfl, h⟩
  · exact .inl (h.mono hB hF)
  · exact .inr ⟨cs, vs, rfl, rfl, h.imp fun x v G hG hx => hx.mono hB fun b hb => hF b (hG b hb)⟩

theorem ownCL_any {w : World} {B B' : Nat → Prop} {cs : List AV} {vs : List Value} {F : Nat → Prop} (h : Fam (VC w B) cs vs F) (ho : ownCL cs) : Fam (VC w B') cs vs F := by
  induction h with
  | nil => exact .nil _
  | cons x xs v vs G F' F h hs hd h1 h2 ih =>
    obtain ⟨y, rfl, h⟩ := h
    exact .cons _ _ _ _ G F' F ⟨y, rfl, h.any ho.1⟩ (ih ho.2) hd h1 h2
theorem ownTL_any {w : World} {B B' : Nat → Prop} {cs : List AV} {vs : List Value} {F : Nat → Prop} (h : Fam (VS w B) cs vs F) (ho : AV.own.ownTL cs) : Fam (VS w B') cs vs F := by
  induction h with
  | nil => exact .nil _
  | cons x xs v vs G F' F h hs hd h1 h2 ih =>
    rcases h with ⟨y, rfl, h⟩ | ⟨ds, us, rfl, rfl, h⟩
    · exact .cons _ _ _ _ G F' F (.inl ⟨y, rfl, h.any ho.1⟩) (ih ho.2) hd h1 h2
    · exact .cons _ _ _ _ G F' F (.inr ⟨ds, us, rfl, rfl, ownCL_any h ho.1⟩) (ih ho.2) hd h1 h2
theorem VR.any {w : World} {B B' : Nat → Prop} {x : AV} {v : Value} {F : Nat → Prop} (h : VR w B x v F) (ho : x.own) : VR w B' x v F := by
  rcases h with (⟨y, rfl, h⟩ | ⟨cs, vs, rfl, rfl, h⟩) | ⟨cs, vs, rfl, rfl, h⟩
  · exact .inl (.inl ⟨y, rfl, h.any ho⟩)
  · exact .inl (.inr ⟨cs, vs, rfl, rfl, ownCL_any h ho⟩)
  · exact .inr ⟨cs, vs, rfl, rfl, ownTL_any h ho⟩

section
variable {P : Program} {tab : Tab} {w0 w : World} {B0 Fin : Nat → Prop} {s s' : St} {a : Act} {g : Gh}

/-- a part of a slice that is read -/
theorem rep_part {B : Nat → Prop} {o : Bool} {rows : List (List T)} {v : Value} (h : Rep w B (.sl o rows) v) {sz : Nat} (hs : ∀ (i : Nat) (r : List T), rows[i]? = some r → r.length = sz) {lo hi : Nat} (h1 : lo ≤ hi) (h2 : hi ≤ rows.length) :
    Rep w B (.sl o ((rows.take hi).drop lo)) (partV v sz lo hi) := by
  have hlen : ((rows.take hi).drop lo).length = hi - lo := by simp; omega
  have hrow : ∀ (i : Nat) (r : List T), ((rows.take hi).drop lo)[i]? = some r → rows[lo + i]? = some r := by
    intro i r hi
    rw [List.getElem?_drop, List.getElem?_take] at hi
    split at hi
    · exact hi
    · cases hi
  cases h with
  | nil => simp [partV]; exact .nil _
  | em _ ad cap =>
    have e1 : hi = 0 := by simp at *; omega
    have e2 : lo = 0 := by omega
    subst e1; subst e2
    simp only [partV, List.take_nil, List.drop_nil, Nat.sub_self]
    exact .em _ _ _
  | sl _ _ b off cap sz' us hb hc hl hw hr =>
    simp only [partV]
    rw [← hlen]
    by_cases hcl : cap = lo
    · rw [if_pos hcl]
      have hno : ∀ (i : Nat) (r : List T), ¬ ((rows.take hi).drop lo)[i]? = some r := by
        intro i r h3
        have := nth_lt h3
        rw [hlen] at this; omega
      exact .sl _ _ b off _ sz' us (fun h => hb fun e => h (by rw [e]; simp)) (by rw [hlen]; omega) (fun i r h3 => absurd h3 (hno i r)) (fun i r k x h3 => absurd h3 (hno i r)) (fun i r k x h3 => absurd h3 (hno i r))
    · rw [if_neg hcl, addr_add]
      refine .sl _ _ b (off + lo * sz) _ sz' (fun i k => us (lo + i) k) (fun h => hb fun e => h (by rw [e]; simp)) (by rw [hlen]; omega) (fun i r h3 => hl _ r (hrow i r h3)) ?_ (fun i r k x h3 hk => hr _ r k x (hrow i r h3) hk)
      intro i r k x h3 hk
      have h4 := hrow i r h3
      have e : sz = sz' := (hs _ r h4).symm.trans (hl _ r h4)
      subst e
      have := hw _ r k x h4 hk
      rw [Nat.add_mul] at this
      rw [← this]; congr 2; omega

theorem root_lens {B : Nat → Prop} {q : Nat} {rows : List (List T)} {v : Value} {sz : Nat} {F : Nat → Prop} (h : Root w B q rows v sz F) : ∀ (i : Nat) (r : List T), rows[i]? = some r → r.length = sz := by
  rcases h with ⟨rfl, rfl⟩ | ⟨b, off, cap, us, Fs, cs, ty, rfl, hh, hcap, hc, hl, _⟩
  · intro i r h; simp at h
  · exact hl

theorem root_rep (F : FR w0 B0 Fin s a w g) {id : Nat} {rows : QV × List (List T)} (hi : lk s.o id = some rows) : Rep w (used g s) (.sl false rows.2) (g.rv id) :=
  (F.rt id rows hi).1.rep (fun b hb => .inl hb) (fun b hb => .inr (.inr ⟨id, rows, hi, hb⟩)) false
theorem rep_shrR {B : Nat → Prop} {rows : List (List T)} {v : Value} (h : Rep w B (.sl false rows) v) : Rep w B (.sl false (shrR rows)) v := h.shr

theorem snapT_sound (F : FR w0 B0 Fin s a w g) : ∀ (n : Nat) {x : AV} {v : Value} {t : T}, snapT n s x = some t → CR w g s.h s.o x v → Rep w (used g s) t v ∧ ∀ G, Own w (used g s) t v G := by
  intro n
  induction n with
  | zero => intro x v t h; cases h
  | succ n ih =>
    intro x v t h hx
    suffices H : Rep w (used g s) t v ∧ (∀ rows, t ≠ .sl true rows) by
      refine ⟨H.1, fun G => ?_⟩
      have hr := H.1
      cases t with
      | sc u => cases hr; exact .sc _ _
      | sl o rows =>
        cases o with
        | true => exact absurd rfl (H.2 rows)
        | false => exact .sh _ _ _ hr
      | pt cs => exact .pt _ _ _ hr
      | fn f cs => exact .fn _ _ _ _ hr
    have hBu : ∀ b, g.B b → used g s b ∧ w.heap[b]? = w.heap[b]? := fun b hb => ⟨.inl hb, rfl⟩
    cases x with
    | u => cases h
    | ag _ => cases h
    | tp _ => cases h
    | io _ => cases h
    | iw _ => cases h
    | t x =>
      cases hx with
      | t x v hr =>
        have hr := hr.mono hBu
        simp only [snapT] at h
        split at h
        · split at h
          · cases h; cases hr; exact ⟨.nil _, by simp⟩
          · cases h; exact ⟨hr, by simp⟩
        · cases h; exact ⟨hr.flag, by simp⟩
        · cases h; exact ⟨hr, by simp⟩
        · cases h; exact ⟨hr, by simp⟩
    | bp id off =>
      simp only [snapT] at h
      split at h
      case h_2 => cases h
      rename_i cells hi
      split at h
      case h_2 => cases h
      rename_i r hr
      split at h
      case h_2 => cases h
      rename_i ts hts
      cases h; cases hx
      refine ⟨?_, by simp⟩
      obtain ⟨rfl, hn⟩ := dropS_eq hr
      obtain ⟨hlen, hk⟩ := mapS_eq hts
      obtain ⟨_, _, vs, ty, hh, hcr⟩ := F.bx id cells hi
      have hd := hcr.drop off
      have hlt : ∀ (k : Nat) (x : T), ts[k]? = some x → k < (cells.drop off).length ∧ k < (vs.drop off).length ∧ off + k < vs.length := by
        intro k x hx
        have h1 := nth_lt hx
        have h2 := hd.1
        rw [hlen] at h1
        refine ⟨h1, by omega, ?_⟩
        rw [h2, List.length_drop] at h1; omega
      refine .pt ts (g.lc id) off (fun k => (vs.drop off).getD k undef) (.inr (.inl ⟨id, cells, hi, rfl⟩)) ?_ ?_
      · intro k x hx
        obtain ⟨_, _, h3⟩ := hlt k x hx
        have he : (vs.drop off).getD k undef = vs[off + k] := by
          rw [List.getD_eq_getElem?_getD, List.getElem?_drop, List.getElem?_eq_getElem h3]; rfl
        simp only [he]
        simp [World.cell?, hh, h3]
      · intro k x hx
        obtain ⟨h1, h2, _⟩ := hlt k x hx
        obtain ⟨y, hy, hs⟩ := hk k _ (List.getElem?_eq_getElem h1)
        rw [hx] at hy; cases hy
        have he : (vs.drop off).getD k undef = (vs.drop off)[k] := by
          rw [List.getD_eq_getElem?_getD, List.getElem?_eq_getElem h2]; rfl
        simp only [he]
        exact (ih hs (hd.2 k _ _ (List.getElem?_eq_getElem h1) (List.getElem?_eq_getElem h2))).1
    | fn f caps =>
      simp only [snapT] at h
      split at h
      case h_2 => cases h
      rename_i ts hts
      cases h
      refine ⟨?_, by simp⟩
      obtain ⟨hlen, hk⟩ := mapS_eq hts
      cases hx with
      | fn _ cs vs hl hr =>
        refine .fn f ts vs (by omega) ?_
        intro k x v hx hv
        have hkl := nth_lt hx
        rw [hlen] at hkl
        obtain ⟨y, hy, hs⟩ := hk k _ (List.getElem?_eq_getElem hkl)
        rw [hx] at hy; cases hy
        exact (ih hs (hr k _ _ (List.getElem?_eq_getElem hkl) hv)).1
    | bw x id =>
      cases hx with
      | bw _ _ _ rows hi hr =>
        have hr : Rep w (used g s) x v := hr.mono fun b hb => ⟨by
          rcases hb with hb | ⟨hb, _⟩
          · exact .inl hb
          · exact .inr (.inr ⟨id, rows, hi, hb⟩), rfl⟩
        have hs := hr.shr
        cases x with
        | sc u => cases h
        | sl o rs => simp only [snapT] at h; cases h; exact ⟨hs, by simp⟩
        | pt cs => simp only [snapT] at h; cases h; exact ⟨hs, by simp⟩
        | fn f cs => simp only [snapT] at h; cases h; exact ⟨hs, by simp⟩
    | rf id =>
      cases hx with
      | rf _ rows hi =>
        obtain ⟨q, rows⟩ := rows
        simp only [snapT, hi] at h; cases h
        exact ⟨rep_shrR (root_rep F hi), by simp⟩
    | rw id lo hh =>
      cases hx with
      | rw _ _ _ rows hi h1 h2 =>
        have hl := root_lens (F.rt id rows hi).1
        have hr := root_rep F hi
        obtain ⟨q, rows⟩ := rows
        simp only [snapT, hi] at h; cases h
        exact ⟨rep_shrR (rep_part hr hl h1 h2), by simp⟩
    | rp id i k =>
      cases hx with
      | rp _ _ _ rows hi b off n cap hv =>
        have hl := root_lens (F.rt id rows hi).1
        have hr := root_rep F hi
        obtain ⟨q, rows⟩ := rows
        simp only [snapT, hi] at h
        split at h
        case h_2 => cases h
        rename_i r hri
        split at h
        case h_2 => cases h
        rename_i cs hcs
        cases h
        obtain ⟨rfl, _⟩ := dropS_eq hcs
        rw [hv] at hr
        obtain ⟨_, _, sz, hl', hp⟩ := rep_row hr
        have e : sz = g.sz id := (hl' i r hri).symm.trans (hl i r hri)
        subst e
        refine ⟨?_, by simp⟩
        have := (pt_drop (off := k) (hp i r hri)).shr
        rw [Nat.add_assoc] at this
        exact this

theorem snapC_sound (F : FR w0 B0 Fin s a w g) {x y : AV} {v : Value} (h : snapC s x = some y) (hx : CR w g s.h s.o x v) (G : Nat → Prop) : VC w (used g s) y v G := by
  unfold snapC at h
  split at h
  · rename_i t ht; cases h; exact ⟨t, rfl, (snapT_sound F _ ht hx).2 G⟩
  · cases h

theorem snaps_sound (F : FR w0 B0 Fin s a w g) {cs ds : List AV} {vs : List Value} (h : mapS (snapC s) cs = some ds) (hx : CRs w g s.h s.o cs vs) (G : Nat → Prop) : Fam (VC w (used g s)) ds vs G := by
  obtain ⟨hl, hk⟩ := mapS_eq h
  refine .of (by rw [hl]; exact hx.1) ?_
  intro k y v hy hv
  have hkl := nth_lt hy
  rw [hl] at hkl
  obtain ⟨z, hz, hs⟩ := hk k _ (List.getElem?_eq_getElem hkl)
  rw [hy] at hz; cases hz
  exact snapC_sound F hs (hx.2 k _ v (List.getElem?_eq_getElem hkl) hv) _

theorem snapA_sound (F : FR w0 B0 Fin s a w g) {x y : AV} {v : Value} (h : snapA s x = some y) (hx : CR w g s.h s.o x v) (G : Nat → Prop) : VS w (used g s) y v G := by
  unfold snapA at h
  split at h
  · split at h
    · rename_i l hl
      cases h
      cases hx with
      | ag cs vs hlen hr => exact .inr ⟨_, vs, rfl, rfl, snaps_sound F hl ⟨hlen, hr⟩ G⟩
    · cases h
  · cases h
  · exact .inl (snapC_sound F h hx G)

/-- what is plain is read in the shared blocks alone -/
theorem snapC_plain {x y : AV} {v : Value} (hs : plC x = true) (h : snapC s x = some y) (hx : CR w g s.h s.o x v) (G : Nat → Prop) : VC w g.B y v G := by
  unfold plC at hs
  split at hs
  · cases hx with
    | t x v hr =>
      unfold snapC at h
      split at h
      case h_2 => cases h
      rename_i t ht
      cases h
      refine ⟨t, rfl, ?_⟩
      simp only [snapT] at ht
      split at ht
      · split at ht
        · cases ht; cases hr; exact .sh _ _ _ (.nil _)
        · cases ht; cases hr; exact .sc _ _
      · cases ht; exact .sh _ _ _ hr.flag
      · cases ht; exact .pt _ _ _ hr
      · cases ht; exact .fn _ _ _ _ hr
  · cases hs
theorem snapA_plain {x y : AV} {v : Value} (hs : x.plain = true) (h : snapA s x = some y) (hx : CR w g s.h s.o x v) (G : Nat → Prop) : VS w g.B y v G := by
  unfold AV.plain at hs
  split at hs
  · rename_i cs
    unfold snapA at h
    simp only at h
    split at h
    · rename_i l hl
      cases h
      cases hx with
      | ag cs vs hlen hr =>
        obtain ⟨hll, hk⟩ := mapS_eq hl
        refine .inr ⟨_, vs, rfl, rfl, .of (by rw [hll]; exact hlen) ?_⟩
        intro k y v hy hv
        have hkl := nth_lt hy
        rw [hll] at hkl
        obtain ⟨z, hz, hs'⟩ := hk k _ (List.getElem?_eq_getElem hkl)
        rw [hy] at hz; cases hz
        exact snapC_plain (allB_all hs k _ (List.getElem?_eq_getElem hkl)) hs' (hr k _ v (List.getElem?_eq_getElem hkl) hv) _
    · cases h
  · have hs' := hs
    unfold plC at hs
    split at hs
    · unfold snapA at h; simp only at h; exact .inl (snapC_plain hs' h hx G)
    · cases hs

theorem absorbF_sound {h0 : Bxs} {o0 : Rts} : ∀ {cs : List AV} {s s' : St} {vs : List Value} {ts : List T}, FR w0 B0 Fin s a w g → CRs w g h0 o0 cs vs → absorbL s cs = some (ts, s') →
    FR w0 B0 Fin s' a w g ∧ Subs s s' ∧ Fam (VC w g.B) (ts.map AV.t) vs (Freed w0 w Fin g s s') := by
  intro cs
  induction cs with
  | nil =>
    intro s s' vs ts F hc h
    rw [absorbL] at h; cases h
    cases vs with
    | nil => exact ⟨F, .refl _, .nil _⟩
    | cons v vs => have := hc.1; simp at this
  | cons x cs ih =>
    intro s s' vs ts F hc h
    rw [absorbL] at h
    split at h
    case h_2 => cases h
    rename_i t s1 h1
    split at h
    case h_2 => cases h
    rename_i ts' s2 h2
    cases h
    obtain ⟨v, us, rfl, hx, hcs⟩ := hc.head
    obtain ⟨F1, hs1, G, hG, hGf⟩ := absorb1_sound F hx h1
    obtain ⟨F2, hs2, hf⟩ := ih F1 hcs h2
    refine ⟨F2, hs1.trans hs2, .cons _ _ _ _ G _ _ ⟨t, rfl, hG⟩ hf ?_ ?_ ?_⟩
    · intro b hb hb'; exact (hGf b hb).2.2.1 hb'.2.2.2
    · intro b hb
      obtain ⟨b1, b2, b3, b4⟩ := hGf b hb
      exact ⟨b1, b2, fun h => b3 (hs2.used h), b4⟩
    · rintro b ⟨b1, b2, b3, b4⟩
      exact ⟨b1, b2, b3, hs1.used b4⟩

theorem moveA_sound {h0 : Bxs} {o0 : Rts} (F : FR w0 B0 Fin s a w g) {x y : AV} {v : Value} (hx : CR w g h0 o0 x v) (h : moveA s x = some (y, s')) :
    FR w0 B0 Fin s' a w g ∧ Subs s s' ∧ VS w g.B y v (Freed w0 w Fin g s s') := by
  unfold moveA at h
  split at h
  · split at h
    case h_2 => cases h
    rename_i ts s1 h1
    split at h
    case h_2 => cases h
    rename_i l hl
    cases h
    cases hx with
    | ag cs vs hlen hr =>
      obtain ⟨F1, hs1, hf⟩ := absorbF_sound F ⟨hlen, hr⟩ h1
      have e := tS_eq hl; subst e
      exact ⟨F1, hs1, .inr ⟨_, vs, rfl, rfl, hf⟩⟩
  · cases h
  · split at h
    case h_2 => cases h
    rename_i t s1 h1
    cases h
    obtain ⟨F1, hs1, G, hG, hGf⟩ := absorb1_sound F hx h1
    exact ⟨F1, hs1, .inl ⟨t, rfl, hG.sub hGf⟩⟩

theorem Freed.left {s1 s2 : St} (h2 : Subs s1 s2) {b : Nat} (h : Freed w0 w Fin g s s1 b) : Freed w0 w Fin g s s2 b := ⟨h.1, h.2.1, fun hu => h.2.2.1 (h2.used hu), h.2.2.2⟩
theorem Freed.right {s1 s2 : St} (h1 : Subs s s1) {b : Nat} (h : Freed w0 w Fin g s1 s2 b) : Freed w0 w Fin g s s2 b := ⟨h.1, h.2.1, h.2.2.1, h1.used h.2.2.2⟩

/-- the arguments of a call: those that go for good, those that are read -/
theorem moves_sound : ∀ {xs : List Operand} {ms : List Bool} {s s' : St} {l : List AV}, FR w0 B0 Fin s a w g → movesL ms s xs = some (l, s') →
    FR w0 B0 Fin s' a w g ∧ Subs s s' ∧ Fam (VS w (used g s')) l (xs.map a.eval) (Freed w0 w Fin g s s') ∧ (allPlain ms s' xs = true → Fam (VS w g.B) l (xs.map a.eval) (Freed w0 w Fin g s s')) := by
  intro xs
  induction xs with
  | nil =>
    intro ms s s' l F h
    rw [movesL] at h; cases h
    exact ⟨F, .refl _, .nil _, fun _ => .nil _⟩
  | cons x xs ih =>
    intro ms s s' l F h
    have snap : ∀ {ms' : List Bool}, (match movesL ms' s xs with
        | some (l, s) => match snapA s (s.ev x) with
          | some y => some (y :: l, s)
          | none => none
        | none => none) = some (l, s') →
        FR w0 B0 Fin s' a w g ∧ Subs s s' ∧ Fam (VS w (used g s')) l ((x :: xs).map a.eval) (Freed w0 w Fin g s s') ∧ ((match (s'.ev x).plain with
      | true => allPlain ms' s' xs
      | false => false) = true → Fam (VS w g.B) l ((x :: xs).map a.eval) (Freed w0 w Fin g s s')) := by
      intro ms' h
      split at h
      case h_2 => cases h
      rename_i l' s1 h1
      split at h
      case h_2 => cases h
      rename_i y hy
      cases h
      obtain ⟨F1, hs1, hf, hp⟩ := ih F h1
      refine ⟨F1, hs1, .cons _ _ _ _ (fun _ => False) _ _ (snapA_sound F1 hy (F1.ev x) _) hf (fun _ h => h.elim) (fun _ h => h.elim) (fun _ h => h), fun hpl => ?_⟩
      split at hpl
      · rename_i hp1
        exact .cons _ _ _ _ (fun _ => False) _ _ (snapA_plain hp1 hy (F1.ev x) _) (hp hpl) (fun _ h => h.elim) (fun _ h => h.elim) (fun _ h => h)
      · cases hpl
    unfold movesL at h
    unfold allPlain
    split at h
    · rename_i ms'
      split at h
      case h_2 => cases h
      rename_i y s1 h1
      split at h
      case h_2 => cases h
      rename_i l' s2 h2
      cases h
      obtain ⟨F1, hs1, hv⟩ := moveA_sound F (F.ev x) h1
      obtain ⟨F2, hs2, hf, hp⟩ := ih F1 h2
      refine ⟨F2, hs1.trans hs2, .cons _ _ _ _ _ _ _ (hv.mono (fun b hb => ⟨.inl hb, rfl⟩) fun _ _ => rfl) hf ?_ (fun b hb => hb.left hs2) (fun b hb => hb.right hs1), fun hpl => .cons _ _ _ _ _ _ _ hv (hp hpl) ?_ (fun b hb => hb.left hs2) (fun b hb => hb.right hs1)⟩
      · intro b hb hb'; exact hb.2.2.1 hb'.2.2.2
      · intro b hb hb'; exact hb.2.2.1 hb'.2.2.2
    · exact snap h
    · exact snap h
end
end Go.Ev
