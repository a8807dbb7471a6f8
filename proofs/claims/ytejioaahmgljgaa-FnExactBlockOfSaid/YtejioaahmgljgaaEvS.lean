/- An evaluator over trees: what it tells is so (1): trees in memory, a frame's values, a frame. -/
import Derived.Test.YtejioaahmgljgaaEvL
set_option linter.unusedVariables false
set_option linter.unusedSimpArgs false
namespace Go.Ev
open Go Go.RowKit

theorem nthS_eq {α : Type} : ∀ (l : List α) (k : Nat), nthS l k = l[k]?
  | [], _ => by simp [nthS]
  | x :: r, 0 => by simp [nthS]
  | x :: r, k + 1 => by simp [nthS, nthS_eq r k]
theorem takeS_eq {α : Type} : ∀ {n : Nat} {l r : List α}, takeS n l = some r → r = l.take n ∧ n ≤ l.length := by
  intro n
  induction n with
  | zero => intro l r h; cases h; simp
  | succ n ih =>
    intro l r h
    cases l with
    | nil => cases h
    | cons x l =>
      rw [takeS] at h
      cases hr : takeS n l with
      | none => rw [hr] at h; cases h
      | some q => rw [hr] at h; cases h; obtain ⟨rfl, hn⟩ := ih hr; exact ⟨by simp, by simp; omega⟩
theorem dropS_eq {α : Type} : ∀ {n : Nat} {l r : List α}, dropS n l = some r → r = l.drop n ∧ n ≤ l.length := by
  intro n
  induction n with
  | zero => intro l r h; rw [dropS] at h; cases h; simp
  | succ n ih =>
    intro l r h
    cases l with
    | nil => cases h
    | cons x l => rw [dropS] at h; obtain ⟨rfl, hn⟩ := ih h; exact ⟨by simp, by simp; omega⟩
theorem appS_eq {α : Type} : ∀ {l m r : List α}, appS l m = some r → r = l ++ m := by
  intro l
  induction l with
  | nil => intro m r h; rw [appS] at h; cases h; rfl
  | cons x l ih =>
    intro m r h
    rw [appS] at h
    cases hr : appS l m with
    | none => rw [hr] at h; cases h
    | some q => rw [hr] at h; cases h; rw [ih hr]; rfl
theorem mapS_eq {α β : Type} {f : α → Option β} : ∀ {l : List α} {r : List β}, mapS f l = some r → r.length = l.length ∧ ∀ (k : Nat) (x : α), l[k]? = some x → ∃ y, r[k]? = some y ∧ f x = some y := by
  intro l
  induction l with
  | nil => intro r h; cases h; simp
  | cons x l ih =>
    intro r h
    rw [mapS] at h
    cases hx : f x with
    | none => rw [hx] at h; cases h
    | some y =>
      rw [hx] at h
      cases hr : mapS f l with
      | none => simp only [hr] at h; cases h
      | some q =>
        simp only [hr] at h; cases h
        obtain ⟨hl, hk⟩ := ih hr
        refine ⟨by simp [hl], ?_⟩
        intro k z hz
        cases k with
        | zero => simp at hz; subst hz; exact ⟨y, by simp, hx⟩
        | succ k => simpa using hk k z (by simpa using hz)
theorem mapS_map {α β : Type} {f : α → β} {l : List α} {r : List β} (h : mapS (fun x => some (f x)) l = some r) : r = l.map f := by
  induction l generalizing r with
  | nil => cases h; rfl
  | cons x l ih =>
    rw [mapS] at h
    cases hr : mapS (fun x => some (f x)) l with
    | none => rw [hr] at h; cases h
    | some q => rw [hr] at h; cases h; rw [ih hr]; rfl
theorem setS_eq {α : Type} : ∀ {l : List α} {o : Nat} {cs r : List α}, setS l o cs = some r → r = l.take o ++ cs ++ l.drop (o + cs.length) ∧ o + cs.length ≤ l.length := by
  intro l
  induction l with
  | nil =>
    intro o cs r h
    unfold setS at h
    split at h
    · split at h
      · cases h; simp
      · cases h
      · rename_i heq; cases heq
    · cases h
    · rename_i heq; cases heq
  | cons x l ih =>
    intro o cs r h
    unfold setS at h
    cases o with
    | zero =>
      cases cs with
      | nil => simp at h; subst h; simp
      | cons c cs =>
        simp only at h
        cases hr : setS l 0 cs with
        | none => rw [hr] at h; cases h
        | some q =>
          rw [hr] at h; cases h
          obtain ⟨rfl, hn⟩ := ih hr
          refine ⟨?_, by simp at hn ⊢; omega⟩
          simp
    | succ o =>
      simp only at h
      cases hr : setS l o cs with
      | none => rw [hr] at h; cases h
      | some q =>
        rw [hr] at h; cases h
        obtain ⟨rfl, hn⟩ := ih hr
        refine ⟨?_, by simp; omega⟩
        simp [show o + 1 + cs.length = (o + cs.length) + 1 by omega]
theorem lenS_eq {α : Type} : ∀ {l : List α} {n : Nat}, lenS l n = true → l.length = n
  | [], 0, _ => rfl
  | [], n + 1, h => by cases h
  | x :: r, 0, h => by cases h
  | x :: r, n + 1, h => by simp [lenS_eq (l := r) (n := n) h]

theorem lk_map {α β : Type} (f : α → β) (l : List (Nat × α)) (n : Nat) : lk (l.map fun p => (p.1, f p.2)) n = (lk l n).map f := by
  induction l with
  | nil => rfl
  | cons x r ih =>
    obtain ⟨k, w⟩ := x
    simp only [List.map_cons, lk_cons, ih]
    split <;> rfl
theorem lk_rmv {α : Type} {l l' : List (Nat × α)} {n : Nat} (h : rmv l n = some l') (m : Nat) : lk l' m = if n = m then none else lk l m := by
  induction l generalizing l' with
  | nil => cases h; simp [lk]
  | cons x r ih =>
    obtain ⟨k, w⟩ := x
    rw [rmv] at h
    split at h
    · rename_i r' hr
      split at h
      · rename_i hk
        cases h
        have := beq_t hk; subst this
        rw [ih hr, lk_cons]
        split <;> rfl
      · rename_i hk
        cases h
        have hne := beq_f hk
        simp only [lk_cons, ih hr]
        by_cases h2 : k = m
        · subst h2; simp [Ne.symm hne]
        · simp [h2]
    · cases h
/-- a map that keeps the keys -/
theorem lk_mapS {α β : Type} {f : Nat × α → Option (Nat × β)} (hf : ∀ p q, f p = some q → q.1 = p.1) {l : List (Nat × α)} {r : List (Nat × β)} (h : mapS f l = some r) {k : Nat} {y : β} (hy : lk r k = some y) :
    ∃ x, lk l k = some x ∧ f (k, x) = some (k, y) := by
  induction l generalizing r with
  | nil => cases h; cases hy
  | cons p l ih =>
    obtain ⟨k0, x0⟩ := p
    rw [mapS] at h
    split at h
    · rename_i q hq
      split at h
      · rename_i r' hr
        cases h
        obtain ⟨k1, y1⟩ := q
        have e := hf _ _ hq
        simp only at e; subst e
        rw [lk_cons] at hy ⊢
        split at hy
        · rename_i e; subst e; cases hy; exact ⟨x0, by simp, hq⟩
        · rename_i e; rw [if_neg e]; exact ih hr hy
      · cases h
    · cases h
theorem lk_mapS' {α β : Type} {f : Nat × α → Option (Nat × β)} (hf : ∀ p q, f p = some q → q.1 = p.1) {l : List (Nat × α)} {r : List (Nat × β)} (h : mapS f l = some r) {k : Nat} {x : α} (hx : lk l k = some x) :
    ∃ y, lk r k = some y ∧ f (k, x) = some (k, y) := by
  induction l generalizing r with
  | nil => cases hx
  | cons p l ih =>
    obtain ⟨k0, x0⟩ := p
    rw [mapS] at h
    split at h
    · rename_i q hq
      split at h
      · rename_i r' hr
        cases h
        obtain ⟨k1, y1⟩ := q
        have e := hf _ _ hq
        simp only at e; subst e
        rw [lk_cons] at hx ⊢
        split at hx
        · rename_i e; subst e; cases hx; exact ⟨y1, by simp, hq⟩
        · rename_i e; rw [if_neg e]; exact ih hr hx
      · cases h
    · cases h
theorem fA_eq {x y : AV} (h : fA x = some y) : y = x := by cases x <;> (simp only [fA, Option.some.injEq] at h; exact h.symm)
theorem allB_all {α : Type} {f : α → Bool} : ∀ {l : List α}, allB f l = true → ∀ (k : Nat) (x : α), l[k]? = some x → f x = true
  | [], _, k, x, hk => by simp at hk
  | y :: r, h, k, x, hk => by
    rw [allB] at h
    cases hy : f y with
    | false => rw [hy] at h; cases h
    | true =>
      rw [hy] at h
      cases k with
      | zero => simp at hk; subst hk; exact hy
      | succ k => exact allB_all h k x (by simpa using hk)
theorem nth_lt {α : Type} {l : List α} {k : Nat} {x : α} (h : l[k]? = some x) : k < l.length := by
  rcases Nat.lt_or_ge k l.length with h1 | h1
  · exact h1
  · rw [List.getElem?_eq_none h1] at h; cases h

/-- A tree stands in memory, in blocks of B. -/
inductive Rep (w : World) (B : Nat → Prop) : T → Value → Prop
  | sc (v : Value) : Rep w B (.sc v) v
  | nil (o : Bool) : Rep w B (.sl o []) (.slice none 0 0)
  | em (o : Bool) (a : Addr) (cap : Nat) : Rep w B (.sl o []) (.slice (some a) 0 cap)
  | sl (o : Bool) (rows : List (List T)) (b off cap sz : Nat) (us : Nat → Nat → Value) (hb : rows ≠ [] → B b) (hc : rows.length ≤ cap)
      (hl : ∀ (i : Nat) (r : List T), rows[i]? = some r → r.length = sz)
      (hw : ∀ (i : Nat) (r : List T) (k : Nat) (x : T), rows[i]? = some r → r[k]? = some x → w.cell? ⟨b, off + (i * sz + k), none⟩ = some (us i k))
      (hr : ∀ (i : Nat) (r : List T) (k : Nat) (x : T), rows[i]? = some r → r[k]? = some x → Rep w B x (us i k)) : Rep w B (.sl o rows) (.slice (some ⟨b, off, none⟩) rows.length cap)
  | pt (cells : List T) (b off : Nat) (us : Nat → Value) (hb : B b)
      (hw : ∀ (k : Nat) (x : T), cells[k]? = some x → w.cell? ⟨b, off + k, none⟩ = some (us k))
      (hr : ∀ (k : Nat) (x : T), cells[k]? = some x → Rep w B x (us k)) : Rep w B (.pt cells) (.pointer (some ⟨b, off, none⟩))
  | fn (g : FuncId) (caps : List T) (vs : List Value) (hl : caps.length = vs.length)
      (hr : ∀ (k : Nat) (x : T) (v : Value), caps[k]? = some x → vs[k]? = some v → Rep w B x v) : Rep w B (.fn g caps) (.func (.func g) #[] vs.toArray)

theorem ne_of_nth {α : Type} {l : List α} {i : Nat} {x : α} (h : l[i]? = some x) : l ≠ [] := fun e => by rw [e] at h; simp at h
theorem Rep.mono {w w' : World} {B B' : Nat → Prop} (hB : ∀ b, B b → B' b ∧ w'.heap[b]? = w.heap[b]?) {x : T} {v : Value} (h : Rep w B x v) : Rep w' B' x v := by
  induction h with
  | sc v => exact .sc v
  | nil o => exact .nil o
  | em o a cap => exact .em o a cap
  | sl o rows b off cap sz us hb hc hl hw _ ih =>
    exact .sl o rows b off cap sz us (fun h => (hB _ (hb h)).1) hc hl (fun i r k x hi hk => by rw [World.cell?_of_block (w := w) (hB b (hb (ne_of_nth hi))).2]; exact hw i r k x hi hk) ih
  | pt cells b off us hb hw _ ih =>
    exact .pt cells b off us (hB _ hb).1 (fun k x hk => by rw [World.cell?_of_block (w := w) (hB b hb).2]; exact hw k x hk) ih
  | fn g caps vs hl _ ih => exact .fn g caps vs hl ih

theorem shrR_nth : ∀ (rows : List (List T)) (i : Nat), (shrR rows)[i]? = (rows[i]?).map shrL
  | [], i => by simp [shrR]
  | r :: rs, 0 => by simp [shrR]
  | r :: rs, i + 1 => by simp [shrR, shrR_nth rs i]
theorem shrL_nth : ∀ (r : List T) (k : Nat), (shrL r)[k]? = (r[k]?).map T.shr
  | [], i => by simp [shrL]
  | r :: rs, 0 => by simp [shrL]
  | r :: rs, i + 1 => by simp [shrL, shrL_nth rs i]
theorem shrR_len : ∀ (rows : List (List T)), (shrR rows).length = rows.length
  | [] => by simp [shrR]
  | r :: rs => by simp [shrR, shrR_len rs]
theorem shrL_len : ∀ (rows : List T), (shrL rows).length = rows.length
  | [] => by simp [shrL]
  | r :: rs => by simp [shrL, shrL_len rs]
theorem shrR_inv {rows : List (List T)} {i : Nat} {r : List T} (h : (shrR rows)[i]? = some r) : ∃ q, rows[i]? = some q ∧ r = shrL q := by
  rw [shrR_nth] at h
  cases hq : rows[i]? with
  | none => rw [hq] at h; cases h
  | some q => rw [hq] at h; cases h; exact ⟨q, rfl, rfl⟩
theorem shrL_inv {r : List T} {k : Nat} {x : T} (h : (shrL r)[k]? = some x) : ∃ y, r[k]? = some y ∧ x = y.shr := by
  rw [shrL_nth] at h
  cases hq : r[k]? with
  | none => rw [hq] at h; cases h
  | some q => rw [hq] at h; cases h; exact ⟨q, rfl, rfl⟩

theorem Rep.shr {w : World} {B : Nat → Prop} {x : T} {v : Value} (h : Rep w B x v) : Rep w B x.shr v := by
  induction h with
  | sc v =>
    simp only [T.shr]
    split
    · exact .nil _
    · exact .sc _
  | nil o => exact .nil _
  | em o a cap => exact .em _ a cap
  | sl o rows b off cap sz us hb hc hl hw _ ih =>
    rw [← shrR_len rows]
    refine .sl _ _ b off cap sz us (fun h => hb fun e => h (by rw [e]; rfl)) (by rw [shrR_len]; exact hc) ?_ ?_ ?_
    · intro i r hi; obtain ⟨q, hq, rfl⟩ := shrR_inv hi; rw [shrL_len]; exact hl i q hq
    · intro i r k x hi hk; obtain ⟨q, hq, rfl⟩ := shrR_inv hi; obtain ⟨y, hy, rfl⟩ := shrL_inv hk; exact hw i q k y hq hy
    · intro i r k x hi hk; obtain ⟨q, hq, rfl⟩ := shrR_inv hi; obtain ⟨y, hy, rfl⟩ := shrL_inv hk; exact ih i q k y hq hy
  | pt cells b off us hb hw _ ih =>
    refine .pt _ b off us hb ?_ ?_
    · intro k x hk; obtain ⟨y, hy, rfl⟩ := shrL_inv hk; exact hw k y hy
    · intro k x hk; obtain ⟨y, hy, rfl⟩ := shrL_inv hk; exact ih k y hy
  | fn g caps vs hl _ ih =>
    refine .fn g _ vs (by rw [shrL_len]; exact hl) ?_
    intro k x v hk hv; obtain ⟨y, hy, rfl⟩ := shrL_inv hk; exact ih k y v hy hv
theorem Rep.flag {w : World} {B : Nat → Prop} {o o' : Bool} {rows : List (List T)} {v : Value} (h : Rep w B (.sl o rows) v) : Rep w B (.sl o' rows) v := by
  cases h with
  | nil => exact .nil _
  | em _ a cap => exact .em _ a cap
  | sl _ _ b off cap sz us hb hc hl hw hr => exact .sl _ _ b off cap sz us hb hc hl hw hr

/-- A tree stands in memory; what is its own (true) in blocks of F that nothing else of it stands in, what is shared in blocks of B. -/
inductive Own (w : World) (B : Nat → Prop) : T → Value → (Nat → Prop) → Prop
  | sc (v : Value) (F : Nat → Prop) : Own w B (.sc v) v F
  | sh (rows : List (List T)) (v : Value) (F : Nat → Prop) (h : Rep w B (.sl false rows) v) : Own w B (.sl false rows) v F
  | pt (cs : List T) (v : Value) (F : Nat → Prop) (h : Rep w B (.pt cs) v) : Own w B (.pt cs) v F
  | fn (g : FuncId) (cs : List T) (v : Value) (F : Nat → Prop) (h : Rep w B (.fn g cs) v) : Own w B (.fn g cs) v F
  | nil (F : Nat → Prop) : Own w B (.sl true []) (.slice none 0 0) F
  | sl (rows : List (List T)) (b off cap sz : Nat) (us : Nat → Nat → Value) (Fs : Nat → Nat → Nat → Prop) (F : Nat → Prop) (cs : Array Value) (ty : TypeId)
      (hh : w.heap[b]? = some (.cells cs ty (0, 0))) (hcap : off + cap * sz ≤ cs.size) (hc : rows.length ≤ cap)
      (hl : ∀ (i : Nat) (r : List T), rows[i]? = some r → r.length = sz)
      (hw : ∀ (i : Nat) (r : List T) (k : Nat) (x : T), rows[i]? = some r → r[k]? = some x → cs[off + (i * sz + k)]? = some (us i k))
      (hr : ∀ (i : Nat) (r : List T) (k : Nat) (x : T), rows[i]? = some r → r[k]? = some x → Own w B x (us i k) (Fs i k))
      (ho : ∀ (i : Nat) (r : List T) (k : Nat) (x : T), rows[i]? = some r → r[k]? = some x → (us i k).oneCell' = true)
      (hd : ∀ (i k i' k' c : Nat), Fs i k c → Fs i' k' c → i = i' ∧ k = k')
      (hb : ∀ (i k : Nat), ¬ Fs i k b) (hF : F b) (hF' : ∀ (i k c : Nat), Fs i k c → F c) (ht : rows = [] → cap = 0) :
      Own w B (.sl true rows) (.slice (some ⟨b, off, none⟩) rows.length cap) F

theorem Own.sub {w : World} {B : Nat → Prop} {x : T} {v : Value} {F F' : Nat → Prop} (h : Own w B x v F) (hF : ∀ b, F b → F' b) : Own w B x v F' := by
  cases h with
  | sc => exact .sc _ _
  | sh rows v F h => exact .sh _ _ _ h
  | pt cs v F h => exact .pt _ _ _ h
  | fn g cs v F h => exact .fn _ _ _ _ h
  | nil => exact .nil _
  | sl rows b off cap sz us Fs F cs ty hh hcap hc hl hw hr ho hd hb h1 h2 htt => exact .sl rows b off cap sz us Fs F' cs ty hh hcap hc hl hw hr ho hd hb (hF _ h1) (fun i k c h => hF _ (h2 i k c h)) htt

theorem Own.mono {w w' : World} {B B' : Nat → Prop} (hB : ∀ b, B b → B' b ∧ w'.heap[b]? = w.heap[b]?) {x : T} {v : Value} {F : Nat → Prop} (h : Own w B x v F) (hF : ∀ b, F b → w'.heap[b]? = w.heap[b]?) : Own w' B' x v F := by
  induction h with
  | sc => exact .sc _ _
  | sh rows v F h => exact .sh _ _ _ (h.mono hB)
  | pt cs v F h => exact .pt _ _ _ (h.mono hB)
  | fn g cs v F h => exact .fn _ _ _ _ (h.mono hB)
  | nil => exact .nil _
  | sl rows b off cap sz us Fs F cs ty hh hcap hc hl hw hr ho hd hb h1 h2 htt ih =>
    exact .sl rows b off cap sz us Fs F cs ty ((hF b h1).trans hh) hcap hc hl hw (fun i r k x hi hk => ih i r k x hi hk fun c hc => hF c (h2 i k c hc)) ho hd hb h1 h2 htt

theorem Own.rep {w : World} {B B' : Nat → Prop} {x : T} {v : Value} {F : Nat → Prop} (h : Own w B x v F) (hB : ∀ b, B b → B' b) (hF : ∀ b, F b → B' b) : Rep w B' x v := by
  induction h with
  | sc => exact .sc _
  | sh rows v F h => exact h.mono fun b hb => ⟨hB b hb, rfl⟩
  | pt cs v F h => exact h.mono fun b hb => ⟨hB b hb, rfl⟩
  | fn g cs v F h => exact h.mono fun b hb => ⟨hB b hb, rfl⟩
  | nil => exact .nil _
  | sl rows b off cap sz us Fs F cs ty hh hcap hc hl hw hr ho hd hb h1 h2 htt ih =>
    refine .sl _ rows b off cap sz us (fun _ => hF b h1) hc hl (fun i r k x hi hk => ?_) fun i r k x hi hk => ih i r k x hi hk fun c hc => hF c (h2 i k c hc)
    have := hw i r k x hi hk
    simp [World.cell?, hh, this]

/-- a tree whose memory is all its own stands so whatever is shared -/
theorem own_nthL : ∀ {r : List T}, ownL r → ∀ (k : Nat) (x : T), r[k]? = some x → x.own
  | [], _, k, x, hk => by simp at hk
  | y :: r, h, 0, x, hk => by simp at hk; subst hk; exact h.1
  | y :: r, h, k + 1, x, hk => own_nthL h.2 k x (by simpa using hk)
theorem own_nthR : ∀ {rows : List (List T)}, ownR rows → ∀ (i : Nat) (r : List T), rows[i]? = some r → ownL r
  | [], _, k, x, hk => by simp at hk
  | y :: r, h, 0, x, hk => by simp at hk; subst hk; exact h.1
  | y :: r, h, k + 1, x, hk => own_nthR h.2 k x (by simpa using hk)
theorem Own.any {w : World} {B B' : Nat → Prop} {x : T} {v : Value} {F : Nat → Prop} (h : Own w B x v F) (hown : x.own) : Own w B' x v F := by
  induction h with
  | sc => exact .sc _ _
  | sh rows v F h => exact absurd hown.1 (by simp)
  | pt cs v F h => exact hown.elim
  | fn g cs v F h => exact hown.elim
  | nil => exact .nil _
  | sl rows b off cap sz us Fs F cs ty hh hcap hc hl hw hr ho hd hb h1 h2 htt ih =>
    exact .sl rows b off cap sz us Fs F cs ty hh hcap hc hl hw (fun i r k x hi hk => ih i r k x hi hk (own_nthL (own_nthR hown.2 i r hi) k x hk)) ho hd hb h1 h2 htt

/-- a root (q: 0, or its row's cells): its rows, where it stands, how many cells a row has, the blocks that it has for itself -/
def Root (w : World) (B : Nat → Prop) (q : Nat) (rows : List (List T)) (v : Value) (sz : Nat) (F : Nat → Prop) : Prop :=
  (rows = [] ∧ v = .slice none 0 0) ∨ ∃ (b off cap : Nat) (us : Nat → Nat → Value) (Fs : Nat → Nat → Nat → Prop) (cs : Array Value) (ty : TypeId),
    v = .slice (some ⟨b, off, none⟩) rows.length cap ∧ w.heap[b]? = some (.cells cs ty (0, 0)) ∧ off + cap * sz ≤ cs.size ∧ rows.length ≤ cap ∧
    (∀ (i : Nat) (r : List T), rows[i]? = some r → r.length = sz) ∧
    (∀ (i : Nat) (r : List T) (k : Nat) (x : T), rows[i]? = some r → r[k]? = some x → cs[off + (i * sz + k)]? = some (us i k) ∧ Own w B x (us i k) (Fs i k) ∧ (us i k).oneCell' = true) ∧
    (∀ (i k i' k' c : Nat), Fs i k c → Fs i' k' c → i = i' ∧ k = k') ∧ (∀ (i k : Nat), ¬ Fs i k b) ∧ F b ∧ (∀ (i k c : Nat), Fs i k c → F c) ∧ ((q = 0 ∧ (rows = [] → cap = 0)) ∨ (q ≠ 0 ∧ sz = q))

theorem Root.own {w : World} {B : Nat → Prop} {rows : List (List T)} {v : Value} {sz : Nat} {F : Nat → Prop} (h : Root w B 0 rows v sz F) : Own w B (.sl true rows) v F := by
  rcases h with ⟨rfl, rfl⟩ | ⟨b, off, cap, us, Fs, cs, ty, rfl, hh, hcap, hc, hl, hw, hd, hb, h1, h2, h3⟩
  · exact .nil _
  · refine .sl rows b off cap sz us Fs F cs ty hh hcap hc hl (fun i r k x hi hk => (hw i r k x hi hk).1) (fun i r k x hi hk => (hw i r k x hi hk).2.1) (fun i r k x hi hk => (hw i r k x hi hk).2.2) hd hb h1 h2 ?_
    rcases h3 with h3 | h3
    · exact h3.2
    · exact absurd rfl h3.1
theorem Own.root {w : World} {B : Nat → Prop} {rows : List (List T)} {v : Value} {F : Nat → Prop} (h : Own w B (.sl true rows) v F) : ∃ sz, Root w B 0 rows v sz F := by
  cases h with
  | nil => exact ⟨0, .inl ⟨rfl, rfl⟩⟩
  | sl rows b off cap sz us Fs F cs ty hh hcap hc hl hw hr ho hd hb h1 h2 htt => exact ⟨sz, .inr ⟨b, off, cap, us, Fs, cs, ty, rfl, hh, hcap, hc, hl, fun i r k x hi hk => ⟨hw i r k x hi hk, hr i r k x hi hk, ho i r k x hi hk⟩, hd, hb, h1, h2, .inl ⟨rfl, htt⟩⟩⟩
theorem Root.mono {w w' : World} {B B' : Nat → Prop} (hB : ∀ b, B b → B' b ∧ w'.heap[b]? = w.heap[b]?) {q : Nat} {rows : List (List T)} {v : Value} {sz : Nat} {F : Nat → Prop} (h : Root w B q rows v sz F) (hF : ∀ b, F b → w'.heap[b]? = w.heap[b]?) : Root w' B' q rows v sz F := by
  rcases h with ⟨rfl, rfl⟩ | ⟨b, off, cap, us, Fs, cs, ty, rfl, hh, hcap, hc, hl, hw, hd, hb, h1, h2, h3⟩
  · exact .inl ⟨rfl, rfl⟩
  · exact .inr ⟨b, off, cap, us, Fs, cs, ty, rfl, (hF b h1).trans hh, hcap, hc, hl, fun i r k x hi hk => ⟨(hw i r k x hi hk).1, (hw i r k x hi hk).2.1.mono hB fun c hc => hF c (h2 i k c hc), (hw i r k x hi hk).2.2⟩, hd, hb, h1, h2, h3⟩
/-- as any slice that is read -/
theorem Root.rep {w : World} {B B' : Nat → Prop} {q : Nat} {rows : List (List T)} {v : Value} {sz : Nat} {F : Nat → Prop} (h : Root w B q rows v sz F) (hB : ∀ b, B b → B' b) (hF : ∀ b, F b → B' b) (o : Bool) : Rep w B' (.sl o rows) v := by
  rcases h with ⟨rfl, rfl⟩ | ⟨b, off, cap, us, Fs, cs, ty, rfl, hh, hcap, hc, hl, hw, hd, hb, h1, h2, h3⟩
  · exact .nil _
  · refine .sl _ rows b off cap sz us (fun _ => hF b h1) hc hl (fun i r k x hi hk => ?_) fun i r k x hi hk => (hw i r k x hi hk).2.1.rep hB fun c hc => hF c (h2 i k c hc)
    have := (hw i r k x hi hk).1
    simp [World.cell?, hh, this]

/-- what is known of a frame beside its values: the blocks that are shared; where boxes stand; roots' values, row's cells, blocks -/
structure Gh where
  B : Nat → Prop
  lc : Nat → Nat
  rv : Nat → Value
  sz : Nat → Nat
  fo : Nat → Nat → Prop

def topOf (v : Value) (b : Nat) : Prop := match v with
  | .slice (some a) _ _ => b = a.block
  | _ => False
/-- the blocks that a tree within a root stands in -/
def inB (g : Gh) (id b : Nat) : Prop := g.B b ∨ (g.fo id b ∧ ¬ topOf (g.rv id) b)
/-- a part of a slice -/
def partV (v : Value) (sz lo hi : Nat) : Value := match v with
  | .slice (some a) _ cap => .slice (some (if cap = lo then a else a.add (lo * sz))) (hi - lo) (cap - lo)
  | _ => .slice none 0 0

abbrev Bxs := List (Nat × List AV)
abbrev Rts := List (Nat × QV × List (List T))

/-- A frame's value. -/
inductive CR (w : World) (g : Gh) (h : Bxs) (o : Rts) : AV → Value → Prop
  | u (v : Value) : CR w g h o .u v
  | t (x : T) (v : Value) (hr : Rep w g.B x v) : CR w g h o (.t x) v
  | bp (id off : Nat) (cs : List AV) (hi : lk h id = some cs) : CR w g h o (.bp id off) (.pointer (some ⟨g.lc id, off, none⟩))
  | rf (id : Nat) (rows : QV × List (List T)) (hi : lk o id = some rows) : CR w g h o (.rf id) (g.rv id)
  | rw (id lo hi : Nat) (rows : QV × List (List T)) (hi' : lk o id = some rows) (h1 : lo ≤ hi) (h2 : hi ≤ rows.2.length) : CR w g h o (.rw id lo hi) (partV (g.rv id) (g.sz id) lo hi)
  | rp (id i k : Nat) (rows : QV × List (List T)) (hi : lk o id = some rows) (b off n cap : Nat) (hv : g.rv id = .slice (some ⟨b, off, none⟩) n cap) : CR w g h o (.rp id i k) (.pointer (some ⟨b, off + (i * g.sz id + k), none⟩))
  | bw (x : T) (id : Nat) (v : Value) (rows : QV × List (List T)) (hi : lk o id = some rows) (hr : Rep w (inB g id) x v) : CR w g h o (.bw x id) v
  | fn (f : FuncId) (cs : List AV) (vs : List Value) (hl : cs.length = vs.length)
      (hr : ∀ (k : Nat) (x : AV) (v : Value), cs[k]? = some x → vs[k]? = some v → CR w g h o x v) : CR w g h o (.fn f cs) (.func (.func f) #[] vs.toArray)
  | ag (cs : List AV) (vs : List Value) (hl : cs.length = vs.length)
      (hr : ∀ (k : Nat) (x : AV) (v : Value), cs[k]? = some x → vs[k]? = some v → CR w g h o x v) : CR w g h o (.ag cs) (.agg vs.toArray)
  | tp (cs : List AV) (vs : List Value) (hl : cs.length = vs.length)
      (hr : ∀ (k : Nat) (x : AV) (v : Value), cs[k]? = some x → vs[k]? = some v → CR w g h o x v) : CR w g h o (.tp cs) (.tuple vs.toArray)

def CRs (w : World) (g : Gh) (h : Bxs) (o : Rts) (cs : List AV) (vs : List Value) : Prop :=
  cs.length = vs.length ∧ ∀ (k : Nat) (x : AV) (v : Value), cs[k]? = some x → vs[k]? = some v → CR w g h o x v

theorem hasL_nth {i : Nat} : ∀ {cs : List AV} {k : Nat} {x : AV}, cs[k]? = some x → x.has i = true → hasL i cs = true
  | [], k, x, h, _ => by simp at h
  | y :: r, 0, x, h, hx => by simp at h; subst h; simp [hasL, hx]
  | y :: r, k + 1, x, h, hx => by
    have := hasL_nth (cs := r) (k := k) (by simpa using h) hx
    simp only [hasL]
    split <;> first | rfl | exact this
theorem hasIL_nth {i : Nat} : ∀ {cs : List AV} {k : Nat} {x : AV}, cs[k]? = some x → x.hasI i = true → hasIL i cs = true
  | [], k, x, h, _ => by simp at h
  | y :: r, 0, x, h, hx => by simp at h; subst h; simp [hasIL, hx]
  | y :: r, k + 1, x, h, hx => by
    have := hasIL_nth (cs := r) (k := k) (by simpa using h) hx
    simp only [hasIL]
    split <;> first | rfl | exact this

/-- A value stays told where nothing that it stands on turns. -/
theorem CR.mono {w w' : World} {g g' : Gh} {h h' : Bxs} {o o' : Rts} {x : AV} {v : Value} (hx : CR w g h o x v) (hB : ∀ b, g.B b → g'.B b ∧ w'.heap[b]? = w.heap[b]?)
    (hbox : ∀ id cs, x.has id = true → lk h id = some cs → (∃ cs', lk h' id = some cs') ∧ g'.lc id = g.lc id)
    (hroot : ∀ id rows, x.has id = true → lk o id = some rows → (∃ rows', lk o' id = some rows' ∧ rows'.2.length = rows.2.length) ∧ g'.rv id = g.rv id ∧ g'.sz id = g.sz id)
    (hin : ∀ id rows b, x.hasI id = true → lk o id = some rows → g.fo id b → ¬ topOf (g.rv id) b → g'.fo id b ∧ w'.heap[b]? = w.heap[b]?) : CR w' g' h' o' x v := by
  induction hx with
  | u v => exact .u v
  | t x v hr => exact .t x v (hr.mono hB)
  | bp id off cs hi =>
    obtain ⟨⟨cs', h1⟩, h2⟩ := hbox id cs (by simp [AV.has]) hi
    rw [← h2]; exact .bp id off cs' h1
  | rf id rows hi =>
    obtain ⟨⟨r', h1, _⟩, h2, _⟩ := hroot id rows (by simp [AV.has]) hi
    rw [← h2]; exact .rf id r' h1
  | rw id lo hh rows hi h1 h2 =>
    obtain ⟨⟨r', h3, h4⟩, h5, h6⟩ := hroot id rows (by simp [AV.has]) hi
    rw [← h5, ← h6]; exact .rw id lo hh r' h3 h1 (by omega)
  | rp id i k rows hi b off n cap hv =>
    obtain ⟨⟨r', h3, h4⟩, h5, h6⟩ := hroot id rows (by simp [AV.has]) hi
    rw [← h6]; exact .rp id i k r' h3 b off n cap (h5.trans hv)
  | bw x id v rows hi hr =>
    obtain ⟨⟨r', h3, h4⟩, h5, h6⟩ := hroot id rows (by simp [AV.has]) hi
    refine .bw x id v r' h3 (hr.mono fun b hb => ?_)
    rcases hb with hb | ⟨hb1, hb2⟩
    · exact ⟨.inl (hB b hb).1, (hB b hb).2⟩
    · obtain ⟨h7, h8⟩ := hin id rows b (by simp [AV.hasI]) hi hb1 hb2
      exact ⟨.inr ⟨h7, by rw [h5]; exact hb2⟩, h8⟩
  | fn f cs vs hl _ ih => exact .fn f cs vs hl fun k x v hk hv => ih k x v hk hv (fun i c hi => hbox i c (by simp only [AV.has]; exact hasL_nth hk hi)) (fun i c hi => hroot i c (by simp only [AV.has]; exact hasL_nth hk hi)) (fun i c b hi => hin i c b (by simp only [AV.hasI]; exact hasIL_nth hk hi))
  | ag cs vs hl _ ih => exact .ag cs vs hl fun k x v hk hv => ih k x v hk hv (fun i c hi => hbox i c (by simp only [AV.has]; exact hasL_nth hk hi)) (fun i c hi => hroot i c (by simp only [AV.has]; exact hasL_nth hk hi)) (fun i c b hi => hin i c b (by simp only [AV.hasI]; exact hasIL_nth hk hi))
  | tp cs vs hl _ ih => exact .tp cs vs hl fun k x v hk hv => ih k x v hk hv (fun i c hi => hbox i c (by simp only [AV.has]; exact hasL_nth hk hi)) (fun i c hi => hroot i c (by simp only [AV.has]; exact hasL_nth hk hi)) (fun i c b hi => hin i c b (by simp only [AV.hasI]; exact hasIL_nth hk hi))

section
variable {w : World} {g : Gh} {h : Bxs} {o : Rts}
theorem CRs.cast {cs : List AV} {vs us : List Value} (e : vs = us) (q : CRs w g h o cs vs) : CRs w g h o cs us := e ▸ q
theorem CRs.nil : CRs w g h o [] [] := ⟨rfl, fun k x v hk => by simp at hk⟩
theorem CRs.cons {x : AV} {v : Value} {cs : List AV} {vs : List Value} (q : CR w g h o x v) (hs : CRs w g h o cs vs) : CRs w g h o (x :: cs) (v :: vs) := by
  refine ⟨by simp [hs.1], ?_⟩
  intro k y u hk hu
  cases k with
  | zero => simp at hk hu; subst hk; subst hu; exact q
  | succ k => exact hs.2 k y u (by simpa using hk) (by simpa using hu)
theorem CRs.one {x : AV} {v : Value} (q : CR w g h o x v) : CRs w g h o [x] [v] := .cons q .nil
theorem CRs.head {x : AV} {cs : List AV} {vs : List Value} (q : CRs w g h o (x :: cs) vs) : ∃ v us, vs = v :: us ∧ CR w g h o x v ∧ CRs w g h o cs us := by
  obtain ⟨hl, hr⟩ := q
  match vs, hl with
  | v :: us, hl => exact ⟨v, us, rfl, hr 0 x v rfl rfl, by simpa using hl, fun k y u hk hu => hr (k + 1) y u (by simpa using hk) (by simpa using hu)⟩
theorem CRs.take {cs : List AV} {vs : List Value} (q : CRs w g h o cs vs) (n : Nat) : CRs w g h o (cs.take n) (vs.take n) := by
  refine ⟨by simp [q.1], ?_⟩
  intro k x v hk hv
  rw [List.getElem?_take] at hk hv
  by_cases hn : k < n
  · simp only [hn, if_true] at hk hv; exact q.2 k x v hk hv
  · simp [hn] at hk
theorem CRs.drop {cs : List AV} {vs : List Value} (q : CRs w g h o cs vs) (n : Nat) : CRs w g h o (cs.drop n) (vs.drop n) := by
  refine ⟨by simp [q.1], ?_⟩
  intro k x v hk hv
  rw [List.getElem?_drop] at hk hv
  exact q.2 _ x v hk hv
theorem CRs.app {cs ds : List AV} {vs us : List Value} (q : CRs w g h o cs vs) (q2 : CRs w g h o ds us) : CRs w g h o (cs ++ ds) (vs ++ us) := by
  refine ⟨by simp [q.1, q2.1], ?_⟩
  intro k x v hk hv
  rw [List.getElem?_append] at hk hv
  rw [← q.1] at hv
  by_cases hn : k < cs.length
  · simp only [hn, if_true] at hk hv; exact q.2 k x v hk hv
  · simp only [hn, if_false] at hk hv; exact q2.2 _ x v hk hv
theorem CRs.mono {w' : World} {g' : Gh} {h' : Bxs} {o' : Rts} {cs : List AV} {vs : List Value} (q : CRs w g h o cs vs) (f : ∀ (k : Nat) (x : AV) (v : Value), cs[k]? = some x → CR w g h o x v → CR w' g' h' o' x v) : CRs w' g' h' o' cs vs :=
  ⟨q.1, fun k x v hk hv => f k x v hk (q.2 k x v hk hv)⟩
end

/-- what a frame may turn: the blocks that came in to be turned, and new ones -/
structure Keeps (F : Nat → Prop) (w w' : World) : Prop where
  os : w'.os = w.os
  tape : w'.tape = w.tape
  output : w'.output = w.output
  size : w.heap.size ≤ w'.heap.size
  block : ∀ b, b < w.heap.size → ¬ F b → w'.heap[b]? = w.heap[b]?
theorem Keeps.refl (F : Nat → Prop) (w : World) : Keeps F w w := ⟨rfl, rfl, rfl, Nat.le_refl _, fun _ _ _ => rfl⟩
/-- one step more: it turns blocks of F, or new ones -/
theorem Keeps.step {F G : Nat → Prop} {w w1 w2 : World} (k1 : Keeps F w w1) (k2 : Keeps G w1 w2) (hG : ∀ b, b < w.heap.size → G b → F b) : Keeps F w w2 :=
  ⟨k2.os.trans k1.os, k2.tape.trans k1.tape, k2.output.trans k1.output, Nat.le_trans k1.size k2.size, fun b hb hF => (k2.block b (Nat.lt_of_lt_of_le hb k1.size) (fun h => hF (hG b hb h))).trans (k1.block b hb hF)⟩

structure FR (w0 : World) (B0 Fin : Nat → Prop) (s : St) (a : Act) (w : World) (g : Gh) : Prop where
  n : a.tmps.size = s.n
  df : a.defers = []
  kp : Keeps Fin w0 w
  bb : ∀ b, g.B b → b < w.heap.size ∧ (B0 b ∨ Fin b ∨ w0.heap.size ≤ b)
  tm : ∀ k x, lk s.t k = some x → ∃ v, a.tmps[k]? = some v ∧ CR w g s.h s.o x v
  bx : ∀ id cs, lk s.h id = some cs → (Fin (g.lc id) ∨ w0.heap.size ≤ g.lc id) ∧ ¬ g.B (g.lc id) ∧ ∃ vs ty, w.heap[g.lc id]? = some (.cells vs.toArray ty (0, 0)) ∧ CRs w g s.h s.o cs vs
  rt : ∀ id rows, lk s.o id = some rows → Root w g.B rows.1.n rows.2 (g.rv id) (g.sz id) (g.fo id) ∧ ∀ b, g.fo id b → b < w.heap.size ∧ (Fin b ∨ w0.heap.size ≤ b) ∧ ¬ g.B b
  bi : ∀ i j ci cj, lk s.h i = some ci → lk s.h j = some cj → g.lc i = g.lc j → i = j
  rr : ∀ i j ri rj b, lk s.o i = some ri → lk s.o j = some rj → g.fo i b → g.fo j b → i = j
  br : ∀ i j ci rj, lk s.h i = some ci → lk s.o j = some rj → ¬ g.fo j (g.lc i)
  tv : ∀ id rows u, lk s.o id = some rows → rows.1.v = some u → g.rv id = u

section
variable {w0 w : World} {B0 Fin : Nat → Prop} {s s' : St} {a : Act} {g : Gh}

theorem FR.ev (F : FR w0 B0 Fin s a w g) (x : Operand) : CR w g s.h s.o (s.ev x) (a.eval x) := by
  cases x with
  | tmp k =>
    simp only [St.ev, St.get]
    cases hk : lk s.t k with
    | none => exact .u _
    | some y =>
      obtain ⟨v, hv, hr⟩ := F.tm k y hk
      simp only [Act.eval, Array.getD_eq_getD_getElem?, hv, Option.getD_some]
      exact hr
  | const v => exact .t _ _ (.sc _)
  | global g => exact .t _ _ (.sc _)
  | func f => exact .t _ _ (.fn f [] [] rfl fun k x v hk => by simp at hk)
theorem FR.evA (F : FR w0 B0 Fin s a w g) {x : Operand} {y : AV} (h : evA s x = some y) : CR w g s.h s.o y (a.eval x) := by
  rw [fA_eq h]; exact F.ev x

theorem FR.put (F : FR w0 B0 Fin s a w g) {d : Option Nat} {x : AV} {v : Value} (h : s.putT d x = some s') (hx : CR w g s.h s.o x v) : FR w0 B0 Fin s' (a.put d v) w g := by
  obtain ⟨t, hh, o, n⟩ := s
  cases d with
  | none => simp only [St.putT] at h; cases h; exact F
  | some d =>
    simp only [St.putT] at h
    split at h
    · rename_i hb
      split at h
      · rename_i y hy
        have := fA_eq hy; subst this
        split at h
        · rename_i t' hp
          cases h
          have hd : d < n := by rw [Nat.blt_eq] at hb; exact hb
          refine ⟨by simp [Act.put]; exact F.n, F.df, F.kp, F.bb, ?_, F.bx, F.rt, F.bi, F.rr, F.br, F.tv⟩
          intro k z hk
          simp only [lk_pu hp] at hk
          simp only [Act.put]
          by_cases hdk : d = k
          · subst hdk
            simp only [if_true] at hk; cases hk
            exact ⟨v, by have := F.n; simp only at this; simp [this, hd], hx⟩
          · simp only [hdk, if_false] at hk
            obtain ⟨u, hu, hr⟩ := F.tm k z hk
            exact ⟨u, by rw [Array.getElem?_setIfInBounds_ne hdk]; exact hu, hr⟩
        · cases h
      · cases h
    · cases h

theorem root_lt {B : Nat → Prop} {q : Nat} {rows : List (List T)} {v : Value} {sz : Nat} {F : Nat → Prop} (h : Root w B q rows v sz F) {b off n cap : Nat} (hv : v = .slice (some ⟨b, off, none⟩) n cap) : b < w.heap.size ∧ F b := by
  rcases h with ⟨rfl, rfl⟩ | ⟨b, off, cap, us, Fs, cs, ty, rfl, hh, hcap, hc, hl, hw, hd, hb, h1, h2⟩
  · cases hv
  · cases hv
    exact ⟨(Array.getElem?_eq_some_iff.1 hh).1, h1⟩
theorem FR.lt (F : FR w0 B0 Fin s a w g) {id : Nat} {cs : List AV} (h : lk s.h id = some cs) : g.lc id < w.heap.size := by
  obtain ⟨_, _, vs, ty, h2, _⟩ := F.bx id cs h
  exact (Array.getElem?_eq_some_iff.1 h2).1

/-- the same in other words -/
theorem FR.congr (F : FR w0 B0 Fin s a w g) (ht : ∀ k x, lk s'.t k = some x → lk s.t k = some x) (hh : ∀ k, lk s'.h k = lk s.h k) (ho : ∀ k, lk s'.o k = lk s.o k) (hn : s'.n = s.n) : FR w0 B0 Fin s' a w g := by
  have key : ∀ x v, CR w g s.h s.o x v → CR w g s'.h s'.o x v := fun x v hx => hx.mono (fun b hb => ⟨hb, rfl⟩) (fun id cs _ h1 => ⟨⟨cs, (hh id).trans h1⟩, rfl⟩) (fun id rows _ h1 => ⟨⟨rows, (ho id).trans h1, rfl⟩, rfl, rfl⟩) (fun id rows b _ _ h3 _ => ⟨h3, rfl⟩)
  refine ⟨by rw [hn]; exact F.n, F.df, F.kp, F.bb, ?_, ?_, ?_, ?_, ?_, ?_, fun id rows u h1 h2 => F.tv id rows u ((ho id).symm.trans h1) h2⟩
  · intro k x hk
    obtain ⟨v, hv, hr⟩ := F.tm k x (ht k x hk)
    exact ⟨v, hv, key _ _ hr⟩
  · intro id cs hi
    obtain ⟨h1, h2, vs, ty, h3, h4⟩ := F.bx id cs ((hh id).symm.trans hi)
    exact ⟨h1, h2, vs, ty, h3, h4.mono fun k x v _ hx => key _ _ hx⟩
  · intro id rows hi; exact F.rt id rows ((ho id).symm.trans hi)
  · intro i j ci cj h1 h2 h3; exact F.bi i j ci cj ((hh i).symm.trans h1) ((hh j).symm.trans h2) h3
  · intro i j ri rj b h1 h2 h3 h4; exact F.rr i j ri rj b ((ho i).symm.trans h1) ((ho j).symm.trans h2) h3 h4
  · intro i j ci rj h1 h2; exact F.br i j ci rj ((hh i).symm.trans h1) ((ho j).symm.trans h2)

theorem killA_eq {q : AV → Bool} {x y : AV} (h : killA q x = some y) : y = .u ∨ (y = x ∧ q x = false) := by
  unfold killA at h
  split at h
  · cases h; exact .inl rfl
  · rename_i hq; exact .inr ⟨fA_eq h, hq⟩
theorem killP_key {q : AV → Bool} (p r : Nat × AV) (h : killP q p = some r) : r.1 = p.1 := by
  obtain ⟨k, x⟩ := p
  simp only [killP] at h
  split at h
  · cases h; rfl
  · cases h
theorem killB_key {q : AV → Bool} (p r : Nat × List AV) (h : killB q p = some r) : r.1 = p.1 := by
  obtain ⟨k, x⟩ := p
  simp only [killB] at h
  split at h
  · cases h; rfl
  · cases h

/-- what a kill leaves -/
theorem kill_parts {q : AV → Bool} (h : s.kill q = some s') : s'.o = s.o ∧ s'.n = s.n ∧ (∀ k y, lk s'.t k = some y → ∃ x, lk s.t k = some x ∧ (y = .u ∨ (y = x ∧ q x = false))) ∧
    (∀ id ds, lk s'.h id = some ds → ∃ cs, lk s.h id = some cs ∧ ds.length = cs.length ∧ ∀ (k : Nat) (x : AV), cs[k]? = some x → ∃ y, ds[k]? = some y ∧ (y = .u ∨ (y = x ∧ q x = false))) ∧ (∀ id cs, lk s.h id = some cs → ∃ ds, lk s'.h id = some ds) := by
  obtain ⟨t, hh, o, n⟩ := s
  simp only [St.kill] at h
  split at h
  case h_2 => cases h
  rename_i t' ht
  split at h
  case h_2 => cases h
  rename_i h' hh'
  cases h
  refine ⟨rfl, rfl, ?_, ?_, ?_⟩
  · intro k y hy
    obtain ⟨x, hx, hf⟩ := lk_mapS killP_key ht hy
    refine ⟨x, hx, ?_⟩
    simp only [killP] at hf
    split at hf
    · rename_i z hz; cases hf; exact killA_eq hz
    · cases hf
  · intro id ds hd
    obtain ⟨x, hx, hf⟩ := lk_mapS killB_key hh' hd
    simp only [killB] at hf
    split at hf
    · rename_i l hl
      cases hf
      obtain ⟨h1, h2⟩ := mapS_eq hl
      refine ⟨x, hx, h1, ?_⟩
      intro k y hy
      obtain ⟨z, hz, hq⟩ := h2 k y hy
      exact ⟨z, hz, killA_eq hq⟩
    · cases hf
  · intro id cs hc
    obtain ⟨y, hy, _⟩ := lk_mapS' killB_key hh' hc
    exact ⟨y, hy⟩

/-- A frame goes on: what is not killed stays told. (The one way to turn boxes, roots, memory.) -/
theorem FR.kill {w' : World} {g' : Gh} {q : AV → Bool} {s1 : St} (F : FR w0 B0 Fin s a w g) (hk : s.kill q = some s1) (s2 : St) (ht : s2.t = s1.t)
    (hB : ∀ b, g.B b → g'.B b ∧ w'.heap[b]? = w.heap[b]?)
    (hbox : ∀ x, q x = false → ∀ id cs, x.has id = true → lk s.h id = some cs → (∃ cs', lk s2.h id = some cs') ∧ g'.lc id = g.lc id)
    (hroot : ∀ x, q x = false → ∀ id rows, x.has id = true → lk s.o id = some rows → (∃ rows', lk s2.o id = some rows' ∧ rows'.2.length = rows.2.length) ∧ g'.rv id = g.rv id ∧ g'.sz id = g.sz id)
    (hin : ∀ x, q x = false → ∀ id rows b, x.hasI id = true → lk s.o id = some rows → g.fo id b → ¬ topOf (g.rv id) b → g'.fo id b ∧ w'.heap[b]? = w.heap[b]?) :
    (∀ k x, lk s2.t k = some x → ∃ v, a.tmps[k]? = some v ∧ CR w' g' s2.h s2.o x v) ∧
    (∀ id ds, lk s1.h id = some ds → ∃ vs ty, w.heap[g.lc id]? = some (.cells vs.toArray ty (0, 0)) ∧ CRs w' g' s2.h s2.o ds vs) := by
  obtain ⟨_, _, h3, h4, _⟩ := kill_parts hk
  have key : ∀ x y v, CR w g s.h s.o x v → (y = .u ∨ (y = x ∧ q x = false)) → CR w' g' s2.h s2.o y v := by
    rintro x y v hx (rfl | ⟨rfl, hq⟩)
    · exact .u _
    · exact hx.mono hB (hbox y hq) (hroot y hq) (hin y hq)
  refine ⟨?_, ?_⟩
  · intro k y hy
    rw [ht] at hy
    obtain ⟨x, hx, hy'⟩ := h3 k y hy
    obtain ⟨v, hv, hr⟩ := F.tm k x hx
    exact ⟨v, hv, key x y v hr hy'⟩
  · intro id ds hd
    obtain ⟨cs, hc, hl, hy⟩ := h4 id ds hd
    obtain ⟨_, _, vs, ty, h5, h6⟩ := F.bx id cs hc
    refine ⟨vs, ty, h5, by rw [hl]; exact h6.1, ?_⟩
    intro k y v hk hv
    have hlt := nth_lt hk
    rw [hl] at hlt
    obtain ⟨z, hz, hq⟩ := hy k _ (List.getElem?_eq_getElem hlt)
    rw [hk] at hz; cases hz
    exact key _ _ _ (h6.2 k _ v (List.getElem?_eq_getElem hlt) hv) hq
end
end Go.Ev
