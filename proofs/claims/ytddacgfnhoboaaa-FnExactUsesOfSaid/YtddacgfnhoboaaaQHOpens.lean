-- written by wip/tools/prune.py: what this claim reaches of the print's and our texts
import Derived.WalkKit
import Derived.ChangeSlices
import Derived.ChangeArms
import Derived.Test.YtddacgfnhoboaaaQHWWords
namespace Go.Proofs.Ytddacgfnhoboaaa.Opens
open Go.ChangeShapes Go.WideShapes Go.Proofs.YtddacgfnhoboaaaW.PrintWords
structure OpensAt (P : Program) (N : Nat) (t : TypeId) {α : Type} (d : Kd α) (ok : α → Prop) : Prop where
  get : ∀ {H : Type} (enc : TypeId × Value → H) (W : World) (base : Nat) (spare : Nat → Bool) (held : Bool) (fuel : Nat) (cs : List Value) (y : DataW H × List MemPlace),
    fuel ≤ N → DataW.trod enc P W base spare held fuel t cs = some y → ∃ x, d.K W x cs ∧ ok x
section
variable {P : Program} {N : Nat} {t e : TypeId} {α β : Type}
theorem OpensAt.mono {N' : Nat} {d : Kd α} {ok ok' : α → Prop} (h : OpensAt P N t d ok) (hN : N' ≤ N) (hok : ∀ x, ok x → ok' x) : OpensAt P N' t d ok' := by
  constructor
  intro H enc W base spare held fuel cs y hf ht
  obtain ⟨x, hk, hx⟩ := h.get enc W base spare held fuel cs y (by omega) ht
  exact ⟨x, hk, hok x hx⟩
theorem opens_int {k : IntKind} (ht : P.underlying t = some (.int k)) : OpensAt P N t (Kd.int k) (fun x => (Lit.int k x).wf = true) := by
  constructor
  intro H enc W base spare held fuel cs y _ h
  obtain ⟨n, rfl, rfl, hw⟩ := DataW.trod_int ht h
  exact ⟨n, rfl, hw⟩
theorem opens_string (ht : P.underlying t = some .string) : OpensAt P N t Kd.string (fun s => s.size ≤ maxLen) := by
  constructor
  intro H enc W base spare held fuel cs y _ h
  obtain ⟨s, rfl, rfl, hs⟩ := DataW.trod_string ht h
  exact ⟨s, rfl, hs⟩
theorem add_add (a : Addr) (i j : Nat) : (a.add i).add j = a.add (i + j) := by
  unfold Addr.add
  by_cases h1 : i = 0 <;> by_cases h2 : j = 0 <;> simp [h1, h2, Nat.add_assoc]
theorem opens_slice {d : Kd α} {ok : α → Prop} (ht : P.underlying t = some (.slice e)) (hc : P.cellsOf e = d.sz) (h : OpensAt P N e d ok) :
    OpensAt P (N + 1) t (Kd.slice e d) (fun xs => xs.length ≤ maxLen ∧ ∀ x ∈ xs, ok x) := by
  constructor
  intro H enc W base spare held fuel cs y hf hr
  rcases DataW.trod_slice ht hr with ⟨rfl, rfl⟩ | ⟨a, len, cap, elems, rest, n, rfl, rfl, rfl, hb, hl, hm, hlen, hel, _, _⟩
  · exact ⟨[], ⟨none, 0, rfl, Nat.le_refl _, rfl, by simp, fun h => absurd h (by simp)⟩, by simp, by simp⟩
  · have each : ∀ i, i < len → ∃ x c, d.K W x c ∧ ok x ∧ c.length = d.sz ∧ ∀ j u, c[j]? = some u → W.cell? (a.add (i * d.sz + j)) = some u := by
      intro i hi
      have h1 := hel i hi
      rw [List.getElem?_eq_getElem (by omega), Option.bind_eq_some_iff] at h1
      obtain ⟨c, hcs, hy⟩ := h1
      obtain ⟨x, hk, hx⟩ := h.get enc W base spare held n c _ (by omega) hy
      obtain ⟨_, h2, h3⟩ := World.cells?_some hcs
      refine ⟨x, c, hk, hx, by rw [h2, hc], fun j u hu => ?_⟩
      have hj : j < P.cellsOf e := by
        rw [← h2]
        exact (List.getElem?_eq_some_iff.1 hu).1
      rw [← hu, ← h3 j hj, add_add, hc]
    have hx : ∀ i : Fin len, ∃ x c, d.K W x c ∧ ok x ∧ c.length = d.sz ∧ ∀ j u, c[j]? = some u → W.cell? (a.add (i.1 * d.sz + j)) = some u := fun i => each i.1 i.2
    let xs := List.ofFn (fun i => (hx i).choose)
    have hxl : xs.length = len := by simp [xs]
    refine ⟨xs, ⟨some a, cap, by rw [hxl], by rw [hxl]; exact hl, rfl, ?_, fun _ => ⟨a, rfl, fun j p hj => ?_⟩⟩, by rw [hxl]; exact Nat.le_trans hl hm, fun p hp => ?_⟩
    · rw [hxl]
      exact Nat.le_trans hl hm
    · obtain ⟨hj1, hj2⟩ := List.getElem?_eq_some_iff.1 hj
      have e1 : p = (hx ⟨j, by omega⟩).choose := by
        rw [← hj2]
        simp [xs]
      obtain ⟨c, hk, _, hcl, hcell⟩ := (hx ⟨j, by omega⟩).choose_spec
      rw [← e1] at hk
      exact ⟨c, hcl, hk, hcell⟩
    · obtain ⟨j, hj1, hj2⟩ := List.getElem_of_mem hp
      have e1 : p = (hx ⟨j, by omega⟩).choose := by
        rw [← hj2]
        simp [xs]
      obtain ⟨c, _, ho, _⟩ := (hx ⟨j, by omega⟩).choose_spec
      rw [e1]
      exact ho
structure OpensFrom (P : Program) (N : Nat) (off : Nat) (fs : List Field) {α : Type} (d : Kd α) (ok : α → Prop) : Prop where
  get : ∀ {H : Type} (enc : TypeId × Value → H) (W : World) (base : Nat) (spare : Nat → Bool) (held : Bool) (n : Nat) (cs : List Value),
    n ≤ N → (∀ f ∈ fs, ∃ y : DataW H × List MemPlace, DataW.trod enc P W base spare held n f.type ((cs.drop f.offset).take (P.cellsOf f.type)) = some y) → cs.length = off + d.sz → ∃ x, d.K W x (cs.drop off) ∧ ok x
theorem from_one {off : Nat} {f : Field} {d : Kd α} {ok : α → Prop} (ho : f.offset = off) (hc : P.cellsOf f.type = d.sz) (h : OpensAt P N f.type d ok) : OpensFrom P N off [f] d ok := by
  constructor
  intro H enc W base spare held n cs hn hf hl
  obtain ⟨y, hy⟩ := hf f (by simp)
  obtain ⟨x, hk, hx⟩ := h.get enc W base spare held n _ y hn hy
  rw [ho, hc, List.take_of_length_le (by simp; omega)] at hk
  exact ⟨x, hk, hx⟩
theorem from_cons {off : Nat} {f : Field} {fs : List Field} {d : Kd α} {d' : Kd β} {ok : α → Prop} {ok' : β → Prop} (ho : f.offset = off) (hc : P.cellsOf f.type = d.sz) (h : OpensAt P N f.type d ok) (h' : OpensFrom P N (off + d.sz) fs d' ok') :
    OpensFrom P N off (f :: fs) (Kd.pair d d') (fun x => ok x.1 ∧ ok' x.2) := by
  constructor
  intro H enc W base spare held n cs hn hf hl
  have hl2 : cs.length = off + (d.sz + d'.sz) := hl
  obtain ⟨y, hy⟩ := hf f (by simp)
  obtain ⟨x, hk, hx⟩ := h.get enc W base spare held n _ y hn hy
  obtain ⟨x', hk', hx'⟩ := h'.get enc W base spare held n cs hn (fun g hg => hf g (by simp [hg])) (by omega)
  rw [ho, hc] at hk
  refine ⟨(x, x'), ⟨_, _, ?_, hk, hk'⟩, hx, hx'⟩
  rw [← List.drop_drop, List.take_append_drop]
theorem opens_struct {fs : List Field} {d : Kd α} {ok : α → Prop} (ht : P.underlying t = some (.struct fs.toArray)) (hc : P.cellsOf t = d.sz) (h : OpensFrom P N 0 fs d ok) : OpensAt P (N + 1) t d ok := by
  constructor
  intro H enc W base spare held fuel cs y hf hr
  obtain ⟨xs, n, rfl, rfl, hl, hxl, hx⟩ := DataW.trod_struct ht hr
  obtain ⟨x, hk, ho⟩ := h.get enc W base spare held n cs (by omega) (fun f hfm => by
    obtain ⟨i, hi⟩ := List.getElem?_of_mem hfm
    have h1 := hx i f (by simpa using hi)
    have hi2 : i < fs.length := (List.getElem?_eq_some_iff.1 hi).1
    rw [List.getElem?_eq_getElem (by simp at hxl; omega)] at h1
    exact ⟨_, h1⟩) (by omega)
  exact ⟨x, by simpa using hk, ho⟩
theorem opens_iso {d : Kd α} {ok : α → Prop} {f : β → α} (g : α → β) (hg : ∀ y, f (g y) = y) (h : OpensAt P N t d ok) : OpensAt P N t (Kd.iso d f) (fun x => ok (f x)) := by
  constructor
  intro H enc W base spare held fuel cs y hf hr
  obtain ⟨x, hk, hx⟩ := h.get enc W base spare held fuel cs y hf hr
  refine ⟨g x, ?_, ?_⟩
  · show d.K W (f (g x)) cs
    rw [hg]
    exact hk
  · show ok (f (g x))
    rw [hg]
    exact hx
theorem opens_fix {k d : Kd α} {ok ok' : α → Prop} (back : ∀ w x cs, d.K w x cs → k.K w x cs) (hok : ∀ x, ok' x → ok x) (step : ∀ N, OpensAt P N t k ok → OpensAt P (N + 1) t d ok') : ∀ N, OpensAt P N t k ok := by
  intro N
  induction N with
  | zero =>
    constructor
    intro H enc W base spare held fuel cs y hf hr
    obtain rfl : fuel = 0 := by omega
    simp [DataW.trod] at hr
  | succ N ih =>
    constructor
    intro H enc W base spare held fuel cs y hf hr
    obtain ⟨x, hk, hx⟩ := (step N ih).get enc W base spare held fuel cs y hf hr
    exact ⟨x, back _ _ _ hk, hok x hx⟩
end
end Go.Proofs.Ytddacgfnhoboaaa.Opens
