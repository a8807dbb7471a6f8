/- What an argument reads as, kind by kind: trees that stand in memory, to be read. No condition. -/
import Derived.Test.YtejioaahmgljgaaEvZ
import Derived.ChangeSlices
import Derived.ChangeArms
set_option linter.unusedVariables false
set_option linter.unusedSimpArgs false
namespace Go.Ev
open Go Go.ChangeShapes Go.WideShapes

/-- a kind: the cells of its values as trees -/
structure Kt (α : Type) where
  cells : α → List T
  sz : Nat
  len : ∀ x, (cells x).length = sz
def Kt.K {α : Type} (d : Kt α) (W : World) (x : α) (cs : List Value) : Prop := cs.length = d.sz ∧ ∀ (k : Nat) (y : T) (v : Value), (d.cells x)[k]? = some y → cs[k]? = some v → Rep W (fun b => b < W.heap.size) y v
def Kt.int (k : IntKind) : Kt Int := ⟨fun n => [.sc (.int k n)], 1, fun _ => rfl⟩
def Kt.bool : Kt Bool := ⟨fun n => [.sc (.bool n)], 1, fun _ => rfl⟩
def Kt.string : Kt ByteArray := ⟨fun n => [.sc (.string n)], 1, fun _ => rfl⟩
def Kt.slice {α : Type} (d : Kt α) : Kt (List α) := ⟨fun l => [.sl false (l.map d.cells)], 1, fun _ => rfl⟩
def Kt.pair {α β : Type} (d : Kt α) (d' : Kt β) : Kt (α × β) := ⟨fun x => d.cells x.1 ++ d'.cells x.2, d.sz + d'.sz, fun x => by rw [List.length_append, d.len, d'.len]⟩
def Kt.iso {α β : Type} (d : Kt α) (f : β → α) : Kt β := ⟨fun y => d.cells (f y), d.sz, fun y => d.len (f y)⟩

/-- Whatever reads as type t, with no more fuel than N, is of kind d, and its value is ok. -/
structure OpensAt (P : Program) (N : Nat) (t : TypeId) {α : Type} (d : Kt α) (ok : α → Prop) : Prop where
  get : ∀ {H : Type} (enc : TypeId × Value → H) (W : World) (base : Nat) (held : Bool) (fuel : Nat) (cs : List Value) (y : DataW H × List MemPlace),
    fuel ≤ N → DataW.trod enc P W base (fun _ => true) held fuel t cs = some y → ∃ x, d.K W x cs ∧ ok x

section
variable {P : Program} {N : Nat} {t e : TypeId} {α β : Type}
theorem opens_int {k : IntKind} (ht : P.underlying t = some (.int k)) : OpensAt P N t (Kt.int k) (fun x => (Lit.int k x).wf = true) := by
  constructor
  intro H enc W base held fuel cs y _ h
  obtain ⟨n, rfl, rfl, hw⟩ := DataW.trod_int ht h
  refine ⟨n, ⟨rfl, fun k y v h1 h2 => ?_⟩, hw⟩
  cases k with
  | zero => simp [Kt.int] at h1 h2; subst h1; subst h2; exact .sc _
  | succ k => simp at h2
theorem opens_bool (ht : P.underlying t = some .bool) : OpensAt P N t Kt.bool (fun _ => True) := by
  constructor
  intro H enc W base held fuel cs y _ h
  obtain ⟨n, rfl, rfl⟩ := DataW.trod_bool ht h
  refine ⟨n, ⟨rfl, fun k y v h1 h2 => ?_⟩, trivial⟩
  cases k with
  | zero => simp [Kt.bool] at h1 h2; subst h1; subst h2; exact .sc _
  | succ k => simp at h2
theorem opens_string (ht : P.underlying t = some .string) : OpensAt P N t Kt.string (fun s => s.size ≤ maxLen) := by
  constructor
  intro H enc W base held fuel cs y _ h
  obtain ⟨n, rfl, rfl, hs⟩ := DataW.trod_string ht h
  refine ⟨n, ⟨rfl, fun k y v h1 h2 => ?_⟩, hs⟩
  cases k with
  | zero => simp [Kt.string] at h1 h2; subst h1; subst h2; exact .sc _
  | succ k => simp at h2
theorem add_add (a : Addr) (i j : Nat) : (a.add i).add j = a.add (i + j) := by
  unfold Addr.add
  by_cases h1 : i = 0 <;> by_cases h2 : j = 0 <;> simp [h1, h2, Nat.add_assoc]
theorem cell_lt {W : World} {a : Addr} {u : Value} (h : W.cell? a = some u) : a.block < W.heap.size ∧ a.spot = none := by
  unfold World.cell? at h
  split at h
  · rename_i hh
    split at h
    · cases h
    · rename_i hs
      exact ⟨(Array.getElem?_eq_some_iff.1 hh).1, by simpa using hs⟩
  · cases h

theorem opens_slice {d : Kt α} {ok : α → Prop} (ht : P.underlying t = some (.slice e)) (hc : P.cellsOf e = d.sz) (hpos : 0 < d.sz) (h : OpensAt P N e d ok) :
    OpensAt P (N + 1) t (Kt.slice d) (fun xs => xs.length ≤ maxLen ∧ ∀ x ∈ xs, ok x) := by
  constructor
  intro H enc W base held fuel cs y hf hr
  have one : ∀ {z : T} {u : Value}, Rep W (fun b => b < W.heap.size) z u → ∀ (k : Nat) (y : T) (v : Value), [z][k]? = some y → [u][k]? = some v → Rep W (fun b => b < W.heap.size) y v := by
    intro z u hz k y v h1 h2
    cases k with
    | zero => simp at h1 h2; subst h1; subst h2; exact hz
    | succ k => simp at h2
  rcases DataW.trod_slice ht hr with ⟨rfl, rfl⟩ | ⟨a, len, cap, elems, rest, n, rfl, rfl, rfl, hb, hl, hm, hlen, hel, hsp, _⟩
  · exact ⟨[], ⟨rfl, one (.nil _)⟩, by simp, by simp⟩
  · have each : ∀ i, i < len → ∃ x c, d.K W x c ∧ ok x ∧ ∀ j u, c[j]? = some u → W.cell? (a.add (i * d.sz + j)) = some u := by
      intro i hi
      have h1 := hel i hi
      rw [List.getElem?_eq_getElem (by omega), Option.bind_eq_some_iff] at h1
      obtain ⟨c, hcs, hy⟩ := h1
      obtain ⟨x, hk, hx⟩ := h.get enc W base held n c _ (by omega) hy
      obtain ⟨_, h2, h3⟩ := World.cells?_some hcs
      refine ⟨x, c, hk, hx, fun j u hu => ?_⟩
      have hj : j < P.cellsOf e := by
        rw [← h2]
        exact (List.getElem?_eq_some_iff.1 hu).1
      rw [← hu, ← h3 j hj, add_add, hc]
    by_cases hl0 : len = 0
    · subst hl0
      exact ⟨[], ⟨rfl, one (.em _ _ _)⟩, by simp, by simp⟩
    have hx : ∀ i : Fin len, ∃ x c, d.K W x c ∧ ok x ∧ ∀ j u, c[j]? = some u → W.cell? (a.add (i.1 * d.sz + j)) = some u := fun i => each i.1 i.2
    let xs := List.ofFn (fun i => (hx i).choose)
    have hxl : xs.length = len := by simp [xs]
    have hsp0 : a.block < W.heap.size ∧ a.spot = none := by
      obtain ⟨x, c, hk, _, hcell⟩ := each 0 (by omega)
      have h0 : 0 < c.length := by rw [hk.1]; exact hpos
      have := cell_lt (hcell 0 _ (List.getElem?_eq_getElem h0))
      simpa [Addr.add] using this
    obtain ⟨ab, ao, asp⟩ := a
    obtain ⟨hab, rfl⟩ := hsp0
    let us : Nat → Nat → Value := fun i k => (W.cell? ⟨ab, ao + (i * d.sz + k), none⟩).getD undef
    have hadd : ∀ n, (⟨ab, ao, none⟩ : Addr).add n = ⟨ab, ao + n, none⟩ := fun n => by
      unfold Addr.add
      by_cases h : n = 0 <;> simp [h]
    refine ⟨xs, ⟨rfl, one ?_⟩, by rw [hxl]; exact Nat.le_trans hl hm, fun p hp => ?_⟩
    · have e : len = (xs.map d.cells).length := by rw [List.length_map, hxl]
      rw [e]
      have row : ∀ (i : Nat) (r : List T), (xs.map d.cells)[i]? = some r → ∃ x c, r = d.cells x ∧ d.K W x c ∧ ∀ j u, c[j]? = some u → W.cell? ⟨ab, ao + (i * d.sz + j), none⟩ = some u := by
        intro i r hi
        rw [List.getElem?_map, Option.map_eq_some_iff] at hi
        obtain ⟨x, hxi, rfl⟩ := hi
        obtain ⟨hj1, hj2⟩ := List.getElem?_eq_some_iff.1 hxi
        have e1 : x = (hx ⟨i, by omega⟩).choose := by rw [← hj2]; simp [xs]
        obtain ⟨c, hk, _, hcell⟩ := (hx ⟨i, by omega⟩).choose_spec
        rw [← e1] at hk
        exact ⟨x, c, rfl, hk, fun j u hu => by rw [← hadd]; exact hcell j u hu⟩
      refine .sl _ _ ab ao cap d.sz us (fun _ => hab) (by rw [← e]; exact hl) ?_ ?_ ?_
      · intro i r hi; obtain ⟨x, c, rfl, _⟩ := row i r hi; exact d.len x
      · intro i r k y hi hk
        obtain ⟨x, c, rfl, hK, hcell⟩ := row i r hi
        have hkl : k < c.length := by rw [hK.1, ← d.len x]; exact nth_lt hk
        have := hcell k _ (List.getElem?_eq_getElem hkl)
        simp only [us, this, Option.getD_some]
      · intro i r k y hi hk
        obtain ⟨x, c, rfl, hK, hcell⟩ := row i r hi
        have hkl : k < c.length := by rw [hK.1, ← d.len x]; exact nth_lt hk
        have := hcell k _ (List.getElem?_eq_getElem hkl)
        simp only [us, this, Option.getD_some]
        exact hK.2 k y _ hk (List.getElem?_eq_getElem hkl)
    · obtain ⟨j, hj1, hj2⟩ := List.getElem_of_mem hp
      have e1 : p = (hx ⟨j, by omega⟩).choose := by rw [← hj2]; simp [xs]
      obtain ⟨c, _, ho, _⟩ := (hx ⟨j, by omega⟩).choose_spec
      rw [e1]; exact ho

/-- The fields from a place on. -/
structure OpensFrom (P : Program) (N : Nat) (off : Nat) (fs : List Field) {α : Type} (d : Kt α) (ok : α → Prop) : Prop where
  get : ∀ {H : Type} (enc : TypeId × Value → H) (W : World) (base : Nat) (held : Bool) (n : Nat) (cs : List Value),
    n ≤ N → (∀ f ∈ fs, ∃ y : DataW H × List MemPlace, DataW.trod enc P W base (fun _ => true) held n f.type ((cs.drop f.offset).take (P.cellsOf f.type)) = some y) → cs.length = off + d.sz → ∃ x, d.K W x (cs.drop off) ∧ ok x
theorem from_one {off : Nat} {f : Field} {d : Kt α} {ok : α → Prop} (ho : f.offset = off) (hc : P.cellsOf f.type = d.sz) (h : OpensAt P N f.type d ok) : OpensFrom P N off [f] d ok := by
  constructor
  intro H enc W base held n cs hn hf hl
  obtain ⟨y, hy⟩ := hf f (by simp)
  obtain ⟨x, hk, hx⟩ := h.get enc W base held n _ y hn hy
  rw [ho, hc, List.take_of_length_le (by simp; omega)] at hk
  exact ⟨x, hk, hx⟩
theorem K_pair {d : Kt α} {d' : Kt β} {W : World} {x : α} {x' : β} {cs cs' : List Value} (h : d.K W x cs) (h' : d'.K W x' cs') : (Kt.pair d d').K W (x, x') (cs ++ cs') := by
  refine ⟨by simp [Kt.pair, h.1, h'.1], fun k y v h1 h2 => ?_⟩
  simp only [Kt.pair] at h1
  rw [List.getElem?_append] at h1 h2
  rw [d.len] at h1
  rw [h.1] at h2
  by_cases hk : k < d.sz
  · rw [if_pos hk] at h1 h2; exact h.2 k y v h1 h2
  · rw [if_neg hk] at h1 h2; exact h'.2 _ y v h1 h2
theorem from_cons {off : Nat} {f : Field} {fs : List Field} {d : Kt α} {d' : Kt β} {ok : α → Prop} {ok' : β → Prop} (ho : f.offset = off) (hc : P.cellsOf f.type = d.sz) (h : OpensAt P N f.type d ok) (h' : OpensFrom P N (off + d.sz) fs d' ok') :
    OpensFrom P N off (f :: fs) (Kt.pair d d') (fun x => ok x.1 ∧ ok' x.2) := by
  constructor
  intro H enc W base held n cs hn hf hl
  have hl2 : cs.length = off + (d.sz + d'.sz) := hl
  obtain ⟨y, hy⟩ := hf f (by simp)
  obtain ⟨x, hk, hx⟩ := h.get enc W base held n _ y hn hy
  obtain ⟨x', hk', hx'⟩ := h'.get enc W base held n cs hn (fun g hg => hf g (by simp [hg])) (by omega)
  rw [ho, hc] at hk
  refine ⟨(x, x'), ?_, hx, hx'⟩
  have := K_pair hk hk'
  rwa [← List.drop_drop, List.take_append_drop] at this
theorem opens_struct {fs : List Field} {d : Kt α} {ok : α → Prop} (ht : P.underlying t = some (.struct fs.toArray)) (hc : P.cellsOf t = d.sz) (h : OpensFrom P N 0 fs d ok) : OpensAt P (N + 1) t d ok := by
  constructor
  intro H enc W base held fuel cs y hf hr
  obtain ⟨xs, n, rfl, rfl, hl, hxl, hx⟩ := DataW.trod_struct ht hr
  obtain ⟨x, hk, ho⟩ := h.get enc W base held n cs (by omega) (fun f hfm => by
    obtain ⟨i, hi⟩ := List.getElem?_of_mem hfm
    have h1 := hx i f (by simpa using hi)
    have hi2 : i < fs.length := (List.getElem?_eq_some_iff.1 hi).1
    rw [List.getElem?_eq_getElem (by simp at hxl; omega)] at h1
    exact ⟨_, h1⟩) (by omega)
  exact ⟨x, by simpa using hk, ho⟩
theorem opens_iso {d : Kt α} {ok : α → Prop} {f : β → α} (g : α → β) (hg : ∀ y, f (g y) = y) (h : OpensAt P N t d ok) : OpensAt P N t (Kt.iso d f) (fun x => ok (f x)) := by
  constructor
  intro H enc W base held fuel cs y hf hr
  obtain ⟨x, hk, hx⟩ := h.get enc W base held fuel cs y hf hr
  refine ⟨g x, ?_, ?_⟩
  · show d.K W (f (g x)) cs
    rw [hg]; exact hk
  · show ok (f (g x))
    rw [hg]; exact hx
end
end Go.Ev
