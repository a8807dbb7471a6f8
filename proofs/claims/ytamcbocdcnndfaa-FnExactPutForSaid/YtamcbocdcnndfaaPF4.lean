import Derived.Test.YtamcbocdcnndfaaPF3
import Derived.ChangeSlices
import Derived.ChangeArms
import Derived.Test.YtamcbocdcnndfaaProg
set_option linter.unusedVariables false
set_option linter.unusedSimpArgs false
namespace Go.Ev
open Go Go.ChangeShapes Go.WideShapes

/-- a kind: the cells of its values as trees -/
structure Kt (α : Type) where
  cells : α → List T
  sz : Nat
  len : ∀ x, (cells x).length = sz
def Kt.K {α : Type} (d : Kt α) (W : World) (x : α) (cs : List Value) : Prop := cs.length = d.sz ∧ ∀ (k : Nat) (y : T) (v : Value), (d.cells x)[k]? = some y → cs[k]? = some v → Rep W (fun b => b < W.heap.size) y v
def Kt.int (k : IntKind) : Kt Int := ⟨fun n => [.sc (.int k n)], 1, fun _ => rfl⟩
def Kt.bool : Kt Bool := ⟨fun n => [.sc (.bool n)], 1, fun _ => rfl⟩
def Kt.string : Kt ByteArray := ⟨fun n => [.sc (.string n)], 1, fun _ => rfl⟩
def Kt.slice {α : Type} (d : Kt α) : Kt (List α) := ⟨fun l => [.sl false (l.map d.cells)], 1, fun _ => rfl⟩
def Kt.pair {α β : Type} (d : Kt α) (d' : Kt β) : Kt (α × β) := ⟨fun x => d.cells x.1 ++ d'.cells x.2, d.sz + d'.sz, fun x => by rw [List.length_append, d.len, d'.len]⟩
def Kt.iso {α β : Type} (d : Kt α) (f : β → α) : Kt β := ⟨fun y => d.cells (f y), d.sz, fun y => d.len (f y)⟩

/-- Whatever reads as type t, with no more fuel than N, is of kind d, and its value is ok. -/
structure OpensAt (P : Program) (N : Nat) (t : TypeId) {α : Type} (d : Kt α) (ok : α → Prop) : Prop where
  get : ∀ {H : Type} (enc : TypeId × Value → H) (W : World) (base : Nat) (held : Bool) (fuel : Nat) (cs : List Value) (y : DataW H × List MemPlace),
    fuel ≤ N → DataW.trod enc P W base (fun _ => true) held fuel t cs = some y → ∃ x, d.K W x cs ∧ ok x

section
variable {P : Program} {N : Nat} {t e : TypeId} {α β : Type}
theorem opens_int {k : IntKind} (ht : P.underlying t = some (.int k)) : OpensAt P N t (Kt.int k) (fun x => (Lit.int k x).wf = true) := by
  constructor
  intro H enc W base held fuel cs y _ h
  obtain ⟨n, rfl, rfl, hw⟩ := DataW.trod_int ht h
  refine ⟨n, ⟨rfl, fun k y v h1 h2 => ?_⟩, hw⟩
  cases k with
  | zero => simp [Kt.int] at h1 h2; subst h1; subst h2; exact .sc _
  | succ k => simp at h2
theorem opens_bool (ht : P.underlying t = some .bool) : OpensAt P N t Kt.bool (fun _ => True) := by
  constructor
  intro H enc W base held fuel cs y _ h
  obtain ⟨n, rfl, rfl⟩ := DataW.trod_bool ht h
  refine ⟨n, ⟨rfl, fun k y v h1 h2 => ?_⟩, trivial⟩
  cases k with
  | zero => simp [Kt.bool] at h1 h2; subst h1; subst h2; exact .sc _
  | succ k => simp at h2
theorem opens_string (ht : P.underlying t = some .string) : OpensAt P N t Kt.string (fun s => s.size ≤ maxLen) := by
  constructor
  intro H enc W base held fuel cs y _ h
  obtain ⟨n, rfl, rfl, hs⟩ := DataW.trod_string ht h
  refine ⟨n, ⟨rfl, fun k y v h1 h2 => ?_⟩, hs⟩
  cases k with
  | zero => simp [Kt.string] at h1 h2; subst h1; subst h2; exact .sc _
  | succ k => simp at h2
theorem add_add (a : Addr) (i j : Nat) : (a.add i).add j = a.add (i + j) := by
  unfold Addr.add
  by_cases h1 : i = 0 <;> by_cases h2 : j = 0 <;> simp [h1, h2, Nat.add_assoc]
theorem cell_lt {W : World} {a : Addr} {u : Value} (h : W.cell? a = some u) : a.block < W.heap.size ∧ a.spot = none := by
  unfold World.cell? at h
  split at h
  · rename_i hh
    split at h
    · cases h
    · rename_i hs
      exact ⟨(Array.getElem?_eq_some_iff.1 hh).1, by simpa using hs⟩
  · cases h

theorem opens_slice {d : Kt α} {ok : α → Prop} (ht : P.underlying t = some (.slice e)) (hc : P.cellsOf e = d.sz) (hpos : 0 < d.sz) (h : OpensAt P N e d ok) :
    OpensAt P (N + 1) t (Kt.slice d) (fun xs => xs.length ≤ maxLen ∧ ∀ x ∈ xs, ok x) := by
  constructor
  intro H enc W base held fuel cs y hf hr
  have one : ∀ {z : T} {u : Value}, Rep W (fun b => b < W.heap.size) z u → ∀ (k : Nat) (y : T) (v : Value), [z][k]? = some y → [u][k]? = some v → Rep W (fun b => b < W.heap.size) y v := by
    intro z u hz k y v h1 h2
    cases k with
    | zero => simp at h1 h2; subst h1; subst h2; exact hz
    | succ k => simp at h2
  rcases DataW.trod_slice ht hr with ⟨rfl, rfl⟩ | ⟨a, len, cap, elems, rest, n, rfl, rfl, rfl, hb, hl, hm, hlen, hel, hsp, _⟩
  · exact ⟨[], ⟨rfl, one (.nil _)⟩, by simp, by simp⟩
  · have each : ∀ i, i < len → ∃ x c, d.K W x c ∧ ok x ∧ ∀ j u, c[j]? = some u → W.cell? (a.add (i * d.sz + j)) = some u := by
      intro i hi
      have h1 := hel i hi
      rw [List.getElem?_eq_getElem (by omega), Option.bind_eq_some_iff] at h1
      obtain ⟨c, hcs, hy⟩ := h1
      obtain ⟨x, hk, hx⟩ := h.get enc W base held n c _ (by omega) hy
      obtain ⟨_, h2, h3⟩ := World.cells?_some hcs
      refine ⟨x, c, hk, hx, fun j u hu => ?_⟩
      have hj : j < P.cellsOf e := by
        rw [← h2]
        exact (List.getElem?_eq_some_iff.1 hu).1
      rw [← hu, ← h3 j hj, add_add, hc]
    by_cases hl0 : len = 0
    · subst hl0
      exact ⟨[], ⟨rfl, one (.em _ _ _)⟩, by simp, by simp⟩
    have hx : ∀ i : Fin len, ∃ x c, d.K W x c ∧ ok x ∧ ∀ j u, c[j]? = some u → W.cell? (a.add (i.1 * d.sz + j)) = some u := fun i => each i.1 i.2
    let xs := List.ofFn (fun i => (hx i).choose)
    have hxl : xs.length = len := by simp [xs]
    have hsp0 : a.block < W.heap.size ∧ a.spot = none := by
      obtain ⟨x, c, hk, _, hcell⟩ := each 0 (by omega)
      have h0 : 0 < c.length := by rw [hk.1]; exact hpos
      have := cell_lt (hcell 0 _ (List.getElem?_eq_getElem h0))
      simpa [Addr.add] using this
    obtain ⟨ab, ao, asp⟩ := a
    obtain ⟨hab, rfl⟩ := hsp0
    let us : Nat → Nat → Value := fun i k => (W.cell? ⟨ab, ao + (i * d.sz + k), none⟩).getD undef
    have hadd : ∀ n, (⟨ab, ao, none⟩ : Addr).add n = ⟨ab, ao + n, none⟩ := fun n => by
      unfold Addr.add
      by_cases h : n = 0 <;> simp [h]
    refine ⟨xs, ⟨rfl, one ?_⟩, by rw [hxl]; exact Nat.le_trans hl hm, fun p hp => ?_⟩
    · have e : len = (xs.map d.cells).length := by rw [List.length_map, hxl]
      rw [e]
      have row : ∀ (i : Nat) (r : List T), (xs.map d.cells)[i]? = some r → ∃ x c, r = d.cells x ∧ d.K W x c ∧ ∀ j u, c[j]? = some u → W.cell? ⟨ab, ao + (i * d.sz + j), none⟩ = some u := by
        intro i r hi
        rw [List.getElem?_map, Option.map_eq_some_iff] at hi
        obtain ⟨x, hxi, rfl⟩ := hi
        obtain ⟨hj1, hj2⟩ := List.getElem?_eq_some_iff.1 hxi
        have e1 : x = (hx ⟨i, by omega⟩).choose := by rw [← hj2]; simp [xs]
        obtain ⟨c, hk, _, hcell⟩ := (hx ⟨i, by omega⟩).choose_spec
        rw [← e1] at hk
        exact ⟨x, c, rfl, hk, fun j u hu => by rw [← hadd]; exact hcell j u hu⟩
      refine .sl _ _ ab ao cap d.sz us (fun _ => hab) (by rw [← e]; exact hl) ?_ ?_ ?_
      · intro i r hi; obtain ⟨x, c, rfl, _⟩ := row i r hi; exact d.len x
      · intro i r k y hi hk
        obtain ⟨x, c, rfl, hK, hcell⟩ := row i r hi
        have hkl : k < c.length := by rw [hK.1, ← d.len x]; exact nth_lt hk
        have := hcell k _ (List.getElem?_eq_getElem hkl)
        simp only [us, this, Option.getD_some]
      · intro i r k y hi hk
        obtain ⟨x, c, rfl, hK, hcell⟩ := row i r hi
        have hkl : k < c.length := by rw [hK.1, ← d.len x]; exact nth_lt hk
        have := hcell k _ (List.getElem?_eq_getElem hkl)
        simp only [us, this, Option.getD_some]
        exact hK.2 k y _ hk (List.getElem?_eq_getElem hkl)
    · obtain ⟨j, hj1, hj2⟩ := List.getElem_of_mem hp
      have e1 : p = (hx ⟨j, by omega⟩).choose := by rw [← hj2]; simp [xs]
      obtain ⟨c, _, ho, _⟩ := (hx ⟨j, by omega⟩).choose_spec
      rw [e1]; exact ho

/-- The fields from a place on. -/
structure OpensFrom (P : Program) (N : Nat) (off : Nat) (fs : List Field) {α : Type} (d : Kt α) (ok : α → Prop) : Prop where
  get : ∀ {H : Type} (enc : TypeId × Value → H) (W : World) (base : Nat) (held : Bool) (n : Nat) (cs : List Value),
    n ≤ N → (∀ f ∈ fs, ∃ y : DataW H × List MemPlace, DataW.trod enc P W base (fun _ => true) held n f.type ((cs.drop f.offset).take (P.cellsOf f.type)) = some y) → cs.length = off + d.sz → ∃ x, d.K W x (cs.drop off) ∧ ok x
theorem from_one {off : Nat} {f : Field} {d : Kt α} {ok : α → Prop} (ho : f.offset = off) (hc : P.cellsOf f.type = d.sz) (h : OpensAt P N f.type d ok) : OpensFrom P N off [f] d ok := by
  constructor
  intro H enc W base held n cs hn hf hl
  obtain ⟨y, hy⟩ := hf f (by simp)
  obtain ⟨x, hk, hx⟩ := h.get enc W base held n _ y hn hy
  rw [ho, hc, List.take_of_length_le (by simp; omega)] at hk
  exact ⟨x, hk, hx⟩
theorem K_pair {d : Kt α} {d' : Kt β} {W : World} {x : α} {x' : β} {cs cs' : List Value} (h : d.K W x cs) (h' : d'.K W x' cs') : (Kt.pair d d').K W (x, x') (cs ++ cs') := by
  refine ⟨by simp [Kt.pair, h.1, h'.1], fun k y v h1 h2 => ?_⟩
  simp only [Kt.pair] at h1
  rw [List.getElem?_append] at h1 h2
  rw [d.len] at h1
  rw [h.1] at h2
  by_cases hk : k < d.sz
  · rw [if_pos hk] at h1 h2; exact h.2 k y v h1 h2
  · rw [if_neg hk] at h1 h2; exact h'.2 _ y v h1 h2
theorem from_cons {off : Nat} {f : Field} {fs : List Field} {d : Kt α} {d' : Kt β} {ok : α → Prop} {ok' : β → Prop} (ho : f.offset = off) (hc : P.cellsOf f.type = d.sz) (h : OpensAt P N f.type d ok) (h' : OpensFrom P N (off + d.sz) fs d' ok') :
    OpensFrom P N off (f :: fs) (Kt.pair d d') (fun x => ok x.1 ∧ ok' x.2) := by
  constructor
  intro H enc W base held n cs hn hf hl
  have hl2 : cs.length = off + (d.sz + d'.sz) := hl
  obtain ⟨y, hy⟩ := hf f (by simp)
  obtain ⟨x, hk, hx⟩ := h.get enc W base held n _ y hn hy
  obtain ⟨x', hk', hx'⟩ := h'.get enc W base held n cs hn (fun g hg => hf g (by simp [hg])) (by omega)
  rw [ho, hc] at hk
  refine ⟨(x, x'), ?_, hx, hx'⟩
  have := K_pair hk hk'
  rwa [← List.drop_drop, List.take_append_drop] at this
theorem opens_struct {fs : List Field} {d : Kt α} {ok : α → Prop} (ht : P.underlying t = some (.struct fs.toArray)) (hc : P.cellsOf t = d.sz) (h : OpensFrom P N 0 fs d ok) : OpensAt P (N + 1) t d ok := by
  constructor
  intro H enc W base held fuel cs y hf hr
  obtain ⟨xs, n, rfl, rfl, hl, hxl, hx⟩ := DataW.trod_struct ht hr
  obtain ⟨x, hk, ho⟩ := h.get enc W base held n cs (by omega) (fun f hfm => by
    obtain ⟨i, hi⟩ := List.getElem?_of_mem hfm
    have h1 := hx i f (by simpa using hi)
    have hi2 : i < fs.length := (List.getElem?_eq_some_iff.1 hi).1
    rw [List.getElem?_eq_getElem (by simp at hxl; omega)] at h1
    exact ⟨_, h1⟩) (by omega)
  exact ⟨x, by simpa using hk, ho⟩
theorem opens_iso {d : Kt α} {ok : α → Prop} {f : β → α} (g : α → β) (hg : ∀ y, f (g y) = y) (h : OpensAt P N t d ok) : OpensAt P N t (Kt.iso d f) (fun x => ok (f x)) := by
  constructor
  intro H enc W base held fuel cs y hf hr
  obtain ⟨x, hk, hx⟩ := h.get enc W base held fuel cs y hf hr
  refine ⟨g x, ?_, ?_⟩
  · show d.K W (f (g x)) cs
    rw [hg]; exact hk
  · show ok (f (g x))
    rw [hg]; exact hx
end
end Go.Ev

set_option linter.unusedVariables false
set_option linter.unusedSimpArgs false
namespace Go.Ev
open Go
theorem tabOk {P : Program} {tab : Tab} (h : ∀ p ∈ tab, tiOf P p.1 = some p.2) (hm : P.follows .mixedOrders = true) : TabOk P tab := by
  refine ⟨?_, hm⟩
  intro id ti hl
  induction tab with
  | nil => cases hl
  | cons p r ih =>
    obtain ⟨k, v⟩ := p
    rw [lk_cons] at hl
    split at hl
    · rename_i e; subst e; cases hl; exact h (k, _) (List.mem_cons_self ..)
    · exact ih (fun p hp => h p (List.mem_cons_of_mem _ hp)) hl
end Go.Ev
namespace Go.Proofs
open Go Go.Ev
set_option maxRecDepth 100000
def tab : Tab := [
  (0, ⟨TD.other, 1, 0, some [T.sc (Value.tuple { toList := [] })]⟩),
  (1, ⟨TD.other, 1, 8, some [T.sc Value.nilFunc]⟩),
  (2, ⟨TD.int IntKind.i64, 1, 8, some [T.sc (Value.int IntKind.i64 0)]⟩),
  (3, ⟨TD.int IntKind.i64, 1, 8, some [T.sc (Value.int IntKind.i64 0)]⟩),
  (4, ⟨TD.bool, 1, 1, some [T.sc (Value.bool false)]⟩),
  (5, ⟨TD.int IntKind.u8, 1, 1, some [T.sc (Value.int IntKind.u8 0)]⟩),
  (6, ⟨TD.int IntKind.u8, 1, 1, some [T.sc (Value.int IntKind.u8 0)]⟩),
  (7, ⟨TD.st [(0, 2), (1, 3), (2, 4), (3, 6)], 4, 24, some [T.sc (Value.int IntKind.i64 0), T.sc (Value.int IntKind.i64 0), T.sc (Value.bool false), T.sc (Value.int IntKind.u8 0)]⟩),
  (8, ⟨TD.st [(0, 2), (1, 3), (2, 4), (3, 6)], 4, 24, some [T.sc (Value.int IntKind.i64 0), T.sc (Value.int IntKind.i64 0), T.sc (Value.bool false), T.sc (Value.int IntKind.u8 0)]⟩),
  (9, ⟨TD.str, 1, 16, some [T.sc (Value.string { data := { toList := [] } })]⟩),
  (10, ⟨TD.str, 1, 16, some [T.sc (Value.string { data := { toList := [] } })]⟩),
  (11, ⟨TD.str, 1, 16, some [T.sc (Value.string { data := { toList := [] } })]⟩),
  (12, ⟨TD.int IntKind.u64, 1, 8, some [T.sc (Value.int IntKind.u64 0)]⟩),
  (13, ⟨TD.st [(0, 9), (1, 12)], 2, 24, some [T.sc (Value.string { data := { toList := [] } }), T.sc (Value.int IntKind.u64 0)]⟩),
  (14, ⟨TD.st [(0, 9), (1, 12)], 2, 24, some [T.sc (Value.string { data := { toList := [] } }), T.sc (Value.int IntKind.u64 0)]⟩),
  (15, ⟨TD.other, 1, 8, some [T.sc (Value.pointer none)]⟩),
  (16, ⟨TD.other, 1, 8, some [T.sc (Value.pointer none)]⟩),
  (17, ⟨TD.other, 1, 8, some [T.sc (Value.pointer none)]⟩),
  (18, ⟨TD.st [(0, 17)], 1, 8, some [T.sc (Value.pointer none)]⟩),
  (19, ⟨TD.st [(0, 17)], 1, 8, some [T.sc (Value.pointer none)]⟩),
  (20, ⟨TD.other, 1, 16, some [T.sc Value.nilIface]⟩),
  (21, ⟨TD.int IntKind.i32, 1, 4, some [T.sc (Value.int IntKind.i32 0)]⟩),
  (22, ⟨TD.sl 24, 1, 24, some [T.sc (Value.slice none 0 0)]⟩),
  (23, ⟨TD.st [(0, 3), (1, 3), (2, 22)], 3, 40, some [T.sc (Value.int IntKind.i64 0), T.sc (Value.int IntKind.i64 0), T.sc (Value.slice none 0 0)]⟩),
  (24, ⟨TD.st [(0, 3), (1, 3), (2, 22)], 3, 40, some [T.sc (Value.int IntKind.i64 0), T.sc (Value.int IntKind.i64 0), T.sc (Value.slice none 0 0)]⟩),
  (25, ⟨TD.sl 27, 1, 24, some [T.sc (Value.slice none 0 0)]⟩),
  (26, ⟨TD.st [(0, 3), (1, 3), (2, 9), (3, 9), (4, 24), (7, 22), (8, 25)], 9, 136, some [T.sc (Value.int IntKind.i64 0), T.sc (Value.int IntKind.i64 0), T.sc (Value.string { data := { toList := [] } }), T.sc (Value.string { data := { toList := [] } }), T.sc (Value.int IntKind.i64 0), T.sc (Value.int IntKind.i64 0), T.sc (Value.slice none 0 0), T.sc (Value.slice none 0 0), T.sc (Value.slice none 0 0)]⟩),
  (27, ⟨TD.st [(0, 3), (1, 3), (2, 9), (3, 9), (4, 24), (7, 22), (8, 25)], 9, 136, some [T.sc (Value.int IntKind.i64 0), T.sc (Value.int IntKind.i64 0), T.sc (Value.string { data := { toList := [] } }), T.sc (Value.string { data := { toList := [] } }), T.sc (Value.int IntKind.i64 0), T.sc (Value.int IntKind.i64 0), T.sc (Value.slice none 0 0), T.sc (Value.slice none 0 0), T.sc (Value.slice none 0 0)]⟩),
  (28, ⟨TD.other, 1, 8, some [T.sc Value.nilFunc]⟩),
  (29, ⟨TD.sl 31, 1, 24, some [T.sc (Value.slice none 0 0)]⟩),
  (30, ⟨TD.st [(0, 3), (1, 3), (2, 29)], 3, 40, some [T.sc (Value.int IntKind.i64 0), T.sc (Value.int IntKind.i64 0), T.sc (Value.slice none 0 0)]⟩),
  (31, ⟨TD.st [(0, 3), (1, 3), (2, 29)], 3, 40, some [T.sc (Value.int IntKind.i64 0), T.sc (Value.int IntKind.i64 0), T.sc (Value.slice none 0 0)]⟩),
  (32, ⟨TD.sl 34, 1, 24, some [T.sc (Value.slice none 0 0)]⟩),
  (33, ⟨TD.st [(0, 3), (1, 3), (2, 9), (3, 9), (4, 31), (7, 29), (8, 32)], 9, 136, some [T.sc (Value.int IntKind.i64 0), T.sc (Value.int IntKind.i64 0), T.sc (Value.string { data := { toList := [] } }), T.sc (Value.string { data := { toList := [] } }), T.sc (Value.int IntKind.i64 0), T.sc (Value.int IntKind.i64 0), T.sc (Value.slice none 0 0), T.sc (Value.slice none 0 0), T.sc (Value.slice none 0 0)]⟩),
  (34, ⟨TD.st [(0, 3), (1, 3), (2, 9), (3, 9), (4, 31), (7, 29), (8, 32)], 9, 136, some [T.sc (Value.int IntKind.i64 0), T.sc (Value.int IntKind.i64 0), T.sc (Value.string { data := { toList := [] } }), T.sc (Value.string { data := { toList := [] } }), T.sc (Value.int IntKind.i64 0), T.sc (Value.int IntKind.i64 0), T.sc (Value.slice none 0 0), T.sc (Value.slice none 0 0), T.sc (Value.slice none 0 0)]⟩),
  (35, ⟨TD.other, 1, 8, some [T.sc Value.nilFunc]⟩),
  (36, ⟨TD.other, 1, 8, some [T.sc Value.nilFunc]⟩),
  (37, ⟨TD.other, 1, 8, some [T.sc Value.nilFunc]⟩),
  (38, ⟨TD.other, 1, 8, some [T.sc Value.nilFunc]⟩),
  (39, ⟨TD.other, 1, 8, some [T.sc Value.nilFunc]⟩),
  (40, ⟨TD.other, 1, 0, some [T.sc (Value.tuple { toList := [Value.agg { toList := [Value.int IntKind.i64 0, Value.int IntKind.i64 0, Value.string { data := { toList := [] } }, Value.string { data := { toList := [] } }, Value.int IntKind.i64 0, Value.int IntKind.i64 0, Value.slice none 0 0, Value.slice none 0 0, Value.slice none 0 0] }, Value.bool false] })]⟩),
  (41, ⟨TD.other, 1, 8, some [T.sc Value.nilFunc]⟩),
  (42, ⟨TD.other, 1, 8, some [T.sc Value.nilFunc]⟩),
  (43, ⟨TD.other, 1, 8, some [T.sc Value.nilFunc]⟩),
  (44, ⟨TD.other, 1, 8, some [T.sc Value.nilFunc]⟩),
  (45, ⟨TD.other, 1, 8, some [T.sc Value.nilFunc]⟩),
  (46, ⟨TD.other, 1, 8, some [T.sc Value.nilFunc]⟩),
  (47, ⟨TD.other, 1, 8, some [T.sc Value.nilFunc]⟩),
  (48, ⟨TD.other, 1, 8, some [T.sc Value.nilFunc]⟩),
  (49, ⟨TD.other, 1, 8, some [T.sc Value.nilFunc]⟩),
  (50, ⟨TD.other, 1, 8, some [T.sc Value.nilFunc]⟩),
  (51, ⟨TD.other, 1, 8, some [T.sc Value.nilFunc]⟩),
  (52, ⟨TD.other, 1, 8, some [T.sc Value.nilFunc]⟩),
  (53, ⟨TD.other, 1, 8, some [T.sc Value.nilFunc]⟩),
  (54, ⟨TD.other, 1, 8, some [T.sc Value.nilFunc]⟩),
  (55, ⟨TD.other, 1, 8, some [T.sc Value.nilFunc]⟩),
  (56, ⟨TD.other, 1, 8, some [T.sc Value.nilFunc]⟩),
  (57, ⟨TD.sl 9, 1, 24, some [T.sc (Value.slice none 0 0)]⟩),
  (58, ⟨TD.other, 1, 8, some [T.sc Value.nilFunc]⟩),
  (59, ⟨TD.other, 1, 8, some [T.sc Value.nilFunc]⟩),
  (60, ⟨TD.other, 1, 8, some [T.sc Value.nilFunc]⟩),
  (61, ⟨TD.other, 1, 8, some [T.sc (Value.pointer none)]⟩),
  (62, ⟨TD.other, 1, 8, some [T.sc Value.nilFunc]⟩),
  (63, ⟨TD.other, 1, 8, some [T.sc Value.nilFunc]⟩),
  (64, ⟨TD.other, 1, 8, some [T.sc Value.nilFunc]⟩),
  (65, ⟨TD.other, 1, 0, some [T.sc (Value.tuple { toList := [Value.int IntKind.i64 0, Value.int IntKind.i64 0, Value.bool false] })]⟩),
  (66, ⟨TD.other, 1, 8, some [T.sc Value.nilFunc]⟩),
  (67, ⟨TD.other, 1, 8, some [T.sc Value.nilFunc]⟩),
  (68, ⟨TD.other, 1, 8, some [T.sc Value.nilFunc]⟩),
  (69, ⟨TD.other, 1, 8, some [T.sc Value.nilFunc]⟩),
  (70, ⟨TD.other, 1, 8, some [T.sc Value.nilFunc]⟩),
  (71, ⟨TD.other, 1, 8, some [T.sc Value.nilFunc]⟩),
  (72, ⟨TD.other, 1, 8, some [T.sc Value.nilFunc]⟩),
  (73, ⟨TD.other, 1, 8, some [T.sc Value.nilFunc]⟩),
  (74, ⟨TD.other, 1, 8, some [T.sc (Value.pointer none)]⟩),
  (75, ⟨TD.st [(0, 3), (1, 3), (2, 3), (3, 3)], 4, 32, some [T.sc (Value.int IntKind.i64 0), T.sc (Value.int IntKind.i64 0), T.sc (Value.int IntKind.i64 0), T.sc (Value.int IntKind.i64 0)]⟩),
  (76, ⟨TD.st [(0, 3), (1, 3), (2, 3), (3, 3)], 4, 32, some [T.sc (Value.int IntKind.i64 0), T.sc (Value.int IntKind.i64 0), T.sc (Value.int IntKind.i64 0), T.sc (Value.int IntKind.i64 0)]⟩),
  (77, ⟨TD.sl 80, 1, 24, some [T.sc (Value.slice none 0 0)]⟩),
  (78, ⟨TD.sl 134, 1, 24, some [T.sc (Value.slice none 0 0)]⟩),
  (79, ⟨TD.st [(0, 3), (1, 3), (2, 77), (3, 34), (12, 78)], 13, 200, some [T.sc (Value.int IntKind.i64 0), T.sc (Value.int IntKind.i64 0), T.sc (Value.slice none 0 0), T.sc (Value.int IntKind.i64 0), T.sc (Value.int IntKind.i64 0), T.sc (Value.string { data := { toList := [] } }), T.sc (Value.string { data := { toList := [] } }), T.sc (Value.int IntKind.i64 0), T.sc (Value.int IntKind.i64 0), T.sc (Value.slice none 0 0), T.sc (Value.slice none 0 0), T.sc (Value.slice none 0 0), T.sc (Value.slice none 0 0)]⟩),
  (80, ⟨TD.st [(0, 3), (1, 3), (2, 77), (3, 34), (12, 78)], 13, 200, some [T.sc (Value.int IntKind.i64 0), T.sc (Value.int IntKind.i64 0), T.sc (Value.slice none 0 0), T.sc (Value.int IntKind.i64 0), T.sc (Value.int IntKind.i64 0), T.sc (Value.string { data := { toList := [] } }), T.sc (Value.string { data := { toList := [] } }), T.sc (Value.int IntKind.i64 0), T.sc (Value.int IntKind.i64 0), T.sc (Value.slice none 0 0), T.sc (Value.slice none 0 0), T.sc (Value.slice none 0 0), T.sc (Value.slice none 0 0)]⟩),
  (81, ⟨TD.other, 1, 8, some [T.sc Value.nilFunc]⟩),
  (82, ⟨TD.sl 5, 1, 24, some [T.sc (Value.slice none 0 0)]⟩),
  (83, ⟨TD.other, 1, 8, some [T.sc Value.nilFunc]⟩),
  (84, ⟨TD.other, 1, 8, some [T.sc Value.nilFunc]⟩),
  (85, ⟨TD.other, 1, 8, some [T.sc Value.nilFunc]⟩),
  (86, ⟨TD.st [(0, 3), (1, 3), (2, 4), (3, 4), (4, 4)], 5, 24, some [T.sc (Value.int IntKind.i64 0), T.sc (Value.int IntKind.i64 0), T.sc (Value.bool false), T.sc (Value.bool false), T.sc (Value.bool false)]⟩),
  (87, ⟨TD.st [(0, 3), (1, 3), (2, 4), (3, 4), (4, 4)], 5, 24, some [T.sc (Value.int IntKind.i64 0), T.sc (Value.int IntKind.i64 0), T.sc (Value.bool false), T.sc (Value.bool false), T.sc (Value.bool false)]⟩),
  (88, ⟨TD.other, 1, 8, some [T.sc Value.nilFunc]⟩),
  (89, ⟨TD.other, 1, 8, some [T.sc Value.nilFunc]⟩),
  (90, ⟨TD.other, 1, 8, some [T.sc Value.nilFunc]⟩),
  (91, ⟨TD.other, 1, 8, some [T.sc Value.nilFunc]⟩),
  (92, ⟨TD.other, 1, 8, some [T.sc Value.nilFunc]⟩),
  (93, ⟨TD.other, 1, 8, some [T.sc Value.nilFunc]⟩),
  (94, ⟨TD.other, 1, 8, some [T.sc Value.nilFunc]⟩),
  (95, ⟨TD.other, 1, 8, some [T.sc Value.nilFunc]⟩),
  (96, ⟨TD.other, 1, 8, some [T.sc Value.nilFunc]⟩),
  (97, ⟨TD.other, 1, 8, some [T.sc Value.nilFunc]⟩),
  (98, ⟨TD.other, 1, 8, some [T.sc (Value.pointer none)]⟩),
  (99, ⟨TD.st [(0, 3), (1, 3)], 2, 16, some [T.sc (Value.int IntKind.i64 0), T.sc (Value.int IntKind.i64 0)]⟩),
  (100, ⟨TD.st [(0, 3), (1, 3)], 2, 16, some [T.sc (Value.int IntKind.i64 0), T.sc (Value.int IntKind.i64 0)]⟩),
  (101, ⟨TD.other, 1, 0, some [T.sc (Value.tuple { toList := [Value.pointer none, Value.agg { toList := [Value.int IntKind.i64 0, Value.int IntKind.i64 0] }] })]⟩),
  (102, ⟨TD.other, 1, 8, some [T.sc Value.nilFunc]⟩),
  (103, ⟨TD.other, 1, 8, some [T.sc Value.nilFunc]⟩),
  (104, ⟨TD.other, 1, 8, some [T.sc (Value.pointer none)]⟩),
  (105, ⟨TD.other, 1, 8, some [T.sc (Value.pointer none)]⟩),
  (106, ⟨TD.sl 98, 1, 24, some [T.sc (Value.slice none 0 0)]⟩),
  (107, ⟨TD.st [(0, 3), (1, 3), (2, 98), (3, 98), (4, 104), (5, 9), (6, 105), (7, 106)], 8, 88, some [T.sc (Value.int IntKind.i64 0), T.sc (Value.int IntKind.i64 0), T.sc (Value.pointer none), T.sc (Value.pointer none), T.sc (Value.pointer none), T.sc (Value.string { data := { toList := [] } }), T.sc (Value.pointer none), T.sc (Value.slice none 0 0)]⟩),
  (108, ⟨TD.st [(0, 3), (1, 3), (2, 98), (3, 98), (4, 104), (5, 9), (6, 105), (7, 106)], 8, 88, some [T.sc (Value.int IntKind.i64 0), T.sc (Value.int IntKind.i64 0), T.sc (Value.pointer none), T.sc (Value.pointer none), T.sc (Value.pointer none), T.sc (Value.string { data := { toList := [] } }), T.sc (Value.pointer none), T.sc (Value.slice none 0 0)]⟩),
  (109, ⟨TD.sl 57, 1, 24, some [T.sc (Value.slice none 0 0)]⟩),
  (110, ⟨TD.other, 1, 8, some [T.sc Value.nilFunc]⟩),
  (111, ⟨TD.other, 1, 8, some [T.sc Value.nilFunc]⟩),
  (112, ⟨TD.other, 1, 8, some [T.sc Value.nilFunc]⟩),
  (113, ⟨TD.other, 1, 8, some [T.sc Value.nilFunc]⟩),
  (114, ⟨TD.other, 1, 8, some [T.sc Value.nilFunc]⟩),
  (115, ⟨TD.other, 1, 8, some [T.sc Value.nilFunc]⟩),
  (116, ⟨TD.other, 1, 8, some [T.sc Value.nilFunc]⟩),
  (117, ⟨TD.other, 1, 8, some [T.sc Value.nilFunc]⟩),
  (118, ⟨TD.st [(0, 17), (1, 17), (2, 17), (3, 9)], 4, 40, some [T.sc (Value.pointer none), T.sc (Value.pointer none), T.sc (Value.pointer none), T.sc (Value.string { data := { toList := [] } })]⟩),
  (119, ⟨TD.st [(0, 17), (1, 17), (2, 17), (3, 9)], 4, 40, some [T.sc (Value.pointer none), T.sc (Value.pointer none), T.sc (Value.pointer none), T.sc (Value.string { data := { toList := [] } })]⟩),
  (120, ⟨TD.ar 0 16, 0, 0, some []⟩),
  (121, ⟨TD.st [(0, 120)], 0, 0, some []⟩),
  (122, ⟨TD.st [(0, 120)], 0, 0, some []⟩),
  (123, ⟨TD.other, 1, 8, some [T.sc Value.nilFunc]⟩),
  (124, ⟨TD.int IntKind.u32, 1, 4, some [T.sc (Value.int IntKind.u32 0)]⟩),
  (125, ⟨TD.int IntKind.u8, 1, 1, some [T.sc (Value.int IntKind.u8 0)]⟩),
  (126, ⟨TD.int IntKind.u8, 1, 1, some [T.sc (Value.int IntKind.u8 0)]⟩),
  (127, ⟨TD.other, 1, 8, some [T.sc Value.nilFunc]⟩),
  (128, ⟨TD.other, 1, 8, some [T.sc (Value.pointer none)]⟩),
  (129, ⟨TD.int IntKind.i32, 1, 4, some [T.sc (Value.int IntKind.i32 0)]⟩),
  (130, ⟨TD.int IntKind.i32, 1, 4, some [T.sc (Value.int IntKind.i32 0)]⟩),
  (131, ⟨TD.st [(0, 12), (1, 12), (2, 124), (3, 125), (4, 5), (5, 5), (6, 126), (7, 127), (8, 128), (9, 129), (10, 130)], 11, 48, some [T.sc (Value.int IntKind.u64 0), T.sc (Value.int IntKind.u64 0), T.sc (Value.int IntKind.u32 0), T.sc (Value.int IntKind.u8 0), T.sc (Value.int IntKind.u8 0), T.sc (Value.int IntKind.u8 0), T.sc (Value.int IntKind.u8 0), T.sc Value.nilFunc, T.sc (Value.pointer none), T.sc (Value.int IntKind.i32 0), T.sc (Value.int IntKind.i32 0)]⟩),
  (132, ⟨TD.st [(0, 12), (1, 12), (2, 124), (3, 125), (4, 5), (5, 5), (6, 126), (7, 127), (8, 128), (9, 129), (10, 130)], 11, 48, some [T.sc (Value.int IntKind.u64 0), T.sc (Value.int IntKind.u64 0), T.sc (Value.int IntKind.u32 0), T.sc (Value.int IntKind.u8 0), T.sc (Value.int IntKind.u8 0), T.sc (Value.int IntKind.u8 0), T.sc (Value.int IntKind.u8 0), T.sc Value.nilFunc, T.sc (Value.pointer none), T.sc (Value.int IntKind.i32 0), T.sc (Value.int IntKind.i32 0)]⟩),
  (133, ⟨TD.st [(0, 9), (1, 80), (14, 4)], 15, 224, some [T.sc (Value.string { data := { toList := [] } }), T.sc (Value.int IntKind.i64 0), T.sc (Value.int IntKind.i64 0), T.sc (Value.slice none 0 0), T.sc (Value.int IntKind.i64 0), T.sc (Value.int IntKind.i64 0), T.sc (Value.string { data := { toList := [] } }), T.sc (Value.string { data := { toList := [] } }), T.sc (Value.int IntKind.i64 0), T.sc (Value.int IntKind.i64 0), T.sc (Value.slice none 0 0), T.sc (Value.slice none 0 0), T.sc (Value.slice none 0 0), T.sc (Value.slice none 0 0), T.sc (Value.bool false)]⟩),
  (134, ⟨TD.st [(0, 9), (1, 80), (14, 4)], 15, 224, some [T.sc (Value.string { data := { toList := [] } }), T.sc (Value.int IntKind.i64 0), T.sc (Value.int IntKind.i64 0), T.sc (Value.slice none 0 0), T.sc (Value.int IntKind.i64 0), T.sc (Value.int IntKind.i64 0), T.sc (Value.string { data := { toList := [] } }), T.sc (Value.string { data := { toList := [] } }), T.sc (Value.int IntKind.i64 0), T.sc (Value.int IntKind.i64 0), T.sc (Value.slice none 0 0), T.sc (Value.slice none 0 0), T.sc (Value.slice none 0 0), T.sc (Value.slice none 0 0), T.sc (Value.bool false)]⟩),
  (135, ⟨TD.sl 104, 1, 24, some [T.sc (Value.slice none 0 0)]⟩),
  (136, ⟨TD.st [(0, 34), (9, 3), (10, 135)], 11, 168, some [T.sc (Value.int IntKind.i64 0), T.sc (Value.int IntKind.i64 0), T.sc (Value.string { data := { toList := [] } }), T.sc (Value.string { data := { toList := [] } }), T.sc (Value.int IntKind.i64 0), T.sc (Value.int IntKind.i64 0), T.sc (Value.slice none 0 0), T.sc (Value.slice none 0 0), T.sc (Value.slice none 0 0), T.sc (Value.int IntKind.i64 0), T.sc (Value.slice none 0 0)]⟩),
  (137, ⟨TD.st [(0, 34), (9, 3), (10, 135)], 11, 168, some [T.sc (Value.int IntKind.i64 0), T.sc (Value.int IntKind.i64 0), T.sc (Value.string { data := { toList := [] } }), T.sc (Value.string { data := { toList := [] } }), T.sc (Value.int IntKind.i64 0), T.sc (Value.int IntKind.i64 0), T.sc (Value.slice none 0 0), T.sc (Value.slice none 0 0), T.sc (Value.slice none 0 0), T.sc (Value.int IntKind.i64 0), T.sc (Value.slice none 0 0)]⟩),
  (138, ⟨TD.st [(0, 9), (1, 98), (2, 105)], 3, 32, some [T.sc (Value.string { data := { toList := [] } }), T.sc (Value.pointer none), T.sc (Value.pointer none)]⟩),
  (139, ⟨TD.st [(0, 9), (1, 98), (2, 105)], 3, 32, some [T.sc (Value.string { data := { toList := [] } }), T.sc (Value.pointer none), T.sc (Value.pointer none)]⟩),
  (140, ⟨TD.other, 1, 8, some [T.sc (Value.pointer none)]⟩)]
theorem tab_ok : TabOk Try.prog tab := by
  refine tabOk ?_ rfl
  simp only [tab, List.forall_mem_cons]
  refine ⟨?_, ?_, ?_, ?_, ?_, ?_, ?_, ?_, ?_, ?_, ?_, ?_, ?_, ?_, ?_, ?_, ?_, ?_, ?_, ?_, ?_, ?_, ?_, ?_, ?_, ?_, ?_, ?_, ?_, ?_, ?_, ?_, ?_, ?_, ?_, ?_, ?_, ?_, ?_, ?_, ?_, ?_, ?_, ?_, ?_, ?_, ?_, ?_, ?_, ?_, ?_, ?_, ?_, ?_, ?_, ?_, ?_, ?_, ?_, ?_, ?_, ?_, ?_, ?_, ?_, ?_, ?_, ?_, ?_, ?_, ?_, ?_, ?_, ?_, ?_, ?_, ?_, ?_, ?_, ?_, ?_, ?_, ?_, ?_, ?_, ?_, ?_, ?_, ?_, ?_, ?_, ?_, ?_, ?_, ?_, ?_, ?_, ?_, ?_, ?_, ?_, ?_, ?_, ?_, ?_, ?_, ?_, ?_, ?_, ?_, ?_, ?_, ?_, ?_, ?_, ?_, ?_, ?_, ?_, ?_, ?_, ?_, ?_, ?_, ?_, ?_, ?_, ?_, ?_, ?_, ?_, ?_, ?_, ?_, ?_, ?_, ?_, ?_, ?_, ?_, ?_, fun _ h => by cases h⟩ <;> rfl
abbrev E0 : Env := ⟨tab, [(33, [true]), (34, [true]), (32, [true]), (11, [true]), (91, [false, false, true]), (44, [false, false, true]), (28, [true]), (41, [false, false, true]), (65, [false, false, true]), (79, [true]), (67, [true]), (47, [true]), (70, [true]), (52, [true])]⟩
end Go.Proofs

set_option linter.unusedVariables false
set_option linter.unusedSimpArgs false
namespace Go.Proofs
open Go Go.Ev
set_option maxRecDepth 100000
abbrev iT (n : Int) : T := .sc (.int .i64 n)
abbrev iA (n : Int) : AV := .t (iT n)
abbrev bA (b : Bool) : AV := .t (.sc (.bool b))
abbrev iR (n : Int) : List T := [iT n]
structure Ins where
  op : Int
  d : Int
  x : Int
  y : Int
  n : Int
  l : List Int
  to_ : Int
  deriving DecidableEq
abbrev Ins.c (o : Bool) (i : Ins) : List T := [iT i.op, iT i.d, iT i.x, iT i.y, iT i.n, .sl o (i.l.map iR), iT i.to_]
abbrev Ins.a (o : Bool) (i : Ins) : AV := .ag [iA i.op, iA i.d, iA i.x, iA i.y, iA i.n, .t (.sl o (i.l.map iR)), iA i.to_]
variable {X : Rel3}
theorem w64 {n : Int} (h0 : -9223372036854775808 ≤ n) (h1 : n ≤ 9223372036854775807) : IntKind.i64.wrap n = n := by
  simp [IntKind.wrap, IntKind.bits, IntKind.signed]; omega
theorem w_succ {k n : Nat} (h : k < n) (hn : n ≤ 9223372036854775807) : IntKind.i64.wrap ((k : Int) + 1) = ((k + 1 : Nat) : Int) := by
  rw [w64] <;> omega

def mk : List Int → Int → List Int × Int
  | [], k => ([], k)
  | _ :: r, k => (k :: (mk r (IntKind.i64.wrap (k + 1))).1, (mk r (IntKind.i64.wrap (k + 1))).2)
theorem mk_snoc (l : List Int) (x k : Int) : mk (l ++ [x]) k = ((mk l k).1 ++ [(mk l k).2], IntKind.i64.wrap ((mk l k).2 + 1)) := by
  induction l generalizing k with
  | nil => rfl
  | cons y l ih => simp [mk, ih]
theorem mk_len (l : List Int) (k : Int) : (mk l k).1.length = l.length := by
  induction l generalizing k with
  | nil => rfl
  | cons y l ih => simp [mk, ih]
end Go.Proofs

set_option linter.unusedVariables false
set_option linter.unusedSimpArgs false
namespace Go.Proofs
open Go Go.Ev
set_option maxRecDepth 100000
variable {X : Rel3}
theorem set_hit {rows : List (List T)} {j : Nat} {r : List T} (h : j < rows.length) : (rows.set j r)[j]? = some r := by simp [h]
def nx (k : Int) : Int := IntKind.i64.wrap (k + 1)
def mkIns (i : Ins) (k : Int) : Ins × Int :=
  (⟨k, nx k, nx (nx k), nx (nx (nx k)), nx (nx (nx (nx k))), (mk i.l (nx (nx (nx (nx (nx k)))))).1, (mk i.l (nx (nx (nx (nx (nx k)))))).2⟩, nx (mk i.l (nx (nx (nx (nx (nx k)))))).2)
def mkInsS : List Ins → Int → List Ins × Int
  | [], k => ([], k)
  | i :: r, k => ((mkIns i k).1 :: (mkInsS r (mkIns i k).2).1, (mkInsS r (mkIns i k).2).2)
theorem mkInsS_snoc (l : List Ins) (x : Ins) (k : Int) : mkInsS (l ++ [x]) k = ((mkInsS l k).1 ++ [(mkIns x (mkInsS l k).2).1], (mkIns x (mkInsS l k).2).2) := by
  induction l generalizing k with
  | nil => rfl
  | cons y l ih => simp [mkInsS, ih]
theorem mkInsS_len (l : List Ins) (k : Int) : (mkInsS l k).1.length = l.length := by
  induction l generalizing k with
  | nil => rfl
  | cons y l ih => simp [mkInsS, ih]
end Go.Proofs

set_option linter.unusedVariables false
set_option linter.unusedSimpArgs false
namespace Go.Proofs
open Go Go.Ev
set_option maxRecDepth 100000
variable {X : Rel3}
abbrev uR (n : Int) : List T := [.sc (.int .u8 n)]
def mkB : List Int → Int → List Int × Int
  | [], k => ([], k)
  | _ :: r, k => (IntKind.u8.wrap k :: (mkB r (nx k)).1, (mkB r (nx k)).2)
theorem mkB_snoc (l : List Int) (x k : Int) : mkB (l ++ [x]) k = ((mkB l k).1 ++ [IntKind.u8.wrap (mkB l k).2], nx (mkB l k).2) := by
  induction l generalizing k with
  | nil => rfl
  | cons y l ih => simp [mkB, ih]
theorem mkB_len (l : List Int) (k : Int) : (mkB l k).1.length = l.length := by
  induction l generalizing k with
  | nil => rfl
  | cons y l ih => simp [mkB, ih]
/-- what is marked is held -/
def heB : List Int → Int → Int
  | [], k => k
  | x :: r, k => if x = IntKind.u8.wrap k then heB r (nx k) else -1
structure Piece where
  lam : Int
  in_ : Int
  regs : Int
  ins : List Ins
  deriving DecidableEq
abbrev Piece.c (o : Bool) (p : Piece) : List T := [iT p.lam, iT p.in_, iT p.regs, .sl o (p.ins.map (Ins.c o))]
abbrev Piece.a (o : Bool) (p : Piece) : AV := .ag [iA p.lam, iA p.in_, iA p.regs, .t (.sl o (p.ins.map (Ins.c o)))]
end Go.Proofs

set_option linter.unusedVariables false
set_option linter.unusedSimpArgs false
set_option maxHeartbeats 4000000
namespace Go.Proofs
open Go Go.Ev
set_option maxRecDepth 100000
variable {X : Rel3}
inductive Ty where
  | mk (k n : Int) (a : List Ty)
inductive Tm where
  | mk (k n : Int) (s z : ByteArray) (t : Ty) (ts : List Ty) (a : List Tm)
noncomputable instance : DecidableEq Ty := fun _ _ => Classical.propDecidable _
noncomputable instance : DecidableEq Tm := fun _ _ => Classical.propDecidable _
abbrev sT (s : ByteArray) : T := .sc (.string s)
abbrev sA (s : ByteArray) : AV := .t (sT s)
mutual
def Ty.c (o : Bool) : Ty → List T
  | .mk k n a => [iT k, iT n, .sl o (Ty.cL o a)]
def Ty.cL (o : Bool) : List Ty → List (List T)
  | [] => []
  | t :: r => Ty.c o t :: Ty.cL o r
end
mutual
def Tm.c (o : Bool) : Tm → List T
  | .mk k n s z (.mk tk tn ta) ts a => [iT k, iT n, sT s, sT z, iT tk, iT tn, .sl o (Ty.cL o ta), .sl o (Ty.cL o ts), .sl o (Tm.cL o a)]
def Tm.cL (o : Bool) : List Tm → List (List T)
  | [] => []
  | t :: r => Tm.c o t :: Tm.cL o r
end
theorem Ty.cL_eq (o : Bool) : ∀ l : List Ty, Ty.cL o l = l.map (Ty.c o)
  | [] => by rw [Ty.cL]; rfl
  | t :: r => by rw [Ty.cL, Ty.cL_eq o r]; rfl
theorem Tm.cL_eq (o : Bool) : ∀ l : List Tm, Tm.cL o l = l.map (Tm.c o)
  | [] => by rw [Tm.cL]; rfl
  | t :: r => by rw [Tm.cL, Tm.cL_eq o r]; rfl
theorem Ty.c_mk (o : Bool) (k n : Int) (a : List Ty) : Ty.c o (.mk k n a) = [iT k, iT n, .sl o (a.map (Ty.c o))] := by rw [Ty.c, Ty.cL_eq]
theorem Tm.c_mk (o : Bool) (k n : Int) (s z : ByteArray) (tk tn : Int) (ta ts : List Ty) (a : List Tm) : Tm.c o (.mk k n s z (.mk tk tn ta) ts a) = [iT k, iT n, sT s, sT z, iT tk, iT tn, .sl o (ta.map (Ty.c o)), .sl o (ts.map (Ty.c o)), .sl o (a.map (Tm.c o))] := by rw [Tm.c, Ty.cL_eq, Ty.cL_eq, Tm.cL_eq]
abbrev tyA (o : Bool) (k n : Int) (a : List Ty) : AV := .ag [iA k, iA n, .t (.sl o (a.map (Ty.c o)))]
abbrev tmA (o : Bool) (k n : Int) (s z : ByteArray) (tk tn : Int) (ta ts : List Ty) (a : List Tm) : AV := .ag [iA k, iA n, sA s, sA z, iA tk, iA tn, .t (.sl o (ta.map (Ty.c o))), .t (.sl o (ts.map (Ty.c o))), .t (.sl o (a.map (Tm.c o)))]
def Ty.a (o : Bool) : Ty → AV
  | .mk k n a => tyA o k n a
def Tm.a (o : Bool) : Tm → AV
  | .mk k n s z (.mk tk tn ta) ts a => tmA o k n s z tk tn ta ts a
mutual
theorem Ty.shrC : ∀ t : Ty, shrL (Ty.c true t) = Ty.c false t
  | .mk k n a => by rw [Ty.c, Ty.c]; simp only [shrL, T.shr, Ty.shrCL a]
theorem Ty.shrCL : ∀ l : List Ty, shrR (Ty.cL true l) = Ty.cL false l
  | [] => by rw [Ty.cL, Ty.cL, shrR]
  | t :: r => by rw [Ty.cL, Ty.cL, shrR, Ty.shrC t, Ty.shrCL r]
end
mutual
theorem Tm.shrC : ∀ t : Tm, shrL (Tm.c true t) = Tm.c false t
  | .mk k n s z (.mk tk tn ta) ts a => by rw [Tm.c, Tm.c]; simp only [shrL, T.shr, Ty.shrCL ta, Ty.shrCL ts, Tm.shrCL a]
theorem Tm.shrCL : ∀ l : List Tm, shrR (Tm.cL true l) = Tm.cL false l
  | [] => by rw [Tm.cL, Tm.cL, shrR]
  | t :: r => by rw [Tm.cL, Tm.cL, shrR, Tm.shrC t, Tm.shrCL r]
end
theorem shr_Ty (l : List Ty) : shrR (l.map (Ty.c true)) = l.map (Ty.c false) := by rw [← Ty.cL_eq, ← Ty.cL_eq, Ty.shrCL]
theorem shr_Tm (l : List Tm) : shrR (l.map (Tm.c true)) = l.map (Tm.c false) := by rw [← Tm.cL_eq, ← Tm.cL_eq, Tm.shrCL]
mutual
theorem Ty.ownC : ∀ t : Ty, ownL (Ty.c true t)
  | .mk k n a => by rw [Ty.c]; exact ⟨trivial, trivial, ⟨rfl, Ty.ownCL a⟩, trivial⟩
theorem Ty.ownCL : ∀ l : List Ty, ownR (Ty.cL true l)
  | [] => by rw [Ty.cL]; trivial
  | t :: r => by rw [Ty.cL]; exact ⟨Ty.ownC t, Ty.ownCL r⟩
end
mutual
theorem Tm.ownC : ∀ t : Tm, ownL (Tm.c true t)
  | .mk k n s z (.mk tk tn ta) ts a => by
    rw [Tm.c]
    exact ⟨trivial, trivial, trivial, trivial, trivial, trivial, ⟨rfl, Ty.ownCL ta⟩, ⟨rfl, Ty.ownCL ts⟩, ⟨rfl, Tm.ownCL a⟩, trivial⟩
theorem Tm.ownCL : ∀ l : List Tm, ownR (Tm.cL true l)
  | [] => by rw [Tm.cL]; trivial
  | t :: r => by rw [Tm.cL]; exact ⟨Tm.ownC t, Tm.ownCL r⟩
end
theorem own_Ty (l : List Ty) : ownR (l.map (Ty.c true)) := by rw [← Ty.cL_eq]; exact Ty.ownCL l
theorem own_Tm (l : List Tm) : ownR (l.map (Tm.c true)) := by rw [← Tm.cL_eq]; exact Tm.ownCL l
mutual
def Ty.len : Ty → Prop
  | .mk _ _ a => a.length ≤ 9223372036854775807 ∧ Ty.lenL a
def Ty.lenL : List Ty → Prop
  | [] => True
  | t :: r => Ty.len t ∧ Ty.lenL r
end
mutual
def Tm.len : Tm → Prop
  | .mk _ _ s z t ts a => s.size ≤ 9223372036854775807 ∧ z.size ≤ 9223372036854775807 ∧ Ty.len t ∧ (ts.length ≤ 9223372036854775807 ∧ Ty.lenL ts) ∧ a.length ≤ 9223372036854775807 ∧ Tm.lenL a
def Tm.lenL : List Tm → Prop
  | [] => True
  | t :: r => Tm.len t ∧ Tm.lenL r
end
theorem Ty.lenL_iff : ∀ {l : List Ty}, Ty.lenL l ↔ ∀ t ∈ l, Ty.len t
  | [] => by simp [Ty.lenL]
  | t :: r => by rw [Ty.lenL, Ty.lenL_iff]; simp
theorem Tm.lenL_iff : ∀ {l : List Tm}, Tm.lenL l ↔ ∀ t ∈ l, Tm.len t
  | [] => by simp [Tm.lenL]
  | t :: r => by rw [Tm.lenL, Tm.lenL_iff]; simp
mutual
def Ty.ok : Ty → Prop
  | .mk _ _ a => a.length ≤ 1048576 ∧ Ty.okL a
def Ty.okL : List Ty → Prop
  | [] => True
  | t :: r => Ty.ok t ∧ Ty.okL r
end
mutual
def Tm.ok : Tm → Prop
  | .mk _ _ s z t ts a => s.size ≤ 1048576 ∧ z.size ≤ 1048576 ∧ Ty.ok t ∧ (ts.length ≤ 1048576 ∧ Ty.okL ts) ∧ a.length ≤ 1048576 ∧ Tm.okL a
def Tm.okL : List Tm → Prop
  | [] => True
  | t :: r => Tm.ok t ∧ Tm.okL r
end
theorem Ty.okL_iff : ∀ {l : List Ty}, Ty.okL l ↔ ∀ t ∈ l, Ty.ok t
  | [] => by simp [Ty.okL]
  | t :: r => by rw [Ty.okL, Ty.okL_iff]; simp
theorem Tm.okL_iff : ∀ {l : List Tm}, Tm.okL l ↔ ∀ t ∈ l, Tm.ok t
  | [] => by simp [Tm.okL]
  | t :: r => by rw [Tm.okL, Tm.okL_iff]; simp
def lw (n m : Int) : Int := IntKind.i64.wrap (n - m)
mutual
def szTy : Ty → Int → Int
  | .mk _ _ a, n => if lw n a.length < 0 then -1 else szTyL a (lw n a.length)
def szTyL : List Ty → Int → Int
  | [], n => n
  | t :: r, n => if szTy t n < 0 then -1 else szTyL r (szTy t n)
end
def szTyS (l : List Ty) (n : Int) : Int := if lw n l.length < 0 then -1 else szTyL l (lw n l.length)
mutual
def szTm : Tm → Int → Int
  | .mk _ _ s z t ts a, n =>
    let n1 := lw n s.size
    let n2 := lw n1 z.size
    let n3 := szTy t n2
    let n4 := szTyS ts n3
    let n5 := if lw n4 a.length < 0 then -1 else szTmL a (lw n4 a.length)
    if n1 < 0 then -1 else if n2 < 0 then -1 else if n3 < 0 then -1 else if n4 < 0 then -1 else n5
def szTmL : List Tm → Int → Int
  | [], n => n
  | t :: r, n => if szTm t n < 0 then -1 else szTmL r (szTm t n)
end
def szTmS (l : List Tm) (n : Int) : Int := if lw n l.length < 0 then -1 else szTmL l (lw n l.length)
theorem lw_eq {n : Int} {m : Nat} (h0 : 0 ≤ n) (h1 : n ≤ 9223372036854775807) (hm : m ≤ 9223372036854775807) : lw n m = n - m := by unfold lw; rw [w64] <;> omega
mutual
theorem szTy_ok : ∀ {t : Ty} {n : Int}, Ty.len t → 0 ≤ n → n ≤ 1048576 → 0 ≤ szTy t n → Ty.ok t ∧ szTy t n ≤ n
  | .mk k m a, n, hl, h0, h1, h => by
    rw [Ty.len] at hl
    rw [szTy, lw_eq h0 (by omega) hl.1] at h ⊢
    split at h
    · omega
    · rename_i hn
      rw [if_neg hn]
      obtain ⟨h2, h3⟩ := szTyL_ok hl.2 (by omega) (by omega) h
      rw [Ty.ok]
      exact ⟨⟨by omega, h2⟩, by omega⟩
theorem szTyL_ok : ∀ {l : List Ty} {n : Int}, Ty.lenL l → 0 ≤ n → n ≤ 1048576 → 0 ≤ szTyL l n → Ty.okL l ∧ szTyL l n ≤ n
  | [], n, _, h0, h1, h => by rw [Ty.okL, szTyL]; exact ⟨trivial, Int.le_refl _⟩
  | t :: r, n, hl, h0, h1, h => by
    rw [Ty.lenL] at hl
    rw [szTyL] at h ⊢
    split at h
    · omega
    · rename_i hn
      rw [if_neg hn]
      obtain ⟨h2, h3⟩ := szTy_ok (t := t) hl.1 h0 h1 (by omega)
      obtain ⟨h4, h5⟩ := szTyL_ok (l := r) hl.2 (by omega) (by omega) h
      rw [Ty.okL]
      exact ⟨⟨h2, h4⟩, by omega⟩
end
theorem szTyS_ok {l : List Ty} {n : Int} (hl : l.length ≤ 9223372036854775807 ∧ Ty.lenL l) (h0 : 0 ≤ n) (h1 : n ≤ 1048576) (h : 0 ≤ szTyS l n) : (l.length ≤ 1048576 ∧ Ty.okL l) ∧ szTyS l n ≤ n := by
  unfold szTyS at h ⊢
  rw [lw_eq h0 (by omega) hl.1] at h ⊢
  split at h
  · omega
  · rename_i hn
    rw [if_neg hn]
    obtain ⟨h2, h3⟩ := szTyL_ok hl.2 (by omega) (by omega) h
    exact ⟨⟨by omega, h2⟩, by omega⟩
mutual
theorem szTm_ok : ∀ {t : Tm} {n : Int}, Tm.len t → 0 ≤ n → n ≤ 1048576 → 0 ≤ szTm t n → Tm.ok t ∧ szTm t n ≤ n
  | .mk k m s z t ts a, n, hl, h0, h1, h => by
    rw [Tm.len] at hl
    obtain ⟨l1, l2, l3, l4, l5, l6⟩ := hl
    rw [szTm] at h ⊢
    try simp only at h ⊢
    rw [lw_eq h0 (by omega) l1] at h ⊢
    split at h
    · omega
    rename_i e1
    rw [if_neg e1]
    rw [lw_eq (n := n - s.size) (by omega) (by omega) l2] at h ⊢
    split at h
    · omega
    rename_i e2
    rw [if_neg e2]
    split at h
    · omega
    rename_i e3
    rw [if_neg e3]
    obtain ⟨b1, b2⟩ := szTy_ok (t := t) l3 (by omega) (by omega) (by omega : 0 ≤ szTy t (n - s.size - z.size))
    split at h
    · omega
    rename_i e4
    rw [if_neg e4]
    obtain ⟨b3, b4⟩ := szTyS_ok (l := ts) l4 (by omega) (by omega) (by omega : 0 ≤ szTyS ts (szTy t (n - s.size - z.size)))
    rw [lw_eq (n := szTyS ts (szTy t (n - s.size - z.size))) (by omega) (by omega) l5] at h ⊢
    split at h
    · omega
    rename_i e5
    rw [if_neg e5]
    obtain ⟨b5, b6⟩ := szTmL_ok l6 (by omega) (by omega) h
    rw [Tm.ok]
    exact ⟨⟨by omega, by omega, b1, b3, by omega, b5⟩, by omega⟩
theorem szTmL_ok : ∀ {l : List Tm} {n : Int}, Tm.lenL l → 0 ≤ n → n ≤ 1048576 → 0 ≤ szTmL l n → Tm.okL l ∧ szTmL l n ≤ n
  | [], n, _, h0, h1, h => by rw [Tm.okL, szTmL]; exact ⟨trivial, Int.le_refl _⟩
  | t :: r, n, hl, h0, h1, h => by
    rw [Tm.lenL] at hl
    rw [szTmL] at h ⊢
    split at h
    · omega
    · rename_i hn
      rw [if_neg hn]
      obtain ⟨h2, h3⟩ := szTm_ok (t := t) hl.1 h0 h1 (by omega)
      obtain ⟨h4, h5⟩ := szTmL_ok (l := r) hl.2 (by omega) (by omega) h
      rw [Tm.okL]
      exact ⟨⟨h2, h4⟩, by omega⟩
end
end Go.Proofs

set_option linter.unusedVariables false
set_option linter.unusedSimpArgs false
set_option maxHeartbeats 4000000
namespace Go.Proofs
open Go Go.Ev
set_option maxRecDepth 100000
variable {X : Rel3}
def k_szTyS : List (Nat × List Nat) := [(0, [0, 1]), (1, [0, 1]), (2, [0, 1, 11]), (3, [4]), (4, [0, 1, 5]), (5, [0, 1, 5, 15]), (6, [0, 1, 5]), (7, [0, 1, 5]), (8, [0, 1, 5, 25]), (9, [4]), (10, [4])]
theorem szTyS_of (l : List Ty) (left : Int) (hl : l.length ≤ 9223372036854775807) (h : ∀ t ∈ l, ∀ left, Tells Try.prog E0 X 17 [t.a false, iA left] (iA (szTy t left))) : Tells Try.prog E0 X 18 [.t (.sl false (l.map (Ty.c false))), iA left] (iA (szTyS l left)) := by
  refine Tells.by Try.func18 (by simp [Try.f18]) (Body.i rfl rfl rfl (fun _ => rfl) fun f => ?_)
  repeat' (first
     | refine wp_seq_i ?_ | refine wp_region_t k_szTyS rfl ?_ | refine Run.done rfl ?_ | refine then_n ?_ | refine then_r ?_ | refine then_e ?_ | refine Run.go1 rfl ?_ | refine wp_skip_i ?_ | refine wp_ret_i ?_
     | refine wp_exit_i ?_ | refine wp_block_i ?_ | refine block_n ?_ | refine block_r ?_ | refine block_e ?_ | refine block_o rfl ?_ | refine wp_cond_t rfl ?_ | refine wp_cond_f rfl ?_
     | (refine wp_cond_k rfl rfl rfl ?_ ?_ <;> intro _) | (refine wp_cond_i rfl ?_ ?_ <;> intro _))
  · refine ret_m [] rfl rfl ?_
    rename_i h1
    have h1 := of_decide_eq_true h1
    rw [List.length_map] at h1
    rw [szTyS, if_pos (by unfold lw; exact h1)]
  rename_i h1
  have h1 := of_decide_eq_false h1
  rw [List.length_map] at h1
  have hg : szTyS l left = szTyL l (lw left l.length) := if_neg (by unfold lw; exact h1)
  rw [hg]
  refine wp_loop_k (α := Nat × Int) [.keep [0, 1, 5] []] (fun p => [(1, iA p.2), (5, iA p.1)]) (fun _ => []) (fun _ => []) (fun p => p.1 ≤ l.length ∧ szTyL (l.drop p.1) p.2 = szTyL l (lw left l.length)) (fun p => l.length - p.1) (0, lw left (l.map (Ty.c false)).length) rfl (fun _ => rfl) rfl ⟨by simp, by simp⟩ ?_
  rintro ⟨k, r⟩ ⟨hk, hI⟩
  simp only at hk hI
  by_cases hlt : k < l.length
  · obtain ⟨t, ht⟩ : ∃ t, l[k]? = some t := ⟨_, List.getElem?_eq_getElem hlt⟩
    have hT := h t (List.mem_of_getElem? ht) r
    rw [List.drop_eq_getElem_cons hlt, (List.getElem?_eq_some_iff.1 ht).2, szTyL] at hI
    obtain ⟨kk, nn, aa⟩ := t
    have hx : (l.map (Ty.c false))[k]? = some [iT kk, iT nn, .sl false (aa.map (Ty.c false))] := by rw [List.getElem?_map, ht]; exact congrArg some (Ty.c_mk ..)
    repeat' (first
       | refine wp_seq_i ?_ | refine wp_region_t k_szTyS rfl ?_ | refine Run.done rfl ?_ | refine then_n ?_ | refine then_r ?_ | refine then_e ?_ | refine Run.go1 rfl ?_ | refine wp_skip_i ?_ | refine wp_ret_i ?_
       | refine wp_exit_i ?_ | refine wp_block_i ?_ | refine block_n ?_ | refine block_r ?_ | refine block_e ?_ | refine block_o rfl ?_ | refine wp_cond_t rfl ?_ | refine wp_cond_f rfl ?_
       | refine Run.ix rfl rfl rfl rfl rfl rfl rfl hx rfl rfl rfl ?_ | refine Run.call rfl rfl rfl (hT) rfl rfl ?_ | (refine wp_cond_k rfl rfl rfl ?_ ?_ <;> intro _) | (refine wp_cond_i rfl ?_ ?_ <;> intro _))
    · rename_i h2
      rw [if_pos (of_decide_eq_true h2)] at hI
      refine ret_m [] rfl rfl ?_; rw [← hI]
    · rename_i h2
      rw [if_neg (of_decide_eq_false h2)] at hI
      refine back_i [.keep [0, 1, 5] []] (k + 1, _) rfl ?_ ⟨by simp; omega, hI⟩ (by simp; omega)
      simp only [w_succ hlt hl]; first | done | rfl
    · exfalso; rename_i h2; simp [hlt] at h2
  · have hkl : k = l.length := by omega
    repeat' (first
       | refine wp_seq_i ?_ | refine wp_region_t k_szTyS rfl ?_ | refine Run.done rfl ?_ | refine then_n ?_ | refine then_r ?_ | refine then_e ?_ | refine Run.go1 rfl ?_ | refine wp_skip_i ?_ | refine wp_ret_i ?_
       | refine wp_exit_i ?_ | refine wp_block_i ?_ | refine block_n ?_ | refine block_r ?_ | refine block_e ?_ | refine block_o rfl ?_ | refine wp_cond_t rfl ?_ | refine wp_cond_f rfl ?_
       | (refine wp_cond_k rfl rfl rfl ?_ ?_ <;> intro _) | (refine wp_cond_i rfl ?_ ?_ <;> intro _))
    · exfalso; rename_i h2; simp [hkl] at h2
    · refine ret_m [] rfl rfl ?_
      rw [← hI, hkl, List.drop_length, szTyL]
def k_szTy : List (Nat × List Nat) := [(0, [1, 2]), (1, [1]), (2, [1, 10]), (3, [4]), (4, [4])]
theorem szTyL_neg : ∀ {l : List Ty} {n : Int}, 0 ≤ n → szTyL l n < 0 → szTyL l n = -1
  | [], n, h0, h => by rw [szTyL] at h; omega
  | t :: r, n, h0, h => by
    rw [szTyL] at h ⊢
    split at h
    · rename_i e; rw [if_pos e]
    · rename_i e; rw [if_neg e]; exact szTyL_neg (by omega) h
theorem szTyS_neg {l : List Ty} {n : Int} (h : szTyS l n < 0) : szTyS l n = -1 := by
  unfold szTyS at h ⊢
  split at h
  · rename_i e; rw [if_pos e]
  · rename_i e; rw [if_neg e]; exact szTyL_neg (by omega) h
theorem szTy_t : ∀ (t : Ty) (left : Int), Ty.len t → Tells Try.prog E0 X 17 [t.a false, iA left] (iA (szTy t left))
  | .mk kk nn aa, left, hl => by
    have hl2 : aa.length ≤ 9223372036854775807 ∧ Ty.lenL aa := by rw [Ty.len] at hl; exact hl
    have hS := szTyS_of (X := X) aa left hl2.1 (fun t ht left => szTy_t t left (Ty.lenL_iff.1 hl2.2 t ht))
    have hg : szTy (.mk kk nn aa) left = szTyS aa left := by rw [szTy]; rfl
    rw [hg]
    refine Tells.by Try.func17 (by simp [Try.f17]) (Body.i rfl rfl rfl (fun _ => rfl) fun f => ?_)
    repeat' (first
       | refine wp_seq_i ?_ | refine wp_region_t k_szTy rfl ?_ | refine Run.done rfl ?_ | refine then_n ?_ | refine then_r ?_ | refine then_e ?_ | refine Run.go1 rfl ?_ | refine wp_skip_i ?_ | refine wp_ret_i ?_
       | refine wp_exit_i ?_ | refine wp_block_i ?_ | refine block_n ?_ | refine block_r ?_ | refine block_e ?_ | refine block_o rfl ?_ | refine wp_cond_t rfl ?_ | refine wp_cond_f rfl ?_
       | refine Run.call rfl rfl rfl (hS) rfl rfl ?_ | (refine wp_cond_k rfl rfl rfl ?_ ?_ <;> intro _) | (refine wp_cond_i rfl ?_ ?_ <;> intro _))
    · rename_i h; refine ret_m [] rfl rfl ?_; rw [szTyS_neg (of_decide_eq_true h)]
    · exact ret_m [] rfl rfl rfl
  termination_by t => SizeOf.sizeOf t
  decreasing_by
    all_goals (have hsz := List.sizeOf_lt_of_mem ht; simp; omega)
def k_szTermS : List (Nat × List Nat) := [(0, [0, 1]), (1, [0, 1]), (2, [0, 1, 11]), (3, [4]), (4, [0, 1, 5]), (5, [0, 1, 5, 15]), (6, [0, 1, 5]), (7, [0, 1, 5]), (8, [0, 1, 5, 25]), (9, [4]), (10, [4])]
theorem szTmS_of (l : List Tm) (left : Int) (hl : l.length ≤ 9223372036854775807) (h : ∀ t ∈ l, ∀ left, Tells Try.prog E0 X 6 [t.a false, iA left] (iA (szTm t left))) : Tells Try.prog E0 X 19 [.t (.sl false (l.map (Tm.c false))), iA left] (iA (szTmS l left)) := by
  refine Tells.by Try.func19 (by simp [Try.f19]) (Body.i rfl rfl rfl (fun _ => rfl) fun f => ?_)
  repeat' (first
     | refine wp_seq_i ?_ | refine wp_region_t k_szTermS rfl ?_ | refine Run.done rfl ?_ | refine then_n ?_ | refine then_r ?_ | refine then_e ?_ | refine Run.go1 rfl ?_ | refine wp_skip_i ?_ | refine wp_ret_i ?_
     | refine wp_exit_i ?_ | refine wp_block_i ?_ | refine block_n ?_ | refine block_r ?_ | refine block_e ?_ | refine block_o rfl ?_ | refine wp_cond_t rfl ?_ | refine wp_cond_f rfl ?_
     | (refine wp_cond_k rfl rfl rfl ?_ ?_ <;> intro _) | (refine wp_cond_i rfl ?_ ?_ <;> intro _))
  · refine ret_m [] rfl rfl ?_
    rename_i h1
    have h1 := of_decide_eq_true h1
    rw [List.length_map] at h1
    rw [szTmS, if_pos (by unfold lw; exact h1)]
  rename_i h1
  have h1 := of_decide_eq_false h1
  rw [List.length_map] at h1
  have hg : szTmS l left = szTmL l (lw left l.length) := if_neg (by unfold lw; exact h1)
  rw [hg]
  refine wp_loop_k (α := Nat × Int) [.keep [0, 1, 5] []] (fun p => [(1, iA p.2), (5, iA p.1)]) (fun _ => []) (fun _ => []) (fun p => p.1 ≤ l.length ∧ szTmL (l.drop p.1) p.2 = szTmL l (lw left l.length)) (fun p => l.length - p.1) (0, lw left (l.map (Tm.c false)).length) rfl (fun _ => rfl) rfl ⟨by simp, by simp⟩ ?_
  rintro ⟨k, r⟩ ⟨hk, hI⟩
  simp only at hk hI
  by_cases hlt : k < l.length
  · obtain ⟨t, ht⟩ : ∃ t, l[k]? = some t := ⟨_, List.getElem?_eq_getElem hlt⟩
    have hT := h t (List.mem_of_getElem? ht) r
    rw [List.drop_eq_getElem_cons hlt, (List.getElem?_eq_some_iff.1 ht).2, szTmL] at hI
    obtain ⟨kk, nn, ss, zz, ⟨tk, tn, ta⟩, ts, aa⟩ := t
    have hx : (l.map (Tm.c false))[k]? = some [iT kk, iT nn, sT ss, sT zz, iT tk, iT tn, .sl false (ta.map (Ty.c false)), .sl false (ts.map (Ty.c false)), .sl false (aa.map (Tm.c false))] := by rw [List.getElem?_map, ht]; exact congrArg some (Tm.c_mk ..)
    repeat' (first
       | refine wp_seq_i ?_ | refine wp_region_t k_szTermS rfl ?_ | refine Run.done rfl ?_ | refine then_n ?_ | refine then_r ?_ | refine then_e ?_ | refine Run.go1 rfl ?_ | refine wp_skip_i ?_ | refine wp_ret_i ?_
       | refine wp_exit_i ?_ | refine wp_block_i ?_ | refine block_n ?_ | refine block_r ?_ | refine block_e ?_ | refine block_o rfl ?_ | refine wp_cond_t rfl ?_ | refine wp_cond_f rfl ?_
       | refine Run.ix rfl rfl rfl rfl rfl rfl rfl hx rfl rfl rfl ?_ | refine Run.call rfl rfl rfl (hT) rfl rfl ?_ | (refine wp_cond_k rfl rfl rfl ?_ ?_ <;> intro _) | (refine wp_cond_i rfl ?_ ?_ <;> intro _))
    · rename_i h2
      rw [if_pos (of_decide_eq_true h2)] at hI
      refine ret_m [] rfl rfl ?_; rw [← hI]
    · rename_i h2
      rw [if_neg (of_decide_eq_false h2)] at hI
      refine back_i [.keep [0, 1, 5] []] (k + 1, _) rfl ?_ ⟨by simp; omega, hI⟩ (by simp; omega)
      simp only [w_succ hlt hl]; first | done | rfl
    · exfalso; rename_i h2; simp [hlt] at h2
  · have hkl : k = l.length := by omega
    repeat' (first
       | refine wp_seq_i ?_ | refine wp_region_t k_szTermS rfl ?_ | refine Run.done rfl ?_ | refine then_n ?_ | refine then_r ?_ | refine then_e ?_ | refine Run.go1 rfl ?_ | refine wp_skip_i ?_ | refine wp_ret_i ?_
       | refine wp_exit_i ?_ | refine wp_block_i ?_ | refine block_n ?_ | refine block_r ?_ | refine block_e ?_ | refine block_o rfl ?_ | refine wp_cond_t rfl ?_ | refine wp_cond_f rfl ?_
       | (refine wp_cond_k rfl rfl rfl ?_ ?_ <;> intro _) | (refine wp_cond_i rfl ?_ ?_ <;> intro _))
    · exfalso; rename_i h2; simp [hkl] at h2
    · refine ret_m [] rfl rfl ?_
      rw [← hI, hkl, List.drop_length, szTmL]
def k_szTerm : List (Nat × List Nat) := [(0, [1, 2]), (1, [1, 2]), (2, [1, 2, 11]), (3, [4]), (4, [1, 2]), (5, [1, 2, 18]), (6, [4]), (7, [1, 2]), (8, [1, 2, 24]), (9, [4]), (10, [1, 2]), (11, [1, 2, 30]), (12, [4]), (13, [1]), (14, [1, 36]), (15, [4]), (16, [4])]
theorem szTmL_neg : ∀ {l : List Tm} {n : Int}, 0 ≤ n → szTmL l n < 0 → szTmL l n = -1
  | [], n, h0, h => by rw [szTmL] at h; omega
  | t :: r, n, h0, h => by
    rw [szTmL] at h ⊢
    split at h
    · rename_i e; rw [if_pos e]
    · rename_i e; rw [if_neg e]; exact szTmL_neg (by omega) h
theorem szTmS_neg {l : List Tm} {n : Int} (h : szTmS l n < 0) : szTmS l n = -1 := by
  unfold szTmS at h ⊢
  split at h
  · rename_i e; rw [if_pos e]
  · rename_i e; rw [if_neg e]; exact szTmL_neg (by omega) h
theorem szTm_t : ∀ (t : Tm) (left : Int), Tm.len t → Tells Try.prog E0 X 6 [t.a false, iA left] (iA (szTm t left))
  | .mk kk nn ss zz (.mk tk tn ta) ts aa, left, hl => by
    have hl2 : ss.size ≤ 9223372036854775807 ∧ zz.size ≤ 9223372036854775807 ∧ Ty.len (.mk tk tn ta) ∧ (ts.length ≤ 9223372036854775807 ∧ Ty.lenL ts) ∧ aa.length ≤ 9223372036854775807 ∧ Tm.lenL aa := by rw [Tm.len] at hl; exact hl
    obtain ⟨l1, l2, l3, l4, l5, l6⟩ := hl2
    have hT := fun n => szTy_t (X := X) (.mk tk tn ta) n l3
    have hTs := fun n => szTyS_of (X := X) ts n l4.1 (fun t ht left => szTy_t t left (Ty.lenL_iff.1 l4.2 t ht))
    have hS := fun n => szTmS_of (X := X) aa n l5 (fun t ht left => szTm_t t left (Tm.lenL_iff.1 l6 t ht))
    have hg : szTm (.mk kk nn ss zz (.mk tk tn ta) ts aa) left = (let n1 := lw left ss.size; let n2 := lw n1 zz.size; let n3 := szTy (.mk tk tn ta) n2; let n4 := szTyS ts n3; if n1 < 0 then -1 else if n2 < 0 then -1 else if n3 < 0 then -1 else if n4 < 0 then -1 else szTmS aa n4) := by rw [szTm]; rfl
    rw [hg]
    refine Tells.by Try.func6 (by simp [Try.f6]) (Body.i rfl rfl rfl (fun _ => rfl) fun f => ?_)
    repeat' (first
       | refine wp_seq_i ?_ | refine wp_region_t k_szTerm rfl ?_ | refine Run.done rfl ?_ | refine then_n ?_ | refine then_r ?_ | refine then_e ?_ | refine Run.go1 rfl ?_ | refine wp_skip_i ?_ | refine wp_ret_i ?_
       | refine wp_exit_i ?_ | refine wp_block_i ?_ | refine block_n ?_ | refine block_r ?_ | refine block_e ?_ | refine block_o rfl ?_ | refine wp_cond_t rfl ?_ | refine wp_cond_f rfl ?_
       | refine Run.call rfl rfl rfl (hT _) rfl rfl ?_ | refine Run.call rfl rfl rfl (hTs _) rfl rfl ?_ | refine Run.call rfl rfl rfl (hS _) rfl rfl ?_ | (refine wp_cond_k rfl rfl rfl ?_ ?_ <;> intro _)
       | (refine wp_cond_i rfl ?_ ?_ <;> intro _))
    · rename_i h1; refine ret_m [] rfl rfl ?_; simp only; rw [if_pos (by exact of_decide_eq_true h1)]
    · rename_i h1 h2; refine ret_m [] rfl rfl ?_; simp only; rw [if_neg (by exact of_decide_eq_false h1), if_pos (by exact of_decide_eq_true h2)]
    · rename_i h1 h2 h3; refine ret_m [] rfl rfl ?_; simp only; rw [if_neg (by exact of_decide_eq_false h1), if_neg (by exact of_decide_eq_false h2), if_pos (by exact of_decide_eq_true h3)]
    · rename_i h1 h2 h3 h4; refine ret_m [] rfl rfl ?_; simp only; rw [if_neg (by exact of_decide_eq_false h1), if_neg (by exact of_decide_eq_false h2), if_neg (by exact of_decide_eq_false h3), if_pos (by exact of_decide_eq_true h4)]
    · rename_i h1 h2 h3 h4 h5; refine ret_m [] rfl rfl ?_; simp only; rw [if_neg (by exact of_decide_eq_false h1), if_neg (by exact of_decide_eq_false h2), if_neg (by exact of_decide_eq_false h3), if_neg (by exact of_decide_eq_false h4)]; exact congrArg iA (szTmS_neg (of_decide_eq_true h5)).symm
    · rename_i h1 h2 h3 h4 h5; refine ret_m [] rfl rfl ?_; simp only; rw [if_neg (by exact of_decide_eq_false h1), if_neg (by exact of_decide_eq_false h2), if_neg (by exact of_decide_eq_false h3), if_neg (by exact of_decide_eq_false h4)]; rfl
  termination_by t => SizeOf.sizeOf t
  decreasing_by
    all_goals (have hsz := List.sizeOf_lt_of_mem ht; simp; omega)
end Go.Proofs

set_option linter.unusedVariables false
set_option linter.unusedSimpArgs false
namespace Go.Proofs
open Go Go.Ev
set_option maxRecDepth 100000
variable {X : Rel3}
theorem fill_step {α : Type} (l : List α) (z : α) {j : Nat} (h : j < l.length) : (l.take j ++ List.replicate (l.length - j) z).set j l[j] = l.take (j + 1) ++ List.replicate (l.length - (j + 1)) z := by
  have e : l.length - j = (l.length - (j + 1)) + 1 := by omega
  rw [e, List.replicate_succ, List.set_append_right _ _ (by simp; omega)]
  simp only [List.length_take, Nat.min_eq_left (Nat.le_of_lt h), Nat.sub_self, List.set_cons_zero]
  rw [show l.take (j + 1) = l.take j ++ [l[j]] by simp, List.append_assoc]
  rfl
def Ins.z : Ins := ⟨0, 0, 0, 0, 0, [], 0⟩
end Go.Proofs

set_option linter.unusedVariables false
set_option linter.unusedSimpArgs false
set_option maxHeartbeats 4000000
namespace Go.Proofs
open Go Go.Ev
set_option maxRecDepth 100000
variable {X : Rel3}
def Ty.z : Ty := .mk 0 0 []
def Tm.z : Tm := .mk 0 0 ByteArray.empty ByteArray.empty (.mk 0 0 []) [] []
theorem Ty.zc : Ty.c true Ty.z = [iT 0, iT 0, .sl true []] := Ty.c_mk ..
theorem Tm.zc : Tm.c true Tm.z = [iT 0, iT 0, sT ByteArray.empty, sT ByteArray.empty, iT 0, iT 0, .sl true [], .sl true [], .sl true []] := Tm.c_mk ..
theorem str_beq (a b : ByteArray) : (a.toList == b.toList) = decide (a = b) := by
  by_cases h : a = b
  · subst h; simp
  · rw [decide_eq_false h]
    refine beq_eq_false_iff_ne.2 fun e => h ?_
    rw [ByteArray.toList_eq, ByteArray.toList_eq] at e
    cases a with
    | mk x => cases b with
      | mk y => exact congrArg ByteArray.mk (Array.ext' e)
def k_toTyS : List (Nat × List Nat) := [(0, [0]), (1, [0, 3]), (2, [0, 3, 4]), (3, [0, 3, 4, 11]), (4, [0, 3, 4]), (5, [0, 3, 4]), (6, [2])]
theorem toTyS_of (l : List Ty) (hl : l.length ≤ 1048576) (h : ∀ t ∈ l, Tells Try.prog E0 X 23 [t.a false] (t.a true)) : Tells Try.prog E0 X 24 [.t (.sl false (l.map (Ty.c false)))] (.t (.sl true (l.map (Ty.c true)))) := by
  refine Tells.by Try.func24 (by simp [Try.f24]) (Body.i rfl rfl rfl (fun _ => rfl) fun f => ?_)
  repeat' (first
     | refine wp_seq_i ?_ | refine wp_region_t k_toTyS rfl ?_ | refine Run.done rfl ?_ | refine then_n ?_ | refine then_r ?_ | refine then_e ?_ | refine Run.go1 rfl ?_ | refine wp_skip_i ?_ | refine wp_ret_i ?_
     | refine wp_exit_i ?_ | refine wp_block_i ?_ | refine block_n ?_ | refine block_r ?_ | refine block_e ?_ | refine block_o rfl ?_ | refine wp_cond_t rfl ?_ | refine wp_cond_f rfl ?_
     | refine Run.cnd2 rfl rfl rfl ⟨by simp, rfl, by simp; omega, by simp; omega⟩ ?_ | (refine wp_cond_k rfl rfl rfl ?_ ?_ <;> intro _) | (refine wp_cond_i rfl ?_ ?_ <;> intro _))
  refine wp_loop_k (α := Nat × List Ty) [.keep [0, 3, 4] [7]] (fun p => [(4, iA p.1)]) (fun _ => []) (fun p => [(7, 0, p.2.map (Ty.c true))]) (fun p => p.1 ≤ l.length ∧ p.2 = l.take p.1 ++ List.replicate (l.length - p.1) Ty.z) (fun p => l.length - p.1) (0, List.replicate l.length Ty.z) rfl (fun _ => rfl) (by rw [List.map_replicate, Ty.zc, List.length_map, Int.toNat_natCast]; rfl) ⟨by simp, by simp⟩ ?_
  rintro ⟨j, m⟩ ⟨hj, hm⟩
  simp only at hj hm
  have hml : m.length = l.length := by rw [hm]; simp; omega
  by_cases hlt : j < l.length
  · obtain ⟨t, ht⟩ : ∃ t, l[j]? = some t := ⟨_, List.getElem?_eq_getElem hlt⟩
    obtain ⟨u, hu⟩ : ∃ u, m[j]? = some u := ⟨_, List.getElem?_eq_getElem (by omega)⟩
    have hT := h t (List.mem_of_getElem? ht)
    have hfs := fill_step l Ty.z hlt
    rw [(List.getElem?_eq_some_iff.1 ht).2] at hfs
    obtain ⟨kk, nn, aa⟩ := t
    obtain ⟨kk2, nn2, aa2⟩ := u
    have hx : (l.map (Ty.c false))[j]? = some [iT kk, iT nn, .sl false (aa.map (Ty.c false))] := by rw [List.getElem?_map, ht]; exact congrArg some (Ty.c_mk ..)
    have hy : (m.map (Ty.c true))[j]? = some [iT kk2, iT nn2, .sl true (aa2.map (Ty.c true))] := by rw [List.getElem?_map, hu]; exact congrArg some (Ty.c_mk ..)
    have hst : ((m.map (Ty.c true)).set j [iT kk, iT nn, .sl true (aa.map (Ty.c true))]) = (m.set j (.mk kk nn aa)).map (Ty.c true) := by rw [List.map_set, Ty.c_mk]
    repeat' (first
       | refine wp_seq_i ?_ | refine wp_region_t k_toTyS rfl ?_ | refine Run.done rfl ?_ | refine then_n ?_ | refine then_r ?_ | refine then_e ?_ | refine Run.go1 rfl ?_ | refine wp_skip_i ?_ | refine wp_ret_i ?_
       | refine wp_exit_i ?_ | refine wp_block_i ?_ | refine block_n ?_ | refine block_r ?_ | refine block_e ?_ | refine block_o rfl ?_ | refine wp_cond_t rfl ?_ | refine wp_cond_f rfl ?_
       | refine Run.ix rfl rfl rfl rfl rfl rfl rfl hx rfl rfl rfl ?_ | refine Run.ix rfl rfl rfl rfl rfl rfl rfl hy rfl rfl rfl ?_ | refine Run.str rfl rfl rfl rfl rfl rfl hy rfl rfl ?_
       | refine Run.call rfl rfl rfl (hT) rfl rfl ?_ | (refine wp_cond_k rfl rfl rfl ?_ ?_ <;> intro _) | (refine wp_cond_i rfl ?_ ?_ <;> intro _))
    · refine back_i [.keep [0, 3, 4] [7]] (j + 1, m.set j (.mk kk nn aa)) rfl ?_ ⟨by simp; omega, ?_⟩ (by simp; omega)
      · simp only [w_succ hlt (by omega), ← hst]; first | done | rfl
      · simp only; rw [hm, hfs]
    · rename_i h2; simp [hlt] at h2
  · have hjl : j = l.length := by omega
    repeat' (first
       | refine wp_seq_i ?_ | refine wp_region_t k_toTyS rfl ?_ | refine Run.done rfl ?_ | refine then_n ?_ | refine then_r ?_ | refine then_e ?_ | refine Run.go1 rfl ?_ | refine wp_skip_i ?_ | refine wp_ret_i ?_
       | refine wp_exit_i ?_ | refine wp_block_i ?_ | refine block_n ?_ | refine block_r ?_ | refine block_e ?_ | refine block_o rfl ?_ | refine wp_cond_t rfl ?_ | refine wp_cond_f rfl ?_
       | (refine wp_cond_k rfl rfl rfl ?_ ?_ <;> intro _) | (refine wp_cond_i rfl ?_ ?_ <;> intro _))
    · rename_i h2; simp [hjl] at h2
    · refine ret_m [] rfl rfl ?_
      subst hjl; simp [hm]
def k_toTy : List (Nat × List Nat) := [(0, [1, 2]), (1, [1, 2, 3]), (2, [1, 2, 3]), (3, [1, 2, 3]), (4, [2, 3]), (5, [2])]
theorem toTy_t : ∀ (t : Ty), Ty.ok t → Tells Try.prog E0 X 23 [t.a false] (t.a true)
  | .mk kk nn aa, hl => by
    have hl2 : aa.length ≤ 1048576 ∧ Ty.okL aa := by rw [Ty.ok] at hl; exact hl
    have hS := toTyS_of (X := X) aa hl2.1 (fun t ht => toTy_t t (Ty.okL_iff.1 hl2.2 t ht))
    refine Tells.by Try.func23 (by simp [Try.f23]) (Body.i rfl rfl rfl (fun _ => rfl) fun f => ?_)
    repeat' (first
       | refine wp_seq_i ?_ | refine wp_region_t k_toTy rfl ?_ | refine Run.done rfl ?_ | refine then_n ?_ | refine then_r ?_ | refine then_e ?_ | refine Run.go1 rfl ?_ | refine wp_skip_i ?_ | refine wp_ret_i ?_
       | refine wp_exit_i ?_ | refine wp_block_i ?_ | refine block_n ?_ | refine block_r ?_ | refine block_e ?_ | refine block_o rfl ?_ | refine wp_cond_t rfl ?_ | refine wp_cond_f rfl ?_
       | refine Run.call rfl rfl rfl (hS) rfl rfl ?_ | (refine wp_cond_k rfl rfl rfl ?_ ?_ <;> intro _) | (refine wp_cond_i rfl ?_ ?_ <;> intro _))
    exact ret_m [] rfl rfl rfl
  termination_by t => SizeOf.sizeOf t
  decreasing_by
    all_goals (have hsz := List.sizeOf_lt_of_mem ht; simp; omega)
def k_toTermS : List (Nat × List Nat) := [(0, [0]), (1, [0, 3]), (2, [0, 3, 4]), (3, [0, 3, 4, 11]), (4, [0, 3, 4]), (5, [0, 3, 4]), (6, [2])]
theorem toTmS_of (l : List Tm) (hl : l.length ≤ 1048576) (h : ∀ t ∈ l, Tells Try.prog E0 X 8 [t.a false] (t.a true)) : Tells Try.prog E0 X 25 [.t (.sl false (l.map (Tm.c false)))] (.t (.sl true (l.map (Tm.c true)))) := by
  refine Tells.by Try.func25 (by simp [Try.f25]) (Body.i rfl rfl rfl (fun _ => rfl) fun f => ?_)
  repeat' (first
     | refine wp_seq_i ?_ | refine wp_region_t k_toTermS rfl ?_ | refine Run.done rfl ?_ | refine then_n ?_ | refine then_r ?_ | refine then_e ?_ | refine Run.go1 rfl ?_ | refine wp_skip_i ?_ | refine wp_ret_i ?_
     | refine wp_exit_i ?_ | refine wp_block_i ?_ | refine block_n ?_ | refine block_r ?_ | refine block_e ?_ | refine block_o rfl ?_ | refine wp_cond_t rfl ?_ | refine wp_cond_f rfl ?_
     | refine Run.cnd2 rfl rfl rfl ⟨by simp, rfl, by simp; omega, by simp; omega⟩ ?_ | (refine wp_cond_k rfl rfl rfl ?_ ?_ <;> intro _) | (refine wp_cond_i rfl ?_ ?_ <;> intro _))
  refine wp_loop_k (α := Nat × List Tm) [.keep [0, 3, 4] [7]] (fun p => [(4, iA p.1)]) (fun _ => []) (fun p => [(7, 0, p.2.map (Tm.c true))]) (fun p => p.1 ≤ l.length ∧ p.2 = l.take p.1 ++ List.replicate (l.length - p.1) Tm.z) (fun p => l.length - p.1) (0, List.replicate l.length Tm.z) rfl (fun _ => rfl) (by rw [List.map_replicate, Tm.zc, List.length_map, Int.toNat_natCast]; rfl) ⟨by simp, by simp⟩ ?_
  rintro ⟨j, m⟩ ⟨hj, hm⟩
  simp only at hj hm
  have hml : m.length = l.length := by rw [hm]; simp; omega
  by_cases hlt : j < l.length
  · obtain ⟨t, ht⟩ : ∃ t, l[j]? = some t := ⟨_, List.getElem?_eq_getElem hlt⟩
    obtain ⟨u, hu⟩ : ∃ u, m[j]? = some u := ⟨_, List.getElem?_eq_getElem (by omega)⟩
    have hT := h t (List.mem_of_getElem? ht)
    have hfs := fill_step l Tm.z hlt
    rw [(List.getElem?_eq_some_iff.1 ht).2] at hfs
    obtain ⟨kk, nn, ss, zz, ⟨tk, tn, ta⟩, ts, aa⟩ := t
    obtain ⟨kk2, nn2, ss2, zz2, ⟨tk2, tn2, ta2⟩, ts2, aa2⟩ := u
    have hx : (l.map (Tm.c false))[j]? = some [iT kk, iT nn, sT ss, sT zz, iT tk, iT tn, .sl false (ta.map (Ty.c false)), .sl false (ts.map (Ty.c false)), .sl false (aa.map (Tm.c false))] := by rw [List.getElem?_map, ht]; exact congrArg some (Tm.c_mk ..)
    have hy : (m.map (Tm.c true))[j]? = some [iT kk2, iT nn2, sT ss2, sT zz2, iT tk2, iT tn2, .sl true (ta2.map (Ty.c true)), .sl true (ts2.map (Ty.c true)), .sl true (aa2.map (Tm.c true))] := by rw [List.getElem?_map, hu]; exact congrArg some (Tm.c_mk ..)
    have hst : ((m.map (Tm.c true)).set j [iT kk, iT nn, sT ss, sT zz, iT tk, iT tn, .sl true (ta.map (Ty.c true)), .sl true (ts.map (Ty.c true)), .sl true (aa.map (Tm.c true))]) = (m.set j (.mk kk nn ss zz (.mk tk tn ta) ts aa)).map (Tm.c true) := by rw [List.map_set, Tm.c_mk]
    repeat' (first
       | refine wp_seq_i ?_ | refine wp_region_t k_toTermS rfl ?_ | refine Run.done rfl ?_ | refine then_n ?_ | refine then_r ?_ | refine then_e ?_ | refine Run.go1 rfl ?_ | refine wp_skip_i ?_ | refine wp_ret_i ?_
       | refine wp_exit_i ?_ | refine wp_block_i ?_ | refine block_n ?_ | refine block_r ?_ | refine block_e ?_ | refine block_o rfl ?_ | refine wp_cond_t rfl ?_ | refine wp_cond_f rfl ?_
       | refine Run.ix rfl rfl rfl rfl rfl rfl rfl hx rfl rfl rfl ?_ | refine Run.ix rfl rfl rfl rfl rfl rfl rfl hy rfl rfl rfl ?_ | refine Run.str rfl rfl rfl rfl rfl rfl hy rfl rfl ?_
       | refine Run.call rfl rfl rfl (hT) rfl rfl ?_ | (refine wp_cond_k rfl rfl rfl ?_ ?_ <;> intro _) | (refine wp_cond_i rfl ?_ ?_ <;> intro _))
    · refine back_i [.keep [0, 3, 4] [7]] (j + 1, m.set j (.mk kk nn ss zz (.mk tk tn ta) ts aa)) rfl ?_ ⟨by simp; omega, ?_⟩ (by simp; omega)
      · simp only [w_succ hlt (by omega), ← hst]; first | done | rfl
      · simp only; rw [hm, hfs]
    · rename_i h2; simp [hlt] at h2
  · have hjl : j = l.length := by omega
    repeat' (first
       | refine wp_seq_i ?_ | refine wp_region_t k_toTermS rfl ?_ | refine Run.done rfl ?_ | refine then_n ?_ | refine then_r ?_ | refine then_e ?_ | refine Run.go1 rfl ?_ | refine wp_skip_i ?_ | refine wp_ret_i ?_
       | refine wp_exit_i ?_ | refine wp_block_i ?_ | refine block_n ?_ | refine block_r ?_ | refine block_e ?_ | refine block_o rfl ?_ | refine wp_cond_t rfl ?_ | refine wp_cond_f rfl ?_
       | (refine wp_cond_k rfl rfl rfl ?_ ?_ <;> intro _) | (refine wp_cond_i rfl ?_ ?_ <;> intro _))
    · rename_i h2; simp [hjl] at h2
    · refine ret_m [] rfl rfl ?_
      subst hjl; simp [hm]
def k_toTerm : List (Nat × List Nat) := [(0, [1, 2]), (1, [1, 2, 3]), (2, [1, 2, 3]), (3, [1, 2, 3]), (4, [1, 2, 3]), (5, [1, 2, 3]), (6, [1, 2, 3]), (7, [1, 2, 3]), (8, [2, 3]), (9, [2])]
theorem toTm_t : ∀ (t : Tm), Tm.ok t → Tells Try.prog E0 X 8 [t.a false] (t.a true)
  | .mk kk nn ss zz (.mk tk tn ta) ts aa, hl => by
    have hl2 : ss.size ≤ 1048576 ∧ zz.size ≤ 1048576 ∧ Ty.ok (.mk tk tn ta) ∧ (ts.length ≤ 1048576 ∧ Ty.okL ts) ∧ aa.length ≤ 1048576 ∧ Tm.okL aa := by rw [Tm.ok] at hl; exact hl
    obtain ⟨l1, l2, l3, l4, l5, l6⟩ := hl2
    have hT := toTy_t (X := X) (.mk tk tn ta) l3
    have hTs := toTyS_of (X := X) ts l4.1 (fun t ht => toTy_t t (Ty.okL_iff.1 l4.2 t ht))
    have hS := toTmS_of (X := X) aa l5 (fun t ht => toTm_t t (Tm.okL_iff.1 l6 t ht))
    refine Tells.by Try.func8 (by simp [Try.f8]) (Body.i rfl rfl rfl (fun _ => rfl) fun f => ?_)
    repeat' (first
       | refine wp_seq_i ?_ | refine wp_region_t k_toTerm rfl ?_ | refine Run.done rfl ?_ | refine then_n ?_ | refine then_r ?_ | refine then_e ?_ | refine Run.go1 rfl ?_ | refine wp_skip_i ?_ | refine wp_ret_i ?_
       | refine wp_exit_i ?_ | refine wp_block_i ?_ | refine block_n ?_ | refine block_r ?_ | refine block_e ?_ | refine block_o rfl ?_ | refine wp_cond_t rfl ?_ | refine wp_cond_f rfl ?_
       | refine Run.call rfl rfl rfl (hT) rfl rfl ?_ | refine Run.call rfl rfl rfl (hTs) rfl rfl ?_ | refine Run.call rfl rfl rfl (hS) rfl rfl ?_ | (refine wp_cond_k rfl rfl rfl ?_ ?_ <;> intro _)
       | (refine wp_cond_i rfl ?_ ?_ <;> intro _))
    exact ret_m [] rfl rfl rfl
  termination_by t => SizeOf.sizeOf t
  decreasing_by
    all_goals (have hsz := List.sizeOf_lt_of_mem ht; simp; omega)
def k_eqTyS : List (Nat × List Nat) := [(0, [0, 1]), (1, [0, 1, 10]), (2, [4]), (3, [0, 1, 5]), (4, [0, 1, 5, 14]), (5, [0, 1, 5]), (6, [0, 1, 5, 26]), (7, [4]), (8, [4])]
theorem eqTyS_of (a b : List Ty) (hl : a.length ≤ 1048576) (h : ∀ x ∈ a, ∀ y, Tells Try.prog E0 X 29 [x.a false, y.a false] (bA (decide (x = y)))) : Tells Try.prog E0 X 30 [.t (.sl false (a.map (Ty.c false))), .t (.sl false (b.map (Ty.c false)))] (bA (decide (a = b))) := by
  refine Tells.by Try.func30 (by simp [Try.f30]) (Body.i rfl rfl rfl (fun _ => rfl) fun f => ?_)
  repeat' (first
     | refine wp_seq_i ?_ | refine wp_region_t k_eqTyS rfl ?_ | refine Run.done rfl ?_ | refine then_n ?_ | refine then_r ?_ | refine then_e ?_ | refine Run.go1 rfl ?_ | refine wp_skip_i ?_ | refine wp_ret_i ?_
     | refine wp_exit_i ?_ | refine wp_block_i ?_ | refine block_n ?_ | refine block_r ?_ | refine block_e ?_ | refine block_o rfl ?_ | refine wp_cond_t rfl ?_ | refine wp_cond_f rfl ?_
     | (refine wp_cond_k rfl rfl rfl ?_ ?_ <;> intro _) | (refine wp_cond_i rfl ?_ ?_ <;> intro _))
  · rename_i h1
    refine ret_m [] rfl rfl ?_
    simp at h1
    rw [decide_eq_false (fun e => h1 (by rw [e]))]
  rename_i h1
  have hab : a.length = b.length := by
    have : (a.length : Int) = b.length := by simpa using h1
    omega
  refine wp_loop_k (α := Nat) [.keep [0, 1, 5] []] (fun p => [(5, iA p)]) (fun _ => []) (fun _ => []) (fun p => p ≤ a.length ∧ a.take p = b.take p) (fun p => a.length - p) 0 rfl (fun _ => rfl) rfl ⟨by simp, by simp⟩ ?_
  rintro j ⟨hj, he⟩
  by_cases hlt : j < a.length
  · obtain ⟨t, ht⟩ : ∃ t, a[j]? = some t := ⟨_, List.getElem?_eq_getElem hlt⟩
    obtain ⟨u, hu⟩ : ∃ u, b[j]? = some u := ⟨_, List.getElem?_eq_getElem (by omega)⟩
    have ta0 : a.take (j + 1) = a.take j ++ [t] := by rw [List.take_succ_eq_append_getElem hlt, (List.getElem?_eq_some_iff.1 ht).2]
    have tb0 : b.take (j + 1) = b.take j ++ [u] := by rw [List.take_succ_eq_append_getElem (by omega), (List.getElem?_eq_some_iff.1 hu).2]
    have hT := h t (List.mem_of_getElem? ht) u
    obtain ⟨kk, nn, aa⟩ := t
    obtain ⟨kk2, nn2, aa2⟩ := u
    have hx : (a.map (Ty.c false))[j]? = some [iT kk, iT nn, .sl false (aa.map (Ty.c false))] := by rw [List.getElem?_map, ht]; exact congrArg some (Ty.c_mk ..)
    have hy : (b.map (Ty.c false))[j]? = some [iT kk2, iT nn2, .sl false (aa2.map (Ty.c false))] := by rw [List.getElem?_map, hu]; exact congrArg some (Ty.c_mk ..)
    repeat' (first
       | refine wp_seq_i ?_ | refine wp_region_t k_eqTyS rfl ?_ | refine Run.done rfl ?_ | refine then_n ?_ | refine then_r ?_ | refine then_e ?_ | refine Run.go1 rfl ?_ | refine wp_skip_i ?_ | refine wp_ret_i ?_
       | refine wp_exit_i ?_ | refine wp_block_i ?_ | refine block_n ?_ | refine block_r ?_ | refine block_e ?_ | refine block_o rfl ?_ | refine wp_cond_t rfl ?_ | refine wp_cond_f rfl ?_
       | refine wp_region_qt k_eqTyS rfl 10 (by decide +kernel) rfl rfl ?_ | refine RunQ.go1 rfl ?_ | refine RunQ.done rfl ?_ | refine RunQ.ix rfl rfl rfl rfl rfl rfl rfl hx rfl rfl rfl ?_
       | refine RunQ.ix rfl rfl rfl rfl rfl rfl rfl hy rfl rfl rfl ?_ | refine Run.ix rfl rfl rfl rfl rfl rfl rfl hx rfl rfl rfl ?_ | refine Run.ix rfl rfl rfl rfl rfl rfl rfl hy rfl rfl rfl ?_
       | refine RunQ.call rfl rfl rfl rfl rfl rfl (hT) (.inl rfl) rfl rfl ?_ | refine Run.call rfl rfl rfl (hT) rfl rfl ?_ | (refine wp_cond_k rfl rfl rfl ?_ ?_ <;> intro _) | (refine wp_cond_i rfl ?_ ?_ <;> intro _))
    all_goals first
    | (rename_i h2
       refine ret_m [] rfl rfl ?_
       have hne : (Ty.mk kk nn aa) ≠ (Ty.mk kk2 nn2 aa2) := by simpa only [Bool.not_eq_true', decide_eq_false_iff_not] using h2
       rw [decide_eq_false (fun e => hne (by
         have h3 : a.take (j + 1) = b.take (j + 1) := by rw [e]
         rw [ta0, tb0, he] at h3
         exact List.singleton_inj.1 (List.append_cancel_left h3)))]; done)
    | (rename_i h2
       have heq : (Ty.mk kk nn aa) = (Ty.mk kk2 nn2 aa2) := by simpa only [Bool.not_eq_false', decide_eq_true_eq] using h2
       refine back_i [.keep [0, 1, 5] []] (j + 1) rfl ?_ ⟨by omega, ?_⟩ (by omega)
       · simp only [w_succ hlt (show a.length ≤ 9223372036854775807 by omega)]
       · rw [ta0, tb0, he, heq])
    | (exfalso; rename_i h2; simp [hlt] at h2; done)
    | trace_state
  · have hjl : j = a.length := by omega
    repeat' (first
       | refine wp_seq_i ?_ | refine wp_region_t k_eqTyS rfl ?_ | refine Run.done rfl ?_ | refine then_n ?_ | refine then_r ?_ | refine then_e ?_ | refine Run.go1 rfl ?_ | refine wp_skip_i ?_ | refine wp_ret_i ?_
       | refine wp_exit_i ?_ | refine wp_block_i ?_ | refine block_n ?_ | refine block_r ?_ | refine block_e ?_ | refine block_o rfl ?_ | refine wp_cond_t rfl ?_ | refine wp_cond_f rfl ?_
       | (refine wp_cond_k rfl rfl rfl ?_ ?_ <;> intro _) | (refine wp_cond_i rfl ?_ ?_ <;> intro _))
    · exfalso; rename_i h2; simp [hjl] at h2
    · refine ret_m [] rfl rfl ?_
      rw [hjl] at he
      have : a = b := by rw [List.take_length, hab, List.take_length] at he; exact he
      rw [decide_eq_true this]
def k_eqTy : List (Nat × List Nat) := [(0, [2, 3]), (1, [2, 3, 9]), (2, [4]), (3, [2, 3, 14]), (4, [4]), (5, [20]), (6, [4]), (7, [4])]
theorem eqTy_t : ∀ (x y : Ty), Ty.ok x → Tells Try.prog E0 X 29 [x.a false, y.a false] (bA (decide (x = y)))
  | .mk kk nn aa, .mk kk2 nn2 aa2, hl => by
    have hl2 : aa.length ≤ 1048576 ∧ Ty.okL aa := by rw [Ty.ok] at hl; exact hl
    have hS := eqTyS_of (X := X) aa aa2 hl2.1 (fun t ht y => eqTy_t t y (Ty.okL_iff.1 hl2.2 t ht))
    have hd : decide (Ty.mk kk nn aa = Ty.mk kk2 nn2 aa2) = decide (kk = kk2 ∧ nn = nn2 ∧ aa = aa2) := by rw [decide_eq_decide, Ty.mk.injEq]
    rw [hd]
    refine Tells.by Try.func29 (by simp [Try.f29]) (Body.i rfl rfl rfl (fun _ => rfl) fun f => ?_)
    repeat' (first
       | refine wp_seq_i ?_ | refine wp_region_t k_eqTy rfl ?_ | refine Run.done rfl ?_ | refine then_n ?_ | refine then_r ?_ | refine then_e ?_ | refine Run.go1 rfl ?_ | refine wp_skip_i ?_ | refine wp_ret_i ?_
       | refine wp_exit_i ?_ | refine wp_block_i ?_ | refine block_n ?_ | refine block_r ?_ | refine block_e ?_ | refine block_o rfl ?_ | refine wp_cond_t rfl ?_ | refine wp_cond_f rfl ?_
       | refine Run.call rfl rfl rfl (hS) rfl rfl ?_ | (refine wp_cond_k rfl rfl rfl ?_ ?_ <;> intro _) | (refine wp_cond_i rfl ?_ ?_ <;> intro _))
    all_goals (refine ret_m [] rfl rfl ?_; clear hS; simp_all; done)
  termination_by x => SizeOf.sizeOf x
  decreasing_by
    all_goals (have hsz := List.sizeOf_lt_of_mem ht; simp; omega)
def k_eqTermS : List (Nat × List Nat) := [(0, [0, 1]), (1, [0, 1, 10]), (2, [4]), (3, [0, 1, 5]), (4, [0, 1, 5, 14]), (5, [0, 1, 5]), (6, [0, 1, 5, 26]), (7, [4]), (8, [4])]
theorem eqTmS_of (a b : List Tm) (hl : a.length ≤ 1048576) (h : ∀ x ∈ a, ∀ y, Tells Try.prog E0 X 10 [x.a false, y.a false] (bA (decide (x = y)))) : Tells Try.prog E0 X 31 [.t (.sl false (a.map (Tm.c false))), .t (.sl false (b.map (Tm.c false)))] (bA (decide (a = b))) := by
  refine Tells.by Try.func31 (by simp [Try.f31]) (Body.i rfl rfl rfl (fun _ => rfl) fun f => ?_)
  repeat' (first
     | refine wp_seq_i ?_ | refine wp_region_t k_eqTermS rfl ?_ | refine Run.done rfl ?_ | refine then_n ?_ | refine then_r ?_ | refine then_e ?_ | refine Run.go1 rfl ?_ | refine wp_skip_i ?_ | refine wp_ret_i ?_
     | refine wp_exit_i ?_ | refine wp_block_i ?_ | refine block_n ?_ | refine block_r ?_ | refine block_e ?_ | refine block_o rfl ?_ | refine wp_cond_t rfl ?_ | refine wp_cond_f rfl ?_
     | (refine wp_cond_k rfl rfl rfl ?_ ?_ <;> intro _) | (refine wp_cond_i rfl ?_ ?_ <;> intro _))
  · rename_i h1
    refine ret_m [] rfl rfl ?_
    simp at h1
    rw [decide_eq_false (fun e => h1 (by rw [e]))]
  rename_i h1
  have hab : a.length = b.length := by
    have : (a.length : Int) = b.length := by simpa using h1
    omega
  refine wp_loop_k (α := Nat) [.keep [0, 1, 5] []] (fun p => [(5, iA p)]) (fun _ => []) (fun _ => []) (fun p => p ≤ a.length ∧ a.take p = b.take p) (fun p => a.length - p) 0 rfl (fun _ => rfl) rfl ⟨by simp, by simp⟩ ?_
  rintro j ⟨hj, he⟩
  by_cases hlt : j < a.length
  · obtain ⟨t, ht⟩ : ∃ t, a[j]? = some t := ⟨_, List.getElem?_eq_getElem hlt⟩
    obtain ⟨u, hu⟩ : ∃ u, b[j]? = some u := ⟨_, List.getElem?_eq_getElem (by omega)⟩
    have ta0 : a.take (j + 1) = a.take j ++ [t] := by rw [List.take_succ_eq_append_getElem hlt, (List.getElem?_eq_some_iff.1 ht).2]
    have tb0 : b.take (j + 1) = b.take j ++ [u] := by rw [List.take_succ_eq_append_getElem (by omega), (List.getElem?_eq_some_iff.1 hu).2]
    have hT := h t (List.mem_of_getElem? ht) u
    obtain ⟨kk, nn, ss, zz, ⟨tk, tn, ta⟩, ts, aa⟩ := t
    obtain ⟨kk2, nn2, ss2, zz2, ⟨tk2, tn2, ta2⟩, ts2, aa2⟩ := u
    have hx : (a.map (Tm.c false))[j]? = some [iT kk, iT nn, sT ss, sT zz, iT tk, iT tn, .sl false (ta.map (Ty.c false)), .sl false (ts.map (Ty.c false)), .sl false (aa.map (Tm.c false))] := by rw [List.getElem?_map, ht]; exact congrArg some (Tm.c_mk ..)
    have hy : (b.map (Tm.c false))[j]? = some [iT kk2, iT nn2, sT ss2, sT zz2, iT tk2, iT tn2, .sl false (ta2.map (Ty.c false)), .sl false (ts2.map (Ty.c false)), .sl false (aa2.map (Tm.c false))] := by rw [List.getElem?_map, hu]; exact congrArg some (Tm.c_mk ..)
    repeat' (first
       | refine wp_seq_i ?_ | refine wp_region_t k_eqTermS rfl ?_ | refine Run.done rfl ?_ | refine then_n ?_ | refine then_r ?_ | refine then_e ?_ | refine Run.go1 rfl ?_ | refine wp_skip_i ?_ | refine wp_ret_i ?_
       | refine wp_exit_i ?_ | refine wp_block_i ?_ | refine block_n ?_ | refine block_r ?_ | refine block_e ?_ | refine block_o rfl ?_ | refine wp_cond_t rfl ?_ | refine wp_cond_f rfl ?_
       | refine wp_region_qt k_eqTermS rfl 10 (by decide +kernel) rfl rfl ?_ | refine RunQ.go1 rfl ?_ | refine RunQ.done rfl ?_ | refine RunQ.ix rfl rfl rfl rfl rfl rfl rfl hx rfl rfl rfl ?_
       | refine RunQ.ix rfl rfl rfl rfl rfl rfl rfl hy rfl rfl rfl ?_ | refine Run.ix rfl rfl rfl rfl rfl rfl rfl hx rfl rfl rfl ?_ | refine Run.ix rfl rfl rfl rfl rfl rfl rfl hy rfl rfl rfl ?_
       | refine RunQ.call rfl rfl rfl rfl rfl rfl (hT) (.inl rfl) rfl rfl ?_ | refine Run.call rfl rfl rfl (hT) rfl rfl ?_ | (refine wp_cond_k rfl rfl rfl ?_ ?_ <;> intro _) | (refine wp_cond_i rfl ?_ ?_ <;> intro _))
    all_goals first
    | (rename_i h2
       refine ret_m [] rfl rfl ?_
       have hne : (Tm.mk kk nn ss zz (.mk tk tn ta) ts aa) ≠ (Tm.mk kk2 nn2 ss2 zz2 (.mk tk2 tn2 ta2) ts2 aa2) := by simpa only [Bool.not_eq_true', decide_eq_false_iff_not] using h2
       rw [decide_eq_false (fun e => hne (by
         have h3 : a.take (j + 1) = b.take (j + 1) := by rw [e]
         rw [ta0, tb0, he] at h3
         exact List.singleton_inj.1 (List.append_cancel_left h3)))]; done)
    | (rename_i h2
       have heq : (Tm.mk kk nn ss zz (.mk tk tn ta) ts aa) = (Tm.mk kk2 nn2 ss2 zz2 (.mk tk2 tn2 ta2) ts2 aa2) := by simpa only [Bool.not_eq_false', decide_eq_true_eq] using h2
       refine back_i [.keep [0, 1, 5] []] (j + 1) rfl ?_ ⟨by omega, ?_⟩ (by omega)
       · simp only [w_succ hlt (show a.length ≤ 9223372036854775807 by omega)]
       · rw [ta0, tb0, he, heq])
    | (exfalso; rename_i h2; simp [hlt] at h2; done)
    | trace_state
  · have hjl : j = a.length := by omega
    repeat' (first
       | refine wp_seq_i ?_ | refine wp_region_t k_eqTermS rfl ?_ | refine Run.done rfl ?_ | refine then_n ?_ | refine then_r ?_ | refine then_e ?_ | refine Run.go1 rfl ?_ | refine wp_skip_i ?_ | refine wp_ret_i ?_
       | refine wp_exit_i ?_ | refine wp_block_i ?_ | refine block_n ?_ | refine block_r ?_ | refine block_e ?_ | refine block_o rfl ?_ | refine wp_cond_t rfl ?_ | refine wp_cond_f rfl ?_
       | (refine wp_cond_k rfl rfl rfl ?_ ?_ <;> intro _) | (refine wp_cond_i rfl ?_ ?_ <;> intro _))
    · exfalso; rename_i h2; simp [hjl] at h2
    · refine ret_m [] rfl rfl ?_
      rw [hjl] at he
      have : a = b := by rw [List.take_length, hab, List.take_length] at he; exact he
      rw [decide_eq_true this]
def k_eqTerm : List (Nat × List Nat) := [(0, [2, 3]), (1, [2, 3, 9]), (2, [4]), (3, [2, 3, 14]), (4, [4]), (5, [2, 3, 19]), (6, [4]), (7, [2, 3, 24]), (8, [4]), (9, [2, 3, 30]), (10, [4]), (11, [2, 3, 36]), (12, [4]), (13, [42]), (14, [4]), (15, [4])]
theorem eqTm_t : ∀ (x y : Tm), Tm.ok x → Tells Try.prog E0 X 10 [x.a false, y.a false] (bA (decide (x = y)))
  | .mk kk nn ss zz (.mk tk tn ta) ts aa, .mk kk2 nn2 ss2 zz2 (.mk tk2 tn2 ta2) ts2 aa2, hl => by
    have hl2 : ss.size ≤ 1048576 ∧ zz.size ≤ 1048576 ∧ Ty.ok (.mk tk tn ta) ∧ (ts.length ≤ 1048576 ∧ Ty.okL ts) ∧ aa.length ≤ 1048576 ∧ Tm.okL aa := by rw [Tm.ok] at hl; exact hl
    obtain ⟨l1, l2, l3, l4, l5, l6⟩ := hl2
    have hT := eqTy_t (X := X) (.mk tk tn ta) (.mk tk2 tn2 ta2) l3
    have hTs := eqTyS_of (X := X) ts ts2 l4.1 (fun t ht y => eqTy_t t y (Ty.okL_iff.1 l4.2 t ht))
    have hS := eqTmS_of (X := X) aa aa2 l5 (fun t ht y => eqTm_t t y (Tm.okL_iff.1 l6 t ht))
    have hd : decide (Tm.mk kk nn ss zz (.mk tk tn ta) ts aa = Tm.mk kk2 nn2 ss2 zz2 (.mk tk2 tn2 ta2) ts2 aa2) = decide (kk = kk2 ∧ nn = nn2 ∧ ss = ss2 ∧ zz = zz2 ∧ Ty.mk tk tn ta = Ty.mk tk2 tn2 ta2 ∧ ts = ts2 ∧ aa = aa2) := by rw [decide_eq_decide, Tm.mk.injEq]
    rw [hd]
    have hs1 := str_beq ss ss2
    have hs2 := str_beq zz zz2
    refine Tells.by Try.func10 (by simp [Try.f10]) (Body.i rfl rfl rfl (fun _ => rfl) fun f => ?_)
    repeat' (first
       | refine wp_seq_i ?_ | refine wp_region_t k_eqTerm rfl ?_ | refine Run.done rfl ?_ | refine then_n ?_ | refine then_r ?_ | refine then_e ?_ | refine Run.go1 rfl ?_ | refine wp_skip_i ?_ | refine wp_ret_i ?_
       | refine wp_exit_i ?_ | refine wp_block_i ?_ | refine block_n ?_ | refine block_r ?_ | refine block_e ?_ | refine block_o rfl ?_ | refine wp_cond_t rfl ?_ | refine wp_cond_f rfl ?_
       | refine Run.call rfl rfl rfl (hT) rfl rfl ?_ | refine Run.call rfl rfl rfl (hTs) rfl rfl ?_ | refine Run.call rfl rfl rfl (hS) rfl rfl ?_ | (refine wp_cond_k rfl rfl rfl ?_ ?_ <;> intro _)
       | (refine wp_cond_i rfl ?_ ?_ <;> intro _))
    all_goals (refine ret_m [] rfl rfl ?_; clear hS hT hTs; first | (simp_all; done) | (simp_all; intro h1 h2 h3; simp_all; done))
  termination_by x => SizeOf.sizeOf x
  decreasing_by
    all_goals (have hsz := List.sizeOf_lt_of_mem ht; simp; omega)
end Go.Proofs

set_option linter.unusedVariables false
set_option linter.unusedSimpArgs false
namespace Go.Proofs
open Go Go.Ev
set_option maxRecDepth 100000
variable {X : Rel3}
end Go.Proofs

set_option linter.unusedVariables false
set_option linter.unusedSimpArgs false
namespace Go.Proofs
open Go Go.Ev
set_option maxRecDepth 100000
variable {X : Rel3}
structure Code where
  funs : List Piece
  main : Piece
  deriving DecidableEq
abbrev Code.a (o : Bool) (c : Code) : AV := .ag [.t (.sl o (c.funs.map (Piece.c o))), iA c.main.lam, iA c.main.in_, iA c.main.regs, .t (.sl o (c.main.ins.map (Ins.c o)))]
def Piece.ok (p : Piece) : Prop := p.ins.length ≤ 1048576 ∧ ∀ i ∈ p.ins, i.l.length ≤ 1048576
def Code.ok (c : Code) : Prop := c.funs.length ≤ 1048576 ∧ (∀ p ∈ c.funs, p.ok) ∧ c.main.ok
def Piece.z : Piece := ⟨0, 0, 0, []⟩
end Go.Proofs

set_option linter.unusedVariables false
set_option linter.unusedSimpArgs false
namespace Go.Proofs
open Go Go.Ev
set_option maxRecDepth 100000
variable {X : Rel3}
end Go.Proofs

set_option linter.unusedVariables false
set_option linter.unusedSimpArgs false
namespace Go.Proofs
open Go Go.Ev
set_option maxRecDepth 100000
variable {X : Rel3}
def mkPiece (p : Piece) (k : Int) : Piece × Int :=
  (⟨k, nx k, nx (nx k), (mkInsS p.ins (nx (nx (nx k)))).1⟩, (mkInsS p.ins (nx (nx (nx k)))).2)
def mkPieceS : List Piece → Int → List Piece × Int
  | [], k => ([], k)
  | i :: r, k => ((mkPiece i k).1 :: (mkPieceS r (mkPiece i k).2).1, (mkPieceS r (mkPiece i k).2).2)
theorem mkPieceS_snoc (l : List Piece) (x : Piece) (k : Int) : mkPieceS (l ++ [x]) k = ((mkPieceS l k).1 ++ [(mkPiece x (mkPieceS l k).2).1], (mkPiece x (mkPieceS l k).2).2) := by
  induction l generalizing k with
  | nil => rfl
  | cons y l ih => simp [mkPieceS, ih]
theorem mkPieceS_len (l : List Piece) (k : Int) : (mkPieceS l k).1.length = l.length := by
  induction l generalizing k with
  | nil => rfl
  | cons y l ih => simp [mkPieceS, ih]
end Go.Proofs

set_option linter.unusedVariables false
set_option linter.unusedSimpArgs false
set_option maxHeartbeats 4000000
namespace Go.Proofs
open Go Go.Ev
set_option maxRecDepth 100000
variable {X : Rel3}
def oneD (k : Int) : ByteArray := strR [[.sc (.int .u8 (IntKind.u8.wrap (IntKind.i64.wrap (48 + k.tmod 10))))]]
def digW (k : Int) (out : ByteArray) : ByteArray := if h : 0 < k then digW (k.tdiv 10) (oneD k ++ out) else out
  termination_by k.toNat
  decreasing_by
    rw [Int.tdiv_eq_ediv_of_nonneg (by omega)]; omega
def mtx (k : Int) : ByteArray := if k ≤ 0 then ⟨#[109, 48]⟩ else (⟨#[109]⟩ : ByteArray) ++ digW k ByteArray.empty
def k_mtx : List (Nat × List Nat) := [(0, [0]), (1, [0, 5]), (2, [2]), (3, [0, 3]), (4, [0, 3, 7]), (5, [0, 3]), (6, [0, 3]), (7, [2])]
theorem mtx_t (k : Int) (hk : k ≤ 9223372036854775000) : Tells Try.prog E0 X 53 [iA k] (sA (mtx k)) := by
  refine Tells.by Try.func53 (by simp [Try.f53]) (Body.i rfl rfl rfl (fun _ => rfl) fun f => ?_)
  repeat' (first
     | refine wp_seq_i ?_ | refine wp_region_t k_mtx rfl ?_ | refine Run.done rfl ?_ | refine then_n ?_ | refine then_r ?_ | refine then_e ?_ | refine Run.go1 rfl ?_ | refine wp_skip_i ?_ | refine wp_ret_i ?_ | refine wp_exit_i ?_
     | refine wp_block_i ?_ | refine block_n ?_ | refine block_r ?_ | refine block_e ?_ | refine block_o rfl ?_ | refine wp_cond_t rfl ?_ | refine wp_cond_f rfl ?_ | refine Run.one rfl rfl rfl ?_
     | (refine wp_cond_k rfl rfl rfl ?_ ?_ <;> intro _) | (refine wp_cond_i rfl ?_ ?_ <;> intro _))
  · rename_i h; refine ret_m [] rfl rfl ?_; rw [mtx, if_pos (of_decide_eq_true h)]
  rename_i h
  have h0 : ¬ k ≤ 0 := of_decide_eq_false h
  rw [mtx, if_neg h0]
  refine wp_loop_k (α := Int × ByteArray) [.keep [0, 3] []] (fun z => [(0, iA z.1), (3, sA z.2)]) (fun _ => []) (fun _ => []) (fun z => (0 ≤ z.1 ∧ z.1 ≤ 9223372036854775000 ∧ (z.2.size : Int) + z.1 ≤ k) ∧ digW z.1 z.2 = digW k ByteArray.empty) (fun z => z.1.toNat) (k, ByteArray.empty) rfl (fun _ => rfl) rfl ⟨⟨by omega, hk, by simp⟩, rfl⟩ ?_
  rintro ⟨c, o⟩ ⟨⟨hc0, hc1, hc2⟩, hI⟩
  simp only at hc0 hc1 hc2 hI
  have h48 : IntKind.i64.wrap (48 + c.tmod 10) = 48 + c.tmod 10 := by rw [Int.tmod_eq_emod_of_nonneg hc0, w64] <;> omega
  have hsz : (strR [[T.sc (.int .u8 (IntKind.u8.wrap (IntKind.i64.wrap (48 + c.tmod 10))))]]).size = 1 := rfl
  by_cases hpos : 0 < c
  · rw [digW, dif_pos hpos] at hI
    repeat' (first
       | refine wp_seq_i ?_ | refine wp_region_t k_mtx rfl ?_ | refine Run.done rfl ?_ | refine then_n ?_ | refine then_r ?_ | refine then_e ?_ | refine Run.go1 rfl ?_ | refine wp_skip_i ?_ | refine wp_ret_i ?_
       | refine wp_exit_i ?_ | refine wp_block_i ?_ | refine block_n ?_ | refine block_r ?_ | refine block_e ?_ | refine block_o rfl ?_ | refine wp_cond_t rfl ?_ | refine wp_cond_f rfl ?_
       | refine Run.cnd4 rfl rfl rfl (by intro r hr; rw [List.mem_singleton.1 hr]; rfl) ?_ | refine Run.cat rfl rfl rfl (by show 1 + o.size ≤ 9223372036854775807; omega) rfl ?_ | refine Run.one rfl rfl rfl ?_
       | (refine wp_cond_k rfl rfl rfl ?_ ?_ <;> intro _) | (refine wp_cond_i rfl ?_ ?_ <;> intro _))
    · have e : c.tdiv 10 = c / 10 := Int.tdiv_eq_ediv_of_nonneg hc0
      refine back_i [.keep [0, 3] []] (c.tdiv 10, oneD c ++ o) rfl ?_ ⟨⟨by rw [e]; omega, by rw [e]; omega, ?_⟩, hI⟩ (by simp only; rw [e]; omega)
      · have ew : IntKind.i64.wrap (c.tdiv 10) = c.tdiv 10 := by rw [e, w64] <;> omega
        simp only [ew]; rfl
      · simp only [ByteArray.size_append]; rw [e, show (oneD c).size = 1 from rfl]; omega
    · exfalso; rename_i h; have h := of_decide_eq_false h; simp only at h; omega
  · have hc3 : c = 0 := by omega
    subst hc3
    rw [digW, dif_neg hpos] at hI
    repeat' (first
       | refine wp_seq_i ?_ | refine wp_region_t k_mtx rfl ?_ | refine Run.done rfl ?_ | refine then_n ?_ | refine then_r ?_ | refine then_e ?_ | refine Run.go1 rfl ?_ | refine wp_skip_i ?_ | refine wp_ret_i ?_
       | refine wp_exit_i ?_ | refine wp_block_i ?_ | refine block_n ?_ | refine block_r ?_ | refine block_e ?_ | refine block_o rfl ?_ | refine wp_cond_t rfl ?_ | refine wp_cond_f rfl ?_
       | refine Run.cat rfl rfl rfl (by show 1 + o.size ≤ 9223372036854775807; omega) rfl ?_ | refine Run.one rfl rfl rfl ?_ | (refine wp_cond_k rfl rfl rfl ?_ ?_ <;> intro _) | (refine wp_cond_i rfl ?_ ?_ <;> intro _))
    · refine ret_m [] rfl rfl ?_; rw [← hI]
mutual
def mkTy1 : Ty → Int → Ty × Int
  | .mk _ _ a, k => (.mk k (nx k) (mkTyL a (nx (nx k))).1, (mkTyL a (nx (nx k))).2)
def mkTyL : List Ty → Int → List Ty × Int
  | [], k => ([], k)
  | t :: r, k => ((mkTy1 t k).1 :: (mkTyL r (mkTy1 t k).2).1, (mkTyL r (mkTy1 t k).2).2)
end
def n6 (k : Int) : Int := nx (nx (nx (nx (nx (nx k)))))
mutual
def mkTm1 : Tm → Int → Tm × Int
  | .mk _ _ _ _ (.mk _ _ ta) ts a, k =>
    (.mk k (nx k) (mtx (nx (nx k))) (mtx (nx (nx (nx k)))) (.mk (nx (nx (nx (nx k)))) (nx (nx (nx (nx (nx k))))) (mkTyL ta (n6 k)).1) (mkTyL ts (mkTyL ta (n6 k)).2).1 (mkTmL a (mkTyL ts (mkTyL ta (n6 k)).2).2).1, (mkTmL a (mkTyL ts (mkTyL ta (n6 k)).2).2).2)
def mkTmL : List Tm → Int → List Tm × Int
  | [], k => ([], k)
  | t :: r, k => ((mkTm1 t k).1 :: (mkTmL r (mkTm1 t k).2).1, (mkTmL r (mkTm1 t k).2).2)
end
mutual
def cTy : Ty → Nat
  | .mk _ _ a => 2 + cTyL a
def cTyL : List Ty → Nat
  | [] => 0
  | t :: r => cTy t + cTyL r
end
mutual
def cTm : Tm → Nat
  | .mk _ _ _ _ t ts a => 4 + cTy t + cTyL ts + cTmL a
def cTmL : List Tm → Nat
  | [] => 0
  | t :: r => cTm t + cTmL r
end
theorem nx_eq {k : Int} (h0 : 0 ≤ k) (h1 : k < 9223372036854775807) : nx k = k + 1 := by unfold nx; rw [w64] <;> omega
mutual
theorem mkTy1_up : ∀ (t : Ty) (k : Int), 0 ≤ k → k + cTy t ≤ 9223372036854775000 → (mkTy1 t k).2 = k + cTy t
  | .mk _ _ a, k, h0, h => by
    rw [cTy] at h ⊢
    rw [mkTy1]
    simp only
    rw [nx_eq h0 (by omega), nx_eq (k := k + 1) (by omega) (by omega), mkTyL_up a (k + 1 + 1) (by omega) (by omega)]
    omega
theorem mkTyL_up : ∀ (l : List Ty) (k : Int), 0 ≤ k → k + cTyL l ≤ 9223372036854775000 → (mkTyL l k).2 = k + cTyL l
  | [], k, _, _ => by rw [mkTyL, cTyL]; simp
  | t :: r, k, h0, h => by
    rw [cTyL] at h ⊢
    rw [mkTyL]
    simp only
    rw [mkTy1_up t k h0 (by omega), mkTyL_up r _ (by omega) (by omega)]
    omega
end
theorem n6_eq {k : Int} (h0 : 0 ≤ k) (h1 : k ≤ 9223372036854775000) : n6 k = k + 6 := by
  unfold n6
  rw [nx_eq h0 (by omega), nx_eq (k := k + 1) (by omega) (by omega), nx_eq (k := k + 1 + 1) (by omega) (by omega), nx_eq (k := k + 1 + 1 + 1) (by omega) (by omega), nx_eq (k := k + 1 + 1 + 1 + 1) (by omega) (by omega), nx_eq (k := k + 1 + 1 + 1 + 1 + 1) (by omega) (by omega)]
  omega
mutual
theorem mkTm1_up : ∀ (t : Tm) (k : Int), 0 ≤ k → k + cTm t ≤ 9223372036854775000 → (mkTm1 t k).2 = k + cTm t
  | .mk _ _ _ _ (.mk _ _ ta) ts a, k, h0, h => by
    rw [cTm, cTy] at h ⊢
    rw [mkTm1]
    simp only
    rw [n6_eq h0 (by omega), mkTyL_up ta (k + 6) (by omega) (by omega), mkTyL_up ts _ (by omega) (by omega), mkTmL_up a _ (by omega) (by omega)]
    omega
theorem mkTmL_up : ∀ (l : List Tm) (k : Int), 0 ≤ k → k + cTmL l ≤ 9223372036854775000 → (mkTmL l k).2 = k + cTmL l
  | [], k, _, _ => by rw [mkTmL, cTmL]; simp
  | t :: r, k, h0, h => by
    rw [cTmL] at h ⊢
    rw [mkTmL]
    simp only
    rw [mkTm1_up t k h0 (by omega), mkTmL_up r _ (by omega) (by omega)]
    omega
end
theorem mkTyL_snoc (x : Ty) : ∀ (l : List Ty) (k : Int), mkTyL (l ++ [x]) k = ((mkTyL l k).1 ++ [(mkTy1 x (mkTyL l k).2).1], (mkTy1 x (mkTyL l k).2).2)
  | [], k => by rw [List.nil_append, mkTyL, mkTyL, mkTyL]; rfl
  | t :: r, k => by
    rw [List.cons_append, mkTyL, mkTyL, mkTyL_snoc x r]
    rfl
theorem mkTyL_len : ∀ (l : List Ty) (k : Int), (mkTyL l k).1.length = l.length
  | [], k => by rw [mkTyL]
  | t :: r, k => by rw [mkTyL]; simp only [List.length_cons]; rw [mkTyL_len r]
theorem mkTyL_at : ∀ (l : List Ty) (k : Int) (j : Nat) (x : Ty), l[j]? = some x → (mkTyL l k).1[j]? = some (mkTy1 x (mkTyL (l.take j) k).2).1
  | [], k, j, x, h => by simp at h
  | t :: r, k, 0, x, h => by simp at h; subst h; rw [mkTyL, List.take_zero, mkTyL]; rfl
  | t :: r, k, j + 1, x, h => by
    have := mkTyL_at r (mkTy1 t k).2 j x (by simpa using h)
    rw [mkTyL, List.take_succ_cons, mkTyL]
    simp only [List.getElem?_cons_succ]
    exact this
theorem cTyL_take : ∀ (l : List Ty) (j : Nat) (x : Ty), l[j]? = some x → cTyL (l.take j) + cTy x ≤ cTyL l
  | [], j, x, h => by simp at h
  | t :: r, 0, x, h => by simp at h; subst h; rw [List.take_zero, cTyL, cTyL]; omega
  | t :: r, j + 1, x, h => by
    have := cTyL_take r j x (by simpa using h)
    rw [List.take_succ_cons, cTyL, cTyL]; omega
theorem mkTmL_snoc (x : Tm) : ∀ (l : List Tm) (k : Int), mkTmL (l ++ [x]) k = ((mkTmL l k).1 ++ [(mkTm1 x (mkTmL l k).2).1], (mkTm1 x (mkTmL l k).2).2)
  | [], k => by rw [List.nil_append, mkTmL, mkTmL, mkTmL]; rfl
  | t :: r, k => by
    rw [List.cons_append, mkTmL, mkTmL, mkTmL_snoc x r]
    rfl
theorem mkTmL_len : ∀ (l : List Tm) (k : Int), (mkTmL l k).1.length = l.length
  | [], k => by rw [mkTmL]
  | t :: r, k => by rw [mkTmL]; simp only [List.length_cons]; rw [mkTmL_len r]
theorem mkTmL_at : ∀ (l : List Tm) (k : Int) (j : Nat) (x : Tm), l[j]? = some x → (mkTmL l k).1[j]? = some (mkTm1 x (mkTmL (l.take j) k).2).1
  | [], k, j, x, h => by simp at h
  | t :: r, k, 0, x, h => by simp at h; subst h; rw [mkTmL, List.take_zero, mkTmL]; rfl
  | t :: r, k, j + 1, x, h => by
    have := mkTmL_at r (mkTm1 t k).2 j x (by simpa using h)
    rw [mkTmL, List.take_succ_cons, mkTmL]
    simp only [List.getElem?_cons_succ]
    exact this
theorem cTmL_take : ∀ (l : List Tm) (j : Nat) (x : Tm), l[j]? = some x → cTmL (l.take j) + cTm x ≤ cTmL l
  | [], j, x, h => by simp at h
  | t :: r, 0, x, h => by simp at h; subst h; rw [List.take_zero, cTmL, cTmL]; omega
  | t :: r, j + 1, x, h => by
    have := cTmL_take r j x (by simpa using h)
    rw [List.take_succ_cons, cTmL, cTmL]; omega
theorem Run.adjwOn {Φ : Rel3} {E : Env} {all : List Oper} {D : List Nat} {lo : Option (List Nat)} {rest : List Oper} {s : St} {K : St → Prop} (d : Nat) {op : Op} {ty : Nat} {pos : String} {after : Array Edge} {g : Option (Nat × Bool)}
  (h : AdjW (fun s1 => Run Φ E all D lo (⟨some d, op, ty, pos, after, g⟩ :: rest) s1 K) s) : Run Φ E all D lo (⟨some d, op, ty, pos, after, g⟩ :: rest) s K := Run.adjw h
def k_markTyS : List (Nat × List Nat) := [(0, [0, 1]), (1, [0, 1, 5]), (2, [0, 1, 5, 9]), (3, [0, 1, 5]), (4, [0, 1, 5]), (5, [0, 1, 5]), (6, [0, 1, 5]), (7, [0, 1, 5]), (8, [0, 1, 5]), (9, [4])]
theorem markTyS_of (l : List Ty) (k : Int) (hl : l.length ≤ 1048576) (h0 : 0 ≤ k) (hk : k + cTyL l ≤ 9223372036854775000) (h : ∀ t ∈ l, ∀ kk nn aa, t = Ty.mk kk nn aa → ∀ k : Int, 0 ≤ k → k + cTyL aa ≤ 9223372036854775000 → Tells Try.prog E0 X 33 [.t (.sl true (aa.map (Ty.c true))), iA k] (.io [iA (mkTyL aa k).2, .t (.sl true ((mkTyL aa k).1.map (Ty.c true))), .u])) : Tells Try.prog E0 X 33 [.t (.sl true (l.map (Ty.c true))), iA k] (.io [iA (mkTyL l k).2, .t (.sl true ((mkTyL l k).1.map (Ty.c true))), .u]) := by
  refine Tells.by Try.func33 (by simp [Try.f33]) (Body.i rfl rfl rfl (fun _ => rfl) fun f => ?_)
  repeat' (first
     | refine wp_seq_i ?_ | refine wp_region_t k_markTyS rfl ?_ | refine Run.done rfl ?_ | refine then_n ?_ | refine then_r ?_ | refine then_e ?_ | refine Run.go1 rfl ?_ | refine wp_skip_i ?_ | refine wp_ret_i ?_
     | refine wp_exit_i ?_ | refine wp_block_i ?_ | refine block_n ?_ | refine block_r ?_ | refine block_e ?_ | refine block_o rfl ?_ | refine wp_cond_t rfl ?_ | refine wp_cond_f rfl ?_
     | (refine wp_cond_k rfl rfl rfl ?_ ?_ <;> intro _) | (refine wp_cond_i rfl ?_ ?_ <;> intro _))
  refine wp_loop_k (α := Nat × Int × List Ty) [.keep [0, 1, 5] [100000]] (fun p => [(1, iA p.2.1), (5, iA p.1)]) (fun _ => []) (fun p => [(100000, ⟨0, some (f 100000)⟩, p.2.2.map (Ty.c true))]) (fun p => p.1 ≤ l.length ∧ p.2.1 = (mkTyL (l.take p.1) k).2 ∧ p.2.2 = (mkTyL (l.take p.1) k).1 ++ l.drop p.1) (fun p => l.length - p.1) (0, k, l) rfl (fun _ => rfl) rfl ⟨by simp, by rw [List.take_zero, mkTyL], by rw [List.take_zero, mkTyL]; rfl⟩ ?_
  rintro ⟨j, c, m⟩ ⟨hj, hc, hm⟩
  simp only at hj hc hm
  have hml : m.length = l.length := by rw [hm]; simp [mkTyL_len]; omega
  by_cases hlt : j < l.length
  · obtain ⟨t, ht⟩ : ∃ t, l[j]? = some t := ⟨_, List.getElem?_eq_getElem hlt⟩
    have htk : l.take (j + 1) = l.take j ++ [t] := by rw [List.take_succ_eq_append_getElem hlt, (List.getElem?_eq_some_iff.1 ht).2]
    have hmj : m[j]? = some t := by
      rw [hm, List.getElem?_append_right (by rw [mkTyL_len]; simp; omega), mkTyL_len, List.length_take, Nat.min_eq_left hj, Nat.sub_self, List.getElem?_drop, Nat.add_zero, ht]
    have hct := cTyL_take l j t ht
    have hup := mkTyL_up (l.take j) k h0 (by omega)
    rw [← hc] at hup
    have hsn := mkTyL_snoc t (l.take j) k
    rw [← htk, ← hc] at hsn
    have hmem := List.mem_of_getElem? ht
    obtain ⟨kk, nn, aa⟩ := t
    rw [cTy] at hct
    have hn1 := nx_eq (k := c) (by omega) (by omega)
    have hn2 := nx_eq (k := nx c) (by omega) (by omega)
    have hT := h _ hmem kk nn aa rfl (nx (nx c)) (by omega) (by omega)
    have hx : (m.map (Ty.c true))[j]? = some [iT kk, iT nn, .sl true (aa.map (Ty.c true))] := by rw [List.getElem?_map, hmj]; exact congrArg some (Ty.c_mk ..)
    have hmk := (show mkTy1 (.mk kk nn aa) c = (.mk c (nx c) (mkTyL aa (nx (nx c))).1, (mkTyL aa (nx (nx c))).2) by rw [mkTy1])
    have hjm : j < (m.map (Ty.c true)).length := by rw [List.length_map]; omega
    repeat' (first
      
       | refine Run.adjwOn 30 (.hole 100000 j 2 900000 _ _ _ _ _ _ rfl (set_hit (by simpa using hjm)) rfl (fun _ => rfl) fun u => .done _ (Run.ldr rfl rfl rfl (set_hit (by simpa using hjm)) rfl rfl (Run.go1 rfl (Run.adjw (.tell 30 900000 _ _ _ _ _ rfl rfl rfl rfl (.done _ (Run.call rfl rfl rfl (hT) rfl rfl (Run.adjw (.fill 100000 j 2 900000 _ _ _ _ _ _ _ rfl (set_hit (by simpa using hjm)) rfl rfl rfl (.done _ ?_))))))))))
       | refine wp_seq_i ?_ | refine wp_region_t k_markTyS rfl ?_ | refine Run.done rfl ?_ | refine then_n ?_ | refine then_r ?_ | refine then_e ?_ | refine Run.go1 rfl ?_ | refine wp_skip_i ?_ | refine wp_ret_i ?_
       | refine wp_exit_i ?_ | refine wp_block_i ?_ | refine block_n ?_ | refine block_r ?_ | refine block_e ?_ | refine block_o rfl ?_ | refine wp_cond_t rfl ?_ | refine wp_cond_f rfl ?_
       | refine Run.ix rfl rfl rfl rfl rfl rfl rfl hx rfl rfl rfl ?_ | refine Run.str rfl rfl rfl rfl rfl rfl hx rfl rfl ?_ | refine Run.ix rfl rfl rfl rfl rfl rfl rfl (set_hit (by simpa using hjm)) rfl rfl rfl ?_
       | refine Run.str rfl rfl rfl rfl rfl rfl (set_hit (by simpa using hjm)) rfl rfl ?_ | (refine wp_cond_k rfl rfl rfl ?_ ?_ <;> intro _) | (refine wp_cond_i rfl ?_ ?_ <;> intro _))
    · refine back_i [.keep [0, 1, 5] [100000]] (j + 1, (mkTy1 (.mk kk nn aa) c).2, m.set j (mkTy1 (.mk kk nn aa) c).1) rfl ?_ ⟨by simp; omega, ?_, ?_⟩ (by simp; omega)
      · rw [hmk]
        simp only [List.map_set, List.set_set, Ty.c_mk, w_succ hlt (show l.length ≤ 9223372036854775807 by omega)]; first | done | rfl
      · rw [hsn]
      · rw [hsn]
        conv => lhs; rw [hm]
        rw [List.drop_eq_getElem_cons hlt, List.set_append_right _ _ (by simp [mkTyL_len]; omega)]
        simp only [mkTyL_len, List.length_take, Nat.min_eq_left hj, Nat.sub_self, List.set_cons_zero, List.append_assoc, List.singleton_append]
    all_goals (exfalso; rename_i h2; simp [hml, hlt] at h2; done)
  · have hjl : j = l.length := by omega
    repeat' (first
       | refine wp_seq_i ?_ | refine wp_region_t k_markTyS rfl ?_ | refine Run.done rfl ?_ | refine then_n ?_ | refine then_r ?_ | refine then_e ?_ | refine Run.go1 rfl ?_ | refine wp_skip_i ?_ | refine wp_ret_i ?_
       | refine wp_exit_i ?_ | refine wp_block_i ?_ | refine block_n ?_ | refine block_r ?_ | refine block_e ?_ | refine block_o rfl ?_ | refine wp_cond_t rfl ?_ | refine wp_cond_f rfl ?_
       | (refine wp_cond_k rfl rfl rfl ?_ ?_ <;> intro _) | (refine wp_cond_i rfl ?_ ?_ <;> intro _))
    · exfalso; rename_i h2; simp [hml, hjl] at h2
    · refine ret_o [true] [] rfl rfl rfl ⟨rfl, trivial⟩ ?_
      subst hjl
      simp [hc, hm]
theorem markTyS_t : ∀ (l : List Ty) (k : Int), l.length ≤ 1048576 → Ty.okL l → 0 ≤ k → k + cTyL l ≤ 9223372036854775000 → Tells Try.prog E0 X 33 [.t (.sl true (l.map (Ty.c true))), iA k] (.io [iA (mkTyL l k).2, .t (.sl true ((mkTyL l k).1.map (Ty.c true))), .u])
  | l, k, hl, hok, h0, hk => markTyS_of l k hl h0 hk (fun t ht kk nn aa e k h1 h2 => by
    have ho := Ty.okL_iff.1 hok t ht
    have hs := List.sizeOf_lt_of_mem ht
    subst e
    rw [Ty.ok] at ho
    exact markTyS_t aa k ho.1 ho.2 h1 h2)
  termination_by l => SizeOf.sizeOf l
  decreasing_by
    all_goals (simp at hs; omega)
def k_markTermS : List (Nat × List Nat) := [(0, [0, 1]), (1, [0, 1, 5]), (2, [0, 1, 5, 9]), (3, [0, 1, 5]), (4, [0, 1, 5]), (5, [0, 1, 5]), (6, [0, 1, 5]), (7, [0, 1, 5]), (8, [0, 1, 5]), (9, [0, 1, 5]), (10, [0, 1, 5]), (11, [0, 1, 5]), (12, [0, 1, 5]), (13, [0, 1, 5]), (14, [0, 1, 5]), (15, [0, 1, 5]), (16, [0, 1, 5]), (17, [0, 1, 5]), (18, [0, 1, 5]), (19, [4])]
theorem markTmS_of (l : List Tm) (k : Int) (hl : l.length ≤ 1048576) (hok : Tm.okL l) (h0 : 0 ≤ k) (hk : k + cTmL l ≤ 9223372036854775000) (hy : ∀ (aa : List Ty), aa.length ≤ 1048576 → Ty.okL aa → ∀ k : Int, 0 ≤ k → k + cTyL aa ≤ 9223372036854775000 → Tells Try.prog E0 X 33 [.t (.sl true (aa.map (Ty.c true))), iA k] (.io [iA (mkTyL aa k).2, .t (.sl true ((mkTyL aa k).1.map (Ty.c true))), .u])) (h : ∀ t ∈ l, ∀ kk nn ss zz tt ts aa, t = Tm.mk kk nn ss zz tt ts aa → ∀ k : Int, 0 ≤ k → k + cTmL aa ≤ 9223372036854775000 → Tells Try.prog E0 X 34 [.t (.sl true (aa.map (Tm.c true))), iA k] (.io [iA (mkTmL aa k).2, .t (.sl true ((mkTmL aa k).1.map (Tm.c true))), .u])) : Tells Try.prog E0 X 34 [.t (.sl true (l.map (Tm.c true))), iA k] (.io [iA (mkTmL l k).2, .t (.sl true ((mkTmL l k).1.map (Tm.c true))), .u]) := by
  refine Tells.by Try.func34 (by simp [Try.f34]) (Body.i rfl rfl rfl (fun _ => rfl) fun f => ?_)
  repeat' (first
     | refine wp_seq_i ?_ | refine wp_region_t k_markTermS rfl ?_ | refine Run.done rfl ?_ | refine then_n ?_ | refine then_r ?_ | refine then_e ?_ | refine Run.go1 rfl ?_ | refine wp_skip_i ?_ | refine wp_ret_i ?_
     | refine wp_exit_i ?_ | refine wp_block_i ?_ | refine block_n ?_ | refine block_r ?_ | refine block_e ?_ | refine block_o rfl ?_ | refine wp_cond_t rfl ?_ | refine wp_cond_f rfl ?_
     | (refine wp_cond_k rfl rfl rfl ?_ ?_ <;> intro _) | (refine wp_cond_i rfl ?_ ?_ <;> intro _))
  refine wp_loop_k (α := Nat × Int × List Tm) [.keep [0, 1, 5] [100000]] (fun p => [(1, iA p.2.1), (5, iA p.1)]) (fun _ => []) (fun p => [(100000, ⟨0, some (f 100000)⟩, p.2.2.map (Tm.c true))]) (fun p => p.1 ≤ l.length ∧ p.2.1 = (mkTmL (l.take p.1) k).2 ∧ p.2.2 = (mkTmL (l.take p.1) k).1 ++ l.drop p.1) (fun p => l.length - p.1) (0, k, l) rfl (fun _ => rfl) rfl ⟨by simp, by rw [List.take_zero, mkTmL], by rw [List.take_zero, mkTmL]; rfl⟩ ?_
  rintro ⟨j, c, m⟩ ⟨hj, hc, hm⟩
  simp only at hj hc hm
  have hml : m.length = l.length := by rw [hm]; simp [mkTmL_len]; omega
  by_cases hlt : j < l.length
  · obtain ⟨t, ht⟩ : ∃ t, l[j]? = some t := ⟨_, List.getElem?_eq_getElem hlt⟩
    have htk : l.take (j + 1) = l.take j ++ [t] := by rw [List.take_succ_eq_append_getElem hlt, (List.getElem?_eq_some_iff.1 ht).2]
    have hmj : m[j]? = some t := by
      rw [hm, List.getElem?_append_right (by rw [mkTmL_len]; simp; omega), mkTmL_len, List.length_take, Nat.min_eq_left hj, Nat.sub_self, List.getElem?_drop, Nat.add_zero, ht]
    have hct := cTmL_take l j t ht
    have hup := mkTmL_up (l.take j) k h0 (by omega)
    rw [← hc] at hup
    have hsn := mkTmL_snoc t (l.take j) k
    rw [← htk, ← hc] at hsn
    have hmem := List.mem_of_getElem? ht
    have hokt := Tm.okL_iff.1 hok t hmem
    obtain ⟨kk, nn, ss, zz, ⟨tk, tn, ta⟩, ts, aa⟩ := t
    rw [Tm.ok, Ty.ok] at hokt
    rw [cTm, cTy] at hct
    have hn1 := nx_eq (k := c) (by omega) (by omega)
    have hn2 := nx_eq (k := nx c) (by omega) (by omega)
    have hn3 := nx_eq (k := nx (nx c)) (by omega) (by omega)
    have hn4 := nx_eq (k := nx (nx (nx c))) (by omega) (by omega)
    have hn5 := nx_eq (k := nx (nx (nx (nx c)))) (by omega) (by omega)
    have hn6 := n6_eq (k := c) (by omega) (by omega)
    have hx1 := mtx_t (X := X) (nx (nx c)) (by omega)
    have hx2 := mtx_t (X := X) (nx (nx (nx c))) (by omega)
    have hu1 := mkTyL_up ta (n6 c) (by omega) (by omega)
    have hu2 := mkTyL_up ts (mkTyL ta (n6 c)).2 (by omega) (by omega)
    have hT1 := hy ta hokt.2.2.1.1 hokt.2.2.1.2 (n6 c) (by omega) (by omega)
    have hT2 := hy ts hokt.2.2.2.1.1 hokt.2.2.2.1.2 (mkTyL ta (n6 c)).2 (by omega) (by omega)
    have hT3 := h _ hmem kk nn ss zz (.mk tk tn ta) ts aa rfl (mkTyL ts (mkTyL ta (n6 c)).2).2 (by omega) (by omega)
    have hx : (m.map (Tm.c true))[j]? = some [iT kk, iT nn, sT ss, sT zz, iT tk, iT tn, .sl true (ta.map (Ty.c true)), .sl true (ts.map (Ty.c true)), .sl true (aa.map (Tm.c true))] := by rw [List.getElem?_map, hmj]; exact congrArg some (Tm.c_mk ..)
    have hmk := (show mkTm1 (.mk kk nn ss zz (.mk tk tn ta) ts aa) c = _ by rw [mkTm1])
    have hjm : j < (m.map (Tm.c true)).length := by rw [List.length_map]; omega
    repeat' (first
      
       | refine Run.adjwOn 63 (.hole 100000 j 6 900000 _ _ _ _ _ _ rfl (set_hit (by simpa using hjm)) rfl (fun _ => rfl) fun u => .done _ (Run.ldr rfl rfl rfl (set_hit (by simpa using hjm)) rfl rfl (Run.go1 rfl (Run.adjw (.tell 63 900000 _ _ _ _ _ rfl rfl rfl rfl (.done _ (Run.call rfl rfl rfl (hT1) rfl rfl (Run.adjw (.fill 100000 j 6 900000 _ _ _ _ _ _ _ rfl (set_hit (by simpa using hjm)) rfl rfl rfl (.done _ ?_))))))))))
       | refine Run.adjwOn 70 (.hole 100000 j 7 900000 _ _ _ _ _ _ rfl (set_hit (by simpa using hjm)) rfl (fun _ => rfl) fun u => .done _ (Run.ldr rfl rfl rfl (set_hit (by simpa using hjm)) rfl rfl (Run.go1 rfl (Run.adjw (.tell 70 900000 _ _ _ _ _ rfl rfl rfl rfl (.done _ (Run.call rfl rfl rfl (hT2) rfl rfl (Run.adjw (.fill 100000 j 7 900000 _ _ _ _ _ _ _ rfl (set_hit (by simpa using hjm)) rfl rfl rfl (.done _ ?_))))))))))
       | refine Run.adjwOn 77 (.hole 100000 j 8 900000 _ _ _ _ _ _ rfl (set_hit (by simpa using hjm)) rfl (fun _ => rfl) fun u => .done _ (Run.ldr rfl rfl rfl (set_hit (by simpa using hjm)) rfl rfl (Run.go1 rfl (Run.adjw (.tell 77 900000 _ _ _ _ _ rfl rfl rfl rfl (.done _ (Run.call rfl rfl rfl (hT3) rfl rfl (Run.adjw (.fill 100000 j 8 900000 _ _ _ _ _ _ _ rfl (set_hit (by simpa using hjm)) rfl rfl rfl (.done _ ?_))))))))))
       | refine wp_seq_i ?_ | refine wp_region_t k_markTermS rfl ?_ | refine Run.done rfl ?_ | refine then_n ?_ | refine then_r ?_ | refine then_e ?_ | refine Run.go1 rfl ?_ | refine wp_skip_i ?_ | refine wp_ret_i ?_
       | refine wp_exit_i ?_ | refine wp_block_i ?_ | refine block_n ?_ | refine block_r ?_ | refine block_e ?_ | refine block_o rfl ?_ | refine wp_cond_t rfl ?_ | refine wp_cond_f rfl ?_
       | refine Run.ix rfl rfl rfl rfl rfl rfl rfl hx rfl rfl rfl ?_ | refine Run.str rfl rfl rfl rfl rfl rfl hx rfl rfl ?_ | refine Run.ix rfl rfl rfl rfl rfl rfl rfl (set_hit (by simpa using hjm)) rfl rfl rfl ?_
       | refine Run.str rfl rfl rfl rfl rfl rfl (set_hit (by simpa using hjm)) rfl rfl ?_ | refine Run.call rfl rfl rfl (hx1) rfl rfl ?_ | refine Run.call rfl rfl rfl (hx2) rfl rfl ?_
       | (refine wp_cond_k rfl rfl rfl ?_ ?_ <;> intro _) | (refine wp_cond_i rfl ?_ ?_ <;> intro _))
    · refine back_i [.keep [0, 1, 5] [100000]] (j + 1, (mkTm1 (.mk kk nn ss zz (.mk tk tn ta) ts aa) c).2, m.set j (mkTm1 (.mk kk nn ss zz (.mk tk tn ta) ts aa) c).1) rfl ?_ ⟨by simp; omega, ?_, ?_⟩ (by simp; omega)
      · rw [hmk]
        simp only [List.map_set, List.set_set, Tm.c_mk, w_succ hlt (show l.length ≤ 9223372036854775807 by omega)]; first | done | rfl
      · rw [hsn]
      · rw [hsn]
        conv => lhs; rw [hm]
        rw [List.drop_eq_getElem_cons hlt, List.set_append_right _ _ (by simp [mkTmL_len]; omega)]
        simp only [mkTmL_len, List.length_take, Nat.min_eq_left hj, Nat.sub_self, List.set_cons_zero, List.append_assoc, List.singleton_append]
    all_goals (exfalso; rename_i h2; simp [hml, hlt] at h2; done)
  · have hjl : j = l.length := by omega
    repeat' (first
       | refine wp_seq_i ?_ | refine wp_region_t k_markTermS rfl ?_ | refine Run.done rfl ?_ | refine then_n ?_ | refine then_r ?_ | refine then_e ?_ | refine Run.go1 rfl ?_ | refine wp_skip_i ?_ | refine wp_ret_i ?_
       | refine wp_exit_i ?_ | refine wp_block_i ?_ | refine block_n ?_ | refine block_r ?_ | refine block_e ?_ | refine block_o rfl ?_ | refine wp_cond_t rfl ?_ | refine wp_cond_f rfl ?_
       | (refine wp_cond_k rfl rfl rfl ?_ ?_ <;> intro _) | (refine wp_cond_i rfl ?_ ?_ <;> intro _))
    · exfalso; rename_i h2; simp [hml, hjl] at h2
    · refine ret_o [true] [] rfl rfl rfl ⟨rfl, trivial⟩ ?_
      subst hjl
      simp [hc, hm]
theorem markTmS_t : ∀ (l : List Tm) (k : Int), l.length ≤ 1048576 → Tm.okL l → 0 ≤ k → k + cTmL l ≤ 9223372036854775000 → Tells Try.prog E0 X 34 [.t (.sl true (l.map (Tm.c true))), iA k] (.io [iA (mkTmL l k).2, .t (.sl true ((mkTmL l k).1.map (Tm.c true))), .u])
  | l, k, hl, hok, h0, hk => markTmS_of l k hl hok h0 hk (fun aa h1 h2 k h3 h4 => markTyS_t aa k h1 h2 h3 h4) (fun t ht kk nn ss zz tt ts aa e k h1 h2 => by
    have ho := Tm.okL_iff.1 hok t ht
    have hs := List.sizeOf_lt_of_mem ht
    subst e
    rw [Tm.ok] at ho
    exact markTmS_t aa k ho.2.2.2.2.1 ho.2.2.2.2.2 h1 h2)
  termination_by l => SizeOf.sizeOf l
  decreasing_by
    all_goals (simp at hs; omega)
end Go.Proofs

set_option linter.unusedVariables false
set_option linter.unusedSimpArgs false
set_option maxHeartbeats 4000000
namespace Go.Proofs
open Go Go.Ev
set_option maxRecDepth 100000
variable {X : Rel3}
def mkTm0 : Tm → Int → Tm × Int
  | .mk kk nn ss zz (.mk tk tn ta) ts aa, k => (.mk kk nn ss zz (.mk tk tn (mkTyL ta k).1) (mkTyL ts (mkTyL ta k).2).1 (mkTmL aa (mkTyL ts (mkTyL ta k).2).2).1, (mkTmL aa (mkTyL ts (mkTyL ta k).2).2).2)
theorem wn {k : Int} : IntKind.i64.wrap (k + 1) = nx k := rfl
theorem mkTm0_up (t : Tm) (k : Int) (h0 : 0 ≤ k) (h : k + cTm t ≤ 9223372036854775000) : 0 ≤ (mkTm0 t k).2 ∧ (mkTm0 t k).2 ≤ k + cTm t := by
  obtain ⟨kk, nn, ss, zz, ⟨tk, tn, ta⟩, ts, aa⟩ := t
  rw [cTm, cTy] at h ⊢
  rw [mkTm0]
  simp only
  have h1 := mkTyL_up ta k h0 (by omega)
  have h2 := mkTyL_up ts (mkTyL ta k).2 (by omega) (by omega)
  have h3 := mkTmL_up aa (mkTyL ts (mkTyL ta k).2).2 (by omega) (by omega)
  omega
def k_markTy : List (Nat × List Nat) := [(0, [1, 2]), (1, [1]), (2, [4])]
def k_markTerm : List (Nat × List Nat) := [(0, [1, 2]), (1, [1, 2]), (2, [1, 2]), (3, [1]), (4, [4])]
theorem markTy_t (kk nn : Int) (aa : List Ty) (k : Int) (hl : aa.length ≤ 1048576) (hok : Ty.okL aa) (h0 : 0 ≤ k) (hk : k + cTyL aa ≤ 9223372036854775000) : Tells Try.prog E0 X 32 [tyA true kk nn aa, iA k] (.io [iA (mkTyL aa k).2, tyA true kk nn (mkTyL aa k).1, .u]) := by
  refine Tells.by Try.func32 (by simp [Try.f32]) (Body.i rfl rfl rfl (fun _ => rfl) fun f => ?_)
  repeat' (first
     | refine wp_seq_i ?_ | refine wp_region_t k_markTy rfl ?_ | refine Run.done rfl ?_ | refine then_n ?_ | refine then_r ?_ | refine then_e ?_ | refine Run.go1 rfl ?_ | refine wp_skip_i ?_ | refine wp_ret_i ?_
     | refine wp_exit_i ?_ | refine wp_block_i ?_ | refine block_n ?_ | refine block_r ?_ | refine block_e ?_ | refine block_o rfl ?_ | refine wp_cond_t rfl ?_ | refine wp_cond_f rfl ?_
     | refine Run.call rfl rfl rfl (markTyS_t aa k hl hok h0 hk) rfl rfl ?_ | (refine wp_cond_k rfl rfl rfl ?_ ?_ <;> intro _) | (refine wp_cond_i rfl ?_ ?_ <;> intro _))
  all_goals (refine ret_o [true] [] rfl rfl rfl ⟨?_, ?_⟩ rfl <;> simp)
theorem markTerm_t (t : Tm) (k : Int) (hok : t.ok) (h0 : 0 ≤ k) (hk : k + cTm t ≤ 9223372036854775000) : Tells Try.prog E0 X 11 [t.a true, iA k] (.io [iA (mkTm0 t k).2, (mkTm0 t k).1.a true, .u]) := by
  obtain ⟨kk, nn, ss, zz, ⟨tk, tn, ta⟩, ts, aa⟩ := t
  rw [Tm.ok, Ty.ok] at hok
  rw [cTm, cTy] at hk
  rw [mkTm0]
  obtain ⟨-, -, l3, l4, l5, l6⟩ := hok
  have h1 := mkTyL_up ta k h0 (by omega)
  have h2 := mkTyL_up ts (mkTyL ta k).2 (by omega) (by omega)
  have c1 := markTy_t (X := X) tk tn ta k l3.1 l3.2 h0 (by omega)
  have c2 := markTyS_t (X := X) ts (mkTyL ta k).2 l4.1 l4.2 (by omega) (by omega)
  have c3 := markTmS_t (X := X) aa (mkTyL ts (mkTyL ta k).2).2 l5 l6 (by omega) (by omega)
  refine Tells.by Try.func11 (by simp [Try.f11]) (Body.i rfl rfl rfl (fun _ => rfl) fun f => ?_)
  repeat' (first
     | refine wp_seq_i ?_ | refine wp_region_t k_markTerm rfl ?_ | refine Run.done rfl ?_ | refine then_n ?_ | refine then_r ?_ | refine then_e ?_ | refine Run.go1 rfl ?_ | refine wp_skip_i ?_ | refine wp_ret_i ?_
     | refine wp_exit_i ?_ | refine wp_block_i ?_ | refine block_n ?_ | refine block_r ?_ | refine block_e ?_ | refine block_o rfl ?_ | refine wp_cond_t rfl ?_ | refine wp_cond_f rfl ?_
     | refine Run.call rfl rfl rfl (c1) rfl rfl ?_ | refine Run.call rfl rfl rfl (c2) rfl rfl ?_ | refine Run.call rfl rfl rfl (c3) rfl rfl ?_ | (refine wp_cond_k rfl rfl rfl ?_ ?_ <;> intro _)
     | (refine wp_cond_i rfl ?_ ?_ <;> intro _))
  all_goals (refine ret_o [true] [] rfl rfl rfl ⟨?_, ?_⟩ rfl <;> simp)
def k_heldTyS : List (Nat × List Nat) := [(0, [0, 1]), (1, [0, 1, 5]), (2, [0, 1, 5, 9]), (3, [0, 1, 5]), (4, [0, 1, 5, 18]), (5, [4]), (6, [0, 1, 5]), (7, [0, 1, 5, 27]), (8, [4]), (9, [0, 1, 5]), (10, [0, 1, 5]), (11, [0, 1, 5, 38]), (12, [4]), (13, [4])]
theorem heldTyS_of (l : List Ty) (k : Int) (hl : l.length ≤ 1048576) (h0 : 0 ≤ k) (hk : k + cTyL l ≤ 9223372036854775000) (h : ∀ t ∈ l, ∀ kk nn aa, t = Ty.mk kk nn aa → ∀ k : Int, 0 ≤ k → k + cTyL aa ≤ 9223372036854775000 → Tells Try.prog E0 X 36 [.t (.sl false ((mkTyL aa k).1.map (Ty.c false))), iA k] (iA (mkTyL aa k).2)) : Tells Try.prog E0 X 36 [.t (.sl false ((mkTyL l k).1.map (Ty.c false))), iA k] (iA (mkTyL l k).2) := by
  have hml := mkTyL_len l k
  refine Tells.by Try.func36 (by simp [Try.f36]) (Body.i rfl rfl rfl (fun _ => rfl) fun f => ?_)
  repeat' (first
     | refine wp_seq_i ?_ | refine wp_region_t k_heldTyS rfl ?_ | refine Run.done rfl ?_ | refine then_n ?_ | refine then_r ?_ | refine then_e ?_ | refine Run.go1 rfl ?_ | refine wp_skip_i ?_ | refine wp_ret_i ?_
     | refine wp_exit_i ?_ | refine wp_block_i ?_ | refine block_n ?_ | refine block_r ?_ | refine block_e ?_ | refine block_o rfl ?_ | refine wp_cond_t rfl ?_ | refine wp_cond_f rfl ?_
     | (refine wp_cond_k rfl rfl rfl ?_ ?_ <;> intro _) | (refine wp_cond_i rfl ?_ ?_ <;> intro _))
  refine wp_loop_k (α := Nat) [.keep [0, 1, 4, 5] []] (fun j => [(1, iA (mkTyL (l.take j) k).2), (5, iA j)]) (fun _ => []) (fun _ => []) (fun j => j ≤ l.length) (fun j => l.length - j) 0 rfl (fun _ => rfl) (by rw [List.take_zero, mkTyL]; rfl) (by simp) ?_
  rintro j hj
  by_cases hlt : j < l.length
  · obtain ⟨t, ht⟩ : ∃ t, l[j]? = some t := ⟨_, List.getElem?_eq_getElem hlt⟩
    have htk : l.take (j + 1) = l.take j ++ [t] := by rw [List.take_succ_eq_append_getElem hlt, (List.getElem?_eq_some_iff.1 ht).2]
    have hat := mkTyL_at l k j t ht
    have hct := cTyL_take l j t ht
    have hup := mkTyL_up (l.take j) k h0 (by omega)
    have hsn := congrArg Prod.snd (mkTyL_snoc t (l.take j) k)
    rw [← htk] at hsn
    simp only at hsn
    generalize (mkTyL (l.take j) k).2 = c at hat hup hsn
    have hmem := List.mem_of_getElem? ht
    obtain ⟨kk, nn, aa⟩ := t
    rw [cTy] at hct
    have hn1 := nx_eq (k := c) (by omega) (by omega)
    have hn2 := nx_eq (k := nx c) (by omega) (by omega)
    have hT := h _ hmem kk nn aa rfl (nx (nx c)) (by omega) (by omega)
    have hg1 := mkTyL_up aa (nx (nx c)) (by omega) (by omega)
    have hmk := (show mkTy1 (.mk kk nn aa) c = (.mk c (nx c) (mkTyL aa (nx (nx c))).1, (mkTyL aa (nx (nx c))).2) by rw [mkTy1])
    have hx : ((mkTyL l k).1.map (Ty.c false))[j]? = some [iT c, iT (nx c), .sl false ((mkTyL aa (nx (nx c))).1.map (Ty.c false))] := by rw [List.getElem?_map, hat, hmk]; exact congrArg some (Ty.c_mk ..)
    rw [hmk] at hsn
    repeat' (first
       | refine wp_seq_i ?_ | refine wp_region_t k_heldTyS rfl ?_ | refine Run.done rfl ?_ | refine then_n ?_ | refine then_r ?_ | refine then_e ?_ | refine Run.go1 rfl ?_ | refine wp_skip_i ?_ | refine wp_ret_i ?_
       | refine wp_exit_i ?_ | refine wp_block_i ?_ | refine block_n ?_ | refine block_r ?_ | refine block_e ?_ | refine block_o rfl ?_ | refine wp_cond_t rfl ?_ | refine wp_cond_f rfl ?_
       | refine Run.ix rfl rfl rfl rfl rfl rfl rfl hx rfl rfl rfl ?_ | refine Run.call rfl rfl rfl (hT) rfl rfl ?_ | (refine wp_cond_k rfl rfl rfl ?_ ?_ <;> intro _) | (refine wp_cond_i rfl ?_ ?_ <;> intro _))
    all_goals first
    | (exfalso; rename_i h; have h := of_decide_eq_true h; omega)
    | (exfalso; rename_i h; simp [wn] at h; done)
    | (exfalso; rename_i h; simp [wn] at h; done)
    | (exfalso; rename_i h; simp [hml, hlt] at h; done)
    | (refine back_i [.keep [0, 1, 4, 5] []] (j + 1) rfl ?_ (by omega) (by omega)
       simp only [w_succ hlt (by omega), hsn]; first | done | rfl)
    | trace_state
  · have hjl : j = l.length := by omega
    subst hjl
    rw [List.take_length]
    repeat' (first
       | refine wp_seq_i ?_ | refine wp_region_t k_heldTyS rfl ?_ | refine Run.done rfl ?_ | refine then_n ?_ | refine then_r ?_ | refine then_e ?_ | refine Run.go1 rfl ?_ | refine wp_skip_i ?_ | refine wp_ret_i ?_
       | refine wp_exit_i ?_ | refine wp_block_i ?_ | refine block_n ?_ | refine block_r ?_ | refine block_e ?_ | refine block_o rfl ?_ | refine wp_cond_t rfl ?_ | refine wp_cond_f rfl ?_
       | (refine wp_cond_k rfl rfl rfl ?_ ?_ <;> intro _) | (refine wp_cond_i rfl ?_ ?_ <;> intro _))
    all_goals first
    | (exfalso; rename_i h2; simp [hml] at h2; done)
    | (refine ret_m [] rfl rfl rfl; done)
    | trace_state
theorem heldTyS_t : ∀ (l : List Ty) (k : Int), l.length ≤ 1048576 → Ty.okL l → 0 ≤ k → k + cTyL l ≤ 9223372036854775000 → Tells Try.prog E0 X 36 [.t (.sl false ((mkTyL l k).1.map (Ty.c false))), iA k] (iA (mkTyL l k).2)
  | l, k, hl, hok, h0, hk => heldTyS_of l k hl h0 hk (fun t ht kk nn aa e k h1 h2 => by
    have ho := Ty.okL_iff.1 hok t ht
    have hs := List.sizeOf_lt_of_mem ht
    subst e
    rw [Ty.ok] at ho
    exact heldTyS_t aa k ho.1 ho.2 h1 h2)
  termination_by l => SizeOf.sizeOf l
  decreasing_by
    all_goals (simp at hs; omega)
def k_heldTermS : List (Nat × List Nat) := [(0, [0, 1]), (1, [0, 1, 5]), (2, [0, 1, 5, 9]), (3, [0, 1, 5]), (4, [0, 1, 5, 18]), (5, [4]), (6, [0, 1, 5]), (7, [0, 1, 5, 27]), (8, [4]), (9, [0, 1, 5]), (10, [0, 1, 5, 37]), (11, [4]), (12, [0, 1, 5]), (13, [0, 1, 5, 47]), (14, [4]), (15, [0, 1, 5]), (16, [0, 1, 5, 57]), (17, [4]), (18, [0, 1, 5]), (19, [0, 1, 5, 67]), (20, [4]), (21, [0, 1, 5]), (22, [0, 1, 5]), (23, [0, 1, 5, 79]), (24, [4]), (25, [0, 1, 5]), (26, [0, 1, 5, 88]), (27, [4]), (28, [0, 1, 5]), (29, [0, 1, 5, 97]), (30, [4]), (31, [4])]
theorem heldTmS_of (l : List Tm) (k : Int) (hl : l.length ≤ 1048576) (hok : Tm.okL l) (h0 : 0 ≤ k) (hk : k + cTmL l ≤ 9223372036854775000) (hy : ∀ (aa : List Ty), aa.length ≤ 1048576 → Ty.okL aa → ∀ k : Int, 0 ≤ k → k + cTyL aa ≤ 9223372036854775000 → Tells Try.prog E0 X 36 [.t (.sl false ((mkTyL aa k).1.map (Ty.c false))), iA k] (iA (mkTyL aa k).2)) (h : ∀ t ∈ l, ∀ kk nn ss zz tt ts aa, t = Tm.mk kk nn ss zz tt ts aa → ∀ k : Int, 0 ≤ k → k + cTmL aa ≤ 9223372036854775000 → Tells Try.prog E0 X 37 [.t (.sl false ((mkTmL aa k).1.map (Tm.c false))), iA k] (iA (mkTmL aa k).2)) : Tells Try.prog E0 X 37 [.t (.sl false ((mkTmL l k).1.map (Tm.c false))), iA k] (iA (mkTmL l k).2) := by
  have hml := mkTmL_len l k
  refine Tells.by Try.func37 (by simp [Try.f37]) (Body.i rfl rfl rfl (fun _ => rfl) fun f => ?_)
  repeat' (first
     | refine wp_seq_i ?_ | refine wp_region_t k_heldTermS rfl ?_ | refine Run.done rfl ?_ | refine then_n ?_ | refine then_r ?_ | refine then_e ?_ | refine Run.go1 rfl ?_ | refine wp_skip_i ?_ | refine wp_ret_i ?_
     | refine wp_exit_i ?_ | refine wp_block_i ?_ | refine block_n ?_ | refine block_r ?_ | refine block_e ?_ | refine block_o rfl ?_ | refine wp_cond_t rfl ?_ | refine wp_cond_f rfl ?_
     | (refine wp_cond_k rfl rfl rfl ?_ ?_ <;> intro _) | (refine wp_cond_i rfl ?_ ?_ <;> intro _))
  refine wp_loop_k (α := Nat) [.keep [0, 1, 4, 5] []] (fun j => [(1, iA (mkTmL (l.take j) k).2), (5, iA j)]) (fun _ => []) (fun _ => []) (fun j => j ≤ l.length) (fun j => l.length - j) 0 rfl (fun _ => rfl) (by rw [List.take_zero, mkTmL]; rfl) (by simp) ?_
  rintro j hj
  by_cases hlt : j < l.length
  · obtain ⟨t, ht⟩ : ∃ t, l[j]? = some t := ⟨_, List.getElem?_eq_getElem hlt⟩
    have htk : l.take (j + 1) = l.take j ++ [t] := by rw [List.take_succ_eq_append_getElem hlt, (List.getElem?_eq_some_iff.1 ht).2]
    have hat := mkTmL_at l k j t ht
    have hct := cTmL_take l j t ht
    have hup := mkTmL_up (l.take j) k h0 (by omega)
    have hsn := congrArg Prod.snd (mkTmL_snoc t (l.take j) k)
    rw [← htk] at hsn
    simp only at hsn
    generalize (mkTmL (l.take j) k).2 = c at hat hup hsn
    have hmem := List.mem_of_getElem? ht
    have hokt := Tm.okL_iff.1 hok t hmem
    obtain ⟨kk, nn, ss, zz, ⟨tk, tn, ta⟩, ts, aa⟩ := t
    rw [Tm.ok, Ty.ok] at hokt
    rw [cTm, cTy] at hct
    have hn1 := nx_eq (k := c) (by omega) (by omega)
    have hn2 := nx_eq (k := nx c) (by omega) (by omega)
    have hn3 := nx_eq (k := nx (nx c)) (by omega) (by omega)
    have hn4 := nx_eq (k := nx (nx (nx c))) (by omega) (by omega)
    have hn5 := nx_eq (k := nx (nx (nx (nx c)))) (by omega) (by omega)
    have hn6 := n6_eq (k := c) (by omega) (by omega)
    have hx1 := mtx_t (X := X) (nx (nx c)) (by omega)
    have hx2 := mtx_t (X := X) (nx (nx (nx c))) (by omega)
    have hu1 := mkTyL_up ta (n6 c) (by omega) (by omega)
    have hu2 := mkTyL_up ts (mkTyL ta (n6 c)).2 (by omega) (by omega)
    have hu3 := mkTmL_up aa (mkTyL ts (mkTyL ta (n6 c)).2).2 (by omega) (by omega)
    have hT1 := hy ta hokt.2.2.1.1 hokt.2.2.1.2 (n6 c) (by omega) (by omega)
    have hT2 := hy ts hokt.2.2.2.1.1 hokt.2.2.2.1.2 (mkTyL ta (n6 c)).2 (by omega) (by omega)
    have hT3 := h _ hmem kk nn ss zz (.mk tk tn ta) ts aa rfl (mkTyL ts (mkTyL ta (n6 c)).2).2 (by omega) (by omega)
    have hs1 := str_beq (mtx (nx (nx c))) (mtx (nx (nx c)))
    have hs2 := str_beq (mtx (nx (nx (nx c)))) (mtx (nx (nx (nx c))))
    have hmk := (show mkTm1 (.mk kk nn ss zz (.mk tk tn ta) ts aa) c = (.mk c (nx c) (mtx (nx (nx c))) (mtx (nx (nx (nx c)))) (.mk (nx (nx (nx (nx c)))) (nx (nx (nx (nx (nx c))))) (mkTyL ta (n6 c)).1) (mkTyL ts (mkTyL ta (n6 c)).2).1 (mkTmL aa (mkTyL ts (mkTyL ta (n6 c)).2).2).1, (mkTmL aa (mkTyL ts (mkTyL ta (n6 c)).2).2).2) by rw [mkTm1])
    have hx : ((mkTmL l k).1.map (Tm.c false))[j]? = some [iT c, iT (nx c), sT (mtx (nx (nx c))), sT (mtx (nx (nx (nx c)))), iT (nx (nx (nx (nx c)))), iT (nx (nx (nx (nx (nx c))))), .sl false ((mkTyL ta (n6 c)).1.map (Ty.c false)), .sl false ((mkTyL ts (mkTyL ta (n6 c)).2).1.map (Ty.c false)), .sl false ((mkTmL aa (mkTyL ts (mkTyL ta (n6 c)).2).2).1.map (Tm.c false))] := by rw [List.getElem?_map, hat, hmk]; exact congrArg some (Tm.c_mk ..)
    rw [hmk] at hsn
    repeat' (first
       | refine wp_seq_i ?_ | refine wp_region_t k_heldTermS rfl ?_ | refine Run.done rfl ?_ | refine then_n ?_ | refine then_r ?_ | refine then_e ?_ | refine Run.go1 rfl ?_ | refine wp_skip_i ?_ | refine wp_ret_i ?_
       | refine wp_exit_i ?_ | refine wp_block_i ?_ | refine block_n ?_ | refine block_r ?_ | refine block_e ?_ | refine block_o rfl ?_ | refine wp_cond_t rfl ?_ | refine wp_cond_f rfl ?_
       | refine wp_region_qt k_heldTermS rfl 8 (by decide +kernel) rfl rfl ?_ | refine RunQ.go1 rfl ?_ | refine RunQ.done rfl ?_ | refine Run.ix rfl rfl rfl rfl rfl rfl rfl hx rfl rfl rfl ?_
       | refine RunQ.ix rfl rfl rfl rfl rfl rfl rfl hx rfl rfl rfl ?_ | refine Run.call rfl rfl rfl (hT1) rfl rfl ?_ | refine Run.call rfl rfl rfl (hT2) rfl rfl ?_ | refine Run.call rfl rfl rfl (hT3) rfl rfl ?_
       | refine RunQ.call rfl rfl rfl rfl rfl rfl (hx1) (.inl rfl) rfl rfl ?_ | refine RunQ.call rfl rfl rfl rfl rfl rfl (hx2) (.inl rfl) rfl rfl ?_ | (refine wp_cond_k rfl rfl rfl ?_ ?_ <;> intro _)
       | (refine wp_cond_i rfl ?_ ?_ <;> intro _))
    all_goals first
    | (exfalso; rename_i h; have h := of_decide_eq_true h; omega)
    | (exfalso; rename_i h; simp [wn] at h; done)
    | (exfalso; rename_i h; simp [wn, hs1, hs2] at h; done)
    | (exfalso; rename_i h; simp [hml, hlt] at h; done)
    | (refine back_i [.keep [0, 1, 4, 5] []] (j + 1) rfl ?_ (by omega) (by omega)
       simp only [w_succ hlt (by omega), hsn]; first | done | rfl)
    | trace_state
  · have hjl : j = l.length := by omega
    subst hjl
    rw [List.take_length]
    repeat' (first
       | refine wp_seq_i ?_ | refine wp_region_t k_heldTermS rfl ?_ | refine Run.done rfl ?_ | refine then_n ?_ | refine then_r ?_ | refine then_e ?_ | refine Run.go1 rfl ?_ | refine wp_skip_i ?_ | refine wp_ret_i ?_
       | refine wp_exit_i ?_ | refine wp_block_i ?_ | refine block_n ?_ | refine block_r ?_ | refine block_e ?_ | refine block_o rfl ?_ | refine wp_cond_t rfl ?_ | refine wp_cond_f rfl ?_
       | (refine wp_cond_k rfl rfl rfl ?_ ?_ <;> intro _) | (refine wp_cond_i rfl ?_ ?_ <;> intro _))
    all_goals first
    | (exfalso; rename_i h2; simp [hml] at h2; done)
    | (refine ret_m [] rfl rfl rfl; done)
    | trace_state
theorem heldTmS_t : ∀ (l : List Tm) (k : Int), l.length ≤ 1048576 → Tm.okL l → 0 ≤ k → k + cTmL l ≤ 9223372036854775000 → Tells Try.prog E0 X 37 [.t (.sl false ((mkTmL l k).1.map (Tm.c false))), iA k] (iA (mkTmL l k).2)
  | l, k, hl, hok, h0, hk => heldTmS_of l k hl hok h0 hk (fun aa h1 h2 k h3 h4 => heldTyS_t aa k h1 h2 h3 h4) (fun t ht kk nn ss zz tt ts aa e k h1 h2 => by
    have ho := Tm.okL_iff.1 hok t ht
    have hs := List.sizeOf_lt_of_mem ht
    subst e
    rw [Tm.ok] at ho
    exact heldTmS_t aa k ho.2.2.2.2.1 ho.2.2.2.2.2 h1 h2)
  termination_by l => SizeOf.sizeOf l
  decreasing_by
    all_goals (simp at hs; omega)
def k_heldTy : List (Nat × List Nat) := [(0, [1, 2]), (1, [1]), (2, [1, 10]), (3, [4]), (4, [4])]
def k_heldTerm : List (Nat × List Nat) := [(0, [1, 2]), (1, [1, 2]), (2, [1, 2, 10]), (3, [4]), (4, [1, 2]), (5, [1, 2, 16]), (6, [4]), (7, [1]), (8, [1, 22]), (9, [4]), (10, [4])]
theorem heldTy_t (kk nn : Int) (aa : List Ty) (k : Int) (hl : aa.length ≤ 1048576) (hok : Ty.okL aa) (h0 : 0 ≤ k) (hk : k + cTyL aa ≤ 9223372036854775000) : Tells Try.prog E0 X 35 [tyA false kk nn (mkTyL aa k).1, iA k] (iA (mkTyL aa k).2) := by
  have hup := mkTyL_up aa k h0 (by omega)
  refine Tells.by Try.func35 (by simp [Try.f35]) (Body.i rfl rfl rfl (fun _ => rfl) fun f => ?_)
  repeat' (first
     | refine wp_seq_i ?_ | refine wp_region_t k_heldTy rfl ?_ | refine Run.done rfl ?_ | refine then_n ?_ | refine then_r ?_ | refine then_e ?_ | refine Run.go1 rfl ?_ | refine wp_skip_i ?_ | refine wp_ret_i ?_
     | refine wp_exit_i ?_ | refine wp_block_i ?_ | refine block_n ?_ | refine block_r ?_ | refine block_e ?_ | refine block_o rfl ?_ | refine wp_cond_t rfl ?_ | refine wp_cond_f rfl ?_
     | refine Run.call rfl rfl rfl (heldTyS_t aa k hl hok h0 hk) rfl rfl ?_ | (refine wp_cond_k rfl rfl rfl ?_ ?_ <;> intro _) | (refine wp_cond_i rfl ?_ ?_ <;> intro _))
  all_goals first
  | (exfalso; rename_i h; have h := of_decide_eq_true h; omega)
  | exact ret_m [] rfl rfl rfl
theorem heldTerm_t (t : Tm) (k : Int) (hok : t.ok) (h0 : 0 ≤ k) (hk : k + cTm t ≤ 9223372036854775000) : Tells Try.prog E0 X 12 [(mkTm0 t k).1.a false, iA k] (iA (mkTm0 t k).2) := by
  obtain ⟨kk, nn, ss, zz, ⟨tk, tn, ta⟩, ts, aa⟩ := t
  rw [Tm.ok, Ty.ok] at hok
  rw [cTm, cTy] at hk
  rw [mkTm0]
  obtain ⟨-, -, l3, l4, l5, l6⟩ := hok
  have h1 := mkTyL_up ta k h0 (by omega)
  have h2 := mkTyL_up ts (mkTyL ta k).2 (by omega) (by omega)
  have h3 := mkTmL_up aa (mkTyL ts (mkTyL ta k).2).2 (by omega) (by omega)
  have c1 := heldTy_t (X := X) tk tn ta k l3.1 l3.2 h0 (by omega)
  have c2 := heldTyS_t (X := X) ts (mkTyL ta k).2 l4.1 l4.2 (by omega) (by omega)
  have c3 := heldTmS_t (X := X) aa (mkTyL ts (mkTyL ta k).2).2 l5 l6 (by omega) (by omega)
  refine Tells.by Try.func12 (by simp [Try.f12]) (Body.i rfl rfl rfl (fun _ => rfl) fun f => ?_)
  repeat' (first
     | refine wp_seq_i ?_ | refine wp_region_t k_heldTerm rfl ?_ | refine Run.done rfl ?_ | refine then_n ?_ | refine then_r ?_ | refine then_e ?_ | refine Run.go1 rfl ?_ | refine wp_skip_i ?_ | refine wp_ret_i ?_
     | refine wp_exit_i ?_ | refine wp_block_i ?_ | refine block_n ?_ | refine block_r ?_ | refine block_e ?_ | refine block_o rfl ?_ | refine wp_cond_t rfl ?_ | refine wp_cond_f rfl ?_
     | refine Run.call rfl rfl rfl (c1) rfl rfl ?_ | refine Run.call rfl rfl rfl (c2) rfl rfl ?_ | refine Run.call rfl rfl rfl (c3) rfl rfl ?_ | (refine wp_cond_k rfl rfl rfl ?_ ?_ <;> intro _)
     | (refine wp_cond_i rfl ?_ ?_ <;> intro _))
  all_goals first
  | (exfalso; rename_i h; have h := of_decide_eq_true h; omega)
  | exact ret_m [] rfl rfl rfl
end Go.Proofs

set_option linter.unusedVariables false
set_option linter.unusedSimpArgs false
set_option maxHeartbeats 4000000
namespace Go.Proofs
open Go Go.Ev
set_option maxRecDepth 100000
variable {X : Rel3}
def rng (a lo hi : Int) : Bool := decide (lo ≤ a) && decide (a ≤ hi)
theorem rng_iff {a lo hi : Int} : rng a lo hi = true ↔ lo ≤ a ∧ a ≤ hi := by simp [rng]
theorem in_t (a lo hi : Int) : Tells Try.prog E0 X 92 [iA a, iA lo, iA hi] (bA (rng a lo hi)) := by
  refine Tells.by Try.func92 (by simp [Try.f92]) (Body.i rfl rfl rfl (fun _ => rfl) fun f => ?_)
  repeat' (first
     | refine wp_seq_i ?_ | refine wp_region_i ?_ | refine Run.done rfl ?_ | refine then_n ?_ | refine then_r ?_ | refine then_e ?_ | refine Run.go1 rfl ?_ | refine wp_skip_i ?_ | refine wp_ret_i ?_ | refine wp_exit_i ?_
     | refine wp_block_i ?_ | refine block_n ?_ | refine block_r ?_ | refine block_e ?_ | refine block_o rfl ?_ | refine wp_cond_t rfl ?_ | refine wp_cond_f rfl ?_ | refine Run.gT rfl rfl rfl rfl ?_ | refine Run.pT rfl rfl ?_
     | (refine Run.splitG rfl rfl rfl rfl rfl rfl ?_ ?_ <;> intro _) | (refine Run.splitP rfl rfl rfl rfl ?_ ?_ <;> intro _) | (refine wp_cond_k rfl rfl rfl ?_ ?_ <;> intro _) | (refine wp_cond_i rfl ?_ ?_ <;> intro _))
  all_goals (refine ret_m [] rfl rfl ?_; simp_all [rng] <;> omega)
theorem l1In_t (a lo hi : Int) : Tells Try.prog E0 X 80 [iA a, iA lo, iA hi] (bA (rng a lo hi)) := by
  refine Tells.by Try.func80 (by simp [Try.f80]) (Body.i rfl rfl rfl (fun _ => rfl) fun f => ?_)
  repeat' (first
     | refine wp_seq_i ?_ | refine wp_region_i ?_ | refine Run.done rfl ?_ | refine then_n ?_ | refine then_r ?_ | refine then_e ?_ | refine Run.go1 rfl ?_ | refine wp_skip_i ?_ | refine wp_ret_i ?_ | refine wp_exit_i ?_
     | refine wp_block_i ?_ | refine block_n ?_ | refine block_r ?_ | refine block_e ?_ | refine block_o rfl ?_ | refine wp_cond_t rfl ?_ | refine wp_cond_f rfl ?_ | refine Run.gT rfl rfl rfl rfl ?_ | refine Run.pT rfl rfl ?_
     | (refine Run.splitG rfl rfl rfl rfl rfl rfl ?_ ?_ <;> intro _) | (refine Run.splitP rfl rfl rfl rfl ?_ ?_ <;> intro _) | (refine wp_cond_k rfl rfl rfl ?_ ?_ <;> intro _) | (refine wp_cond_i rfl ?_ ?_ <;> intro _))
  all_goals (refine ret_m [] rfl rfl ?_; simp_all [rng] <;> omega)
def tyPt (k : Int) : Int := if k = 1 ∨ k = 2 ∨ k = 3 then 0 else if k = 6 then 1 else if k = 4 ∨ k = 5 then 2 else -1
theorem l1Args_t (k : Int) : Tells Try.prog E0 X 100 [iA k] (iA (tyPt k)) := by
  refine Tells.by Try.func100 (by simp [Try.f100]) (Body.i rfl rfl rfl (fun _ => rfl) fun f => ?_)
  repeat' (first
     | refine wp_seq_i ?_ | refine wp_region_i ?_ | refine Run.done rfl ?_ | refine then_n ?_ | refine then_r ?_ | refine then_e ?_ | refine Run.go1 rfl ?_ | refine wp_skip_i ?_ | refine wp_ret_i ?_ | refine wp_exit_i ?_
     | refine wp_block_i ?_ | refine block_n ?_ | refine block_r ?_ | refine block_e ?_ | refine block_o rfl ?_ | refine wp_cond_t rfl ?_ | refine wp_cond_f rfl ?_ | refine Run.gT rfl rfl rfl rfl ?_ | refine Run.pT rfl rfl ?_
     | (refine Run.splitG rfl rfl rfl rfl rfl rfl ?_ ?_ <;> intro _) | (refine Run.splitP rfl rfl rfl rfl ?_ ?_ <;> intro _) | (refine wp_cond_k rfl rfl rfl ?_ ?_ <;> intro _) | (refine wp_cond_i rfl ?_ ?_ <;> intro _))
  all_goals (refine ret_m [] rfl rfl ?_; simp_all [tyPt]; done)
theorem tyParts_t (k : Int) : Tells Try.prog E0 X 101 [iA k] (iA (tyPt k)) := by
  refine Tells.by Try.func101 (by simp [Try.f101]) (Body.i rfl rfl rfl (fun _ => rfl) fun f => ?_)
  repeat' (first
     | refine wp_seq_i ?_ | refine wp_region_i ?_ | refine Run.done rfl ?_ | refine then_n ?_ | refine then_r ?_ | refine then_e ?_ | refine Run.go1 rfl ?_ | refine wp_skip_i ?_ | refine wp_ret_i ?_ | refine wp_exit_i ?_
     | refine wp_block_i ?_ | refine block_n ?_ | refine block_r ?_ | refine block_e ?_ | refine block_o rfl ?_ | refine wp_cond_t rfl ?_ | refine wp_cond_f rfl ?_ | refine Run.gT rfl rfl rfl rfl ?_ | refine Run.pT rfl rfl ?_
     | (refine Run.splitG rfl rfl rfl rfl rfl rfl ?_ ?_ <;> intro _) | (refine Run.splitP rfl rfl rfl rfl ?_ ?_ <;> intro _) | (refine wp_cond_k rfl rfl rfl ?_ ?_ <;> intro _) | (refine wp_cond_i rfl ?_ ?_ <;> intro _))
  all_goals (refine ret_m [] rfl rfl ?_; simp_all [tyPt]; done)
/-- a type's head is right -/
def tyHd (k n : Int) (m : Nat) : Bool := decide ((m : Int) = tyPt k) && (if k = 3 then rng n 0 1 else decide (n = 0))
mutual
def tyH : Ty → Bool
  | .mk k n a => tyHd k n a.length && tyHL a
def tyHL : List Ty → Bool
  | [] => true
  | t :: r => tyH t && tyHL r
end
mutual
def tyD : Ty → Nat
  | .mk _ _ a => tyDL a + 1
def tyDL : List Ty → Nat
  | [] => 0
  | t :: r => max (tyD t) (tyDL r)
end
mutual
def tyN : Ty → Nat
  | .mk _ _ a => tyNL a + 1
def tyNL : List Ty → Nat
  | [] => 0
  | t :: r => tyN t + tyNL r
end
def tyB (t : Ty) : Bool := tyH t && decide (tyD t ≤ 6) && decide (tyN t ≤ 60)
mutual
def lkT : Ty → Nat → Nat → Bool × Nat
  | .mk k n a, d, c => if d = 0 ∨ 60 < c + 1 ∨ tyHd k n a.length = false then (false, c + 1) else lkTL a (d - 1) (c + 1)
def lkTL : List Ty → Nat → Nat → Bool × Nat
  | [], _, c => (true, c)
  | t :: r, d, c => if (lkT t d c).1 then lkTL r d (lkT t d c).2 else (false, (lkT t d c).2)
end
mutual
theorem tyD_pos : ∀ t : Ty, 0 < tyD t
  | .mk _ _ a => by rw [tyD]; omega
theorem tyN_pos : ∀ t : Ty, 0 < tyN t
  | .mk _ _ a => by rw [tyN]; omega
end
mutual
theorem lkT_iff : ∀ (t : Ty) (d c : Nat), c ≤ 60 → ((lkT t d c).1 = true ↔ (tyH t = true ∧ tyD t ≤ d ∧ c + tyN t ≤ 60)) ∧ ((lkT t d c).1 = true → (lkT t d c).2 = c + tyN t)
  | .mk k n a, d, c, hc => by
    rw [lkT, tyH, tyD, tyN]
    split
    · rename_i h
      refine ⟨⟨fun e => (Bool.false_ne_true e).elim, fun ⟨e1, e2, e3⟩ => ?_⟩, fun e => (Bool.false_ne_true e).elim⟩
      exfalso
      rcases h with h | h | h
      · omega
      · omega
      · rw [h] at e1; simp at e1
    · rename_i h
      simp only [not_or, Nat.not_lt, Bool.not_eq_false] at h
      obtain ⟨h1, h2, h3⟩ := h
      obtain ⟨i1, i2⟩ := lkTL_iff a (d - 1) (c + 1) h2
      rw [h3, Bool.true_and]
      refine ⟨i1.trans ⟨fun ⟨x, y, z⟩ => ⟨x, by omega, by omega⟩, fun ⟨x, y, z⟩ => ⟨x, by omega, by omega⟩⟩, fun e => ?_⟩
      rw [i2 e]; omega
theorem lkTL_iff : ∀ (l : List Ty) (d c : Nat), c ≤ 60 → ((lkTL l d c).1 = true ↔ (tyHL l = true ∧ tyDL l ≤ d ∧ c + tyNL l ≤ 60)) ∧ ((lkTL l d c).1 = true → (lkTL l d c).2 = c + tyNL l)
  | [], d, c, hc => by rw [lkTL, tyHL, tyDL, tyNL]; simp; omega
  | t :: r, d, c, hc => by
    rw [lkTL, tyHL, tyDL, tyNL]
    obtain ⟨i1, i2⟩ := lkT_iff t d c hc
    split
    · rename_i h
      obtain ⟨j1, j2, j3⟩ := i1.1 h
      obtain ⟨k1, k2⟩ := lkTL_iff r d (lkT t d c).2 (by rw [i2 h]; omega)
      rw [i2 h] at k1 k2 ⊢
      rw [j1, Bool.true_and]
      refine ⟨k1.trans ⟨fun ⟨x, y, z⟩ => ⟨x, by omega, by omega⟩, fun ⟨x, y, z⟩ => ⟨x, by omega, by omega⟩⟩, fun e => ?_⟩
      rw [k2 e]; omega
    · rename_i h
      refine ⟨⟨fun e => (Bool.false_ne_true e).elim, fun ⟨e1, e2, e3⟩ => (h (i1.2 ⟨?_, by omega, by omega⟩)).elim⟩, fun e => (Bool.false_ne_true e).elim⟩
      rw [Bool.and_eq_true] at e1; exact e1.1
end
theorem lkT_tyB (t : Ty) : (lkT t 6 0).1 = tyB t := by
  have h := (lkT_iff t 6 0 (by omega)).1
  rw [Bool.eq_iff_iff, h, tyB]
  simp
  constructor
  · rintro ⟨a, b, c⟩; exact ⟨⟨a, b⟩, c⟩
  · rintro ⟨⟨a, b⟩, c⟩; exact ⟨a, b, c⟩
theorem lkTL_snoc (x : Ty) : ∀ (l : List Ty) (d c : Nat), lkTL (l ++ [x]) d c = if (lkTL l d c).1 then lkT x d (lkTL l d c).2 else lkTL l d c
  | [], d, c => by
    rw [List.nil_append, lkTL, lkTL, lkTL]
    simp only [if_true]
    split
    · rename_i h; rw [← h]
    · rename_i h; rw [← Bool.eq_false_iff.2 h]
  | t :: r, d, c => by
    rw [List.cons_append, lkTL, lkTL]
    split
    · exact lkTL_snoc x r d _
    · simp
theorem lkTL_drop : ∀ (l : List Ty) (k : Nat) (t : Ty) (d c : Nat), l[k]? = some t → lkTL (l.drop k) d c = if (lkT t d c).1 then lkTL (l.drop (k + 1)) d (lkT t d c).2 else (false, (lkT t d c).2) := by
  intro l k t d c h
  have hk := (List.getElem?_eq_some_iff.1 h).1
  rw [List.drop_eq_getElem_cons hk, (List.getElem?_eq_some_iff.1 h).2, lkTL]
def k_l1Look : List (Nat × List Nat) := [(0, [1, 2, 3]), (1, [1, 2, 3]), (2, [1, 2, 3, 51]), (3, [6]), (4, [1, 2, 3, 7]), (5, [1, 2, 3, 7, 56]), (6, [1, 2, 3, 7]), (7, [1, 2, 3, 7, 68]), (8, [6]), (9, [6])]
theorem l1Look_t : ∀ (t : Ty) (d c : Nat), Ty.ok t → d ≤ 1000 → c ≤ 60 → Tells Try.prog E0 X 91 [t.a false, iA d, .io [iA c]] (.io [bA (lkT t d c).1, .u, .u, .io [iA (lkT t d c).2]])
  | .mk kk nn aa, d, c, hok, hd, hc => by
    rw [Ty.ok] at hok
    rw [lkT]
    have hcw : IntKind.i64.wrap ((c : Int) + 1) = ((c + 1 : Nat) : Int) := by rw [w64] <;> omega
    have hh : tyHd kk nn aa.length = (decide ((aa.length : Int) = tyPt kk) && (if kk = 3 then rng nn 0 1 else decide (nn = 0))) := rfl
    refine Tells.by Try.func91 (by simp [Try.f91]) (Body.i rfl rfl rfl (fun _ => rfl) fun f => ?_)
    repeat' (first
       | refine wp_seq_i ?_ | refine wp_region_t k_l1Look rfl ?_ | refine Run.done rfl ?_ | refine then_n ?_ | refine then_r ?_ | refine then_e ?_ | refine Run.go1 rfl ?_ | refine wp_skip_i ?_ | refine wp_ret_i ?_
       | refine wp_exit_i ?_ | refine wp_block_i ?_ | refine block_n ?_ | refine block_r ?_ | refine block_e ?_ | refine block_o rfl ?_ | refine wp_cond_t rfl ?_ | refine wp_cond_f rfl ?_
       | refine wp_region_qt k_l1Look rfl 15 (by decide +kernel) rfl rfl ?_ | refine RunQ.go1 rfl ?_ | refine RunQ.done rfl ?_ | refine Run.gT rfl rfl rfl rfl ?_ | refine Run.pT rfl rfl ?_
       | (refine Run.splitG rfl rfl rfl rfl rfl rfl ?_ ?_ <;> intro _) | (refine Run.splitP rfl rfl rfl rfl ?_ ?_ <;> intro _) | refine RunQ.gT rfl rfl rfl rfl ?_ | refine RunQ.pT rfl rfl ?_
       | (refine RunQ.splitG rfl rfl rfl rfl rfl rfl ?_ ?_ <;> intro _) | (refine RunQ.splitP rfl rfl rfl rfl ?_ ?_ <;> intro _) | refine Run.call rfl rfl rfl (l1Args_t _) rfl rfl ?_
       | refine Run.call rfl rfl rfl (l1In_t _ _ _) rfl rfl ?_ | refine RunQ.call rfl rfl rfl rfl rfl rfl (l1Args_t _) (.inl rfl) rfl rfl ?_ | refine RunQ.call rfl rfl rfl rfl rfl rfl (l1In_t _ _ _) (.inl rfl) rfl rfl ?_
       | (refine wp_cond_k rfl rfl rfl ?_ ?_ <;> intro _) | (refine wp_cond_i rfl ?_ ?_ <;> intro _))
    all_goals first
    | (rename_i h
       refine ret_o [false, false, true] [] rfl rfl rfl (by simp) ?_
       rw [if_pos (by first | exact .inl (by simpa using h) | exact .inr (.inl (by rw [hcw] at h; have h := of_decide_eq_true h; omega)) | (exact .inr (.inr (by rw [hh]; simp_all; done)))), hcw]; done)
    | skip
    all_goals (
      have hnn : ¬ (d = 0 ∨ 60 < c + 1 ∨ tyHd kk nn aa.length = false) := by rw [hh]; rw [hcw] at *; simp_all <;> omega
      rw [if_neg hnn]
      simp only [not_or, Nat.not_lt] at hnn
      have hdw : IntKind.i64.wrap ((d : Int) - 1) = ((d - 1 : Nat) : Int) := by rw [w64] <;> omega
      refine wp_loop_k (α := Nat × Nat) [.last 300000, .keep [1, 2, 3, 7] [300000, 3]] (fun p => [(7, iA p.1)]) (fun p => [(300000, [iA p.2])]) (fun _ => []) (fun p => (p.1 ≤ aa.length ∧ p.2 ≤ 60) ∧ lkTL (aa.drop p.1) (d - 1) p.2 = lkTL aa (d - 1) (c + 1)) (fun p => aa.length - p.1) (0, c + 1) rfl (fun _ => rfl) (by simp only [hcw]; rfl) ⟨⟨Nat.zero_le _, hnn.2.1⟩, rfl⟩ ?_
      rintro ⟨j, m⟩ ⟨⟨hj, hm⟩, hI⟩
      simp only at hj hm hI
      by_cases hlt : j < aa.length
      · obtain ⟨t, ht⟩ : ∃ t, aa[j]? = some t := ⟨_, List.getElem?_eq_getElem hlt⟩
        have hokt := Ty.okL_iff.1 hok.2 t (List.mem_of_getElem? ht)
        have hT := l1Look_t t (d - 1) m hokt (by omega) hm
        rw [← hdw] at hT
        have hit := (lkT_iff t (d - 1) m hm)
        rw [lkTL_drop aa j t (d - 1) m ht] at hI
        generalize hr : lkT t (d - 1) m = r at hT hit hI
        clear hr
        obtain ⟨r1, r2⟩ := r
        obtain ⟨k2, n2, a2⟩ := t
        have hx : (aa.map (Ty.c false))[j]? = some [iT k2, iT n2, .sl false (a2.map (Ty.c false))] := by rw [List.getElem?_map, ht]; exact congrArg some (Ty.c_mk ..)
        repeat' (first
           | refine wp_seq_i ?_ | refine wp_region_t k_l1Look rfl ?_ | refine Run.done rfl ?_ | refine then_n ?_ | refine then_r ?_ | refine then_e ?_ | refine Run.go1 rfl ?_ | refine wp_skip_i ?_ | refine wp_ret_i ?_
           | refine wp_exit_i ?_ | refine wp_block_i ?_ | refine block_n ?_ | refine block_r ?_ | refine block_e ?_ | refine block_o rfl ?_ | refine wp_cond_t rfl ?_ | refine wp_cond_f rfl ?_ | refine Run.gT rfl rfl rfl rfl ?_
           | refine Run.pT rfl rfl ?_ | (refine Run.splitG rfl rfl rfl rfl rfl rfl ?_ ?_ <;> intro _) | (refine Run.splitP rfl rfl rfl rfl ?_ ?_ <;> intro _) | refine Run.ix rfl rfl rfl rfl rfl rfl rfl hx rfl rfl rfl ?_
           | refine Run.call rfl rfl rfl (hT) rfl rfl ?_ | (refine wp_cond_k rfl rfl rfl ?_ ?_ <;> intro _) | (refine wp_cond_i rfl ?_ ?_ <;> intro _))
        all_goals first
        | (exfalso; rename_i h; simp [hlt] at h; done)
        | (rename_i h
           have h : r1 = false := by simpa using h
           subst h
           refine ret_o [false, false, true] [] rfl rfl rfl (by simp) ?_
           rw [← hI]; rfl)
        | (rename_i h
           have h : r1 = true := by simpa using h
           subst h
           have h2 : r2 = m + tyN (.mk k2 n2 a2) := hit.2 rfl
           have h3 := hit.1.1 rfl
           refine back_i [.keep [1, 2, 3, 7] [300000, 3]] (j + 1, r2) rfl ?_ ⟨⟨by simp; omega, by simp; omega⟩, hI⟩ (by simp; omega)
           simp only [w_succ hlt (show aa.length ≤ 9223372036854775807 by omega)]; first | done | rfl)
        | trace_state
      · have hjl : j = aa.length := by omega
        repeat' (first
           | refine wp_seq_i ?_ | refine wp_region_t k_l1Look rfl ?_ | refine Run.done rfl ?_ | refine then_n ?_ | refine then_r ?_ | refine then_e ?_ | refine Run.go1 rfl ?_ | refine wp_skip_i ?_ | refine wp_ret_i ?_
           | refine wp_exit_i ?_ | refine wp_block_i ?_ | refine block_n ?_ | refine block_r ?_ | refine block_e ?_ | refine block_o rfl ?_ | refine wp_cond_t rfl ?_ | refine wp_cond_f rfl ?_ | refine Run.gT rfl rfl rfl rfl ?_
           | refine Run.pT rfl rfl ?_ | (refine Run.splitG rfl rfl rfl rfl rfl rfl ?_ ?_ <;> intro _) | (refine Run.splitP rfl rfl rfl rfl ?_ ?_ <;> intro _) | (refine wp_cond_k rfl rfl rfl ?_ ?_ <;> intro _)
           | (refine wp_cond_i rfl ?_ ?_ <;> intro _))
        all_goals first
        | (exfalso; rename_i h; simp [hjl] at h; done)
        | (refine ret_o [false, false, true] [] rfl rfl rfl (by simp) ?_
           rw [← hI, hjl, List.drop_length, lkTL]; done)
        | trace_state)
  termination_by t => SizeOf.sizeOf t
  decreasing_by
    all_goals (have hsz := List.sizeOf_lt_of_mem (List.mem_of_getElem? ht); simp; omega)
def k_TyOkS : List (Nat × List Nat) := [(0, [1]), (1, [1, 3]), (2, [2])]
theorem TyOkS_t (t : Ty) (hok : t.ok) : Tells Try.prog E0 X 78 [t.a false] (bA (tyB t)) := by
  have hT := l1Look_t (X := X) t 6 0 hok (by omega) (by omega)
  rw [lkT_tyB] at hT
  obtain ⟨kk, nn, aa⟩ := t
  refine Tells.by Try.func78 (by simp [Try.f78]) (Body.i rfl rfl rfl (fun _ => rfl) fun f => ?_)
  repeat' (first
     | refine wp_seq_i ?_ | refine wp_region_t k_TyOkS rfl ?_ | refine Run.done rfl ?_ | refine then_n ?_ | refine then_r ?_ | refine then_e ?_ | refine Run.go1 rfl ?_ | refine wp_skip_i ?_ | refine wp_ret_i ?_
     | refine wp_exit_i ?_ | refine wp_block_i ?_ | refine block_n ?_ | refine block_r ?_ | refine block_e ?_ | refine block_o rfl ?_ | refine wp_cond_t rfl ?_ | refine wp_cond_f rfl ?_
     | refine Run.call rfl rfl rfl (hT) rfl rfl ?_ | (refine wp_cond_k rfl rfl rfl ?_ ?_ <;> intro _) | (refine wp_cond_i rfl ?_ ?_ <;> intro _))
  all_goals exact ret_m [] rfl rfl rfl
end Go.Proofs

set_option linter.unusedVariables false
set_option linter.unusedSimpArgs false
set_option maxHeartbeats 4000000
namespace Go.Proofs
open Go Go.Ev
set_option maxRecDepth 100000
variable {X : Rel3}
mutual
theorem cTy_eq : ∀ t : Ty, cTy t = 2 * tyN t
  | .mk _ _ a => by rw [cTy, tyN, cTyL_eq a]; omega
theorem cTyL_eq : ∀ l : List Ty, cTyL l = 2 * tyNL l
  | [] => by rw [cTyL, tyNL]
  | t :: r => by rw [cTyL, tyNL, cTy_eq t, cTyL_eq r]; omega
end
mutual
theorem tyD_le : ∀ t : Ty, tyD t ≤ tyN t
  | .mk _ _ a => by rw [tyD, tyN]; have := tyDL_le a; omega
theorem tyDL_le : ∀ l : List Ty, tyDL l ≤ tyNL l
  | [] => by rw [tyDL, tyNL]; omega
  | t :: r => by rw [tyDL, tyNL]; have := tyD_le t; have := tyDL_le r; omega
end
theorem tyDL_snoc (x : Ty) : ∀ l : List Ty, tyDL (l ++ [x]) = max (tyDL l) (tyD x)
  | [] => by simp [tyDL]
  | t :: r => by rw [List.cons_append, tyDL, tyDL, tyDL_snoc x r]; omega
theorem tyNL_snoc (x : Ty) : ∀ l : List Ty, tyNL (l ++ [x]) = tyNL l + tyN x
  | [] => by rw [List.nil_append, tyNL, tyNL, tyNL]; omega
  | t :: r => by rw [List.cons_append, tyNL, tyNL, tyNL_snoc x r]; omega
theorem tyHL_snoc (x : Ty) : ∀ l : List Ty, tyHL (l ++ [x]) = (tyHL l && tyH x)
  | [] => by rw [List.nil_append, tyHL, tyHL, tyHL]; simp
  | t :: r => by rw [List.cons_append, tyHL, tyHL, tyHL_snoc x r, Bool.and_assoc]
theorem tyHL_iff : ∀ {l : List Ty}, tyHL l = true ↔ ∀ t ∈ l, tyH t = true
  | [] => by rw [tyHL]; simp
  | t :: r => by rw [tyHL, Bool.and_eq_true, tyHL_iff]; simp
theorem tyNL_take : ∀ (l : List Ty) (j : Nat) (x : Ty), l[j]? = some x → tyNL (l.take j) + tyN x ≤ tyNL l
  | [], j, x, h => by simp at h
  | t :: r, 0, x, h => by simp at h; subst h; rw [List.take_zero, tyNL, tyNL]; omega
  | t :: r, j + 1, x, h => by
    have := tyNL_take r j x (by simpa using h)
    rw [List.take_succ_cons, tyNL, tyNL]; omega
def meaTy (t : Ty) : AV := if tyH t then .tp [iA (tyD t), iA (tyN t), bA true] else .tp [iA 0, iA 0, bA false]
def k_measure : List (Nat × List Nat) := [(0, [1]), (1, [1, 33]), (2, [2, 3, 4]), (3, [1, 5, 6]), (4, [5, 6, 35, 36, 37]), (5, [5, 6, 35, 36, 37, 38]), (6, [5, 6, 8, 35, 36, 37]), (7, [5, 6, 9, 10, 11, 35, 36, 37]), (8, [5, 6, 9, 10, 35, 36, 37, 48]), (9, [2, 3, 4]), (10, [5, 6, 10, 35, 36, 37]), (11, [5, 6, 35, 36, 37]), (12, [5, 6, 35, 36, 37]), (13, [2, 3, 4])]
theorem measure_t : ∀ (t : Ty), Ty.ok t → tyN t ≤ 1000000000 → Tells Try.prog E0 X 95 [t.a false] (meaTy t)
  | .mk kk nn aa, hok, hc => by
    rw [Ty.ok] at hok
    rw [tyN] at hc
    have hh : tyHd kk nn aa.length = (decide ((aa.length : Int) = tyPt kk) && (if kk = 3 then rng nn 0 1 else decide (nn = 0))) := rfl
    have hme : meaTy (.mk kk nn aa) = if (tyHd kk nn aa.length && tyHL aa) = true then .tp [iA ((tyDL aa + 1 : Nat) : Int), iA ((tyNL aa + 1 : Nat) : Int), bA true] else .tp [iA 0, iA 0, bA false] := by unfold meaTy; rw [tyH, tyD, tyN]
    rw [hme]
    refine Tells.by Try.func95 (by simp [Try.f95]) (Body.i rfl rfl rfl (fun _ => rfl) fun f => ?_)
    repeat' (first
       | refine wp_seq_i ?_ | refine wp_region_t k_measure rfl ?_ | refine Run.done rfl ?_ | refine then_n ?_ | refine then_r ?_ | refine then_e ?_ | refine Run.go1 rfl ?_ | refine wp_skip_i ?_ | refine wp_ret_i ?_
       | refine wp_exit_i ?_ | refine wp_block_i ?_ | refine block_n ?_ | refine block_r ?_ | refine block_e ?_ | refine block_o rfl ?_ | refine wp_cond_t rfl ?_ | refine wp_cond_f rfl ?_
       | refine wp_region_qt k_measure rfl 6 (by decide +kernel) rfl rfl ?_ | refine RunQ.go1 rfl ?_ | refine RunQ.done rfl ?_ | refine Run.gT rfl rfl rfl rfl ?_ | refine Run.pT rfl rfl ?_
       | (refine Run.splitG rfl rfl rfl rfl rfl rfl ?_ ?_ <;> intro _) | (refine Run.splitP rfl rfl rfl rfl ?_ ?_ <;> intro _) | refine RunQ.gT rfl rfl rfl rfl ?_ | refine RunQ.pT rfl rfl ?_
       | (refine RunQ.splitG rfl rfl rfl rfl rfl rfl ?_ ?_ <;> intro _) | (refine RunQ.splitP rfl rfl rfl rfl ?_ ?_ <;> intro _) | refine Run.call rfl rfl rfl (tyParts_t _) rfl rfl ?_
       | refine RunQ.call rfl rfl rfl rfl rfl rfl (tyParts_t _) (.inl rfl) rfl rfl ?_ | (refine wp_cond_k rfl rfl rfl ?_ ?_ <;> intro _) | (refine wp_cond_i rfl ?_ ?_ <;> intro _))
    all_goals first
    | (refine ret_m [] rfl rfl ?_
       have hnh : tyHd kk nn aa.length = false := by rw [hh]; simp_all [rng] <;> omega
       rw [hnh]; first | done | rfl)
    | skip
    all_goals (
      have hyh : tyHd kk nn aa.length = true := by rw [hh]; simp_all [rng]
      rw [hyh, Bool.true_and]
      refine wp_loop_k (α := Nat) [.keep [5, 6, 35, 36, 37] []] (fun p => [(5, iA (tyDL (aa.take p))), (6, iA ((tyNL (aa.take p) + 1 : Nat) : Int)), (37, iA p)]) (fun _ => []) (fun _ => []) (fun p => p ≤ aa.length ∧ tyHL (aa.take p) = true) (fun p => aa.length - p) 0 rfl (fun _ => rfl) (by simp only [List.take_zero, tyDL, tyNL]; rfl) ⟨Nat.zero_le _, by rw [List.take_zero, tyHL]⟩ ?_
      rintro j ⟨hj, hI⟩
      by_cases hlt : j < aa.length
      · obtain ⟨t, ht⟩ : ∃ t, aa[j]? = some t := ⟨_, List.getElem?_eq_getElem hlt⟩
        have hmem := List.mem_of_getElem? ht
        have hokt := Ty.okL_iff.1 hok.2 t hmem
        have htk : aa.take (j + 1) = aa.take j ++ [t] := by rw [List.take_succ_eq_append_getElem hlt, (List.getElem?_eq_some_iff.1 ht).2]
        have hnt := tyNL_take aa j t ht
        have hT := measure_t t hokt (by omega)
        have hdd := tyDL_le (aa.take j)
        have hdt := tyD_le t
        have s1 := tyDL_snoc t (aa.take j)
        have s2 := tyNL_snoc t (aa.take j)
        have s3 := tyHL_snoc t (aa.take j)
        rw [← htk] at s1 s2 s3
        unfold meaTy at hT
        by_cases hth : tyH t = true
        · rw [if_pos hth] at hT
          generalize tyD t = d1 at *
          generalize tyN t = n1 at *
          generalize tyDL (aa.take j) = d0 at *
          generalize tyNL (aa.take j) = n0 at *
          obtain ⟨k2, n2, a2⟩ := t
          have hx : (aa.map (Ty.c false))[j]? = some [iT k2, iT n2, .sl false (a2.map (Ty.c false))] := by rw [List.getElem?_map, ht]; exact congrArg some (Ty.c_mk ..)
          repeat' (first
             | refine wp_seq_i ?_ | refine wp_region_t k_measure rfl ?_ | refine Run.done rfl ?_ | refine then_n ?_ | refine then_r ?_ | refine then_e ?_ | refine Run.go1 rfl ?_ | refine wp_skip_i ?_ | refine wp_ret_i ?_
             | refine wp_exit_i ?_ | refine wp_block_i ?_ | refine block_n ?_ | refine block_r ?_ | refine block_e ?_ | refine block_o rfl ?_ | refine wp_cond_t rfl ?_ | refine wp_cond_f rfl ?_
             | refine Run.ix rfl rfl rfl rfl rfl rfl rfl hx rfl rfl rfl ?_ | refine Run.call rfl rfl rfl (hT) rfl rfl ?_ | refine Run.one rfl rfl rfl ?_ | (refine wp_cond_k rfl rfl rfl ?_ ?_ <;> intro _)
             | (refine wp_cond_i rfl ?_ ?_ <;> intro _))
          all_goals first
          | (exfalso; rename_i h; simp [hlt] at h; done)
          | (exfalso; rename_i h; simp at h; done)
          | (refine back_i [.keep [5, 6, 35, 36, 37] []] (j + 1) rfl ?_ ⟨by omega, by rw [s3, hI, hth]; rfl⟩ (by omega)
             simp only [w_succ hlt (show aa.length ≤ 9223372036854775807 by omega), s1, s2]
             have e2 : IntKind.i64.wrap (((n0 + 1 : Nat) : Int) + n1) = ((n0 + n1 + 1 : Nat) : Int) := by rw [w64] <;> omega
             have e3 : (if (d1 : Int) > d0 then (d1 : Int) else d0) = ((max d0 d1 : Nat) : Int) := by split <;> omega
             rw [e2, e3]; first | done | rfl)
          | trace_state
        · rw [if_neg hth] at hT
          obtain ⟨k2, n2, a2⟩ := t
          have hx : (aa.map (Ty.c false))[j]? = some [iT k2, iT n2, .sl false (a2.map (Ty.c false))] := by rw [List.getElem?_map, ht]; exact congrArg some (Ty.c_mk ..)
          repeat' (first
             | refine wp_seq_i ?_ | refine wp_region_t k_measure rfl ?_ | refine Run.done rfl ?_ | refine then_n ?_ | refine then_r ?_ | refine then_e ?_ | refine Run.go1 rfl ?_ | refine wp_skip_i ?_ | refine wp_ret_i ?_
             | refine wp_exit_i ?_ | refine wp_block_i ?_ | refine block_n ?_ | refine block_r ?_ | refine block_e ?_ | refine block_o rfl ?_ | refine wp_cond_t rfl ?_ | refine wp_cond_f rfl ?_
             | refine Run.ix rfl rfl rfl rfl rfl rfl rfl hx rfl rfl rfl ?_ | refine Run.call rfl rfl rfl (hT) rfl rfl ?_ | refine Run.one rfl rfl rfl ?_ | (refine wp_cond_k rfl rfl rfl ?_ ?_ <;> intro _)
             | (refine wp_cond_i rfl ?_ ?_ <;> intro _))
          all_goals first
          | (exfalso; rename_i h; simp [hlt] at h; done)
          | (exfalso; rename_i h; simp at h; done)
          | (refine ret_m [] rfl rfl ?_
             rw [if_neg (fun e => hth (tyHL_iff.1 e _ hmem))])
          | trace_state
      · have hjl : j = aa.length := by omega
        subst hjl
        rw [List.take_length] at hI ⊢
        have hdd := tyDL_le aa
        rw [if_pos hI]
        repeat' (first
           | refine wp_seq_i ?_ | refine wp_region_t k_measure rfl ?_ | refine Run.done rfl ?_ | refine then_n ?_ | refine then_r ?_ | refine then_e ?_ | refine Run.go1 rfl ?_ | refine wp_skip_i ?_ | refine wp_ret_i ?_
           | refine wp_exit_i ?_ | refine wp_block_i ?_ | refine block_n ?_ | refine block_r ?_ | refine block_e ?_ | refine block_o rfl ?_ | refine wp_cond_t rfl ?_ | refine wp_cond_f rfl ?_ | refine Run.gT rfl rfl rfl rfl ?_
           | refine Run.pT rfl rfl ?_ | (refine Run.splitG rfl rfl rfl rfl rfl rfl ?_ ?_ <;> intro _) | (refine Run.splitP rfl rfl rfl rfl ?_ ?_ <;> intro _) | (refine wp_cond_k rfl rfl rfl ?_ ?_ <;> intro _)
           | (refine wp_cond_i rfl ?_ ?_ <;> intro _))
        all_goals first
        | (exfalso; rename_i h; simp at h; done)
        | (refine ret_m [] rfl rfl ?_
           have e1 : IntKind.i64.wrap ((tyDL aa : Int) + 1) = ((tyDL aa + 1 : Nat) : Int) := by rw [w64] <;> omega
           rw [e1]; done)
        | trace_state)
  termination_by t => SizeOf.sizeOf t
  decreasing_by
    all_goals (have hsz := List.sizeOf_lt_of_mem (List.mem_of_getElem? ht); simp; omega)
def k_TyOkI : List (Nat × List Nat) := [(0, [1]), (1, [3, 4, 5]), (2, [2])]
theorem TyOkI_t (t : Ty) (hok : t.ok) (hc : tyN t ≤ 1000000000) : Tells Try.prog E0 X 85 [t.a false] (bA (tyB t)) := by
  have hT := measure_t (X := X) t hok hc
  unfold meaTy at hT
  have htb : tyB t = (tyH t && decide (tyD t ≤ 6) && decide (tyN t ≤ 60)) := rfl
  rw [htb]
  generalize tyD t = d1 at *
  generalize tyN t = n1 at *
  have e1 : decide ((n1 : Int) ≤ 60) = decide (n1 ≤ 60) := by rw [decide_eq_decide]; omega
  have e2 : decide ((d1 : Int) ≤ 6) = decide (d1 ≤ 6) := by rw [decide_eq_decide]; omega
  by_cases hth : tyH t = true
  · rw [if_pos hth] at hT
    obtain ⟨kk, nn, aa⟩ := t
    refine Tells.by Try.func85 (by simp [Try.f85]) (Body.i rfl rfl rfl (fun _ => rfl) fun f => ?_)
    repeat' (first
       | refine wp_seq_i ?_ | refine wp_region_t k_TyOkI rfl ?_ | refine Run.done rfl ?_ | refine then_n ?_ | refine then_r ?_ | refine then_e ?_ | refine Run.go1 rfl ?_ | refine wp_skip_i ?_ | refine wp_ret_i ?_
       | refine wp_exit_i ?_ | refine wp_block_i ?_ | refine block_n ?_ | refine block_r ?_ | refine block_e ?_ | refine block_o rfl ?_ | refine wp_cond_t rfl ?_ | refine wp_cond_f rfl ?_ | refine Run.gT rfl rfl rfl rfl ?_
       | refine Run.pT rfl rfl ?_ | (refine Run.splitG rfl rfl rfl rfl rfl rfl ?_ ?_ <;> intro _) | (refine Run.splitP rfl rfl rfl rfl ?_ ?_ <;> intro _) | refine Run.call rfl rfl rfl (hT) rfl rfl ?_
       | (refine wp_cond_k rfl rfl rfl ?_ ?_ <;> intro _) | (refine wp_cond_i rfl ?_ ?_ <;> intro _))
    all_goals (refine ret_m [] rfl rfl ?_; first | (simp_all; done) | (simp_all <;> omega))
  · rw [if_neg hth] at hT
    obtain ⟨kk, nn, aa⟩ := t
    refine Tells.by Try.func85 (by simp [Try.f85]) (Body.i rfl rfl rfl (fun _ => rfl) fun f => ?_)
    repeat' (first
       | refine wp_seq_i ?_ | refine wp_region_t k_TyOkI rfl ?_ | refine Run.done rfl ?_ | refine then_n ?_ | refine then_r ?_ | refine then_e ?_ | refine Run.go1 rfl ?_ | refine wp_skip_i ?_ | refine wp_ret_i ?_
       | refine wp_exit_i ?_ | refine wp_block_i ?_ | refine block_n ?_ | refine block_r ?_ | refine block_e ?_ | refine block_o rfl ?_ | refine wp_cond_t rfl ?_ | refine wp_cond_f rfl ?_ | refine Run.gT rfl rfl rfl rfl ?_
       | refine Run.pT rfl rfl ?_ | (refine Run.splitG rfl rfl rfl rfl rfl rfl ?_ ?_ <;> intro _) | (refine Run.splitP rfl rfl rfl rfl ?_ ?_ <;> intro _) | refine Run.call rfl rfl rfl (hT) rfl rfl ?_
       | (refine wp_cond_k rfl rfl rfl ?_ ?_ <;> intro _) | (refine wp_cond_i rfl ?_ ?_ <;> intro _))
    all_goals (refine ret_m [] rfl rfl ?_; simp_all; done)
end Go.Proofs

set_option linter.unusedVariables false
set_option linter.unusedSimpArgs false
set_option maxHeartbeats 4000000
namespace Go.Proofs
open Go Go.Ev
set_option maxRecDepth 100000
variable {X : Rel3}
def k_SameTyS : List (Nat × List Nat) := [(0, [2, 3]), (1, [2, 3, 26]), (2, [4]), (3, [2, 3, 5]), (4, [2, 3, 5, 31]), (5, [2, 3, 5]), (6, [2, 3, 5, 45]), (7, [4]), (8, [4])]
theorem SameTyS_t : ∀ (x y : Ty), x.ok → Tells Try.prog E0 X 54 [x.a false, y.a false] (bA (decide (x = y)))
  | .mk kk nn aa, .mk kk2 nn2 aa2, hl => by
    have hl2 : aa.length ≤ 1048576 ∧ Ty.okL aa := by rw [Ty.ok] at hl; exact hl
    have hd : decide (Ty.mk kk nn aa = Ty.mk kk2 nn2 aa2) = decide (kk = kk2 ∧ nn = nn2 ∧ aa = aa2) := by rw [decide_eq_decide, Ty.mk.injEq]
    rw [hd]
    refine Tells.by Try.func54 (by simp [Try.f54]) (Body.i rfl rfl rfl (fun _ => rfl) fun f => ?_)
    repeat' (first
       | refine wp_seq_i ?_ | refine wp_region_t k_SameTyS rfl ?_ | refine Run.done rfl ?_ | refine then_n ?_ | refine then_r ?_ | refine then_e ?_ | refine Run.go1 rfl ?_ | refine wp_skip_i ?_ | refine wp_ret_i ?_
       | refine wp_exit_i ?_ | refine wp_block_i ?_ | refine block_n ?_ | refine block_r ?_ | refine block_e ?_ | refine block_o rfl ?_ | refine wp_cond_t rfl ?_ | refine wp_cond_f rfl ?_ | refine Run.gT rfl rfl rfl rfl ?_
       | refine Run.pT rfl rfl ?_ | (refine Run.splitG rfl rfl rfl rfl rfl rfl ?_ ?_ <;> intro _) | (refine Run.splitP rfl rfl rfl rfl ?_ ?_ <;> intro _) | (refine wp_cond_k rfl rfl rfl ?_ ?_ <;> intro _)
       | (refine wp_cond_i rfl ?_ ?_ <;> intro _))
    all_goals first
    | (refine ret_m [] rfl rfl ?_
       have hne : ¬ (kk = kk2 ∧ nn = nn2 ∧ aa = aa2) := by
         rintro ⟨e1, e2, e3⟩
         subst e1 e2 e3
         rename_i h
         simp at h
       rw [decide_eq_false hne]; done)
    | skip
    rename_i h1 h2 h3
    have e1 : kk = kk2 := by simpa using h1
    have e2 : nn = nn2 := by simpa using h2
    have hab : aa.length = aa2.length := by have : (aa.length : Int) = aa2.length := by simpa using h3
                                            omega
    subst e1 e2
    refine wp_loop_k (α := Nat) [.keep [2, 3, 5] [2, 3]] (fun p => [(5, iA p)]) (fun _ => []) (fun _ => []) (fun p => p ≤ aa.length ∧ aa.take p = aa2.take p) (fun p => aa.length - p) 0 rfl (fun _ => rfl) rfl ⟨by simp, by simp⟩ ?_
    rintro j ⟨hj, he⟩
    by_cases hlt : j < aa.length
    · obtain ⟨t, ht⟩ : ∃ t, aa[j]? = some t := ⟨_, List.getElem?_eq_getElem hlt⟩
      obtain ⟨u, hu⟩ : ∃ u, aa2[j]? = some u := ⟨_, List.getElem?_eq_getElem (by omega)⟩
      have ta0 : aa.take (j + 1) = aa.take j ++ [t] := by rw [List.take_succ_eq_append_getElem hlt, (List.getElem?_eq_some_iff.1 ht).2]
      have tb0 : aa2.take (j + 1) = aa2.take j ++ [u] := by rw [List.take_succ_eq_append_getElem (by omega), (List.getElem?_eq_some_iff.1 hu).2]
      have hT := SameTyS_t t u (Ty.okL_iff.1 hl2.2 t (List.mem_of_getElem? ht))
      obtain ⟨k3, n3, a3⟩ := t
      obtain ⟨k4, n4, a4⟩ := u
      have hx : (aa.map (Ty.c false))[j]? = some [iT k3, iT n3, .sl false (a3.map (Ty.c false))] := by rw [List.getElem?_map, ht]; exact congrArg some (Ty.c_mk ..)
      have hy : (aa2.map (Ty.c false))[j]? = some [iT k4, iT n4, .sl false (a4.map (Ty.c false))] := by rw [List.getElem?_map, hu]; exact congrArg some (Ty.c_mk ..)
      repeat' (first
         | refine wp_seq_i ?_ | refine wp_region_t k_SameTyS rfl ?_ | refine Run.done rfl ?_ | refine then_n ?_ | refine then_r ?_ | refine then_e ?_ | refine Run.go1 rfl ?_ | refine wp_skip_i ?_ | refine wp_ret_i ?_
         | refine wp_exit_i ?_ | refine wp_block_i ?_ | refine block_n ?_ | refine block_r ?_ | refine block_e ?_ | refine block_o rfl ?_ | refine wp_cond_t rfl ?_ | refine wp_cond_f rfl ?_
         | refine wp_region_qt k_SameTyS rfl 10 (by decide +kernel) rfl rfl ?_ | refine RunQ.go1 rfl ?_ | refine RunQ.done rfl ?_ | refine RunQ.ix rfl rfl rfl rfl rfl rfl rfl hx rfl rfl rfl ?_
         | refine RunQ.ix rfl rfl rfl rfl rfl rfl rfl hy rfl rfl rfl ?_ | refine Run.ix rfl rfl rfl rfl rfl rfl rfl hx rfl rfl rfl ?_ | refine Run.ix rfl rfl rfl rfl rfl rfl rfl hy rfl rfl rfl ?_
         | refine RunQ.call rfl rfl rfl rfl rfl rfl (hT) (.inl rfl) rfl rfl ?_ | refine Run.call rfl rfl rfl (hT) rfl rfl ?_ | (refine wp_cond_k rfl rfl rfl ?_ ?_ <;> intro _) | (refine wp_cond_i rfl ?_ ?_ <;> intro _))
      all_goals first
      | (rename_i h2
         refine ret_m [] rfl rfl ?_
         have hne : Ty.mk k3 n3 a3 ≠ Ty.mk k4 n4 a4 := by simpa only [Bool.not_eq_true', decide_eq_false_iff_not] using h2
         rw [decide_eq_false (fun e => hne (by
           have h3 : aa.take (j + 1) = aa2.take (j + 1) := by rw [e.2.2]
           rw [ta0, tb0, he] at h3
           exact List.singleton_inj.1 (List.append_cancel_left h3)))]; done)
      | (rename_i h2
         have heq : Ty.mk k3 n3 a3 = Ty.mk k4 n4 a4 := by simpa only [Bool.not_eq_false', decide_eq_true_eq] using h2
         refine back_i [.keep [2, 3, 5] [2, 3]] (j + 1) rfl ?_ ⟨by omega, ?_⟩ (by omega)
         · simp only [w_succ hlt (show aa.length ≤ 9223372036854775807 by omega)]
         · rw [ta0, tb0, he, heq])
      | (exfalso; rename_i h2; simp [hlt] at h2; done)
      | trace_state
    · have hjl : j = aa.length := by omega
      repeat' (first
         | refine wp_seq_i ?_ | refine wp_region_t k_SameTyS rfl ?_ | refine Run.done rfl ?_ | refine then_n ?_ | refine then_r ?_ | refine then_e ?_ | refine Run.go1 rfl ?_ | refine wp_skip_i ?_ | refine wp_ret_i ?_
         | refine wp_exit_i ?_ | refine wp_block_i ?_ | refine block_n ?_ | refine block_r ?_ | refine block_e ?_ | refine block_o rfl ?_ | refine wp_cond_t rfl ?_ | refine wp_cond_f rfl ?_
         | (refine wp_cond_k rfl rfl rfl ?_ ?_ <;> intro _) | (refine wp_cond_i rfl ?_ ?_ <;> intro _))
      all_goals first
      | (exfalso; rename_i h2; simp [hjl] at h2; done)
      | (refine ret_m [] rfl rfl ?_
         rw [hjl] at he
         have : aa = aa2 := by rw [List.take_length, hab, List.take_length] at he; exact he
         simp [this]; done)
      | trace_state
  termination_by x => SizeOf.sizeOf x
  decreasing_by
    all_goals (have hsz := List.sizeOf_lt_of_mem (List.mem_of_getElem? ht); simp; omega)
def k_EqFTy : List (Nat × List Nat) := [(0, [0, 1, 2]), (1, [0, 1, 2, 14]), (2, [6]), (3, [1, 2, 15, 16, 17]), (4, [1, 2, 15, 16, 17, 18]), (5, [1, 2, 7, 8, 15, 16, 17]), (6, [1, 2, 8, 9, 15, 16, 17]), (7, [1, 2, 15, 16, 17, 30]), (8, [6]), (9, [1, 2, 15, 16, 17]), (10, [6])]
theorem EqFTy_of (fi : Nat) (hfi : fi = 55) (aa aa2 : List Ty) (hl : aa.length ≤ 1048576) (h : ∀ x ∈ aa, ∀ y, Tells Try.prog E0 X 55 [x.a false, y.a false] (bA (decide (x = y)))) : Tells Try.prog E0 X 56 [.t (.sl false (aa.map (Ty.c false))), .t (.sl false (aa2.map (Ty.c false))), .t (.fn fi [])] (bA (decide (aa = aa2))) := by
  subst hfi
  refine Tells.by Try.func56 (by simp [Try.f56]) (Body.i rfl rfl rfl (fun _ => rfl) fun f => ?_)
  repeat' (first
     | refine wp_seq_i ?_ | refine wp_region_t k_EqFTy rfl ?_ | refine Run.done rfl ?_ | refine then_n ?_ | refine then_r ?_ | refine then_e ?_ | refine Run.go1 rfl ?_ | refine wp_skip_i ?_ | refine wp_ret_i ?_
     | refine wp_exit_i ?_ | refine wp_block_i ?_ | refine block_n ?_ | refine block_r ?_ | refine block_e ?_ | refine block_o rfl ?_ | refine wp_cond_t rfl ?_ | refine wp_cond_f rfl ?_
     | (refine wp_cond_k rfl rfl rfl ?_ ?_ <;> intro _) | (refine wp_cond_i rfl ?_ ?_ <;> intro _))
  · rename_i h1
    refine ret_m [] rfl rfl ?_
    simp at h1
    rw [decide_eq_false (fun e => h1 (by rw [e]))]
  rename_i h1
  have hab : aa.length = aa2.length := by
    have : (aa.length : Int) = aa2.length := by simpa using h1
    omega
  refine wp_loop_k (α := Nat) [.keep [0, 1, 2, 15, 16, 17] []] (fun p => [(17, iA p)]) (fun _ => []) (fun _ => []) (fun p => p ≤ aa.length ∧ aa.take p = aa2.take p) (fun p => aa.length - p) 0 rfl (fun _ => rfl) rfl ⟨by simp, by simp⟩ ?_
  rintro j ⟨hj, he⟩
  by_cases hlt : j < aa.length
  · obtain ⟨t, ht⟩ : ∃ t, aa[j]? = some t := ⟨_, List.getElem?_eq_getElem hlt⟩
    obtain ⟨u, hu⟩ : ∃ u, aa2[j]? = some u := ⟨_, List.getElem?_eq_getElem (by omega)⟩
    have ta0 : aa.take (j + 1) = aa.take j ++ [t] := by rw [List.take_succ_eq_append_getElem hlt, (List.getElem?_eq_some_iff.1 ht).2]
    have tb0 : aa2.take (j + 1) = aa2.take j ++ [u] := by rw [List.take_succ_eq_append_getElem (by omega), (List.getElem?_eq_some_iff.1 hu).2]
    have hT := h t (List.mem_of_getElem? ht) u
    obtain ⟨k3, n3, a3⟩ := t
    obtain ⟨k4, n4, a4⟩ := u
    have hx : (aa.map (Ty.c false))[j]? = some [iT k3, iT n3, .sl false (a3.map (Ty.c false))] := by rw [List.getElem?_map, ht]; exact congrArg some (Ty.c_mk ..)
    have hy : (aa2.map (Ty.c false))[j]? = some [iT k4, iT n4, .sl false (a4.map (Ty.c false))] := by rw [List.getElem?_map, hu]; exact congrArg some (Ty.c_mk ..)
    repeat' (first
       | refine wp_seq_i ?_ | refine wp_region_t k_EqFTy rfl ?_ | refine Run.done rfl ?_ | refine then_n ?_ | refine then_r ?_ | refine then_e ?_ | refine Run.go1 rfl ?_ | refine wp_skip_i ?_ | refine wp_ret_i ?_
       | refine wp_exit_i ?_ | refine wp_block_i ?_ | refine block_n ?_ | refine block_r ?_ | refine block_e ?_ | refine block_o rfl ?_ | refine wp_cond_t rfl ?_ | refine wp_cond_f rfl ?_
       | refine Run.ix rfl rfl rfl rfl rfl rfl rfl hx rfl rfl rfl ?_ | refine Run.ix rfl rfl rfl rfl rfl rfl rfl hy rfl rfl rfl ?_ | refine Run.callF rfl rfl rfl rfl rfl (hT) rfl rfl ?_
       | refine Run.call rfl rfl rfl (hT) rfl rfl ?_ | refine Run.one rfl rfl rfl ?_ | (refine wp_cond_k rfl rfl rfl ?_ ?_ <;> intro _) | (refine wp_cond_i rfl ?_ ?_ <;> intro _))
    all_goals first
    | (rename_i h2
       refine ret_m [] rfl rfl ?_
       have hne : Ty.mk k3 n3 a3 ≠ Ty.mk k4 n4 a4 := by simpa only [Bool.not_eq_true', decide_eq_false_iff_not] using h2
       rw [decide_eq_false (fun e => hne (by
         have h3 : aa.take (j + 1) = aa2.take (j + 1) := by rw [e]
         rw [ta0, tb0, he] at h3
         exact List.singleton_inj.1 (List.append_cancel_left h3)))]; done)
    | (rename_i h2
       have heq : Ty.mk k3 n3 a3 = Ty.mk k4 n4 a4 := by simpa only [Bool.not_eq_false', decide_eq_true_eq] using h2
       refine back_i [.keep [0, 1, 2, 15, 16, 17] []] (j + 1) rfl ?_ ⟨by omega, ?_⟩ (by omega)
       · simp only [w_succ hlt (show aa.length ≤ 9223372036854775807 by omega)]
       · rw [ta0, tb0, he, heq])
    | (exfalso; rename_i h2; simp [hlt] at h2; done)
    | trace_state
  · have hjl : j = aa.length := by omega
    repeat' (first
       | refine wp_seq_i ?_ | refine wp_region_t k_EqFTy rfl ?_ | refine Run.done rfl ?_ | refine then_n ?_ | refine then_r ?_ | refine then_e ?_ | refine Run.go1 rfl ?_ | refine wp_skip_i ?_ | refine wp_ret_i ?_
       | refine wp_exit_i ?_ | refine wp_block_i ?_ | refine block_n ?_ | refine block_r ?_ | refine block_e ?_ | refine block_o rfl ?_ | refine wp_cond_t rfl ?_ | refine wp_cond_f rfl ?_
       | (refine wp_cond_k rfl rfl rfl ?_ ?_ <;> intro _) | (refine wp_cond_i rfl ?_ ?_ <;> intro _))
    all_goals first
    | (exfalso; rename_i h2; simp [hjl] at h2; done)
    | (refine ret_m [] rfl rfl ?_
       rw [hjl] at he
       have : aa = aa2 := by rw [List.take_length, hab, List.take_length] at he; exact he
       simp [this]; done)
    | trace_state
def k_SameTyI : List (Nat × List Nat) := [(0, [2, 3]), (1, [4])]
theorem SameTyI_t : ∀ (x y : Ty), x.ok → Tells Try.prog E0 X 55 [x.a false, y.a false] (bA (decide (x = y)))
  | .mk kk nn aa, .mk kk2 nn2 aa2, hl => by
    have hl2 : aa.length ≤ 1048576 ∧ Ty.okL aa := by rw [Ty.ok] at hl; exact hl
    have hS := EqFTy_of (X := X) 55 rfl aa aa2 hl2.1 (fun t ht y => SameTyI_t t y (Ty.okL_iff.1 hl2.2 t ht))
    have hd : decide (Ty.mk kk nn aa = Ty.mk kk2 nn2 aa2) = decide (kk = kk2 ∧ nn = nn2 ∧ aa = aa2) := by rw [decide_eq_decide, Ty.mk.injEq]
    rw [hd]
    refine Tells.by Try.func55 (by simp [Try.f55]) (Body.i rfl rfl rfl (fun _ => rfl) fun f => ?_)
    repeat' (first
       | refine wp_seq_i ?_ | refine wp_region_t k_SameTyI rfl ?_ | refine Run.done rfl ?_ | refine then_n ?_ | refine then_r ?_ | refine then_e ?_ | refine Run.go1 rfl ?_ | refine wp_skip_i ?_ | refine wp_ret_i ?_
       | refine wp_exit_i ?_ | refine wp_block_i ?_ | refine block_n ?_ | refine block_r ?_ | refine block_e ?_ | refine block_o rfl ?_ | refine wp_cond_t rfl ?_ | refine wp_cond_f rfl ?_ | refine Run.gT rfl rfl rfl rfl ?_
       | refine Run.pT rfl rfl ?_ | (refine Run.splitG rfl rfl rfl rfl rfl rfl ?_ ?_ <;> intro _) | (refine Run.splitP rfl rfl rfl rfl ?_ ?_ <;> intro _) | refine Run.call rfl rfl rfl (hS) rfl rfl ?_
       | (refine wp_cond_k rfl rfl rfl ?_ ?_ <;> intro _) | (refine wp_cond_i rfl ?_ ?_ <;> intro _))
    all_goals (refine ret_m [] rfl rfl ?_; clear hS; simp_all; done)
  termination_by x => SizeOf.sizeOf x
  decreasing_by
    all_goals (have hsz := List.sizeOf_lt_of_mem ht; simp; omega)
end Go.Proofs

set_option linter.unusedVariables false
set_option linter.unusedSimpArgs false
set_option maxHeartbeats 4000000
namespace Go.Proofs
open Go Go.Ev
set_option maxRecDepth 100000
variable {X : Rel3}
/-- a byte of a name, the first one or another -/
def nmC (i : Nat) (c : Int) : Bool := (decide (97 ≤ c) && decide (c ≤ 122)) || (decide (i ≠ 0) && ((decide (48 ≤ c) && decide (c ≤ 57)) || decide (c = 46)))
theorem nmC_iff {i : Nat} {c : Int} : nmC i c = true ↔ (97 ≤ c ∧ c ≤ 122) ∨ (i ≠ 0 ∧ ((48 ≤ c ∧ c ≤ 57) ∨ c = 46)) := by simp [nmC]
def nmG (i : Nat) : List UInt8 → Bool
  | [] => true
  | c :: r => nmC i (c.toNat : Int) && nmG (i + 1) r
def nmB (s : ByteArray) : Bool := rng s.size 1 8 && nmG 0 s.data.toList
theorem bAt {s : ByteArray} {j : Nat} (h : j < s.size) : ∃ c : UInt8, s[j]? = some c ∧ s.data.toList[j]? = some c := by
  obtain ⟨a⟩ := s
  have h' : j < a.size := h
  refine ⟨a[j], ?_, ?_⟩
  · show (if h : j < (ByteArray.mk a).size then some ((ByteArray.mk a)[j]'h) else none) = some a[j]
    rw [dif_pos h]; rfl
  · rw [List.getElem?_eq_getElem (by simpa using h'), Array.getElem_toList]
theorem nmG_drop (s : ByteArray) (j : Nat) (c : UInt8) (h : s.data.toList[j]? = some c) : nmG j (s.data.toList.drop j) = (nmC j (c.toNat : Int) && nmG (j + 1) (s.data.toList.drop (j + 1))) := by
  have hk := (List.getElem?_eq_some_iff.1 h).1
  rw [List.drop_eq_getElem_cons hk, (List.getElem?_eq_some_iff.1 h).2, nmG]
theorem szL (s : ByteArray) : s.data.toList.length = s.size := rfl
theorem u8lt (c : UInt8) : (c.toNat : Int) < 256 := by have := c.toNat_lt; omega
theorem u8w (c : UInt8) : IntKind.i64.wrap (c.toNat : Int) = c.toNat := by have := u8lt c; rw [w64] <;> omega
def k_isName : List (Nat × List Nat) := [(0, [0]), (1, [0, 7, 8]), (2, [0, 7, 8, 9]), (3, [0, 3, 7, 8]), (4, [0, 3, 4, 7, 8]), (5, [0, 3, 4, 5, 7, 8]), (6, [0, 7, 8, 37]), (7, [2]), (8, [0, 7, 8]), (9, [2])]
theorem isName_t (s : ByteArray) (hl : s.size ≤ 1048576) : Tells Try.prog E0 X 93 [sA s] (bA (nmB s)) := by
  refine Tells.by Try.func93 (by simp [Try.f93]) (Body.i rfl rfl rfl (fun _ => rfl) fun f => ?_)
  repeat' (first
     | refine wp_seq_i ?_ | refine wp_region_t k_isName rfl ?_ | refine Run.done rfl ?_ | refine then_n ?_ | refine then_r ?_ | refine then_e ?_ | refine Run.go1 rfl ?_ | refine wp_skip_i ?_ | refine wp_ret_i ?_
     | refine wp_exit_i ?_ | refine wp_block_i ?_ | refine block_n ?_ | refine block_r ?_ | refine block_e ?_ | refine block_o rfl ?_ | refine wp_cond_t rfl ?_ | refine wp_cond_f rfl ?_
     | (refine wp_cond_k rfl rfl rfl ?_ ?_ <;> intro _) | (refine wp_cond_i rfl ?_ ?_ <;> intro _))
  refine wp_loop_k (α := Nat) [.keep [0, 7, 8] []] (fun p => [(8, iA p)]) (fun _ => []) (fun _ => []) (fun p => p ≤ s.size ∧ nmG p (s.data.toList.drop p) = nmG 0 s.data.toList) (fun p => s.size - p) 0 rfl (fun _ => rfl) rfl ⟨Nat.zero_le _, rfl⟩ ?_
  rintro j ⟨hj, hI⟩
  by_cases hlt : j < s.size
  · obtain ⟨c, hc1, hc2⟩ := bAt hlt
    rw [nmG_drop s j c hc2] at hI
    have hj0 : decide ((j : Int) = 0) = decide (j = 0) := by rw [decide_eq_decide]; omega
    have hcl := u8lt c
    repeat' (first
       | refine wp_seq_i ?_ | refine wp_region_t k_isName rfl ?_ | refine Run.done rfl ?_ | refine then_n ?_ | refine then_r ?_ | refine then_e ?_ | refine Run.go1 rfl ?_ | refine wp_skip_i ?_ | refine wp_ret_i ?_
       | refine wp_exit_i ?_ | refine wp_block_i ?_ | refine block_n ?_ | refine block_r ?_ | refine block_e ?_ | refine block_o rfl ?_ | refine wp_cond_t rfl ?_ | refine wp_cond_f rfl ?_ | refine Run.gT rfl rfl rfl rfl ?_
       | refine Run.pT rfl rfl ?_ | (refine Run.splitG rfl rfl rfl rfl rfl rfl ?_ ?_ <;> intro _) | (refine Run.splitP rfl rfl rfl rfl ?_ ?_ <;> intro _) | refine Run.sx rfl rfl rfl rfl rfl hc1 rfl ?_
       | (refine wp_cond_k rfl rfl rfl ?_ ?_ <;> intro _) | (refine wp_cond_i rfl ?_ ?_ <;> intro _))
    all_goals first
    | (exfalso; rename_i h; simp [hlt] at h; done)
    | (have hcf : nmC j (c.toNat : Int) = false := by
         refine Bool.eq_false_iff.2 fun e => ?_
         rw [nmC_iff] at e
         clear hI hc1 hc2 hj0
         simp only [Bool.not_eq_true', Bool.not_eq_false', decide_eq_true_eq, decide_eq_false_iff_not, beq_iff_eq, beq_eq_false_iff_ne, bne_iff_ne, bne_eq_false_iff_eq, ne_eq, Bool.not_eq_true, Bool.not_eq_false] at *
         omega
       refine ret_m [] rfl rfl ?_
       unfold nmB; rw [← hI, hcf]; simp; done)
    | (have hct : nmC j (c.toNat : Int) = true := by
         rw [nmC_iff]
         clear hI hc1 hc2 hj0
         simp only [Bool.not_eq_true', Bool.not_eq_false', decide_eq_true_eq, decide_eq_false_iff_not, beq_iff_eq, beq_eq_false_iff_ne, bne_iff_ne, bne_eq_false_iff_eq, ne_eq, Bool.not_eq_true, Bool.not_eq_false] at *
         omega
       rw [hct, Bool.true_and] at hI
       refine back_i [.keep [0, 7, 8] []] (j + 1) rfl ?_ ⟨by omega, hI⟩ (by omega)
       simp only [w_succ hlt (show s.size ≤ 9223372036854775807 by omega)]; done)
    | trace_state
  · have hjl : j = s.size := by omega
    subst hjl
    rw [List.drop_eq_nil_of_le (by rw [szL]; exact Nat.le_refl _), nmG] at hI
    repeat' (first
       | refine wp_seq_i ?_ | refine wp_region_t k_isName rfl ?_ | refine Run.done rfl ?_ | refine then_n ?_ | refine then_r ?_ | refine then_e ?_ | refine Run.go1 rfl ?_ | refine wp_skip_i ?_ | refine wp_ret_i ?_
       | refine wp_exit_i ?_ | refine wp_block_i ?_ | refine block_n ?_ | refine block_r ?_ | refine block_e ?_ | refine block_o rfl ?_ | refine wp_cond_t rfl ?_ | refine wp_cond_f rfl ?_
       | refine Run.call rfl rfl rfl (in_t _ _ _) rfl rfl ?_ | (refine wp_cond_k rfl rfl rfl ?_ ?_ <;> intro _) | (refine wp_cond_i rfl ?_ ?_ <;> intro _))
    all_goals first
    | (exfalso; rename_i h; simp at h; done)
    | (refine ret_m [] rfl rfl ?_; unfold nmB; rw [← hI, Bool.and_true]; done)
    | trace_state
def k_l2Name : List (Nat × List Nat) := [(0, [0, 1]), (1, [0, 1, 17]), (2, [4]), (3, [0, 1, 5]), (4, [0, 1, 5, 21]), (5, [0, 1, 5]), (6, [0, 1, 5, 6]), (7, [0, 1, 5, 42]), (8, [4]), (9, [4])]
theorem l2Name_t (s : ByteArray) (hl : s.size ≤ 1048576) : Tells Try.prog E0 X 77 [sA s, bA false] (bA (nmB s)) := by
  by_cases hr : rng s.size 1 8 = true
  rotate_left 1
  · refine Tells.by Try.func77 (by simp [Try.f77]) (Body.i rfl rfl rfl (fun _ => rfl) fun f => ?_)
    repeat' (first
       | refine wp_seq_i ?_ | refine wp_region_t k_l2Name rfl ?_ | refine Run.done rfl ?_ | refine then_n ?_ | refine then_r ?_ | refine then_e ?_ | refine Run.go1 rfl ?_ | refine wp_skip_i ?_ | refine wp_ret_i ?_
       | refine wp_exit_i ?_ | refine wp_block_i ?_ | refine block_n ?_ | refine block_r ?_ | refine block_e ?_ | refine block_o rfl ?_ | refine wp_cond_t rfl ?_ | refine wp_cond_f rfl ?_ | refine Run.gT rfl rfl rfl rfl ?_
       | refine Run.pT rfl rfl ?_ | (refine Run.splitG rfl rfl rfl rfl rfl rfl ?_ ?_ <;> intro _) | (refine Run.splitP rfl rfl rfl rfl ?_ ?_ <;> intro _) | refine Run.call rfl rfl rfl (l1In_t _ _ _) rfl rfl ?_
       | (refine wp_cond_k rfl rfl rfl ?_ ?_ <;> intro _) | (refine wp_cond_i rfl ?_ ?_ <;> intro _))
    all_goals first
    | (refine ret_m [] rfl rfl ?_; unfold nmB; rw [Bool.eq_false_iff.2 hr]; rfl)
    | (exfalso; rename_i h; simp [hr] at h; done)
    | trace_state
  have hs := rng_iff.1 hr
  have h0 : 0 < s.size := by omega
  obtain ⟨c0, hd1, hd2⟩ := bAt h0
  have hw0 := u8w c0
  have hnb : nmB s = nmG 0 s.data.toList := by unfold nmB; rw [hr, Bool.true_and]
  rw [hnb]
  by_cases hc0 : rng (c0.toNat : Int) 97 122 = true
  rotate_left 1
  · have hcf : nmG 0 s.data.toList = false := by
      have := nmG_drop s 0 c0 hd2
      rw [List.drop_zero] at this
      rw [this, show nmC 0 (c0.toNat : Int) = false by unfold nmC; unfold rng at hc0; simpa using hc0]; rfl
    rw [hcf]
    refine Tells.by Try.func77 (by simp [Try.f77]) (Body.i rfl rfl rfl (fun _ => rfl) fun f => ?_)
    repeat' (first
       | refine wp_seq_i ?_ | refine wp_region_t k_l2Name rfl ?_ | refine Run.done rfl ?_ | refine then_n ?_ | refine then_r ?_ | refine then_e ?_ | refine Run.go1 rfl ?_ | refine wp_skip_i ?_ | refine wp_ret_i ?_
       | refine wp_exit_i ?_ | refine wp_block_i ?_ | refine block_n ?_ | refine block_r ?_ | refine block_e ?_ | refine block_o rfl ?_ | refine wp_cond_t rfl ?_ | refine wp_cond_f rfl ?_ | refine Run.gT rfl rfl rfl rfl ?_
       | refine Run.pT rfl rfl ?_ | (refine Run.splitG rfl rfl rfl rfl rfl rfl ?_ ?_ <;> intro _) | (refine Run.splitP rfl rfl rfl rfl ?_ ?_ <;> intro _) | refine Run.call rfl rfl rfl (l1In_t _ _ _) rfl rfl ?_
       | refine Run.sx rfl rfl rfl rfl rfl hd1 rfl ?_ | (refine wp_cond_k rfl rfl rfl ?_ ?_ <;> intro _) | (refine wp_cond_i rfl ?_ ?_ <;> intro _))
    all_goals first
    | (refine ret_m [] rfl rfl rfl; done)
    | (exfalso; rename_i h; simp [hr] at h; done)
    | (exfalso; rename_i h; rw [hw0] at h; simp [hc0] at h; done)
    | trace_state
  refine Tells.by Try.func77 (by simp [Try.f77]) (Body.i rfl rfl rfl (fun _ => rfl) fun f => ?_)
  repeat' (first
     | refine wp_seq_i ?_ | refine wp_region_t k_l2Name rfl ?_ | refine Run.done rfl ?_ | refine then_n ?_ | refine then_r ?_ | refine then_e ?_ | refine Run.go1 rfl ?_ | refine wp_skip_i ?_ | refine wp_ret_i ?_
     | refine wp_exit_i ?_ | refine wp_block_i ?_ | refine block_n ?_ | refine block_r ?_ | refine block_e ?_ | refine block_o rfl ?_ | refine wp_cond_t rfl ?_ | refine wp_cond_f rfl ?_ | refine Run.gT rfl rfl rfl rfl ?_
     | refine Run.pT rfl rfl ?_ | (refine Run.splitG rfl rfl rfl rfl rfl rfl ?_ ?_ <;> intro _) | (refine Run.splitP rfl rfl rfl rfl ?_ ?_ <;> intro _) | refine Run.call rfl rfl rfl (l1In_t _ _ _) rfl rfl ?_
     | refine Run.sx rfl rfl rfl rfl rfl hd1 rfl ?_ | (refine wp_cond_k rfl rfl rfl ?_ ?_ <;> intro _) | (refine wp_cond_i rfl ?_ ?_ <;> intro _))
  all_goals first
  | (exfalso; rename_i h; simp [hr] at h; done)
  | (exfalso; rename_i h; rw [hw0] at h; simp [hc0] at h; done)
  | skip
  refine wp_loop_k (α := Nat) [.keep [0, 1, 5] []] (fun p => [(5, iA p)]) (fun _ => []) (fun _ => []) (fun p => p ≤ s.size ∧ nmG p (s.data.toList.drop p) = nmG 0 s.data.toList) (fun p => s.size - p) 0 rfl (fun _ => rfl) rfl ⟨Nat.zero_le _, rfl⟩ ?_
  rintro j ⟨hj, hI⟩
  by_cases hlt : j < s.size
  · obtain ⟨c, hc1, hc2⟩ := bAt hlt
    have hcl := u8lt c
    have hw := u8w c
    rw [nmG_drop s j c hc2] at hI
    have hcj : nmC j (c.toNat : Int) = (rng (c.toNat : Int) 97 122 || rng (c.toNat : Int) 48 57 || decide ((c.toNat : Int) = 46)) := by
      unfold nmC rng
      by_cases hj0 : j = 0
      · subst hj0
        have e : c = c0 := Option.some.inj (hc2.symm.trans hd2)
        subst e
        unfold rng at hc0
        rw [hc0]; simp
      · rw [decide_eq_true hj0]; simp [Bool.or_assoc]
    repeat' (first
       | refine wp_seq_i ?_ | refine wp_region_t k_l2Name rfl ?_ | refine Run.done rfl ?_ | refine then_n ?_ | refine then_r ?_ | refine then_e ?_ | refine Run.go1 rfl ?_ | refine wp_skip_i ?_ | refine wp_ret_i ?_
       | refine wp_exit_i ?_ | refine wp_block_i ?_ | refine block_n ?_ | refine block_r ?_ | refine block_e ?_ | refine block_o rfl ?_ | refine wp_cond_t rfl ?_ | refine wp_cond_f rfl ?_ | refine Run.gT rfl rfl rfl rfl ?_
       | refine Run.pT rfl rfl ?_ | (refine Run.splitG rfl rfl rfl rfl rfl rfl ?_ ?_ <;> intro _) | (refine Run.splitP rfl rfl rfl rfl ?_ ?_ <;> intro _) | refine Run.call rfl rfl rfl (l1In_t _ _ _) rfl rfl ?_
       | refine Run.sx rfl rfl rfl rfl rfl hc1 rfl ?_ | (refine wp_cond_k rfl rfl rfl ?_ ?_ <;> intro _) | (refine wp_cond_i rfl ?_ ?_ <;> intro _))
    all_goals rw [hw] at *
    all_goals first
    | (exfalso; rename_i h; simp [hlt] at h; done)
    | (have hcf : nmC j (c.toNat : Int) = false := by
         rw [hcj]; clear hI; simp_all; done
       refine ret_m [] rfl rfl ?_
       rw [← hI, hcf]; rfl)
    | (have hct : nmC j (c.toNat : Int) = true := by
         rw [hcj]; clear hI; simp_all; done
       rw [hct, Bool.true_and] at hI
       refine back_i [.keep [0, 1, 5] []] (j + 1) rfl ?_ ⟨by omega, hI⟩ (by omega)
       simp only [w_succ hlt (show s.size ≤ 9223372036854775807 by omega)]; done)
    | trace_state
  · have hjl : j = s.size := by omega
    subst hjl
    rw [List.drop_eq_nil_of_le (by rw [szL]; exact Nat.le_refl _), nmG] at hI
    repeat' (first
       | refine wp_seq_i ?_ | refine wp_region_t k_l2Name rfl ?_ | refine Run.done rfl ?_ | refine then_n ?_ | refine then_r ?_ | refine then_e ?_ | refine Run.go1 rfl ?_ | refine wp_skip_i ?_ | refine wp_ret_i ?_
       | refine wp_exit_i ?_ | refine wp_block_i ?_ | refine block_n ?_ | refine block_r ?_ | refine block_e ?_ | refine block_o rfl ?_ | refine wp_cond_t rfl ?_ | refine wp_cond_f rfl ?_ | refine Run.gT rfl rfl rfl rfl ?_
       | refine Run.pT rfl rfl ?_ | (refine Run.splitG rfl rfl rfl rfl rfl rfl ?_ ?_ <;> intro _) | (refine Run.splitP rfl rfl rfl rfl ?_ ?_ <;> intro _) | (refine wp_cond_k rfl rfl rfl ?_ ?_ <;> intro _)
       | (refine wp_cond_i rfl ?_ ?_ <;> intro _))
    all_goals first
    | (exfalso; rename_i h; simp at h; done)
    | (refine ret_m [] rfl rfl ?_; rw [← hI]; done)
    | trace_state
end Go.Proofs

set_option linter.unusedVariables false
set_option linter.unusedSimpArgs false
set_option maxHeartbeats 4000000
namespace Go.Proofs
open Go Go.Ev
set_option maxRecDepth 100000
variable {X : Rel3}
def tmPt (k : Int) : Int := if k = 1 ∨ k = 2 ∨ k = 3 ∨ k = 12 then 0 else if k = 4 ∨ k = 10 ∨ k = 11 ∨ k = 16 then 1 else if k = 5 ∨ k = 6 ∨ k = 7 ∨ k = 9 ∨ k = 13 ∨ k = 15 ∨ k = 17 then 2 else if k = 8 ∨ k = 14 then 3 else -1
def bndB (k : Int) : Bool := k == 4 || k == 6 || k == 7 || k == 14 || k == 17
def hasTB (k : Int) : Bool := k == 4 || k == 7 || k == 12 || k == 16
def numB (k n : Int) : Bool := if k = 1 then rng n (-1000000) 1000000 else if k = 2 then rng n 0 1 else if k = 6 ∨ k = 7 then rng n 0 2 else if k = 15 then rng n 1 5 else n == 0
def kN (k : Int) : Int := if k = 1 ∨ k = 2 ∨ k = 6 ∨ k = 7 ∨ k = 15 then 1 else 0
theorem parts_t (k : Int) : Tells Try.prog E0 X 81 [iA k] (iA (tmPt k)) := by
  refine Tells.by Try.func81 (by simp [Try.f81]) (Body.i rfl rfl rfl (fun _ => rfl) fun f => ?_)
  repeat' (first
     | refine wp_seq_i ?_ | refine wp_region_i ?_ | refine Run.done rfl ?_ | refine then_n ?_ | refine then_r ?_ | refine then_e ?_ | refine Run.go1 rfl ?_ | refine wp_skip_i ?_ | refine wp_ret_i ?_ | refine wp_exit_i ?_
     | refine wp_block_i ?_ | refine block_n ?_ | refine block_r ?_ | refine block_e ?_ | refine block_o rfl ?_ | refine wp_cond_t rfl ?_ | refine wp_cond_f rfl ?_ | refine Run.gT rfl rfl rfl rfl ?_ | refine Run.pT rfl rfl ?_
     | (refine Run.splitG rfl rfl rfl rfl rfl rfl ?_ ?_ <;> intro _) | (refine Run.splitP rfl rfl rfl rfl ?_ ?_ <;> intro _) | refine Run.call rfl rfl rfl (in_t _ _ _) rfl rfl ?_
     | refine Run.call rfl rfl rfl (l1In_t _ _ _) rfl rfl ?_ | (refine wp_cond_k rfl rfl rfl ?_ ?_ <;> intro _) | (refine wp_cond_i rfl ?_ ?_ <;> intro _))
  all_goals (refine ret_m [] rfl rfl ?_; simp_all [tmPt]; done)
theorem bindsS_t (k : Int) : Tells Try.prog E0 X 94 [iA k] (bA (bndB k)) := by
  refine Tells.by Try.func94 (by simp [Try.f94]) (Body.i rfl rfl rfl (fun _ => rfl) fun f => ?_)
  repeat' (first
     | refine wp_seq_i ?_ | refine wp_region_i ?_ | refine Run.done rfl ?_ | refine then_n ?_ | refine then_r ?_ | refine then_e ?_ | refine Run.go1 rfl ?_ | refine wp_skip_i ?_ | refine wp_ret_i ?_ | refine wp_exit_i ?_
     | refine wp_block_i ?_ | refine block_n ?_ | refine block_r ?_ | refine block_e ?_ | refine block_o rfl ?_ | refine wp_cond_t rfl ?_ | refine wp_cond_f rfl ?_ | refine Run.gT rfl rfl rfl rfl ?_ | refine Run.pT rfl rfl ?_
     | (refine Run.splitG rfl rfl rfl rfl rfl rfl ?_ ?_ <;> intro _) | (refine Run.splitP rfl rfl rfl rfl ?_ ?_ <;> intro _) | refine Run.call rfl rfl rfl (in_t _ _ _) rfl rfl ?_
     | refine Run.call rfl rfl rfl (l1In_t _ _ _) rfl rfl ?_ | (refine wp_cond_k rfl rfl rfl ?_ ?_ <;> intro _) | (refine wp_cond_i rfl ?_ ?_ <;> intro _))
  all_goals (refine ret_m [] rfl rfl ?_; simp_all [bndB]; done)
theorem hasT_t (k : Int) : Tells Try.prog E0 X 84 [iA k] (bA (hasTB k)) := by
  refine Tells.by Try.func84 (by simp [Try.f84]) (Body.i rfl rfl rfl (fun _ => rfl) fun f => ?_)
  repeat' (first
     | refine wp_seq_i ?_ | refine wp_region_i ?_ | refine Run.done rfl ?_ | refine then_n ?_ | refine then_r ?_ | refine then_e ?_ | refine Run.go1 rfl ?_ | refine wp_skip_i ?_ | refine wp_ret_i ?_ | refine wp_exit_i ?_
     | refine wp_block_i ?_ | refine block_n ?_ | refine block_r ?_ | refine block_e ?_ | refine block_o rfl ?_ | refine wp_cond_t rfl ?_ | refine wp_cond_f rfl ?_ | refine Run.gT rfl rfl rfl rfl ?_ | refine Run.pT rfl rfl ?_
     | (refine Run.splitG rfl rfl rfl rfl rfl rfl ?_ ?_ <;> intro _) | (refine Run.splitP rfl rfl rfl rfl ?_ ?_ <;> intro _) | refine Run.call rfl rfl rfl (in_t _ _ _) rfl rfl ?_
     | refine Run.call rfl rfl rfl (l1In_t _ _ _) rfl rfl ?_ | (refine wp_cond_k rfl rfl rfl ?_ ?_ <;> intro _) | (refine wp_cond_i rfl ?_ ?_ <;> intro _))
  all_goals (refine ret_m [] rfl rfl ?_; simp_all [hasTB]; done)
theorem numberOk_t (k n : Int) : Tells Try.prog E0 X 82 [iA k, iA n] (bA (numB k n)) := by
  refine Tells.by Try.func82 (by simp [Try.f82]) (Body.i rfl rfl rfl (fun _ => rfl) fun f => ?_)
  repeat' (first
     | refine wp_seq_i ?_ | refine wp_region_i ?_ | refine Run.done rfl ?_ | refine then_n ?_ | refine then_r ?_ | refine then_e ?_ | refine Run.go1 rfl ?_ | refine wp_skip_i ?_ | refine wp_ret_i ?_ | refine wp_exit_i ?_
     | refine wp_block_i ?_ | refine block_n ?_ | refine block_r ?_ | refine block_e ?_ | refine block_o rfl ?_ | refine wp_cond_t rfl ?_ | refine wp_cond_f rfl ?_ | refine Run.gT rfl rfl rfl rfl ?_ | refine Run.pT rfl rfl ?_
     | (refine Run.splitG rfl rfl rfl rfl rfl rfl ?_ ?_ <;> intro _) | (refine Run.splitP rfl rfl rfl rfl ?_ ?_ <;> intro _) | refine Run.call rfl rfl rfl (in_t _ _ _) rfl rfl ?_
     | refine Run.call rfl rfl rfl (l1In_t _ _ _) rfl rfl ?_ | (refine wp_cond_k rfl rfl rfl ?_ ?_ <;> intro _) | (refine wp_cond_i rfl ?_ ?_ <;> intro _))
  all_goals (refine ret_m [] rfl rfl ?_; simp_all [numB]; done)
theorem l2Of_t (k : Int) : Tells Try.prog E0 X 75 [iA k] (.ag [iA (tmPt k), iA (kN k), bA (bndB k || k == 3), bA (k == 14), bA (hasTB k)]) := by
  refine Tells.by Try.func75 (by simp [Try.f75]) (Body.i rfl rfl rfl (fun _ => rfl) fun f => ?_)
  repeat' (first
     | refine wp_seq_i ?_ | refine wp_region_i ?_ | refine Run.done rfl ?_ | refine then_n ?_ | refine then_r ?_ | refine then_e ?_ | refine Run.go1 rfl ?_ | refine wp_skip_i ?_ | refine wp_ret_i ?_ | refine wp_exit_i ?_
     | refine wp_block_i ?_ | refine block_n ?_ | refine block_r ?_ | refine block_e ?_ | refine block_o rfl ?_ | refine wp_cond_t rfl ?_ | refine wp_cond_f rfl ?_ | refine Run.gT rfl rfl rfl rfl ?_ | refine Run.pT rfl rfl ?_
     | (refine Run.splitG rfl rfl rfl rfl rfl rfl ?_ ?_ <;> intro _) | (refine Run.splitP rfl rfl rfl rfl ?_ ?_ <;> intro _) | refine Run.call rfl rfl rfl (in_t _ _ _) rfl rfl ?_
     | refine Run.call rfl rfl rfl (l1In_t _ _ _) rfl rfl ?_ | (refine wp_cond_k rfl rfl rfl ?_ ?_ <;> intro _) | (refine wp_cond_i rfl ?_ ?_ <;> intro _))
  all_goals (refine ret_m [] rfl rfl ?_; simp_all [tmPt, kN, bndB, hasTB]; done)
theorem l2Number_t (kk nn : Int) (ss zz : ByteArray) (tk tn : Int) (ta ts : List Ty) (aa : List Tm) : Tells Try.prog E0 X 76 [tmA false kk nn ss zz tk tn ta ts aa] (bA (numB kk nn)) := by
  refine Tells.by Try.func76 (by simp [Try.f76]) (Body.i rfl rfl rfl (fun _ => rfl) fun f => ?_)
  repeat' (first
     | refine wp_seq_i ?_ | refine wp_region_i ?_ | refine Run.done rfl ?_ | refine then_n ?_ | refine then_r ?_ | refine then_e ?_ | refine Run.go1 rfl ?_ | refine wp_skip_i ?_ | refine wp_ret_i ?_ | refine wp_exit_i ?_
     | refine wp_block_i ?_ | refine block_n ?_ | refine block_r ?_ | refine block_e ?_ | refine block_o rfl ?_ | refine wp_cond_t rfl ?_ | refine wp_cond_f rfl ?_ | refine Run.gT rfl rfl rfl rfl ?_ | refine Run.pT rfl rfl ?_
     | (refine Run.splitG rfl rfl rfl rfl rfl rfl ?_ ?_ <;> intro _) | (refine Run.splitP rfl rfl rfl rfl ?_ ?_ <;> intro _) | refine Run.call rfl rfl rfl (l1In_t _ _ _) rfl rfl ?_
     | (refine wp_cond_k rfl rfl rfl ?_ ?_ <;> intro _) | (refine wp_cond_i rfl ?_ ?_ <;> intro _))
  all_goals (refine ret_m [] rfl rfl ?_; simp_all [numB]; done)
def namB (k : Int) (s z : ByteArray) : Bool := if k = 14 then nmB s && nmB z && !decide (s = z) else decide (z = ByteArray.empty) && (nmB s == (bndB k || k == 3)) && (decide (s = ByteArray.empty) || nmB s)
theorem nmB_empty : nmB ByteArray.empty = false := by decide
theorem namesOk_t (k : Int) (s z : ByteArray) (hs : s.size ≤ 1048576) (hz : z.size ≤ 1048576) : Tells Try.prog E0 X 83 [iA k, sA s, sA z] (bA (namB k s z)) := by
  have e1 := str_beq s z
  have e2 := str_beq s ByteArray.empty
  have e3 := str_beq z ByteArray.empty
  refine Tells.by Try.func83 (by simp [Try.f83]) (Body.i rfl rfl rfl (fun _ => rfl) fun f => ?_)
  repeat' (first
     | refine wp_seq_i ?_ | refine wp_region_i ?_ | refine Run.done rfl ?_ | refine then_n ?_ | refine then_r ?_ | refine then_e ?_ | refine Run.go1 rfl ?_ | refine wp_skip_i ?_ | refine wp_ret_i ?_ | refine wp_exit_i ?_
     | refine wp_block_i ?_ | refine block_n ?_ | refine block_r ?_ | refine block_e ?_ | refine block_o rfl ?_ | refine wp_cond_t rfl ?_ | refine wp_cond_f rfl ?_ | refine Run.gT rfl rfl rfl rfl ?_ | refine Run.pT rfl rfl ?_
     | (refine Run.splitG rfl rfl rfl rfl rfl rfl ?_ ?_ <;> intro _) | (refine Run.splitP rfl rfl rfl rfl ?_ ?_ <;> intro _) | refine Run.call rfl rfl rfl (isName_t s hs) rfl rfl ?_
     | refine Run.call rfl rfl rfl (isName_t z hz) rfl rfl ?_ | refine Run.call rfl rfl rfl (bindsS_t k) rfl rfl ?_ | (refine wp_cond_k rfl rfl rfl ?_ ?_ <;> intro _) | (refine wp_cond_i rfl ?_ ?_ <;> intro _))
  all_goals first
  | (refine ret_m [] rfl rfl ?_; unfold namB; simp_all; done)
  | trace_state
end Go.Proofs

set_option linter.unusedVariables false
set_option linter.unusedSimpArgs false
set_option maxHeartbeats 4000000
namespace Go.Proofs
open Go Go.Ev
set_option maxRecDepth 100000
variable {X : Rel3}
def fnHd : List Tm → Bool
  | .mk k _ _ _ _ _ _ :: _ => k == 4
  | [] => false
def tsB (k : Int) (n : Nat) : Bool := decide ((n : Int) ≤ 2) && (k == 3 || decide ((n : Int) ≤ 0))
/-- a term's head is right -/
noncomputable def tmHd (k n : Int) (s z : ByteArray) (t : Ty) (ts : List Ty) (a : List Tm) : Bool :=
  decide ((a.length : Int) = tmPt k) && numB k n && namB k s z && (k != 7 || fnHd a) && (hasTB k == tyB t) && (hasTB k || decide (t = .mk 0 0 [])) && tsB k ts.length && ts.all tyB
/-- the names, as the reference looks at them -/
def namS (hs hz : Bool) (s z : ByteArray) : Bool := (hs == nmB s) && (hs || decide (s = ByteArray.empty)) && (hz == nmB z) && (hz || decide (z = ByteArray.empty)) && !(hz && decide (s = z))
theorem namS_eq (k : Int) (s z : ByteArray) : namS (bndB k || k == 3) (k == 14) s z = namB k s z := by
  unfold namB namS
  by_cases h : k = 14
  · subst h
    rw [if_pos rfl]
    cases nmB s <;> cases nmB z <;> simp [bndB]
  · rw [if_neg h, show (k == 14) = false by simpa using h]
    have he := nmB_empty
    by_cases hz : z = ByteArray.empty
    · subst hz
      rw [he]
      cases (bndB k || k == 3)
      · by_cases hs : s = ByteArray.empty
        · subst hs; rw [he]; simp
        · cases nmB s <;> simp [hs]
      · cases nmB s <;> simp
    · simp [hz]
def k_l2One : List (Nat × List Nat) := [(0, [1]), (1, [1, 3]), (2, [1, 3, 65]), (3, [2]), (4, [1, 100]), (5, [2]), (6, [1, 4]), (7, [1, 4, 105]), (8, [1, 4]), (9, [1, 4, 114]), (10, [2]), (11, [2])]
theorem l2One_t (kk nn : Int) (ss zz : ByteArray) (tk tn : Int) (ta ts : List Ty) (aa : List Tm) (hok : (Tm.mk kk nn ss zz (.mk tk tn ta) ts aa).ok) : Tells Try.prog E0 X 66 [tmA false kk nn ss zz tk tn ta ts aa] (bA (tmHd kk nn ss zz (.mk tk tn ta) ts aa)) := by
  have hok2 : ss.size ≤ 1048576 ∧ zz.size ≤ 1048576 ∧ Ty.ok (.mk tk tn ta) ∧ (ts.length ≤ 1048576 ∧ Ty.okL ts) ∧ aa.length ≤ 1048576 ∧ Tm.okL aa := by rw [Tm.ok] at hok; exact hok
  obtain ⟨l1, l2, l3, l4, l5, l6⟩ := hok2
  have e1 := str_beq ss zz
  have e2 := str_beq ss ByteArray.empty
  have e3 := str_beq zz ByteArray.empty
  have hns := namS_eq kk ss zz
  have hhd : tmHd kk nn ss zz (.mk tk tn ta) ts aa = (decide ((aa.length : Int) = tmPt kk) && numB kk nn && namS (bndB kk || kk == 3) (kk == 14) ss zz && (kk != 7 || fnHd aa) && (hasTB kk == tyB (.mk tk tn ta)) && (hasTB kk || decide (Ty.mk tk tn ta = .mk 0 0 [])) && (decide ((ts.length : Int) ≤ 2) && (kk == 3 || decide ((ts.length : Int) ≤ 0))) && ts.all tyB) := by rw [hns]; rfl
  have c1 := TyOkS_t (X := X) (.mk tk tn ta) l3
  have c2 := SameTyS_t (X := X) (.mk tk tn ta) (.mk 0 0 []) l3
  have c3 := l2Of_t (X := X) kk
  have c4 := l2Number_t (X := X) kk nn ss zz tk tn ta ts aa
  have c5 := l2Name_t (X := X) ss l1
  have c6 := l2Name_t (X := X) zz l2
  rw [hhd]
  clear hhd hns
  generalize hpt : tmPt kk = pt at *
  generalize hhs : (bndB kk || kk == 3) = hs at *
  generalize hhz : (kk == 14) = hz at *
  generalize hht : hasTB kk = ht at *
  generalize htb : tyB (.mk tk tn ta) = tb at *
  generalize hsm : decide (Ty.mk tk tn ta = .mk 0 0 []) = sm at *
  generalize hnm : numB kk nn = nm at *
  generalize hm1 : nmB ss = m1 at *
  generalize hm2 : nmB zz = m2 at *
  have hds : (hs == m1 && (hs || decide (ss = ByteArray.empty)) && (hz == m2) && (hz || decide (zz = ByteArray.empty)) && !(hz && decide (ss = zz))) = namS hs hz ss zz := by unfold namS; rw [hm1, hm2]
  rw [← hds]
  have e4 : decide (((ts.map (Ty.c false)).length : Int) > 0) = !decide ((ts.length : Int) ≤ 0) := by rw [List.length_map]; rw [← decide_not, decide_eq_decide]; omega
  have r1 : (!(decide ((aa.length : Int) = pt) && nm && (hs == m1 && (hs || decide (ss = ByteArray.empty)) && (hz == m2) && (hz || decide (zz = ByteArray.empty)) && !(hz && decide (ss = zz))))) = true → (decide ((aa.length : Int) = pt) && nm && (hs == m1 && (hs || decide (ss = ByteArray.empty)) && (hz == m2) && (hz || decide (zz = ByteArray.empty)) && !(hz && decide (ss = zz))) && (kk != 7 || fnHd aa) && (ht == tb) && (ht || sm) && (decide ((ts.length : Int) ≤ 2) && (kk == 3 || decide ((ts.length : Int) ≤ 0))) && ts.all tyB) = false := fun h => by rw [(Bool.not_eq_true' _).mp h]; simp
  have r2 : (!(ht == tb && (ht || sm) && (decide ((ts.length : Int) ≤ 2) && (kk == 3 || decide ((ts.length : Int) ≤ 0))))) = true → (decide ((aa.length : Int) = pt) && nm && (hs == m1 && (hs || decide (ss = ByteArray.empty)) && (hz == m2) && (hz || decide (zz = ByteArray.empty)) && !(hz && decide (ss = zz))) && (kk != 7 || fnHd aa) && (ht == tb) && (ht || sm) && (decide ((ts.length : Int) ≤ 2) && (kk == 3 || decide ((ts.length : Int) ≤ 0))) && ts.all tyB) = false := fun h => by
    have h' := (Bool.not_eq_true' _).mp h
    have hh : ∀ q p a b c d : Bool, (a && b && c) = false → (q && p && a && b && c && d) = false := by decide
    exact hh _ _ _ _ _ _ h'
  refine Tells.by Try.func66 (by simp [Try.f66]) (Body.i rfl rfl rfl (fun _ => rfl) fun f => ?_)
  repeat' (first
    
     | refine wp_region_qB (id := 2) 65 (!(decide ((aa.length : Int) = pt) && nm && (hs == m1 && (hs || decide (ss = ByteArray.empty)) && (hz == m2) && (hz || decide (zz = ByteArray.empty)) && !(hz && decide (ss = zz))))) k_l2One rfl rfl rfl 55 (by decide +kernel) rfl rfl ?_ ?_
     | refine wp_region_qB (id := 4) 100 (!(ht == tb && (ht || sm) && (decide ((ts.length : Int) ≤ 2) && (kk == 3 || decide ((ts.length : Int) ≤ 0))))) k_l2One rfl rfl rfl 14 (by decide +kernel) rfl rfl ?_ ?_ | refine wp_seq_i ?_
     | refine wp_region_t k_l2One rfl ?_ | refine Run.done rfl ?_ | refine then_n ?_ | refine then_r ?_ | refine then_e ?_ | refine Run.go1 rfl ?_ | refine wp_skip_i ?_ | refine wp_ret_i ?_ | refine wp_exit_i ?_
     | refine wp_block_i ?_ | refine block_n ?_ | refine block_r ?_ | refine block_e ?_ | refine block_o rfl ?_ | refine wp_cond_t rfl ?_ | refine wp_cond_f rfl ?_
     | refine wp_region_qt k_l2One rfl 55 (by decide +kernel) rfl rfl ?_ | refine wp_region_qt k_l2One rfl 14 (by decide +kernel) rfl rfl ?_ | refine RunQ.go1 rfl ?_ | refine RunQ.done rfl ?_ | refine Run.gT rfl rfl rfl rfl ?_
     | refine Run.pT rfl rfl ?_ | (refine Run.splitG rfl rfl rfl rfl rfl rfl ?_ ?_ <;> intro _) | (refine Run.splitP rfl rfl rfl rfl ?_ ?_ <;> intro _) | refine RunQ.gT rfl rfl rfl rfl ?_ | refine RunQ.pT rfl rfl ?_
     | (refine RunQ.splitG rfl rfl rfl rfl rfl rfl ?_ ?_ <;> intro _) | (refine RunQ.splitP rfl rfl rfl rfl ?_ ?_ <;> intro _) | refine Run.call rfl rfl rfl (c3) rfl rfl ?_ | refine Run.call rfl rfl rfl (c4) rfl rfl ?_
     | refine Run.call rfl rfl rfl (c5) rfl rfl ?_ | refine Run.call rfl rfl rfl (c6) rfl rfl ?_ | refine Run.call rfl rfl rfl (c1) rfl rfl ?_ | refine Run.call rfl rfl rfl (c2) rfl rfl ?_
     | refine RunQ.call rfl rfl rfl rfl rfl rfl (c4) (.inl rfl) rfl rfl ?_ | refine RunQ.call rfl rfl rfl rfl rfl rfl (c5) (.inl rfl) rfl rfl ?_ | refine RunQ.call rfl rfl rfl rfl rfl rfl (c6) (.inl rfl) rfl rfl ?_
     | refine RunQ.call rfl rfl rfl rfl rfl rfl (c1) (.inl rfl) rfl rfl ?_ | refine RunQ.call rfl rfl rfl rfl rfl rfl (c2) (.inl rfl) rfl rfl ?_ | (refine wp_cond_k rfl rfl rfl ?_ ?_ <;> intro _)
     | (refine wp_cond_i rfl ?_ ?_ <;> intro _))
  all_goals first
  | (refine ⟨?_⟩; clear c1 c2 c3 c4 c5 c6 hds hhs hhz hht htb hsm hnm hm1 hm2; simp_all; done)
  | (refine ⟨?_⟩; clear c1 c2 c3 c4 c5 c6 hds hhs hhz hht htb hsm hnm hm1 hm2; cases hs <;> cases hz <;> cases m1 <;> cases m2 <;> simp_all; done)
  | (refine ⟨?_⟩; clear c1 c2 c3 c4 c5 c6 hds hhs hhz hht htb hsm hnm hm1 hm2; cases ht <;> cases tb <;> cases sm <;> simp_all; done)
  | (refine ⟨?_⟩; clear c1 c2 c3 c4 c5 c6 hds hhs hhz hht htb hsm hnm hm1 hm2; cases h3 : (kk == 3) <;> cases ht <;> cases tb <;> cases sm <;> simp_all <;> omega)
  | (refine ⟨?_⟩; clear c1 c2 c3 c4 c5 c6 hds hhs hhz hht htb hsm hnm hm1 hm2 r1 r2; rw [e4]; generalize decide ((ts.length : Int) ≤ 0) = q0 at *; clear e4; cases ht <;> cases tb <;> cases sm <;> cases q0 <;> cases h3 : (kk == 3) <;> simp_all; done)
  | (refine ret_m [] rfl rfl ?_; rw [r1 (by assumption)]; done)
  | (refine ret_m [] rfl rfl ?_; rw [r2 (by assumption)]; done)
  | skip
  rename_i hb2 hb4
  have hb2' := (Bool.not_eq_false' _).mp hb2
  have hb4' := (Bool.not_eq_false' _).mp hb4
  have hpl : (aa.length : Int) = pt := by
    rw [Bool.and_eq_true, Bool.and_eq_true] at hb2'; exact of_decide_eq_true hb2'.1.1
  have hg : (decide ((aa.length : Int) = pt) && nm && (hs == m1 && (hs || decide (ss = ByteArray.empty)) && (hz == m2) && (hz || decide (zz = ByteArray.empty)) && !(hz && decide (ss = zz))) && (kk != 7 || fnHd aa) && (ht == tb) && (ht || sm) && (decide ((ts.length : Int) ≤ 2) && (kk == 3 || decide ((ts.length : Int) ≤ 0))) && ts.all tyB) = ((kk != 7 || fnHd aa) && ts.all tyB) := by
    rw [hb2', Bool.true_and]
    generalize (kk != 7 || fnHd aa) = q at *
    have hh : ∀ q a b c d : Bool, (a && b && c) = true → (q && a && b && c && d) = (q && d) := by decide
    exact hh _ _ _ _ _ hb4'
  rw [hg]
  clear hg hds hb2 hb4 hb2' hhs hhz hht htb hsm hnm hm1 hm2
  have htl : ts.length ≤ 2 := by
    rw [Bool.and_eq_true] at hb4'
    have := hb4'.2
    rw [Bool.and_eq_true] at this
    have := of_decide_eq_true this.1
    omega
  refine wp_loop_k (α := Nat) [.keep [1, 4] [1]] (fun p => [(4, iA p)]) (fun _ => []) (fun _ => []) (fun p => p ≤ ts.length ∧ (ts.take p).all tyB = true) (fun p => ts.length - p) 0 rfl (fun _ => rfl) rfl ⟨Nat.zero_le _, by simp⟩ ?_
  rintro j ⟨hj, hI⟩
  by_cases hlt : j < ts.length
  · obtain ⟨t, hjt⟩ : ∃ t, ts[j]? = some t := ⟨_, List.getElem?_eq_getElem hlt⟩
    have hmem := List.mem_of_getElem? hjt
    have htk : ts.take (j + 1) = ts.take j ++ [t] := by rw [List.take_succ_eq_append_getElem hlt, (List.getElem?_eq_some_iff.1 hjt).2]
    have hT := TyOkS_t (X := X) t (Ty.okL_iff.1 l4.2 t hmem)
    obtain ⟨k2, n2, a2⟩ := t
    have hx : (ts.map (Ty.c false))[j]? = some [iT k2, iT n2, .sl false (a2.map (Ty.c false))] := by rw [List.getElem?_map, hjt]; exact congrArg some (Ty.c_mk ..)
    have hjd : decide ((j : Int) < ((ts.map (Ty.c false)).length : Int)) = true := by rw [List.length_map]; simpa using hlt
    repeat' (first
       | refine wp_seq_i ?_ | refine wp_region_t k_l2One rfl ?_ | refine Run.done rfl ?_ | refine then_n ?_ | refine then_r ?_ | refine then_e ?_ | refine Run.go1 rfl ?_ | refine wp_skip_i ?_ | refine wp_ret_i ?_
       | refine wp_exit_i ?_ | refine wp_block_i ?_ | refine block_n ?_ | refine block_r ?_ | refine block_e ?_ | refine block_o rfl ?_ | refine wp_cond_t rfl ?_ | refine wp_cond_f rfl ?_ | refine Run.gT rfl rfl rfl rfl ?_
       | refine Run.pT rfl rfl ?_ | (refine Run.splitG rfl rfl rfl rfl rfl rfl ?_ ?_ <;> intro _) | (refine Run.splitP rfl rfl rfl rfl ?_ ?_ <;> intro _) | refine Run.ix rfl rfl rfl rfl rfl rfl rfl hx rfl rfl rfl ?_
       | refine Run.call rfl rfl rfl (hT) rfl rfl ?_ | (refine wp_cond_k rfl rfl rfl ?_ ?_ <;> intro _) | (refine wp_cond_i rfl ?_ ?_ <;> intro _))
    all_goals first
    | (exfalso; rename_i h; rw [hjd] at h; cases h; done)
    | (exfalso; rename_i h _; rw [hjd] at h; cases h; done)
    | (exfalso; rename_i h; simp [hlt] at h; done)
    | (rename_i h
       have h' : tyB (.mk k2 n2 a2) = false := by simpa using h
       refine ret_m [] rfl rfl ?_
       have : ts.all tyB = false := by rw [List.all_eq_false]; exact ⟨_, hmem, by rw [h']; decide⟩
       rw [this, Bool.and_false]; done)
    | (rename_i h
       have h' : tyB (.mk k2 n2 a2) = true := by simpa using h
       refine back_i [.keep [1, 4] [1]] (j + 1) rfl ?_ ⟨by omega, by rw [htk, List.all_append, hI]; simp [h']⟩ (by omega)
       simp only [w_succ hlt (show ts.length ≤ 9223372036854775807 by omega)]; done)
    | trace_state
  · have hjl : j = ts.length := by omega
    subst hjl
    rw [List.take_length] at hI
    rw [hI, Bool.and_true]
    by_cases h7 : kk = 7
    · subst h7
      rw [show tmPt 7 = 2 by rfl] at hpt
      obtain ⟨a0, r, rfl⟩ : ∃ a0 r, aa = a0 :: r := by
        cases aa with
        | nil => exfalso; rw [← hpt] at hpl; simp at hpl
        | cons a r => exact ⟨a, r, rfl⟩
      obtain ⟨k3, n3, s3, z3, ⟨tk3, tn3, ta3⟩, ts3, a3⟩ := a0
      have hx : ((Tm.mk k3 n3 s3 z3 (.mk tk3 tn3 ta3) ts3 a3 :: r).map (Tm.c false))[0]? = some [iT k3, iT n3, sT s3, sT z3, iT tk3, iT tn3, .sl false (ta3.map (Ty.c false)), .sl false (ts3.map (Ty.c false)), .sl false (a3.map (Tm.c false))] := by rw [List.getElem?_map]; exact congrArg some (Tm.c_mk ..)
      repeat' (first
         | refine wp_seq_i ?_ | refine wp_region_t k_l2One rfl ?_ | refine Run.done rfl ?_ | refine then_n ?_ | refine then_r ?_ | refine then_e ?_ | refine Run.go1 rfl ?_ | refine wp_skip_i ?_ | refine wp_ret_i ?_
         | refine wp_exit_i ?_ | refine wp_block_i ?_ | refine block_n ?_ | refine block_r ?_ | refine block_e ?_ | refine block_o rfl ?_ | refine wp_cond_t rfl ?_ | refine wp_cond_f rfl ?_ | refine Run.gT rfl rfl rfl rfl ?_
         | refine Run.pT rfl rfl ?_ | (refine Run.splitG rfl rfl rfl rfl rfl rfl ?_ ?_ <;> intro _) | (refine Run.splitP rfl rfl rfl rfl ?_ ?_ <;> intro _) | refine Run.ix rfl rfl rfl rfl rfl rfl rfl hx rfl rfl rfl ?_
         | (refine wp_cond_k rfl rfl rfl ?_ ?_ <;> intro _) | (refine wp_cond_i rfl ?_ ?_ <;> intro _))
      all_goals first
      | (exfalso; rename_i h; simp at h; done)
      | (refine ret_m [] rfl rfl ?_; rw [fnHd]; rfl)
      | trace_state
    · have h7' : (kk != 7) = true := by simpa using h7
      repeat' (first
         | refine wp_seq_i ?_ | refine wp_region_t k_l2One rfl ?_ | refine Run.done rfl ?_ | refine then_n ?_ | refine then_r ?_ | refine then_e ?_ | refine Run.go1 rfl ?_ | refine wp_skip_i ?_ | refine wp_ret_i ?_
         | refine wp_exit_i ?_ | refine wp_block_i ?_ | refine block_n ?_ | refine block_r ?_ | refine block_e ?_ | refine block_o rfl ?_ | refine wp_cond_t rfl ?_ | refine wp_cond_f rfl ?_ | refine Run.gT rfl rfl rfl rfl ?_
         | refine Run.pT rfl rfl ?_ | (refine Run.splitG rfl rfl rfl rfl rfl rfl ?_ ?_ <;> intro _) | (refine Run.splitP rfl rfl rfl rfl ?_ ?_ <;> intro _) | (refine wp_cond_k rfl rfl rfl ?_ ?_ <;> intro _)
         | (refine wp_cond_i rfl ?_ ?_ <;> intro _))
      all_goals first
      | (exfalso; rename_i h; simp at h; done)
      | (exfalso; rename_i h; rw [h7'] at h; cases h; done)
      | (refine ret_m [] rfl rfl ?_; rw [h7']; rfl)
      | trace_state
end Go.Proofs

set_option linter.unusedVariables false
set_option linter.unusedSimpArgs false
set_option maxHeartbeats 4000000
namespace Go.Proofs
open Go Go.Ev
set_option maxRecDepth 100000
variable {X : Rel3}
def idxT (p : Ty → Bool) : List Ty → Nat → Int
  | [], _ => -1
  | t :: r, k => if p t then k else idxT p r (k + 1)
theorem idxT_any (p : Ty → Bool) : ∀ (l : List Ty) (k : Nat), decide (idxT p l k ≥ 0) = l.any p
  | [], k => by rw [idxT]; rfl
  | t :: r, k => by
    rw [idxT, List.any_cons]
    by_cases h : p t = true
    · rw [if_pos h, h, Bool.true_or]; exact decide_eq_true (by omega)
    · rw [if_neg h, Bool.eq_false_iff.2 h, Bool.false_or]; exact idxT_any p r (k + 1)
def k_IdxTy : List (Nat × List Nat) := [(0, [0, 1]), (1, [0, 1, 7, 8]), (2, [0, 1, 7, 8, 9]), (3, [0, 1, 5, 7, 8]), (4, [0, 1, 5, 7, 8, 16]), (5, [4]), (6, [0, 1, 7, 8]), (7, [4])]
theorem IdxTy_t (l : List Ty) (g : FuncId) (hg : modeOf E0.md g = []) (p : Ty → Bool) (hp : ∀ x ∈ l, Tells Try.prog E0 X g [x.a false] (bA (p x))) (hl : l.length ≤ 1048576) : Tells Try.prog E0 X 96 [.t (.sl false (l.map (Ty.c false))), .t (.fn g [])] (iA (idxT p l 0)) := by
  refine Tells.by Try.func96 (by simp [Try.f96]) (Body.i rfl rfl rfl (fun _ => rfl) fun f => ?_)
  repeat' (first
     | refine wp_seq_i ?_ | refine wp_region_t k_IdxTy rfl ?_ | refine Run.done rfl ?_ | refine then_n ?_ | refine then_r ?_ | refine then_e ?_ | refine Run.go1 rfl ?_ | refine wp_skip_i ?_ | refine wp_ret_i ?_
     | refine wp_exit_i ?_ | refine wp_block_i ?_ | refine block_n ?_ | refine block_r ?_ | refine block_e ?_ | refine block_o rfl ?_ | refine wp_cond_t rfl ?_ | refine wp_cond_f rfl ?_
     | (refine wp_cond_k rfl rfl rfl ?_ ?_ <;> intro _) | (refine wp_cond_i rfl ?_ ?_ <;> intro _))
  refine wp_loop_k (α := Nat) [.keep [0, 1, 7, 8] []] (fun k => [(8, iA k)]) (fun _ => []) (fun _ => []) (fun k => k ≤ l.length ∧ idxT p (l.drop k) k = idxT p l 0) (fun k => l.length - k) 0 rfl (fun _ => rfl) rfl ⟨by simp, rfl⟩ ?_
  rintro k ⟨hk, hI⟩
  by_cases hlt : k < l.length
  · obtain ⟨t, ht⟩ : ∃ t, l[k]? = some t := ⟨_, List.getElem?_eq_getElem hlt⟩
    have hT := hp t (List.mem_of_getElem? ht)
    rw [List.drop_eq_getElem_cons hlt, (List.getElem?_eq_some_iff.1 ht).2, idxT] at hI
    generalize p t = q at hT hI
    obtain ⟨k2, n2, a2⟩ := t
    have hx : (l.map (Ty.c false))[k]? = some [iT k2, iT n2, .sl false (a2.map (Ty.c false))] := by rw [List.getElem?_map, ht]; exact congrArg some (Ty.c_mk ..)
    repeat' (first
       | refine wp_seq_i ?_ | refine wp_region_t k_IdxTy rfl ?_ | refine Run.done rfl ?_ | refine then_n ?_ | refine then_r ?_ | refine then_e ?_ | refine Run.go1 rfl ?_ | refine wp_skip_i ?_ | refine wp_ret_i ?_
       | refine wp_exit_i ?_ | refine wp_block_i ?_ | refine block_n ?_ | refine block_r ?_ | refine block_e ?_ | refine block_o rfl ?_ | refine wp_cond_t rfl ?_ | refine wp_cond_f rfl ?_
       | refine Run.ix rfl rfl rfl rfl rfl rfl rfl hx rfl rfl rfl ?_ | refine Run.callF rfl rfl rfl hg rfl (hT) rfl rfl ?_ | (refine wp_cond_k rfl rfl rfl ?_ ?_ <;> intro _) | (refine wp_cond_i rfl ?_ ?_ <;> intro _))
    all_goals first
    | (exfalso; rename_i h; simp [hlt] at h; done)
    | (rename_i h
       refine ret_m [] rfl rfl ?_
       rw [← hI, if_pos h]; done)
    | (rename_i h
       refine back_i [.keep [0, 1, 7, 8] []] (k + 1) rfl ?_ ⟨by omega, ?_⟩ (by omega)
       · simp only [w_succ hlt (show l.length ≤ 9223372036854775807 by omega)]
       · rw [← hI, if_neg (by rw [h]; decide)])
    | trace_state
  · have hk : k = l.length := by omega
    subst hk
    simp [idxT] at hI
    repeat' (first
       | refine wp_seq_i ?_ | refine wp_region_t k_IdxTy rfl ?_ | refine Run.done rfl ?_ | refine then_n ?_ | refine then_r ?_ | refine then_e ?_ | refine Run.go1 rfl ?_ | refine wp_skip_i ?_ | refine wp_ret_i ?_
       | refine wp_exit_i ?_ | refine wp_block_i ?_ | refine block_n ?_ | refine block_r ?_ | refine block_e ?_ | refine block_o rfl ?_ | refine wp_cond_t rfl ?_ | refine wp_cond_f rfl ?_
       | (refine wp_cond_k rfl rfl rfl ?_ ?_ <;> intro _) | (refine wp_cond_i rfl ?_ ?_ <;> intro _))
    all_goals first
    | (exfalso; rename_i h; simp at h; done)
    | (refine ret_m [] rfl rfl ?_; rw [hI]; done)
    | trace_state
theorem ConTy_t (l : List Ty) (g : FuncId) (hg : modeOf E0.md g = []) (p : Ty → Bool) (hp : ∀ x ∈ l, Tells Try.prog E0 X g [x.a false] (bA (p x))) (hl : l.length ≤ 1048576) : Tells Try.prog E0 X 86 [.t (.sl false (l.map (Ty.c false))), .t (.fn g [])] (bA (l.any p)) := by
  have hi := idxT_any p l 0
  refine Tells.by Try.func86 (by simp [Try.f86]) (Body.i rfl rfl rfl (fun _ => rfl) fun f => ?_)
  repeat' (first
     | refine wp_seq_i ?_ | refine wp_region_i ?_ | refine Run.done rfl ?_ | refine then_n ?_ | refine then_r ?_ | refine then_e ?_ | refine Run.go1 rfl ?_ | refine wp_skip_i ?_ | refine wp_ret_i ?_ | refine wp_exit_i ?_
     | refine wp_block_i ?_ | refine block_n ?_ | refine block_r ?_ | refine block_e ?_ | refine block_o rfl ?_ | refine wp_cond_t rfl ?_ | refine wp_cond_f rfl ?_ | refine Run.call rfl rfl rfl (IdxTy_t l g hg p hp hl) rfl rfl ?_
     | (refine wp_cond_k rfl rfl rfl ?_ ?_ <;> intro _) | (refine wp_cond_i rfl ?_ ?_ <;> intro _))
  all_goals (refine ret_m [] rfl rfl ?_; rw [← hi])
theorem headOk1_t (t : Ty) (hok : t.ok) (hc : tyN t ≤ 1000000000) : Tells Try.prog E0 X 87 [t.a false] (bA (!tyB t)) := by
  have hT := TyOkI_t (X := X) t hok hc
  obtain ⟨kk, nn, aa⟩ := t
  refine Tells.by Try.func87 (by simp [Try.f87]) (Body.i rfl rfl rfl (fun _ => rfl) fun f => ?_)
  repeat' (first
     | refine wp_seq_i ?_ | refine wp_region_i ?_ | refine Run.done rfl ?_ | refine then_n ?_ | refine then_r ?_ | refine then_e ?_ | refine Run.go1 rfl ?_ | refine wp_skip_i ?_ | refine wp_ret_i ?_ | refine wp_exit_i ?_
     | refine wp_block_i ?_ | refine block_n ?_ | refine block_r ?_ | refine block_e ?_ | refine block_o rfl ?_ | refine wp_cond_t rfl ?_ | refine wp_cond_f rfl ?_ | refine Run.call rfl rfl rfl (hT) rfl rfl ?_
     | (refine wp_cond_k rfl rfl rfl ?_ ?_ <;> intro _) | (refine wp_cond_i rfl ?_ ?_ <;> intro _))
  all_goals exact ret_m [] rfl rfl rfl
def k_headOk : List (Nat × List Nat) := [(0, [1]), (1, [1, 41]), (2, [2]), (3, [1, 61]), (4, [2]), (5, [1, 3]), (6, [1, 3, 64]), (7, [1, 3]), (8, [2])]
theorem headOk_t (kk nn : Int) (ss zz : ByteArray) (tk tn : Int) (ta ts : List Ty) (aa : List Tm) (hok : (Tm.mk kk nn ss zz (.mk tk tn ta) ts aa).ok) (hc : cTm (Tm.mk kk nn ss zz (.mk tk tn ta) ts aa) ≤ 1000000000) : Tells Try.prog E0 X 69 [tmA false kk nn ss zz tk tn ta ts aa] (bA (tmHd kk nn ss zz (.mk tk tn ta) ts aa)) := by
  have hok2 : ss.size ≤ 1048576 ∧ zz.size ≤ 1048576 ∧ Ty.ok (.mk tk tn ta) ∧ (ts.length ≤ 1048576 ∧ Ty.okL ts) ∧ aa.length ≤ 1048576 ∧ Tm.okL aa := by rw [Tm.ok] at hok; exact hok
  obtain ⟨l1, l2, l3, l4, l5, l6⟩ := hok2
  rw [cTm] at hc
  have q1 : tyN (.mk tk tn ta) ≤ 1000000000 := by have := cTy_eq (.mk tk tn ta); omega
  have q2 : ∀ t ∈ ts, tyN t ≤ 1000000000 := fun t ht => by
    obtain ⟨j, hj⟩ := List.mem_iff_getElem?.1 ht
    have h1 := cTyL_take ts j t hj
    have h2 := cTy_eq t
    omega
  have hhd : tmHd kk nn ss zz (.mk tk tn ta) ts aa = (decide ((aa.length : Int) = tmPt kk) && numB kk nn && namB kk ss zz && (kk != 7 || fnHd aa) && (hasTB kk == tyB (.mk tk tn ta)) && (hasTB kk || decide (Ty.mk tk tn ta = .mk 0 0 [])) && (decide ((ts.length : Int) ≤ 2) && (kk == 3 || decide ((ts.length : Int) ≤ 0))) && ts.all tyB) := rfl
  have c1 := TyOkI_t (X := X) (.mk tk tn ta) l3 q1
  have c2 := SameTyI_t (X := X) (.mk tk tn ta) (.mk 0 0 []) l3
  have c3 := parts_t (X := X) kk
  have c4 := numberOk_t (X := X) kk nn
  have c5 := namesOk_t (X := X) kk ss zz l1 l2
  have c6 := hasT_t (X := X) kk
  have c7 := ConTy_t (X := X) ts 87 rfl (fun t => !tyB t) (fun t ht => headOk1_t t (Ty.okL_iff.1 l4.2 t ht) (q2 t ht)) l4.1
  have hany : (ts.any fun t => !tyB t) = !ts.all tyB := by rw [List.all_eq_not_any_not, Bool.not_not]
  rw [hany] at c7
  rw [hhd]
  clear hhd hany
  generalize hpt : tmPt kk = pt at *
  generalize hht : hasTB kk = ht at *
  generalize htb : tyB (.mk tk tn ta) = tb at *
  generalize hsm : decide (Ty.mk tk tn ta = .mk 0 0 []) = sm at *
  generalize hnm : numB kk nn = nm at *
  generalize hna : namB kk ss zz = na at *
  generalize hal : ts.all tyB = al at *
  clear hht htb hsm hnm hna hal
  have r1 : (!(decide ((aa.length : Int) = pt) && nm && na && (kk != 7 || fnHd aa))) = true → (decide ((aa.length : Int) = pt) && nm && na && (kk != 7 || fnHd aa) && (ht == tb) && (ht || sm) && (decide ((ts.length : Int) ≤ 2) && (kk == 3 || decide ((ts.length : Int) ≤ 0))) && al) = false := fun h => by rw [(Bool.not_eq_true' _).mp h]; simp
  have r3 : (!(ht == tb && (ht || sm))) = true → (decide ((aa.length : Int) = pt) && nm && na && (kk != 7 || fnHd aa) && (ht == tb) && (ht || sm) && (decide ((ts.length : Int) ≤ 2) && (kk == 3 || decide ((ts.length : Int) ≤ 0))) && al) = false := fun h => by
    have h' := (Bool.not_eq_true' _).mp h
    have hh : ∀ p a b c d : Bool, (a && b) = false → (p && a && b && c && d) = false := by decide
    exact hh _ _ _ _ _ h'
  have r4 : (!(decide ((aa.length : Int) = pt) && nm && na && (kk != 7 || fnHd aa))) = false → (!(ht == tb && (ht || sm))) = false → (decide ((aa.length : Int) = pt) && nm && na && (kk != 7 || fnHd aa) && (ht == tb) && (ht || sm) && (decide ((ts.length : Int) ≤ 2) && (kk == 3 || decide ((ts.length : Int) ≤ 0))) && al) = ((decide ((ts.length : Int) ≤ 2) && (kk == 3 || decide ((ts.length : Int) ≤ 0))) && al) := fun h1 h3 => by
    have h' := (Bool.not_eq_false' _).mp h3
    rw [(Bool.not_eq_false' _).mp h1]
    have hh : ∀ a b c d : Bool, (a && b) = true → (true && a && b && c && d) = (c && d) := by decide
    exact hh _ _ _ _ h'
  have e5 : decide (((ts.map (Ty.c false)).length : Int) ≤ 2) = decide ((ts.length : Int) ≤ 2) := by rw [List.length_map]
  have e6 : decide (((ts.map (Ty.c false)).length : Int) ≤ 0) = decide ((ts.length : Int) ≤ 0) := by rw [List.length_map]
  have e7 : (ts.length : Int) ≤ 0 → (ts.length : Int) ≤ 2 := fun h => by omega
  cases aa with
  | nil =>
    refine Tells.by Try.func69 (by simp [Try.f69]) (Body.i rfl rfl rfl (fun _ => rfl) fun f => ?_)
    repeat' (first
       | refine wp_region_qB (id := 1) 41 (!(decide ((([] : List Tm).length : Int) = pt) && nm && na && (kk != 7 || fnHd ([] : List Tm)))) k_headOk rfl rfl rfl 22 (by decide +kernel) rfl rfl ?_ ?_
       | refine wp_region_qB (id := 3) 61 (!(ht == tb && (ht || sm))) k_headOk rfl rfl rfl 16 (by decide +kernel) rfl rfl ?_ ?_ | refine wp_seq_i ?_ | refine wp_region_t k_headOk rfl ?_ | refine Run.done rfl ?_ | refine then_n ?_
       | refine then_r ?_ | refine then_e ?_ | refine Run.go1 rfl ?_ | refine wp_skip_i ?_ | refine wp_ret_i ?_ | refine wp_exit_i ?_ | refine wp_block_i ?_ | refine block_n ?_ | refine block_r ?_ | refine block_e ?_
       | refine block_o rfl ?_ | refine wp_cond_t rfl ?_ | refine wp_cond_f rfl ?_ | refine wp_region_qt k_headOk rfl 22 (by decide +kernel) rfl rfl ?_ | refine wp_region_qt k_headOk rfl 16 (by decide +kernel) rfl rfl ?_
       | refine RunQ.go1 rfl ?_ | refine RunQ.done rfl ?_ | refine Run.gT rfl rfl rfl rfl ?_ | refine Run.pT rfl rfl ?_ | (refine Run.splitG rfl rfl rfl rfl rfl rfl ?_ ?_ <;> intro _)
       | (refine Run.splitP rfl rfl rfl rfl ?_ ?_ <;> intro _) | refine RunQ.gT rfl rfl rfl rfl ?_ | refine RunQ.pT rfl rfl ?_ | (refine RunQ.splitG rfl rfl rfl rfl rfl rfl ?_ ?_ <;> intro _)
       | (refine RunQ.splitP rfl rfl rfl rfl ?_ ?_ <;> intro _) | refine Run.call rfl rfl rfl (c1) rfl rfl ?_ | refine Run.call rfl rfl rfl (c2) rfl rfl ?_ | refine Run.call rfl rfl rfl (c3) rfl rfl ?_
       | refine Run.call rfl rfl rfl (c4) rfl rfl ?_ | refine Run.call rfl rfl rfl (c5) rfl rfl ?_ | refine Run.call rfl rfl rfl (c6) rfl rfl ?_ | refine Run.call rfl rfl rfl (c7) rfl rfl ?_
       | refine RunQ.call rfl rfl rfl rfl rfl rfl (c1) (.inl rfl) rfl rfl ?_ | refine RunQ.call rfl rfl rfl rfl rfl rfl (c2) (.inl rfl) rfl rfl ?_ | refine RunQ.call rfl rfl rfl rfl rfl rfl (c3) (.inl rfl) rfl rfl ?_
       | refine RunQ.call rfl rfl rfl rfl rfl rfl (c4) (.inl rfl) rfl rfl ?_ | refine RunQ.call rfl rfl rfl rfl rfl rfl (c5) (.inl rfl) rfl rfl ?_ | refine RunQ.call rfl rfl rfl rfl rfl rfl (c6) (.inl rfl) rfl rfl ?_
       | refine RunQ.ix rfl rfl rfl rfl rfl rfl rfl hx rfl rfl rfl ?_ | refine Run.ix rfl rfl rfl rfl rfl rfl rfl hx rfl rfl rfl ?_ | (refine wp_cond_k rfl rfl rfl ?_ ?_ <;> intro _) | (refine wp_cond_i rfl ?_ ?_ <;> intro _))
    all_goals first
    | (refine ⟨?_⟩; clear c1 c2 c3 c4 c5 c6 c7 r1 r3 r4 e5 e6 e7; simp_all; done)
    | (refine ⟨?_⟩; clear c1 c2 c3 c4 c5 c6 c7 r1 r3 r4 e5 e6 e7; simp_all [fnHd]; done)
    | (refine ⟨?_⟩; clear c1 c2 c3 c4 c5 c6 c7 r1 r3 r4 e5 e6 e7; clear hx; rw [hfn]; cases h3 : (k3 == 4) <;> simp_all; done)
    | (refine ⟨?_⟩; clear c1 c2 c3 c4 c5 c6 c7 r1 r3 r4 e5 e6 e7; cases ht <;> cases tb <;> cases sm <;> simp_all; done)
    | (refine ret_m [] rfl rfl ?_; rw [r1 (by assumption)]; done)
    | (refine ret_m [] rfl rfl ?_; rw [r3 (by assumption)]; done)
    | (refine ret_m [] rfl rfl ?_; rw [r4 (by assumption) (by assumption)]; clear c1 c2 c3 c4 c5 c6 c7 r1 r3 r4; simp_all; done)
    | (refine ret_m [] rfl rfl ?_; rw [r4 (by assumption) (by assumption)]; clear c1 c2 c3 c4 c5 c6 c7 r1 r3 r4; simp_all; omega)
    | (exfalso; clear c1 c2 c3 c4 c5 c6 c7 r1 r3 r4 e5 e6 e7; simp_all [tmPt]; done)
    | (exfalso; clear c1 c2 c3 c4 c5 c6 c7 r1 r3 r4 e5 e6 e7; simp_all [tmPt]; omega)
    | trace_state
  | cons a0 r =>
    obtain ⟨k3, n3, s3, z3, ⟨tk3, tn3, ta3⟩, ts3, a3⟩ := a0
    have hx : ((Tm.mk k3 n3 s3 z3 (.mk tk3 tn3 ta3) ts3 a3 :: r).map (Tm.c false))[0]? = some [iT k3, iT n3, sT s3, sT z3, iT tk3, iT tn3, .sl false (ta3.map (Ty.c false)), .sl false (ts3.map (Ty.c false)), .sl false (a3.map (Tm.c false))] := by rw [List.getElem?_map]; exact congrArg some (Tm.c_mk ..)
    have hfn : fnHd (Tm.mk k3 n3 s3 z3 (.mk tk3 tn3 ta3) ts3 a3 :: r) = (k3 == 4) := rfl
    refine Tells.by Try.func69 (by simp [Try.f69]) (Body.i rfl rfl rfl (fun _ => rfl) fun f => ?_)
    repeat' (first
      
       | refine wp_region_qB (id := 1) 41 (!(decide (((Tm.mk k3 n3 s3 z3 (.mk tk3 tn3 ta3) ts3 a3 :: r).length : Int) = pt) && nm && na && (kk != 7 || fnHd (Tm.mk k3 n3 s3 z3 (.mk tk3 tn3 ta3) ts3 a3 :: r)))) k_headOk rfl rfl rfl 22 (by decide +kernel) rfl rfl ?_ ?_
       | refine wp_region_qB (id := 3) 61 (!(ht == tb && (ht || sm))) k_headOk rfl rfl rfl 16 (by decide +kernel) rfl rfl ?_ ?_ | refine wp_seq_i ?_ | refine wp_region_t k_headOk rfl ?_ | refine Run.done rfl ?_ | refine then_n ?_
       | refine then_r ?_ | refine then_e ?_ | refine Run.go1 rfl ?_ | refine wp_skip_i ?_ | refine wp_ret_i ?_ | refine wp_exit_i ?_ | refine wp_block_i ?_ | refine block_n ?_ | refine block_r ?_ | refine block_e ?_
       | refine block_o rfl ?_ | refine wp_cond_t rfl ?_ | refine wp_cond_f rfl ?_ | refine wp_region_qt k_headOk rfl 22 (by decide +kernel) rfl rfl ?_ | refine wp_region_qt k_headOk rfl 16 (by decide +kernel) rfl rfl ?_
       | refine RunQ.go1 rfl ?_ | refine RunQ.done rfl ?_ | refine Run.gT rfl rfl rfl rfl ?_ | refine Run.pT rfl rfl ?_ | (refine Run.splitG rfl rfl rfl rfl rfl rfl ?_ ?_ <;> intro _)
       | (refine Run.splitP rfl rfl rfl rfl ?_ ?_ <;> intro _) | refine RunQ.gT rfl rfl rfl rfl ?_ | refine RunQ.pT rfl rfl ?_ | (refine RunQ.splitG rfl rfl rfl rfl rfl rfl ?_ ?_ <;> intro _)
       | (refine RunQ.splitP rfl rfl rfl rfl ?_ ?_ <;> intro _) | refine Run.call rfl rfl rfl (c1) rfl rfl ?_ | refine Run.call rfl rfl rfl (c2) rfl rfl ?_ | refine Run.call rfl rfl rfl (c3) rfl rfl ?_
       | refine Run.call rfl rfl rfl (c4) rfl rfl ?_ | refine Run.call rfl rfl rfl (c5) rfl rfl ?_ | refine Run.call rfl rfl rfl (c6) rfl rfl ?_ | refine Run.call rfl rfl rfl (c7) rfl rfl ?_
       | refine RunQ.call rfl rfl rfl rfl rfl rfl (c1) (.inl rfl) rfl rfl ?_ | refine RunQ.call rfl rfl rfl rfl rfl rfl (c2) (.inl rfl) rfl rfl ?_ | refine RunQ.call rfl rfl rfl rfl rfl rfl (c3) (.inl rfl) rfl rfl ?_
       | refine RunQ.call rfl rfl rfl rfl rfl rfl (c4) (.inl rfl) rfl rfl ?_ | refine RunQ.call rfl rfl rfl rfl rfl rfl (c5) (.inl rfl) rfl rfl ?_ | refine RunQ.call rfl rfl rfl rfl rfl rfl (c6) (.inl rfl) rfl rfl ?_
       | refine RunQ.ix rfl rfl rfl rfl rfl rfl rfl hx rfl rfl rfl ?_ | refine Run.ix rfl rfl rfl rfl rfl rfl rfl hx rfl rfl rfl ?_ | (refine wp_cond_k rfl rfl rfl ?_ ?_ <;> intro _) | (refine wp_cond_i rfl ?_ ?_ <;> intro _))
    all_goals first
    | (refine ⟨?_⟩; clear c1 c2 c3 c4 c5 c6 c7 r1 r3 r4 e5 e6 e7; simp_all; done)
    | (refine ⟨?_⟩; clear c1 c2 c3 c4 c5 c6 c7 r1 r3 r4 e5 e6 e7; simp_all [fnHd]; done)
    | (refine ⟨?_⟩; clear c1 c2 c3 c4 c5 c6 c7 r1 r3 r4 e5 e6 e7; clear hx; rw [hfn]; cases h3 : (k3 == 4) <;> simp_all; done)
    | (refine ⟨?_⟩; clear c1 c2 c3 c4 c5 c6 c7 r1 r3 r4 e5 e6 e7; cases ht <;> cases tb <;> cases sm <;> simp_all; done)
    | (refine ret_m [] rfl rfl ?_; rw [r1 (by assumption)]; done)
    | (refine ret_m [] rfl rfl ?_; rw [r3 (by assumption)]; done)
    | (refine ret_m [] rfl rfl ?_; rw [r4 (by assumption) (by assumption)]; clear c1 c2 c3 c4 c5 c6 c7 r1 r3 r4; simp_all; done)
    | (refine ret_m [] rfl rfl ?_; rw [r4 (by assumption) (by assumption)]; clear c1 c2 c3 c4 c5 c6 c7 r1 r3 r4; simp_all; omega)
    | (exfalso; clear c1 c2 c3 c4 c5 c6 c7 r1 r3 r4 e5 e6 e7; simp_all [tmPt]; done)
    | (exfalso; clear c1 c2 c3 c4 c5 c6 c7 r1 r3 r4 e5 e6 e7; simp_all [tmPt]; omega)
    | trace_state
end Go.Proofs

set_option linter.unusedVariables false
set_option linter.unusedSimpArgs false
set_option maxHeartbeats 4000000
namespace Go.Proofs
open Go Go.Ev
set_option maxRecDepth 100000
variable {X : Rel3}
mutual
noncomputable def tmH : Tm → Bool
  | .mk k n s z t ts a => tmHd k n s z t ts a && tmHL a
noncomputable def tmHL : List Tm → Bool
  | [] => true
  | t :: r => tmH t && tmHL r
end
mutual
def tmD : Tm → Nat
  | .mk _ _ _ _ _ _ a => tmDL a + 1
def tmDL : List Tm → Nat
  | [] => 0
  | t :: r => max (tmD t) (tmDL r)
end
mutual
def tmN : Tm → Nat
  | .mk _ _ _ _ _ _ a => tmNL a + 1
def tmNL : List Tm → Nat
  | [] => 0
  | t :: r => tmN t + tmNL r
end
/-- a term is right -/
noncomputable def tmB (t : Tm) : Bool := tmH t && decide (tmD t ≤ 24) && decide (tmN t ≤ 150)
mutual
noncomputable def lkM : Tm → Nat → Nat → Bool × Nat
  | .mk k n s z t ts a, d, c => if d = 0 ∨ 150 < c + 1 ∨ tmHd k n s z t ts a = false then (false, c + 1) else lkML a (d - 1) (c + 1)
noncomputable def lkML : List Tm → Nat → Nat → Bool × Nat
  | [], _, c => (true, c)
  | t :: r, d, c => if (lkM t d c).1 then lkML r d (lkM t d c).2 else (false, (lkM t d c).2)
end
mutual
theorem lkM_iff : ∀ (t : Tm) (d c : Nat), c ≤ 150 → ((lkM t d c).1 = true ↔ (tmH t = true ∧ tmD t ≤ d ∧ c + tmN t ≤ 150)) ∧ ((lkM t d c).1 = true → (lkM t d c).2 = c + tmN t)
  | .mk k n s z t ts a, d, c, hc => by
    rw [lkM, tmH, tmD, tmN]
    split
    · rename_i h
      refine ⟨⟨fun e => (Bool.false_ne_true e).elim, fun ⟨e1, e2, e3⟩ => ?_⟩, fun e => (Bool.false_ne_true e).elim⟩
      exfalso
      rcases h with h | h | h
      · omega
      · omega
      · rw [h] at e1; simp at e1
    · rename_i h
      simp only [not_or, Nat.not_lt, Bool.not_eq_false] at h
      obtain ⟨h1, h2, h3⟩ := h
      obtain ⟨i1, i2⟩ := lkML_iff a (d - 1) (c + 1) h2
      rw [h3, Bool.true_and]
      refine ⟨i1.trans ⟨fun ⟨x, y, z⟩ => ⟨x, by omega, by omega⟩, fun ⟨x, y, z⟩ => ⟨x, by omega, by omega⟩⟩, fun e => ?_⟩
      rw [i2 e]; omega
theorem lkML_iff : ∀ (l : List Tm) (d c : Nat), c ≤ 150 → ((lkML l d c).1 = true ↔ (tmHL l = true ∧ tmDL l ≤ d ∧ c + tmNL l ≤ 150)) ∧ ((lkML l d c).1 = true → (lkML l d c).2 = c + tmNL l)
  | [], d, c, hc => by rw [lkML, tmHL, tmDL, tmNL]; simp; omega
  | t :: r, d, c, hc => by
    rw [lkML, tmHL, tmDL, tmNL]
    obtain ⟨i1, i2⟩ := lkM_iff t d c hc
    split
    · rename_i h
      obtain ⟨j1, j2, j3⟩ := i1.1 h
      obtain ⟨k1, k2⟩ := lkML_iff r d (lkM t d c).2 (by rw [i2 h]; omega)
      rw [i2 h] at k1 k2 ⊢
      rw [j1, Bool.true_and]
      refine ⟨k1.trans ⟨fun ⟨x, y, z⟩ => ⟨x, by omega, by omega⟩, fun ⟨x, y, z⟩ => ⟨x, by omega, by omega⟩⟩, fun e => ?_⟩
      rw [k2 e]; omega
    · rename_i h
      refine ⟨⟨fun e => (Bool.false_ne_true e).elim, fun ⟨e1, e2, e3⟩ => (h (i1.2 ⟨?_, by omega, by omega⟩)).elim⟩, fun e => (Bool.false_ne_true e).elim⟩
      rw [Bool.and_eq_true] at e1; exact e1.1
end
theorem lkM_tmB (t : Tm) : (lkM t 24 0).1 = tmB t := by
  have h := (lkM_iff t 24 0 (by omega)).1
  rw [Bool.eq_iff_iff, h, tmB]
  simp
  constructor
  · rintro ⟨a, b, c⟩; exact ⟨⟨a, b⟩, c⟩
  · rintro ⟨⟨a, b⟩, c⟩; exact ⟨a, b, c⟩
theorem lkML_drop : ∀ (l : List Tm) (k : Nat) (t : Tm) (d c : Nat), l[k]? = some t → lkML (l.drop k) d c = if (lkM t d c).1 then lkML (l.drop (k + 1)) d (lkM t d c).2 else (false, (lkM t d c).2) := by
  intro l k t d c h
  have hk := (List.getElem?_eq_some_iff.1 h).1
  rw [List.drop_eq_getElem_cons hk, (List.getElem?_eq_some_iff.1 h).2, lkML]
mutual
theorem tmN_le : ∀ t : Tm, tmN t ≤ cTm t
  | .mk _ _ _ _ _ _ a => by rw [cTm, tmN]; have := tmNL_le a; omega
theorem tmNL_le : ∀ l : List Tm, tmNL l ≤ cTmL l
  | [] => by rw [cTmL, tmNL]; omega
  | t :: r => by rw [cTmL, tmNL]; have := tmN_le t; have := tmNL_le r; omega
end
mutual
theorem tmD_le : ∀ t : Tm, tmD t ≤ tmN t
  | .mk _ _ _ _ _ _ a => by rw [tmD, tmN]; have := tmDL_le a; omega
theorem tmDL_le : ∀ l : List Tm, tmDL l ≤ tmNL l
  | [] => by rw [tmDL, tmNL]; omega
  | t :: r => by rw [tmDL, tmNL]; have := tmD_le t; have := tmDL_le r; omega
end
theorem tmDL_snoc (x : Tm) : ∀ l : List Tm, tmDL (l ++ [x]) = max (tmDL l) (tmD x)
  | [] => by simp [tmDL]
  | t :: r => by rw [List.cons_append, tmDL, tmDL, tmDL_snoc x r]; omega
theorem tmNL_snoc (x : Tm) : ∀ l : List Tm, tmNL (l ++ [x]) = tmNL l + tmN x
  | [] => by rw [List.nil_append, tmNL, tmNL, tmNL]; omega
  | t :: r => by rw [List.cons_append, tmNL, tmNL, tmNL_snoc x r]; omega
theorem tmHL_snoc (x : Tm) : ∀ l : List Tm, tmHL (l ++ [x]) = (tmHL l && tmH x)
  | [] => by rw [List.nil_append, tmHL, tmHL, tmHL]; simp
  | t :: r => by rw [List.cons_append, tmHL, tmHL, tmHL_snoc x r, Bool.and_assoc]
theorem tmHL_iff : ∀ {l : List Tm}, tmHL l = true ↔ ∀ t ∈ l, tmH t = true
  | [] => by rw [tmHL]; simp
  | t :: r => by rw [tmHL, Bool.and_eq_true, tmHL_iff]; simp
theorem tmNL_take : ∀ (l : List Tm) (j : Nat) (x : Tm), l[j]? = some x → tmNL (l.take j) + tmN x ≤ tmNL l
  | [], j, x, h => by simp at h
  | t :: r, 0, x, h => by simp at h; subst h; rw [List.take_zero, tmNL, tmNL]; omega
  | t :: r, j + 1, x, h => by
    have := tmNL_take r j x (by simpa using h)
    rw [List.take_succ_cons, tmNL, tmNL]; omega
noncomputable def meaTm (t : Tm) : AV := if tmH t then .tp [iA (tmD t), iA (tmN t), bA true] else .tp [iA 0, iA 0, bA false]
def k_l2Look : List (Nat × List Nat) := [(0, [1, 2, 3]), (1, [1, 2, 3]), (2, [1, 2, 3, 26]), (3, [6]), (4, [1, 2, 3, 7]), (5, [1, 2, 3, 7, 31]), (6, [1, 2, 3, 7]), (7, [1, 2, 3, 7, 43]), (8, [6]), (9, [6])]
theorem l2Look_t : ∀ (t : Tm) (d c : Nat), Tm.ok t → d ≤ 1000 → c ≤ 150 → Tells Try.prog E0 X 44 [t.a false, iA d, .io [iA c]] (.io [bA (lkM t d c).1, .u, .u, .io [iA (lkM t d c).2]])
  | .mk kk nn ss zz (.mk tk tn ta) ts aa, d, c, hok, hd, hc => by
    have hOne := l2One_t (X := X) kk nn ss zz tk tn ta ts aa hok
    rw [Tm.ok] at hok
    have hok6 := hok.2.2.2.2
    rw [lkM]
    have hcw : IntKind.i64.wrap ((c : Int) + 1) = ((c + 1 : Nat) : Int) := by rw [w64] <;> omega
    generalize tmHd kk nn ss zz (.mk tk tn ta) ts aa = hdb at *
    refine Tells.by Try.func44 (by simp [Try.f44]) (Body.i rfl rfl rfl (fun _ => rfl) fun f => ?_)
    repeat' (first
       | refine wp_seq_i ?_ | refine wp_region_t k_l2Look rfl ?_ | refine Run.done rfl ?_ | refine then_n ?_ | refine then_r ?_ | refine then_e ?_ | refine Run.go1 rfl ?_ | refine wp_skip_i ?_ | refine wp_ret_i ?_
       | refine wp_exit_i ?_ | refine wp_block_i ?_ | refine block_n ?_ | refine block_r ?_ | refine block_e ?_ | refine block_o rfl ?_ | refine wp_cond_t rfl ?_ | refine wp_cond_f rfl ?_ | refine Run.gT rfl rfl rfl rfl ?_
       | refine Run.pT rfl rfl ?_ | (refine Run.splitG rfl rfl rfl rfl rfl rfl ?_ ?_ <;> intro _) | (refine Run.splitP rfl rfl rfl rfl ?_ ?_ <;> intro _) | refine Run.call rfl rfl rfl (hOne) rfl rfl ?_
       | (refine wp_cond_k rfl rfl rfl ?_ ?_ <;> intro _) | (refine wp_cond_i rfl ?_ ?_ <;> intro _))
    all_goals first
    | (rename_i h
       refine ret_o [false, false, true] [] rfl rfl rfl (by simp) ?_
       rw [if_pos (by first | exact .inl (by simpa using h) | exact .inr (.inl (by rw [hcw] at h; have h := of_decide_eq_true h; omega)) | exact .inr (.inr (by simpa using h))), hcw]; done)
    | skip
    all_goals (
      have hnn : ¬ (d = 0 ∨ 150 < c + 1 ∨ hdb = false) := by rw [hcw] at *; simp_all <;> omega
      rw [if_neg hnn]
      simp only [not_or, Nat.not_lt] at hnn
      have hdw : IntKind.i64.wrap ((d : Int) - 1) = ((d - 1 : Nat) : Int) := by rw [w64] <;> omega
      refine wp_loop_k (α := Nat × Nat) [.last 300000, .keep [1, 2, 3, 7] [300000, 3]] (fun p => [(7, iA p.1)]) (fun p => [(300000, [iA p.2])]) (fun _ => []) (fun p => (p.1 ≤ aa.length ∧ p.2 ≤ 150) ∧ lkML (aa.drop p.1) (d - 1) p.2 = lkML aa (d - 1) (c + 1)) (fun p => aa.length - p.1) (0, c + 1) rfl (fun _ => rfl) (by simp only [hcw]; rfl) ⟨⟨Nat.zero_le _, hnn.2.1⟩, rfl⟩ ?_
      rintro ⟨j, m⟩ ⟨⟨hj, hm⟩, hI⟩
      simp only at hj hm hI
      by_cases hlt : j < aa.length
      · obtain ⟨t, ht⟩ : ∃ t, aa[j]? = some t := ⟨_, List.getElem?_eq_getElem hlt⟩
        have hokt := Tm.okL_iff.1 hok6.2 t (List.mem_of_getElem? ht)
        have hT := l2Look_t t (d - 1) m hokt (by omega) hm
        rw [← hdw] at hT
        have hit := (lkM_iff t (d - 1) m hm)
        rw [lkML_drop aa j t (d - 1) m ht] at hI
        generalize hr : lkM t (d - 1) m = r at hT hit hI
        clear hr
        obtain ⟨r1, r2⟩ := r
        obtain ⟨k2, n2, y2, z2, ⟨tk2, tn2, ta2⟩, ts2, a2⟩ := t
        have hx : (aa.map (Tm.c false))[j]? = some [iT k2, iT n2, sT y2, sT z2, iT tk2, iT tn2, .sl false (ta2.map (Ty.c false)), .sl false (ts2.map (Ty.c false)), .sl false (a2.map (Tm.c false))] := by rw [List.getElem?_map, ht]; exact congrArg some (Tm.c_mk ..)
        repeat' (first
           | refine wp_seq_i ?_ | refine wp_region_t k_l2Look rfl ?_ | refine Run.done rfl ?_ | refine then_n ?_ | refine then_r ?_ | refine then_e ?_ | refine Run.go1 rfl ?_ | refine wp_skip_i ?_ | refine wp_ret_i ?_
           | refine wp_exit_i ?_ | refine wp_block_i ?_ | refine block_n ?_ | refine block_r ?_ | refine block_e ?_ | refine block_o rfl ?_ | refine wp_cond_t rfl ?_ | refine wp_cond_f rfl ?_ | refine Run.gT rfl rfl rfl rfl ?_
           | refine Run.pT rfl rfl ?_ | (refine Run.splitG rfl rfl rfl rfl rfl rfl ?_ ?_ <;> intro _) | (refine Run.splitP rfl rfl rfl rfl ?_ ?_ <;> intro _) | refine Run.ix rfl rfl rfl rfl rfl rfl rfl hx rfl rfl rfl ?_
           | refine Run.call rfl rfl rfl (hT) rfl rfl ?_ | (refine wp_cond_k rfl rfl rfl ?_ ?_ <;> intro _) | (refine wp_cond_i rfl ?_ ?_ <;> intro _))
        all_goals first
        | (exfalso; rename_i h; simp [hlt] at h; done)
        | (rename_i h
           have h : r1 = false := by simpa using h
           subst h
           refine ret_o [false, false, true] [] rfl rfl rfl (by simp) ?_
           rw [← hI]; rfl)
        | (rename_i h
           have h : r1 = true := by simpa using h
           subst h
           have h2 := hit.2 rfl
           have h3 := hit.1.1 rfl
           simp only at h2
           refine back_i [.keep [1, 2, 3, 7] [300000, 3]] (j + 1, r2) rfl ?_ ⟨⟨by simp; omega, by simp; omega⟩, hI⟩ (by simp; omega)
           simp only [w_succ hlt (show aa.length ≤ 9223372036854775807 by omega)]; first | done | rfl)
        | trace_state
      · have hjl : j = aa.length := by omega
        repeat' (first
           | refine wp_seq_i ?_ | refine wp_region_t k_l2Look rfl ?_ | refine Run.done rfl ?_ | refine then_n ?_ | refine then_r ?_ | refine then_e ?_ | refine Run.go1 rfl ?_ | refine wp_skip_i ?_ | refine wp_ret_i ?_
           | refine wp_exit_i ?_ | refine wp_block_i ?_ | refine block_n ?_ | refine block_r ?_ | refine block_e ?_ | refine block_o rfl ?_ | refine wp_cond_t rfl ?_ | refine wp_cond_f rfl ?_ | refine Run.gT rfl rfl rfl rfl ?_
           | refine Run.pT rfl rfl ?_ | (refine Run.splitG rfl rfl rfl rfl rfl rfl ?_ ?_ <;> intro _) | (refine Run.splitP rfl rfl rfl rfl ?_ ?_ <;> intro _) | (refine wp_cond_k rfl rfl rfl ?_ ?_ <;> intro _)
           | (refine wp_cond_i rfl ?_ ?_ <;> intro _))
        all_goals first
        | (exfalso; rename_i h; simp [hjl] at h; done)
        | (refine ret_o [false, false, true] [] rfl rfl rfl (by simp) ?_
           rw [← hI, hjl, List.drop_length, lkML]; done)
        | trace_state)
  termination_by t => SizeOf.sizeOf t
  decreasing_by
    all_goals (have hsz := List.sizeOf_lt_of_mem (List.mem_of_getElem? ht); simp; omega)
def k_TermOkS : List (Nat × List Nat) := [(0, [1]), (1, [1, 3]), (2, [2])]
theorem TermOkS_t (t : Tm) (hok : t.ok) : Tells Try.prog E0 X 20 [t.a false] (bA (tmB t)) := by
  have hT := l2Look_t (X := X) t 24 0 hok (by omega) (by omega)
  rw [lkM_tmB] at hT
  obtain ⟨kk, nn, ss, zz, ⟨tk, tn, ta⟩, ts, aa⟩ := t
  refine Tells.by Try.func20 (by simp [Try.f20]) (Body.i rfl rfl rfl (fun _ => rfl) fun f => ?_)
  repeat' (first
     | refine wp_seq_i ?_ | refine wp_region_t k_TermOkS rfl ?_ | refine Run.done rfl ?_ | refine then_n ?_ | refine then_r ?_ | refine then_e ?_ | refine Run.go1 rfl ?_ | refine wp_skip_i ?_ | refine wp_ret_i ?_
     | refine wp_exit_i ?_ | refine wp_block_i ?_ | refine block_n ?_ | refine block_r ?_ | refine block_e ?_ | refine block_o rfl ?_ | refine wp_cond_t rfl ?_ | refine wp_cond_f rfl ?_
     | refine Run.call rfl rfl rfl (hT) rfl rfl ?_ | (refine wp_cond_k rfl rfl rfl ?_ ?_ <;> intro _) | (refine wp_cond_i rfl ?_ ?_ <;> intro _))
  all_goals exact ret_m [] rfl rfl rfl
def k_termSize : List (Nat × List Nat) := [(0, [1]), (1, [1, 14]), (2, [2, 3, 4]), (3, [1, 5, 6]), (4, [5, 6, 16, 17, 18]), (5, [5, 6, 16, 17, 18, 19]), (6, [5, 6, 8, 16, 17, 18]), (7, [5, 6, 9, 10, 11, 16, 17, 18]), (8, [5, 6, 9, 10, 16, 17, 18, 29]), (9, [2, 3, 4]), (10, [5, 6, 10, 16, 17, 18]), (11, [5, 6, 16, 17, 18]), (12, [5, 6, 16, 17, 18]), (13, [2, 3, 4])]
theorem termSize_t : ∀ (t : Tm), Tm.ok t → cTm t ≤ 1000000000 → Tells Try.prog E0 X 50 [t.a false] (meaTm t)
  | .mk kk nn ss zz (.mk tk tn ta) ts aa, hok, hc => by
    have hHd := headOk_t (X := X) kk nn ss zz tk tn ta ts aa hok hc
    rw [Tm.ok] at hok
    rw [cTm] at hc
    have hok6 := hok.2.2.2.2
    have hcN := tmNL_le aa
    have hme : meaTm (.mk kk nn ss zz (.mk tk tn ta) ts aa) = if (tmHd kk nn ss zz (.mk tk tn ta) ts aa && tmHL aa) = true then .tp [iA ((tmDL aa + 1 : Nat) : Int), iA ((tmNL aa + 1 : Nat) : Int), bA true] else .tp [iA 0, iA 0, bA false] := by unfold meaTm; rw [tmH, tmD, tmN]
    rw [hme]
    generalize tmHd kk nn ss zz (.mk tk tn ta) ts aa = hdb at *
    clear hme
    refine Tells.by Try.func50 (by simp [Try.f50]) (Body.i rfl rfl rfl (fun _ => rfl) fun f => ?_)
    repeat' (first
       | refine wp_seq_i ?_ | refine wp_region_t k_termSize rfl ?_ | refine Run.done rfl ?_ | refine then_n ?_ | refine then_r ?_ | refine then_e ?_ | refine Run.go1 rfl ?_ | refine wp_skip_i ?_ | refine wp_ret_i ?_
       | refine wp_exit_i ?_ | refine wp_block_i ?_ | refine block_n ?_ | refine block_r ?_ | refine block_e ?_ | refine block_o rfl ?_ | refine wp_cond_t rfl ?_ | refine wp_cond_f rfl ?_ | refine Run.gT rfl rfl rfl rfl ?_
       | refine Run.pT rfl rfl ?_ | (refine Run.splitG rfl rfl rfl rfl rfl rfl ?_ ?_ <;> intro _) | (refine Run.splitP rfl rfl rfl rfl ?_ ?_ <;> intro _) | refine Run.call rfl rfl rfl (hHd) rfl rfl ?_
       | (refine wp_cond_k rfl rfl rfl ?_ ?_ <;> intro _) | (refine wp_cond_i rfl ?_ ?_ <;> intro _))
    all_goals first
    | (refine ret_m [] rfl rfl ?_
       have hnh : hdb = false := by simp_all
       rw [hnh]; first | done | rfl)
    | skip
    all_goals (
      have hyh : hdb = true := by simp_all
      rw [hyh, Bool.true_and]
      refine wp_loop_k (α := Nat) [.keep [5, 6, 16, 17, 18] []] (fun p => [(5, iA (tmDL (aa.take p))), (6, iA ((tmNL (aa.take p) + 1 : Nat) : Int)), (18, iA p)]) (fun _ => []) (fun _ => []) (fun p => p ≤ aa.length ∧ tmHL (aa.take p) = true) (fun p => aa.length - p) 0 rfl (fun _ => rfl) (by simp only [List.take_zero, tmDL, tmNL]; rfl) ⟨Nat.zero_le _, by rw [List.take_zero, tmHL]⟩ ?_
      rintro j ⟨hj, hI⟩
      by_cases hlt : j < aa.length
      · obtain ⟨t, ht⟩ : ∃ t, aa[j]? = some t := ⟨_, List.getElem?_eq_getElem hlt⟩
        have hmem := List.mem_of_getElem? ht
        have hokt := Tm.okL_iff.1 hok6.2 t hmem
        have htk : aa.take (j + 1) = aa.take j ++ [t] := by rw [List.take_succ_eq_append_getElem hlt, (List.getElem?_eq_some_iff.1 ht).2]
        have hnt := tmNL_take aa j t ht
        have hT := termSize_t t hokt (by have := cTmL_take aa j t ht; omega)
        have hdd := tmDL_le (aa.take j)
        have hdt := tmD_le t
        have s1 := tmDL_snoc t (aa.take j)
        have s2 := tmNL_snoc t (aa.take j)
        have s3 := tmHL_snoc t (aa.take j)
        rw [← htk] at s1 s2 s3
        unfold meaTm at hT
        by_cases hth : tmH t = true
        · rw [if_pos hth] at hT
          generalize tmD t = d1 at *
          generalize tmN t = n1 at *
          generalize tmDL (aa.take j) = d0 at *
          generalize tmNL (aa.take j) = n0 at *
          obtain ⟨k2, n2, y2, z2, ⟨tk2, tn2, ta2⟩, ts2, a2⟩ := t
          have hx : (aa.map (Tm.c false))[j]? = some [iT k2, iT n2, sT y2, sT z2, iT tk2, iT tn2, .sl false (ta2.map (Ty.c false)), .sl false (ts2.map (Ty.c false)), .sl false (a2.map (Tm.c false))] := by rw [List.getElem?_map, ht]; exact congrArg some (Tm.c_mk ..)
          repeat' (first
             | refine wp_seq_i ?_ | refine wp_region_t k_termSize rfl ?_ | refine Run.done rfl ?_ | refine then_n ?_ | refine then_r ?_ | refine then_e ?_ | refine Run.go1 rfl ?_ | refine wp_skip_i ?_ | refine wp_ret_i ?_
             | refine wp_exit_i ?_ | refine wp_block_i ?_ | refine block_n ?_ | refine block_r ?_ | refine block_e ?_ | refine block_o rfl ?_ | refine wp_cond_t rfl ?_ | refine wp_cond_f rfl ?_
             | refine Run.ix rfl rfl rfl rfl rfl rfl rfl hx rfl rfl rfl ?_ | refine Run.call rfl rfl rfl (hT) rfl rfl ?_ | refine Run.one rfl rfl rfl ?_ | (refine wp_cond_k rfl rfl rfl ?_ ?_ <;> intro _)
             | (refine wp_cond_i rfl ?_ ?_ <;> intro _))
          all_goals first
          | (exfalso; rename_i h; simp [hlt] at h; done)
          | (exfalso; rename_i h; simp at h; done)
          | (refine back_i [.keep [5, 6, 16, 17, 18] []] (j + 1) rfl ?_ ⟨by omega, by rw [s3, hI, hth]; rfl⟩ (by omega)
             simp only [w_succ hlt (show aa.length ≤ 9223372036854775807 by omega), s1, s2]
             have e2 : IntKind.i64.wrap (((n0 + 1 : Nat) : Int) + n1) = ((n0 + n1 + 1 : Nat) : Int) := by rw [w64] <;> omega
             have e3 : (if (d1 : Int) > d0 then (d1 : Int) else d0) = ((max d0 d1 : Nat) : Int) := by split <;> omega
             rw [e2, e3]; first | done | rfl)
          | trace_state
        · rw [if_neg hth] at hT
          obtain ⟨k2, n2, y2, z2, ⟨tk2, tn2, ta2⟩, ts2, a2⟩ := t
          have hx : (aa.map (Tm.c false))[j]? = some [iT k2, iT n2, sT y2, sT z2, iT tk2, iT tn2, .sl false (ta2.map (Ty.c false)), .sl false (ts2.map (Ty.c false)), .sl false (a2.map (Tm.c false))] := by rw [List.getElem?_map, ht]; exact congrArg some (Tm.c_mk ..)
          repeat' (first
             | refine wp_seq_i ?_ | refine wp_region_t k_termSize rfl ?_ | refine Run.done rfl ?_ | refine then_n ?_ | refine then_r ?_ | refine then_e ?_ | refine Run.go1 rfl ?_ | refine wp_skip_i ?_ | refine wp_ret_i ?_
             | refine wp_exit_i ?_ | refine wp_block_i ?_ | refine block_n ?_ | refine block_r ?_ | refine block_e ?_ | refine block_o rfl ?_ | refine wp_cond_t rfl ?_ | refine wp_cond_f rfl ?_
             | refine Run.ix rfl rfl rfl rfl rfl rfl rfl hx rfl rfl rfl ?_ | refine Run.call rfl rfl rfl (hT) rfl rfl ?_ | refine Run.one rfl rfl rfl ?_ | (refine wp_cond_k rfl rfl rfl ?_ ?_ <;> intro _)
             | (refine wp_cond_i rfl ?_ ?_ <;> intro _))
          all_goals first
          | (exfalso; rename_i h; simp [hlt] at h; done)
          | (exfalso; rename_i h; simp at h; done)
          | (refine ret_m [] rfl rfl ?_
             rw [if_neg (fun e => hth (tmHL_iff.1 e _ hmem))])
          | trace_state
      · have hjl : j = aa.length := by omega
        subst hjl
        rw [List.take_length] at hI ⊢
        have hdd := tmDL_le aa
        rw [if_pos hI]
        repeat' (first
           | refine wp_seq_i ?_ | refine wp_region_t k_termSize rfl ?_ | refine Run.done rfl ?_ | refine then_n ?_ | refine then_r ?_ | refine then_e ?_ | refine Run.go1 rfl ?_ | refine wp_skip_i ?_ | refine wp_ret_i ?_
           | refine wp_exit_i ?_ | refine wp_block_i ?_ | refine block_n ?_ | refine block_r ?_ | refine block_e ?_ | refine block_o rfl ?_ | refine wp_cond_t rfl ?_ | refine wp_cond_f rfl ?_ | refine Run.gT rfl rfl rfl rfl ?_
           | refine Run.pT rfl rfl ?_ | (refine Run.splitG rfl rfl rfl rfl rfl rfl ?_ ?_ <;> intro _) | (refine Run.splitP rfl rfl rfl rfl ?_ ?_ <;> intro _) | (refine wp_cond_k rfl rfl rfl ?_ ?_ <;> intro _)
           | (refine wp_cond_i rfl ?_ ?_ <;> intro _))
        all_goals first
        | (exfalso; rename_i h; simp at h; done)
        | (refine ret_m [] rfl rfl ?_
           have e1 : IntKind.i64.wrap ((tmDL aa : Int) + 1) = ((tmDL aa + 1 : Nat) : Int) := by rw [w64] <;> omega
           rw [e1]; done)
        | trace_state)
  termination_by t => SizeOf.sizeOf t
  decreasing_by
    all_goals (have hsz := List.sizeOf_lt_of_mem (List.mem_of_getElem? ht); simp; omega)
def k_TermOkI : List (Nat × List Nat) := [(0, [1]), (1, [3, 4, 5]), (2, [2])]
theorem TermOkI_t (t : Tm) (hok : t.ok) (hc : cTm t ≤ 1000000000) : Tells Try.prog E0 X 26 [t.a false] (bA (tmB t)) := by
  have hT := termSize_t (X := X) t hok hc
  unfold meaTm at hT
  have htb : tmB t = (tmH t && decide (tmD t ≤ 24) && decide (tmN t ≤ 150)) := rfl
  rw [htb]
  generalize tmD t = d1 at *
  generalize tmN t = n1 at *
  have e1 : decide ((n1 : Int) ≤ 150) = decide (n1 ≤ 150) := by rw [decide_eq_decide]; omega
  have e2 : decide ((d1 : Int) ≤ 24) = decide (d1 ≤ 24) := by rw [decide_eq_decide]; omega
  by_cases hth : tmH t = true
  · rw [if_pos hth] at hT
    obtain ⟨kk, nn, ss, zz, ⟨tk, tn, ta⟩, ts, aa⟩ := t
    refine Tells.by Try.func26 (by simp [Try.f26]) (Body.i rfl rfl rfl (fun _ => rfl) fun f => ?_)
    repeat' (first
       | refine wp_seq_i ?_ | refine wp_region_t k_TermOkI rfl ?_ | refine Run.done rfl ?_ | refine then_n ?_ | refine then_r ?_ | refine then_e ?_ | refine Run.go1 rfl ?_ | refine wp_skip_i ?_ | refine wp_ret_i ?_
       | refine wp_exit_i ?_ | refine wp_block_i ?_ | refine block_n ?_ | refine block_r ?_ | refine block_e ?_ | refine block_o rfl ?_ | refine wp_cond_t rfl ?_ | refine wp_cond_f rfl ?_ | refine Run.gT rfl rfl rfl rfl ?_
       | refine Run.pT rfl rfl ?_ | (refine Run.splitG rfl rfl rfl rfl rfl rfl ?_ ?_ <;> intro _) | (refine Run.splitP rfl rfl rfl rfl ?_ ?_ <;> intro _) | refine Run.call rfl rfl rfl (hT) rfl rfl ?_
       | (refine wp_cond_k rfl rfl rfl ?_ ?_ <;> intro _) | (refine wp_cond_i rfl ?_ ?_ <;> intro _))
    all_goals (refine ret_m [] rfl rfl ?_; first | (simp_all; done) | (simp_all <;> omega))
  · rw [if_neg hth] at hT
    obtain ⟨kk, nn, ss, zz, ⟨tk, tn, ta⟩, ts, aa⟩ := t
    refine Tells.by Try.func26 (by simp [Try.f26]) (Body.i rfl rfl rfl (fun _ => rfl) fun f => ?_)
    repeat' (first
       | refine wp_seq_i ?_ | refine wp_region_t k_TermOkI rfl ?_ | refine Run.done rfl ?_ | refine then_n ?_ | refine then_r ?_ | refine then_e ?_ | refine Run.go1 rfl ?_ | refine wp_skip_i ?_ | refine wp_ret_i ?_
       | refine wp_exit_i ?_ | refine wp_block_i ?_ | refine block_n ?_ | refine block_r ?_ | refine block_e ?_ | refine block_o rfl ?_ | refine wp_cond_t rfl ?_ | refine wp_cond_f rfl ?_ | refine Run.gT rfl rfl rfl rfl ?_
       | refine Run.pT rfl rfl ?_ | (refine Run.splitG rfl rfl rfl rfl rfl rfl ?_ ?_ <;> intro _) | (refine Run.splitP rfl rfl rfl rfl ?_ ?_ <;> intro _) | refine Run.call rfl rfl rfl (hT) rfl rfl ?_
       | (refine wp_cond_k rfl rfl rfl ?_ ?_ <;> intro _) | (refine wp_cond_i rfl ?_ ?_ <;> intro _))
    all_goals (refine ret_m [] rfl rfl ?_; simp_all; done)
end Go.Proofs

set_option linter.unusedVariables false
set_option linter.unusedSimpArgs false
set_option maxHeartbeats 4000000
namespace Go.Proofs
open Go Go.Ev
set_option maxRecDepth 100000
variable {X : Rel3}
def k_l1Copy : List (Nat × List Nat) := [(0, [1, 2]), (1, [1, 2, 3]), (2, [1, 2, 3, 4]), (3, [1, 2, 3, 4, 14]), (4, [1, 2, 3, 4]), (5, [1, 2, 3, 4]), (6, [2])]
theorem l1Copy_t : ∀ (t : Ty), t.ok → Tells Try.prog E0 X 45 [t.a false] (t.a true)
  | .mk kk nn aa, hok => by
    rw [Ty.ok] at hok
    refine Tells.by Try.func45 (by simp [Try.f45]) (Body.i rfl rfl rfl (fun _ => rfl) fun f => ?_)
    repeat' (first
       | refine wp_seq_i ?_ | refine wp_region_t k_l1Copy rfl ?_ | refine Run.done rfl ?_ | refine then_n ?_ | refine then_r ?_ | refine then_e ?_ | refine Run.go1 rfl ?_ | refine wp_skip_i ?_ | refine wp_ret_i ?_
       | refine wp_exit_i ?_ | refine wp_block_i ?_ | refine block_n ?_ | refine block_r ?_ | refine block_e ?_ | refine block_o rfl ?_ | refine wp_cond_t rfl ?_ | refine wp_cond_f rfl ?_
       | (refine wp_cond_k rfl rfl rfl ?_ ?_ <;> intro _) | (refine wp_cond_i rfl ?_ ?_ <;> intro _))
    refine wp_loop_k (α := Nat) [.nilH 3 2 77, .keep [1, 2, 3, 4] [1, 2, 3, 77]] (fun p => [(4, iA p)]) (fun _ => []) (fun p => [(77, 0, (aa.take p).map (Ty.c true))]) (fun p => p ≤ aa.length) (fun p => aa.length - p) 0 rfl (fun _ => rfl) rfl (Nat.zero_le _) ?_
    rintro j hj
    by_cases hlt : j < aa.length
    · obtain ⟨t, ht⟩ : ∃ t, aa[j]? = some t := ⟨_, List.getElem?_eq_getElem hlt⟩
      have hT := l1Copy_t t (Ty.okL_iff.1 hok.2 t (List.mem_of_getElem? ht))
      have htk : aa.take (j + 1) = aa.take j ++ [t] := by rw [List.take_succ_eq_append_getElem hlt, (List.getElem?_eq_some_iff.1 ht).2]
      have hc : ∀ o, Ty.c o t = Ty.c o t := fun _ => rfl
      have hmp : (aa.take (j + 1)).map (Ty.c true) = (aa.take j).map (Ty.c true) ++ [Ty.c true t] := by rw [htk]; simp
      obtain ⟨k2, n2, a2⟩ := t
      rw [Ty.c_mk] at hmp
      have hx : (aa.map (Ty.c false))[j]? = some [iT k2, iT n2, .sl false (a2.map (Ty.c false))] := by rw [List.getElem?_map, ht]; exact congrArg some (Ty.c_mk ..)
      repeat' (first
         | refine wp_seq_i ?_ | refine wp_region_t k_l1Copy rfl ?_ | refine Run.done rfl ?_ | refine then_n ?_ | refine then_r ?_ | refine then_e ?_ | refine Run.go1 rfl ?_ | refine wp_skip_i ?_ | refine wp_ret_i ?_
         | refine wp_exit_i ?_ | refine wp_block_i ?_ | refine block_n ?_ | refine block_r ?_ | refine block_e ?_ | refine block_o rfl ?_ | refine wp_cond_t rfl ?_ | refine wp_cond_f rfl ?_ | refine RunQ.go1 rfl ?_
         | refine RunQ.done rfl ?_ | refine wp_region_l k_l1Copy [0, 1, 2, 3, 4, 5, 6] [7, 8] [0, 1, 0, 4, 0, 28, 60, 124, 252, 511, 1023, 2047] rfl (by decide +kernel) (by decide +kernel) rfl rfl ?_
         | refine RunL.call rfl rfl rfl rfl (hT) (.inl rfl) rfl rfl ?_ | refine RunL.one rfl rfl rfl rfl rfl ?_ | refine RunL.done ?_ | refine RunQ.ix rfl rfl rfl rfl rfl rfl rfl hx rfl rfl rfl ?_
         | refine Run.ix rfl rfl rfl rfl rfl rfl rfl hx rfl rfl rfl ?_
         | refine Run.cnd rfl rfl rfl ⟨by first | (simp; done) | (simp; omega), (by intro r hr; obtain ⟨⟨_, _, _⟩, _, rfl⟩ := List.mem_map.1 hr; rw [Ty.c_mk]; rfl), by simp, .inl rfl, by first | trivial | (simp [flatT]; done)⟩ ?_
         | refine Run.one rfl rfl rfl ?_ | (refine wp_cond_k rfl rfl rfl ?_ ?_ <;> intro _) | (refine wp_cond_i rfl ?_ ?_ <;> intro _))
      all_goals first
      | (exfalso; rename_i h; simp [hlt] at h; done)
      | (refine back_i [.keep [1, 2, 3, 4] [1, 2, 3, 26], .ren 26 77] (j + 1) rfl ?_ (by omega) (by omega)
         simp only [w_succ hlt (show aa.length ≤ 9223372036854775807 by omega), hmp]; first | done | rfl)
      | trace_state
    · have hjl : j = aa.length := by omega
      subst hjl
      rw [List.take_length]
      repeat' (first
         | refine wp_seq_i ?_ | refine wp_region_t k_l1Copy rfl ?_ | refine Run.done rfl ?_ | refine then_n ?_ | refine then_r ?_ | refine then_e ?_ | refine Run.go1 rfl ?_ | refine wp_skip_i ?_ | refine wp_ret_i ?_
         | refine wp_exit_i ?_ | refine wp_block_i ?_ | refine block_n ?_ | refine block_r ?_ | refine block_e ?_ | refine block_o rfl ?_ | refine wp_cond_t rfl ?_ | refine wp_cond_f rfl ?_
         | (refine wp_cond_k rfl rfl rfl ?_ ?_ <;> intro _) | (refine wp_cond_i rfl ?_ ?_ <;> intro _))
      all_goals first
      | (exfalso; rename_i h; simp at h; done)
      | (exact ret_m [] rfl rfl rfl)
      | trace_state
  termination_by t => SizeOf.sizeOf t
  decreasing_by
    all_goals (have hsz := List.sizeOf_lt_of_mem (List.mem_of_getElem? ht); simp; omega)
def k_cloneTy : List (Nat × List Nat) := [(0, [1, 2]), (1, [1, 2, 3]), (2, [2, 3, 12, 13, 14]), (3, [2, 3, 12, 13, 14, 15]), (4, [2, 3, 5, 12, 13, 14]), (5, [2, 3, 12, 13, 14]), (6, [2, 3, 12, 13, 14]), (7, [2])]
theorem cloneTy_t : ∀ (t : Ty), t.ok → Tells Try.prog E0 X 51 [t.a false] (t.a true)
  | .mk kk nn aa, hok => by
    rw [Ty.ok] at hok
    refine Tells.by Try.func51 (by simp [Try.f51]) (Body.i rfl rfl rfl (fun _ => rfl) fun f => ?_)
    repeat' (first
       | refine wp_seq_i ?_ | refine wp_region_t k_cloneTy rfl ?_ | refine Run.done rfl ?_ | refine then_n ?_ | refine then_r ?_ | refine then_e ?_ | refine Run.go1 rfl ?_ | refine wp_skip_i ?_ | refine wp_ret_i ?_
       | refine wp_exit_i ?_ | refine wp_block_i ?_ | refine block_n ?_ | refine block_r ?_ | refine block_e ?_ | refine block_o rfl ?_ | refine wp_cond_t rfl ?_ | refine wp_cond_f rfl ?_
       | (refine wp_cond_k rfl rfl rfl ?_ ?_ <;> intro _) | (refine wp_cond_i rfl ?_ ?_ <;> intro _))
    refine wp_loop_k (α := Nat) [.nilH 3 2 77, .keep [2, 3, 12, 13, 14] [2, 3, 77]] (fun p => [(14, iA p)]) (fun _ => []) (fun p => [(77, 0, (aa.take p).map (Ty.c true))]) (fun p => p ≤ aa.length) (fun p => aa.length - p) 0 rfl (fun _ => rfl) rfl (Nat.zero_le _) ?_
    rintro j hj
    by_cases hlt : j < aa.length
    · obtain ⟨t, ht⟩ : ∃ t, aa[j]? = some t := ⟨_, List.getElem?_eq_getElem hlt⟩
      have hT := cloneTy_t t (Ty.okL_iff.1 hok.2 t (List.mem_of_getElem? ht))
      have htk : aa.take (j + 1) = aa.take j ++ [t] := by rw [List.take_succ_eq_append_getElem hlt, (List.getElem?_eq_some_iff.1 ht).2]
      have hc : ∀ o, Ty.c o t = Ty.c o t := fun _ => rfl
      have hmp : (aa.take (j + 1)).map (Ty.c true) = (aa.take j).map (Ty.c true) ++ [Ty.c true t] := by rw [htk]; simp
      obtain ⟨k2, n2, a2⟩ := t
      rw [Ty.c_mk] at hmp
      have hx : (aa.map (Ty.c false))[j]? = some [iT k2, iT n2, .sl false (a2.map (Ty.c false))] := by rw [List.getElem?_map, ht]; exact congrArg some (Ty.c_mk ..)
      repeat' (first
         | refine wp_seq_i ?_ | refine wp_region_t k_cloneTy rfl ?_ | refine Run.done rfl ?_ | refine then_n ?_ | refine then_r ?_ | refine then_e ?_ | refine Run.go1 rfl ?_ | refine wp_skip_i ?_ | refine wp_ret_i ?_
         | refine wp_exit_i ?_ | refine wp_block_i ?_ | refine block_n ?_ | refine block_r ?_ | refine block_e ?_ | refine block_o rfl ?_ | refine wp_cond_t rfl ?_ | refine wp_cond_f rfl ?_ | refine RunQ.go1 rfl ?_
         | refine RunQ.done rfl ?_ | refine wp_region_l k_cloneTy [0, 1, 2] [3, 4] [0, 1, 0, 4, 12, 31, 63, 127] rfl (by decide +kernel) (by decide +kernel) rfl rfl ?_ | refine RunL.call rfl rfl rfl rfl (hT) (.inl rfl) rfl rfl ?_
         | refine RunL.one rfl rfl rfl rfl rfl ?_ | refine RunL.done ?_ | refine RunQ.ix rfl rfl rfl rfl rfl rfl rfl hx rfl rfl rfl ?_ | refine Run.ix rfl rfl rfl rfl rfl rfl rfl hx rfl rfl rfl ?_
         | refine Run.cnd rfl rfl rfl ⟨by first | (simp; done) | (simp; omega), (by intro r hr; obtain ⟨⟨_, _, _⟩, _, rfl⟩ := List.mem_map.1 hr; rw [Ty.c_mk]; rfl), by simp, .inl rfl, by first | trivial | (simp [flatT]; done)⟩ ?_
         | refine Run.one rfl rfl rfl ?_ | (refine wp_cond_k rfl rfl rfl ?_ ?_ <;> intro _) | (refine wp_cond_i rfl ?_ ?_ <;> intro _))
      all_goals first
      | (exfalso; rename_i h; simp [hlt] at h; done)
      | (refine back_i [.keep [2, 3, 12, 13, 14] [2, 3, 23], .ren 23 77] (j + 1) rfl ?_ (by omega) (by omega)
         simp only [w_succ hlt (show aa.length ≤ 9223372036854775807 by omega), hmp]; first | done | rfl)
      | trace_state
    · have hjl : j = aa.length := by omega
      subst hjl
      rw [List.take_length]
      repeat' (first
         | refine wp_seq_i ?_ | refine wp_region_t k_cloneTy rfl ?_ | refine Run.done rfl ?_ | refine then_n ?_ | refine then_r ?_ | refine then_e ?_ | refine Run.go1 rfl ?_ | refine wp_skip_i ?_ | refine wp_ret_i ?_
         | refine wp_exit_i ?_ | refine wp_block_i ?_ | refine block_n ?_ | refine block_r ?_ | refine block_e ?_ | refine block_o rfl ?_ | refine wp_cond_t rfl ?_ | refine wp_cond_f rfl ?_
         | (refine wp_cond_k rfl rfl rfl ?_ ?_ <;> intro _) | (refine wp_cond_i rfl ?_ ?_ <;> intro _))
      all_goals first
      | (exfalso; rename_i h; simp at h; done)
      | (exact ret_m [] rfl rfl rfl)
      | trace_state
  termination_by t => SizeOf.sizeOf t
  decreasing_by
    all_goals (have hsz := List.sizeOf_lt_of_mem (List.mem_of_getElem? ht); simp; omega)
end Go.Proofs

set_option linter.unusedVariables false
set_option linter.unusedSimpArgs false
set_option maxHeartbeats 4000000
namespace Go.Proofs
open Go Go.Ev
set_option maxRecDepth 100000
variable {X : Rel3}
def k_l2CopyTys : List (Nat × List Nat) := [(0, [0]), (1, [0, 3]), (2, [0, 3, 4]), (3, [0, 3, 4, 9]), (4, [0, 3, 4]), (5, [0, 3, 4]), (6, [2])]
theorem l2CopyTys_t (ts : List Ty) (hl : ts.length ≤ 1048576) (hok : Ty.okL ts) : Tells Try.prog E0 X 46 [.t (.sl false (ts.map (Ty.c false)))] (.t (.sl true (ts.map (Ty.c true)))) := by
  refine Tells.by Try.func46 (by simp [Try.f46]) (Body.i rfl rfl rfl (fun _ => rfl) fun f => ?_)
  repeat' (first
     | refine wp_seq_i ?_ | refine wp_region_t k_l2CopyTys rfl ?_ | refine Run.done rfl ?_ | refine then_n ?_ | refine then_r ?_ | refine then_e ?_ | refine Run.go1 rfl ?_ | refine wp_skip_i ?_ | refine wp_ret_i ?_
     | refine wp_exit_i ?_ | refine wp_block_i ?_ | refine block_n ?_ | refine block_r ?_ | refine block_e ?_ | refine block_o rfl ?_ | refine wp_cond_t rfl ?_ | refine wp_cond_f rfl ?_ | refine Run.one rfl rfl rfl ?_
     | (refine wp_cond_k rfl rfl rfl ?_ ?_ <;> intro _) | (refine wp_cond_i rfl ?_ ?_ <;> intro _))
  refine wp_loop_k (α := Nat) [.ren 5 77, .keep [0, 3, 4] [77]] (fun p => [(4, iA p)]) (fun _ => []) (fun p => [(77, 0, (ts.take p).map (Ty.c true))]) (fun p => p ≤ ts.length) (fun p => ts.length - p) 0 rfl (fun _ => rfl) rfl (Nat.zero_le _) ?_
  rintro j hj
  by_cases hlt : j < ts.length
  · obtain ⟨t, ht⟩ : ∃ t, ts[j]? = some t := ⟨_, List.getElem?_eq_getElem hlt⟩
    have hT := l1Copy_t (X := X) t (Ty.okL_iff.1 hok t (List.mem_of_getElem? ht))
    have htk : ts.take (j + 1) = ts.take j ++ [t] := by rw [List.take_succ_eq_append_getElem hlt, (List.getElem?_eq_some_iff.1 ht).2]
    have hmp : (ts.take (j + 1)).map (Ty.c true) = (ts.take j).map (Ty.c true) ++ [Ty.c true t] := by rw [htk]; simp
    have hjd : decide ((j : Int) < ((ts.map (Ty.c false)).length : Int)) = true := by rw [List.length_map]; simpa using hlt
    obtain ⟨k2, n2, a2⟩ := t
    rw [Ty.c_mk] at hmp
    have hx : (ts.map (Ty.c false))[j]? = some [iT k2, iT n2, .sl false (a2.map (Ty.c false))] := by rw [List.getElem?_map, ht]; exact congrArg some (Ty.c_mk ..)
    repeat' (first
       | refine wp_seq_i ?_ | refine wp_region_t k_l2CopyTys rfl ?_ | refine Run.done rfl ?_ | refine then_n ?_ | refine then_r ?_ | refine then_e ?_ | refine Run.go1 rfl ?_ | refine wp_skip_i ?_ | refine wp_ret_i ?_
       | refine wp_exit_i ?_ | refine wp_block_i ?_ | refine block_n ?_ | refine block_r ?_ | refine block_e ?_ | refine block_o rfl ?_ | refine wp_cond_t rfl ?_ | refine wp_cond_f rfl ?_
       | refine Run.ix rfl rfl rfl rfl rfl rfl rfl hx rfl rfl rfl ?_ | refine Run.call rfl rfl rfl (hT) rfl rfl ?_
       | refine Run.cnd rfl rfl rfl ⟨by first | (simp; done) | (simp; omega), (by intro r hr; obtain ⟨⟨_, _, _⟩, _, rfl⟩ := List.mem_map.1 hr; rw [Ty.c_mk]; rfl), by simp, .inl rfl, by first | trivial | (simp [flatT]; done)⟩ ?_
       | refine Run.one rfl rfl rfl ?_ | (refine wp_cond_k rfl rfl rfl ?_ ?_ <;> intro _) | (refine wp_cond_i rfl ?_ ?_ <;> intro _))
    all_goals first
    | (exfalso; rename_i h; rw [hjd] at h; cases h; done)
    | (refine back_i [.keep [0, 3, 4] [19], .ren 19 77] (j + 1) rfl ?_ (by omega) (by omega)
       simp only [w_succ hlt (show ts.length ≤ 9223372036854775807 by omega), hmp]; first | done | rfl)
    | skip
  · have hjl : j = ts.length := by omega
    subst hjl
    have hjd : decide ((ts.length : Int) < ((ts.map (Ty.c false)).length : Int)) = false := by rw [List.length_map]; simp
    rw [List.take_length]
    repeat' (first
       | refine wp_seq_i ?_ | refine wp_region_t k_l2CopyTys rfl ?_ | refine Run.done rfl ?_ | refine then_n ?_ | refine then_r ?_ | refine then_e ?_ | refine Run.go1 rfl ?_ | refine wp_skip_i ?_ | refine wp_ret_i ?_
       | refine wp_exit_i ?_ | refine wp_block_i ?_ | refine block_n ?_ | refine block_r ?_ | refine block_e ?_ | refine block_o rfl ?_ | refine wp_cond_t rfl ?_ | refine wp_cond_f rfl ?_
       | (refine wp_cond_k rfl rfl rfl ?_ ?_ <;> intro _) | (refine wp_cond_i rfl ?_ ?_ <;> intro _))
    all_goals first
    | (exfalso; rename_i h; rw [hjd] at h; cases h; done)
    | (exact ret_m [] rfl rfl rfl)
    | trace_state
def k_l2Copy : List (Nat × List Nat) := [(0, [1, 2]), (1, [1, 2, 3]), (2, [1, 2, 3]), (3, [1, 2, 3]), (4, [1, 2, 3]), (5, [1, 2, 3, 4]), (6, [1, 2, 3, 4, 20]), (7, [1, 2, 3, 4]), (8, [1, 2, 3, 4]), (9, [2])]
theorem l2Copy_t : ∀ (t : Tm), t.ok → Tells Try.prog E0 X 21 [t.a false] (t.a true)
  | .mk kk nn ss zz (.mk tk tn ta) ts aa, hok => by
    rw [Tm.ok] at hok
    obtain ⟨l1, l2, l3, l4, l5, l6⟩ := hok
    have c1 := l1Copy_t (X := X) (.mk tk tn ta) l3
    have c2 := l2CopyTys_t (X := X) ts l4.1 l4.2
    refine Tells.by Try.func21 (by simp [Try.f21]) (Body.i rfl rfl rfl (fun _ => rfl) fun f => ?_)
    repeat' (first
       | refine wp_seq_i ?_ | refine wp_region_t k_l2Copy rfl ?_ | refine Run.done rfl ?_ | refine then_n ?_ | refine then_r ?_ | refine then_e ?_ | refine Run.go1 rfl ?_ | refine wp_skip_i ?_ | refine wp_ret_i ?_
       | refine wp_exit_i ?_ | refine wp_block_i ?_ | refine block_n ?_ | refine block_r ?_ | refine block_e ?_ | refine block_o rfl ?_ | refine wp_cond_t rfl ?_ | refine wp_cond_f rfl ?_
       | refine Run.call rfl rfl rfl (c1) rfl rfl ?_ | refine Run.call rfl rfl rfl (c2) rfl rfl ?_ | refine Run.one rfl rfl rfl ?_ | (refine wp_cond_k rfl rfl rfl ?_ ?_ <;> intro _) | (refine wp_cond_i rfl ?_ ?_ <;> intro _))
    refine wp_loop_k (α := Nat) [.ren 14 77, .keep [1, 2, 3, 4] [1, 2, 3, 2008, 12, 77]] (fun p => [(4, iA p)]) (fun _ => []) (fun p => [(77, 0, (aa.take p).map (Tm.c true))]) (fun p => p ≤ aa.length) (fun p => aa.length - p) 0 rfl (fun _ => rfl) rfl (Nat.zero_le _) ?_
    rintro j hj
    by_cases hlt : j < aa.length
    · obtain ⟨t, ht⟩ : ∃ t, aa[j]? = some t := ⟨_, List.getElem?_eq_getElem hlt⟩
      have hT := l2Copy_t t (Tm.okL_iff.1 l6 t (List.mem_of_getElem? ht))
      have htk : aa.take (j + 1) = aa.take j ++ [t] := by rw [List.take_succ_eq_append_getElem hlt, (List.getElem?_eq_some_iff.1 ht).2]
      have hmp : (aa.take (j + 1)).map (Tm.c true) = (aa.take j).map (Tm.c true) ++ [Tm.c true t] := by rw [htk]; simp
      have hjd : decide ((j : Int) < ((aa.map (Tm.c false)).length : Int)) = true := by rw [List.length_map]; simpa using hlt
      obtain ⟨k2, n2, y2, z2, ⟨tk2, tn2, ta2⟩, ts2, a2⟩ := t
      rw [Tm.c_mk] at hmp
      have hx : (aa.map (Tm.c false))[j]? = some [iT k2, iT n2, sT y2, sT z2, iT tk2, iT tn2, .sl false (ta2.map (Ty.c false)), .sl false (ts2.map (Ty.c false)), .sl false (a2.map (Tm.c false))] := by rw [List.getElem?_map, ht]; exact congrArg some (Tm.c_mk ..)
      repeat' (first
         | refine wp_seq_i ?_ | refine wp_region_t k_l2Copy rfl ?_ | refine Run.done rfl ?_ | refine then_n ?_ | refine then_r ?_ | refine then_e ?_ | refine Run.go1 rfl ?_ | refine wp_skip_i ?_ | refine wp_ret_i ?_
         | refine wp_exit_i ?_ | refine wp_block_i ?_ | refine block_n ?_ | refine block_r ?_ | refine block_e ?_ | refine block_o rfl ?_ | refine wp_cond_t rfl ?_ | refine wp_cond_f rfl ?_ | refine RunQ.go1 rfl ?_
         | refine RunQ.done rfl ?_ | refine wp_region_l k_l2Copy [0, 1, 2, 3, 4, 5, 6] [7, 8] [0, 1, 0, 4, 0, 28, 60, 124, 252, 511, 1023, 2047] rfl (by decide +kernel) (by decide +kernel) rfl rfl ?_
         | refine RunL.call rfl rfl rfl rfl (hT) (.inl rfl) rfl rfl ?_ | refine RunL.one rfl rfl rfl rfl rfl ?_ | refine RunL.done ?_ | refine RunQ.ix rfl rfl rfl rfl rfl rfl rfl hx rfl rfl rfl ?_
         | refine Run.ix rfl rfl rfl rfl rfl rfl rfl hx rfl rfl rfl ?_
         | refine Run.cnd rfl rfl rfl ⟨by first | (simp; done) | (simp; omega), (by intro r hr; obtain ⟨⟨_, _, _, _, ⟨_, _, _⟩, _, _⟩, _, rfl⟩ := List.mem_map.1 hr; rw [Tm.c_mk]; rfl), by simp, .inl rfl, by first | trivial | (simp [flatT]; done)⟩ ?_
         | refine Run.one rfl rfl rfl ?_ | (refine wp_cond_k rfl rfl rfl ?_ ?_ <;> intro _) | (refine wp_cond_i rfl ?_ ?_ <;> intro _))
      all_goals first
      | (exfalso; rename_i h; rw [hjd] at h; cases h; done)
      | (refine back_i [.keep [1, 2, 3, 4] [1, 2, 3, 2008, 12, 32], .ren 32 77] (j + 1) rfl ?_ (by omega) (by omega)
         simp only [w_succ hlt (show aa.length ≤ 9223372036854775807 by omega), hmp]; first | done | rfl)
      | skip
    · have hjl : j = aa.length := by omega
      subst hjl
      have hjd : decide ((aa.length : Int) < ((aa.map (Tm.c false)).length : Int)) = false := by rw [List.length_map]; simp
      rw [List.take_length]
      repeat' (first
         | refine wp_seq_i ?_ | refine wp_region_t k_l2Copy rfl ?_ | refine Run.done rfl ?_ | refine then_n ?_ | refine then_r ?_ | refine then_e ?_ | refine Run.go1 rfl ?_ | refine wp_skip_i ?_ | refine wp_ret_i ?_
         | refine wp_exit_i ?_ | refine wp_block_i ?_ | refine block_n ?_ | refine block_r ?_ | refine block_e ?_ | refine block_o rfl ?_ | refine wp_cond_t rfl ?_ | refine wp_cond_f rfl ?_
         | (refine wp_cond_k rfl rfl rfl ?_ ?_ <;> intro _) | (refine wp_cond_i rfl ?_ ?_ <;> intro _))
      all_goals first
      | (exfalso; rename_i h; rw [hjd] at h; cases h; done)
      | (exact ret_m [] rfl rfl rfl)
      | trace_state
  termination_by t => SizeOf.sizeOf t
  decreasing_by
    all_goals (have hsz := List.sizeOf_lt_of_mem (List.mem_of_getElem? ht); simp; omega)
def k_cloneTerm : List (Nat × List Nat) := [(0, [1, 2]), (1, [1, 2, 3]), (2, [1, 2, 3]), (3, [1, 2, 3]), (4, [1, 2, 3, 16, 17, 18]), (5, [1, 2, 3, 16, 17, 18, 19]), (6, [1, 2, 3, 5, 16, 17, 18]), (7, [1, 2, 3, 16, 17, 18]), (8, [1, 2, 3, 16, 17, 18]), (9, [2, 3, 31, 32, 33]), (10, [2, 3, 31, 32, 33, 34]), (11, [2, 3, 7, 31, 32, 33]), (12, [2, 3, 31, 32, 33]), (13, [2, 3, 31, 32, 33]), (14, [2])]
theorem cloneTerm_t : ∀ (t : Tm), t.ok → Tells Try.prog E0 X 27 [t.a false] (t.a true)
  | .mk kk nn ss zz (.mk tk tn ta) ts aa, hok => by
    rw [Tm.ok] at hok
    obtain ⟨l1, l2, l3, l4, l5, l6⟩ := hok
    have c1 := cloneTy_t (X := X) (.mk tk tn ta) l3
    refine Tells.by Try.func27 (by simp [Try.f27]) (Body.i rfl rfl rfl (fun _ => rfl) fun f => ?_)
    repeat' (first
       | refine wp_seq_i ?_ | refine wp_region_t k_cloneTerm rfl ?_ | refine Run.done rfl ?_ | refine then_n ?_ | refine then_r ?_ | refine then_e ?_ | refine Run.go1 rfl ?_ | refine wp_skip_i ?_ | refine wp_ret_i ?_
       | refine wp_exit_i ?_ | refine wp_block_i ?_ | refine block_n ?_ | refine block_r ?_ | refine block_e ?_ | refine block_o rfl ?_ | refine wp_cond_t rfl ?_ | refine wp_cond_f rfl ?_
       | refine Run.call rfl rfl rfl (c1) rfl rfl ?_ | refine Run.one rfl rfl rfl ?_ | (refine wp_cond_k rfl rfl rfl ?_ ?_ <;> intro _) | (refine wp_cond_i rfl ?_ ?_ <;> intro _))
    refine wp_loop_k (α := Nat) [.nilH 3 7 77, .keep [1, 2, 3, 16, 17, 18] [1, 2, 3, 2011, 77]] (fun p => [(18, iA p)]) (fun _ => []) (fun p => [(77, 0, (ts.take p).map (Ty.c true))]) (fun p => p ≤ ts.length) (fun p => ts.length - p) 0 rfl (fun _ => rfl) rfl (Nat.zero_le _) ?_
    rintro j hj
    by_cases hlt : j < ts.length
    · obtain ⟨t, ht⟩ : ∃ t, ts[j]? = some t := ⟨_, List.getElem?_eq_getElem hlt⟩
      have hT := cloneTy_t (X := X) t (Ty.okL_iff.1 l4.2 t (List.mem_of_getElem? ht))
      have htk : ts.take (j + 1) = ts.take j ++ [t] := by rw [List.take_succ_eq_append_getElem hlt, (List.getElem?_eq_some_iff.1 ht).2]
      have hmp : (ts.take (j + 1)).map (Ty.c true) = (ts.take j).map (Ty.c true) ++ [Ty.c true t] := by rw [htk]; simp
      have hjd : decide ((j : Int) < ((ts.map (Ty.c false)).length : Int)) = true := by rw [List.length_map]; simpa using hlt
      obtain ⟨k2, n2, a2⟩ := t
      rw [Ty.c_mk] at hmp
      have hx : (ts.map (Ty.c false))[j]? = some [iT k2, iT n2, .sl false (a2.map (Ty.c false))] := by rw [List.getElem?_map, ht]; exact congrArg some (Ty.c_mk ..)
      repeat' (first
         | refine wp_seq_i ?_ | refine wp_region_t k_cloneTerm rfl ?_ | refine Run.done rfl ?_ | refine then_n ?_ | refine then_r ?_ | refine then_e ?_ | refine Run.go1 rfl ?_ | refine wp_skip_i ?_ | refine wp_ret_i ?_
         | refine wp_exit_i ?_ | refine wp_block_i ?_ | refine block_n ?_ | refine block_r ?_ | refine block_e ?_ | refine block_o rfl ?_ | refine wp_cond_t rfl ?_ | refine wp_cond_f rfl ?_ | refine RunQ.go1 rfl ?_
         | refine RunQ.done rfl ?_ | refine wp_region_l k_cloneTerm [0, 1, 2] [3, 4] [0, 1, 0, 4, 12, 31, 63, 127] rfl (by decide +kernel) (by decide +kernel) rfl rfl ?_ | refine RunL.call rfl rfl rfl rfl (hT) (.inl rfl) rfl rfl ?_
         | refine RunL.one rfl rfl rfl rfl rfl ?_ | refine RunL.done ?_ | refine RunQ.ix rfl rfl rfl rfl rfl rfl rfl hx rfl rfl rfl ?_ | refine Run.ix rfl rfl rfl rfl rfl rfl rfl hx rfl rfl rfl ?_
         | refine Run.cnd rfl rfl rfl ⟨by first | (simp; done) | (simp; omega), (by intro r hr; obtain ⟨⟨_, _, _⟩, _, rfl⟩ := List.mem_map.1 hr; rw [Ty.c_mk]; rfl), by simp, .inl rfl, by first | trivial | (simp [flatT]; done)⟩ ?_
         | refine Run.one rfl rfl rfl ?_ | (refine wp_cond_k rfl rfl rfl ?_ ?_ <;> intro _) | (refine wp_cond_i rfl ?_ ?_ <;> intro _))
      all_goals first
      | (exfalso; rename_i h; rw [hjd] at h; cases h; done)
      | (refine back_i [.keep [1, 2, 3, 16, 17, 18] [1, 2, 3, 2011, 27], .ren 27 77] (j + 1) rfl ?_ (by omega) (by omega)
         simp only [w_succ hlt (show ts.length ≤ 9223372036854775807 by omega), hmp]; first | done | rfl)
      | skip
    · have hjl : j = ts.length := by omega
      subst hjl
      have hjd : decide ((ts.length : Int) < ((ts.map (Ty.c false)).length : Int)) = false := by rw [List.length_map]; simp
      rw [List.take_length]
      repeat' (first
         | refine wp_seq_i ?_ | refine wp_region_t k_cloneTerm rfl ?_ | refine Run.done rfl ?_ | refine then_n ?_ | refine then_r ?_ | refine then_e ?_ | refine Run.go1 rfl ?_ | refine wp_skip_i ?_ | refine wp_ret_i ?_
         | refine wp_exit_i ?_ | refine wp_block_i ?_ | refine block_n ?_ | refine block_r ?_ | refine block_e ?_ | refine block_o rfl ?_ | refine wp_cond_t rfl ?_ | refine wp_cond_f rfl ?_ | refine Run.one rfl rfl rfl ?_
         | (refine wp_cond_k rfl rfl rfl ?_ ?_ <;> intro _) | (refine wp_cond_i rfl ?_ ?_ <;> intro _))
      all_goals first
      | (exfalso; rename_i h; rw [hjd] at h; cases h; done)
      | skip
      clear hjd hj
      refine wp_loop_k (α := Nat) [.nilH 3 8 78, .keep [2, 3, 31, 32, 33] [2, 3, 2011, 77, 78]] (fun p => [(33, iA p)]) (fun _ => []) (fun p => [(78, 0, (aa.take p).map (Tm.c true))]) (fun p => p ≤ aa.length) (fun p => aa.length - p) 0 rfl (fun _ => rfl) rfl (Nat.zero_le _) ?_
      rintro j hj
      by_cases hlt : j < aa.length
      · obtain ⟨t, ht⟩ : ∃ t, aa[j]? = some t := ⟨_, List.getElem?_eq_getElem hlt⟩
        have hT := cloneTerm_t t (Tm.okL_iff.1 l6 t (List.mem_of_getElem? ht))
        have htk : aa.take (j + 1) = aa.take j ++ [t] := by rw [List.take_succ_eq_append_getElem hlt, (List.getElem?_eq_some_iff.1 ht).2]
        have hmp : (aa.take (j + 1)).map (Tm.c true) = (aa.take j).map (Tm.c true) ++ [Tm.c true t] := by rw [htk]; simp
        have hjd : decide ((j : Int) < ((aa.map (Tm.c false)).length : Int)) = true := by rw [List.length_map]; simpa using hlt
        obtain ⟨k2, n2, y2, z2, ⟨tk2, tn2, ta2⟩, ts2, a2⟩ := t
        rw [Tm.c_mk] at hmp
        have hx : (aa.map (Tm.c false))[j]? = some [iT k2, iT n2, sT y2, sT z2, iT tk2, iT tn2, .sl false (ta2.map (Ty.c false)), .sl false (ts2.map (Ty.c false)), .sl false (a2.map (Tm.c false))] := by rw [List.getElem?_map, ht]; exact congrArg some (Tm.c_mk ..)
        repeat' (first
           | refine wp_seq_i ?_ | refine wp_region_t k_cloneTerm rfl ?_ | refine Run.done rfl ?_ | refine then_n ?_ | refine then_r ?_ | refine then_e ?_ | refine Run.go1 rfl ?_ | refine wp_skip_i ?_ | refine wp_ret_i ?_
           | refine wp_exit_i ?_ | refine wp_block_i ?_ | refine block_n ?_ | refine block_r ?_ | refine block_e ?_ | refine block_o rfl ?_ | refine wp_cond_t rfl ?_ | refine wp_cond_f rfl ?_ | refine RunQ.go1 rfl ?_
           | refine RunQ.done rfl ?_ | refine wp_region_l k_cloneTerm [0, 1, 2] [3, 4] [0, 1, 0, 4, 12, 31, 63, 127] rfl (by decide +kernel) (by decide +kernel) rfl rfl ?_ | refine RunL.call rfl rfl rfl rfl (hT) (.inl rfl) rfl rfl ?_
           | refine RunL.one rfl rfl rfl rfl rfl ?_ | refine RunL.done ?_ | refine RunQ.ix rfl rfl rfl rfl rfl rfl rfl hx rfl rfl rfl ?_ | refine Run.ix rfl rfl rfl rfl rfl rfl rfl hx rfl rfl rfl ?_
           | refine Run.cnd rfl rfl rfl ⟨by first | (simp; done) | (simp; omega), (by intro r hr; obtain ⟨⟨_, _, _, _, ⟨_, _, _⟩, _, _⟩, _, rfl⟩ := List.mem_map.1 hr; rw [Tm.c_mk]; rfl), by simp, .inl rfl, by first | trivial | (simp [flatT]; done)⟩ ?_
           | refine Run.one rfl rfl rfl ?_ | (refine wp_cond_k rfl rfl rfl ?_ ?_ <;> intro _) | (refine wp_cond_i rfl ?_ ?_ <;> intro _))
        all_goals first
        | (exfalso; rename_i h; rw [hjd] at h; cases h; done)
        | (refine back_i [.keep [2, 3, 31, 32, 33] [2, 3, 2011, 77, 42], .ren 42 78] (j + 1) rfl ?_ (by omega) (by omega)
           simp only [w_succ hlt (show aa.length ≤ 9223372036854775807 by omega), hmp]; first | done | rfl)
        | skip
      · have hjl : j = aa.length := by omega
        subst hjl
        have hjd : decide ((aa.length : Int) < ((aa.map (Tm.c false)).length : Int)) = false := by rw [List.length_map]; simp
        rw [List.take_length]
        repeat' (first
           | refine wp_seq_i ?_ | refine wp_region_t k_cloneTerm rfl ?_ | refine Run.done rfl ?_ | refine then_n ?_ | refine then_r ?_ | refine then_e ?_ | refine Run.go1 rfl ?_ | refine wp_skip_i ?_ | refine wp_ret_i ?_
           | refine wp_exit_i ?_ | refine wp_block_i ?_ | refine block_n ?_ | refine block_r ?_ | refine block_e ?_ | refine block_o rfl ?_ | refine wp_cond_t rfl ?_ | refine wp_cond_f rfl ?_
           | (refine wp_cond_k rfl rfl rfl ?_ ?_ <;> intro _) | (refine wp_cond_i rfl ?_ ?_ <;> intro _))
        all_goals first
        | (exfalso; rename_i h; rw [hjd] at h; cases h; done)
        | (exact ret_m [] rfl rfl rfl)
        | trace_state
  termination_by t => SizeOf.sizeOf t
  decreasing_by
    all_goals (have hsz := List.sizeOf_lt_of_mem (List.mem_of_getElem? ht); simp; omega)
end Go.Proofs

