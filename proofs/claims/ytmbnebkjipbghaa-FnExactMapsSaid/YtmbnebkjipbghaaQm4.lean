import Derived.Test.YtmbnebkjipbghaaQm3
import Derived.ChangeSlices
import Derived.ChangeArms
import Derived.Test.YtmbnebkjipbghaaProg
import Derived.Lib.SlicesCompact
import Derived.Shelf.Sort.Plain
import Derived.Shelf.Slices.In.SortNone
import Derived.Shelf.Slices.In.CompactI
import Derived.Ground.NamesProg
import Derived.Ground.Names2Prog
import Derived.WalkKit
set_option linter.unusedVariables false
set_option linter.unusedSimpArgs false
namespace Go.Ev
open Go Go.ChangeShapes Go.WideShapes

/-- a kind: the cells of its values as trees -/
structure Kt (α : Type) where
  cells : α → List T
  sz : Nat
  len : ∀ x, (cells x).length = sz
def Kt.K {α : Type} (d : Kt α) (W : World) (x : α) (cs : List Value) : Prop := cs.length = d.sz ∧ ∀ (k : Nat) (y : T) (v : Value), (d.cells x)[k]? = some y → cs[k]? = some v → Rep W (fun b => b < W.heap.size) y v
def Kt.int (k : IntKind) : Kt Int := ⟨fun n => [.sc (.int k n)], 1, fun _ => rfl⟩
def Kt.bool : Kt Bool := ⟨fun n => [.sc (.bool n)], 1, fun _ => rfl⟩
def Kt.string : Kt ByteArray := ⟨fun n => [.sc (.string n)], 1, fun _ => rfl⟩
def Kt.slice {α : Type} (d : Kt α) : Kt (List α) := ⟨fun l => [.sl false (l.map d.cells)], 1, fun _ => rfl⟩
def Kt.pair {α β : Type} (d : Kt α) (d' : Kt β) : Kt (α × β) := ⟨fun x => d.cells x.1 ++ d'.cells x.2, d.sz + d'.sz, fun x => by rw [List.length_append, d.len, d'.len]⟩
def Kt.iso {α β : Type} (d : Kt α) (f : β → α) : Kt β := ⟨fun y => d.cells (f y), d.sz, fun y => d.len (f y)⟩

/-- Whatever reads as type t, with no more fuel than N, is of kind d, and its value is ok. -/
structure OpensAt (P : Program) (N : Nat) (t : TypeId) {α : Type} (d : Kt α) (ok : α → Prop) : Prop where
  get : ∀ {H : Type} (enc : TypeId × Value → H) (W : World) (base : Nat) (held : Bool) (fuel : Nat) (cs : List Value) (y : DataW H × List MemPlace),
    fuel ≤ N → DataW.trod enc P W base (fun _ => true) held fuel t cs = some y → ∃ x, d.K W x cs ∧ ok x

section
variable {P : Program} {N : Nat} {t e : TypeId} {α β : Type}
theorem opens_int {k : IntKind} (ht : P.underlying t = some (.int k)) : OpensAt P N t (Kt.int k) (fun x => (Lit.int k x).wf = true) := by
  constructor
  intro H enc W base held fuel cs y _ h
  obtain ⟨n, rfl, rfl, hw⟩ := DataW.trod_int ht h
  refine ⟨n, ⟨rfl, fun k y v h1 h2 => ?_⟩, hw⟩
  cases k with
  | zero => simp [Kt.int] at h1 h2; subst h1; subst h2; exact .sc _
  | succ k => simp at h2
theorem opens_bool (ht : P.underlying t = some .bool) : OpensAt P N t Kt.bool (fun _ => True) := by
  constructor
  intro H enc W base held fuel cs y _ h
  obtain ⟨n, rfl, rfl⟩ := DataW.trod_bool ht h
  refine ⟨n, ⟨rfl, fun k y v h1 h2 => ?_⟩, trivial⟩
  cases k with
  | zero => simp [Kt.bool] at h1 h2; subst h1; subst h2; exact .sc _
  | succ k => simp at h2
theorem opens_string (ht : P.underlying t = some .string) : OpensAt P N t Kt.string (fun s => s.size ≤ maxLen) := by
  constructor
  intro H enc W base held fuel cs y _ h
  obtain ⟨n, rfl, rfl, hs⟩ := DataW.trod_string ht h
  refine ⟨n, ⟨rfl, fun k y v h1 h2 => ?_⟩, hs⟩
  cases k with
  | zero => simp [Kt.string] at h1 h2; subst h1; subst h2; exact .sc _
  | succ k => simp at h2
theorem add_add (a : Addr) (i j : Nat) : (a.add i).add j = a.add (i + j) := by
  unfold Addr.add
  by_cases h1 : i = 0 <;> by_cases h2 : j = 0 <;> simp [h1, h2, Nat.add_assoc]
theorem cell_lt {W : World} {a : Addr} {u : Value} (h : W.cell? a = some u) : a.block < W.heap.size ∧ a.spot = none := by
  unfold World.cell? at h
  split at h
  · rename_i hh
    split at h
    · cases h
    · rename_i hs
      exact ⟨(Array.getElem?_eq_some_iff.1 hh).1, by simpa using hs⟩
  · cases h

theorem opens_slice {d : Kt α} {ok : α → Prop} (ht : P.underlying t = some (.slice e)) (hc : P.cellsOf e = d.sz) (hpos : 0 < d.sz) (h : OpensAt P N e d ok) :
    OpensAt P (N + 1) t (Kt.slice d) (fun xs => xs.length ≤ maxLen ∧ ∀ x ∈ xs, ok x) := by
  constructor
  intro H enc W base held fuel cs y hf hr
  have one : ∀ {z : T} {u : Value}, Rep W (fun b => b < W.heap.size) z u → ∀ (k : Nat) (y : T) (v : Value), [z][k]? = some y → [u][k]? = some v → Rep W (fun b => b < W.heap.size) y v := by
    intro z u hz k y v h1 h2
    cases k with
    | zero => simp at h1 h2; subst h1; subst h2; exact hz
    | succ k => simp at h2
  rcases DataW.trod_slice ht hr with ⟨rfl, rfl⟩ | ⟨a, len, cap, elems, rest, n, rfl, rfl, rfl, hb, hl, hm, hlen, hel, hsp, _⟩
  · exact ⟨[], ⟨rfl, one (.nil _)⟩, by simp, by simp⟩
  · have each : ∀ i, i < len → ∃ x c, d.K W x c ∧ ok x ∧ ∀ j u, c[j]? = some u → W.cell? (a.add (i * d.sz + j)) = some u := by
      intro i hi
      have h1 := hel i hi
      rw [List.getElem?_eq_getElem (by omega), Option.bind_eq_some_iff] at h1
      obtain ⟨c, hcs, hy⟩ := h1
      obtain ⟨x, hk, hx⟩ := h.get enc W base held n c _ (by omega) hy
      obtain ⟨_, h2, h3⟩ := World.cells?_some hcs
      refine ⟨x, c, hk, hx, fun j u hu => ?_⟩
      have hj : j < P.cellsOf e := by
        rw [← h2]
        exact (List.getElem?_eq_some_iff.1 hu).1
      rw [← hu, ← h3 j hj, add_add, hc]
    by_cases hl0 : len = 0
    · subst hl0
      exact ⟨[], ⟨rfl, one (.em _ _ _)⟩, by simp, by simp⟩
    have hx : ∀ i : Fin len, ∃ x c, d.K W x c ∧ ok x ∧ ∀ j u, c[j]? = some u → W.cell? (a.add (i.1 * d.sz + j)) = some u := fun i => each i.1 i.2
    let xs := List.ofFn (fun i => (hx i).choose)
    have hxl : xs.length = len := by simp [xs]
    have hsp0 : a.block < W.heap.size ∧ a.spot = none := by
      obtain ⟨x, c, hk, _, hcell⟩ := each 0 (by omega)
      have h0 : 0 < c.length := by rw [hk.1]; exact hpos
      have := cell_lt (hcell 0 _ (List.getElem?_eq_getElem h0))
      simpa [Addr.add] using this
    obtain ⟨ab, ao, asp⟩ := a
    obtain ⟨hab, rfl⟩ := hsp0
    let us : Nat → Nat → Value := fun i k => (W.cell? ⟨ab, ao + (i * d.sz + k), none⟩).getD undef
    have hadd : ∀ n, (⟨ab, ao, none⟩ : Addr).add n = ⟨ab, ao + n, none⟩ := fun n => by
      unfold Addr.add
      by_cases h : n = 0 <;> simp [h]
    refine ⟨xs, ⟨rfl, one ?_⟩, by rw [hxl]; exact Nat.le_trans hl hm, fun p hp => ?_⟩
    · have e : len = (xs.map d.cells).length := by rw [List.length_map, hxl]
      rw [e]
      have row : ∀ (i : Nat) (r : List T), (xs.map d.cells)[i]? = some r → ∃ x c, r = d.cells x ∧ d.K W x c ∧ ∀ j u, c[j]? = some u → W.cell? ⟨ab, ao + (i * d.sz + j), none⟩ = some u := by
        intro i r hi
        rw [List.getElem?_map, Option.map_eq_some_iff] at hi
        obtain ⟨x, hxi, rfl⟩ := hi
        obtain ⟨hj1, hj2⟩ := List.getElem?_eq_some_iff.1 hxi
        have e1 : x = (hx ⟨i, by omega⟩).choose := by rw [← hj2]; simp [xs]
        obtain ⟨c, hk, _, hcell⟩ := (hx ⟨i, by omega⟩).choose_spec
        rw [← e1] at hk
        exact ⟨x, c, rfl, hk, fun j u hu => by rw [← hadd]; exact hcell j u hu⟩
      refine .sl _ _ ab ao cap d.sz us (fun _ => hab) (by rw [← e]; exact hl) ?_ ?_ ?_
      · intro i r hi; obtain ⟨x, c, rfl, _⟩ := row i r hi; exact d.len x
      · intro i r k y hi hk
        obtain ⟨x, c, rfl, hK, hcell⟩ := row i r hi
        have hkl : k < c.length := by rw [hK.1, ← d.len x]; exact nth_lt hk
        have := hcell k _ (List.getElem?_eq_getElem hkl)
        simp only [us, this, Option.getD_some]
      · intro i r k y hi hk
        obtain ⟨x, c, rfl, hK, hcell⟩ := row i r hi
        have hkl : k < c.length := by rw [hK.1, ← d.len x]; exact nth_lt hk
        have := hcell k _ (List.getElem?_eq_getElem hkl)
        simp only [us, this, Option.getD_some]
        exact hK.2 k y _ hk (List.getElem?_eq_getElem hkl)
    · obtain ⟨j, hj1, hj2⟩ := List.getElem_of_mem hp
      have e1 : p = (hx ⟨j, by omega⟩).choose := by rw [← hj2]; simp [xs]
      obtain ⟨c, _, ho, _⟩ := (hx ⟨j, by omega⟩).choose_spec
      rw [e1]; exact ho

/-- The fields from a place on. -/
structure OpensFrom (P : Program) (N : Nat) (off : Nat) (fs : List Field) {α : Type} (d : Kt α) (ok : α → Prop) : Prop where
  get : ∀ {H : Type} (enc : TypeId × Value → H) (W : World) (base : Nat) (held : Bool) (n : Nat) (cs : List Value),
    n ≤ N → (∀ f ∈ fs, ∃ y : DataW H × List MemPlace, DataW.trod enc P W base (fun _ => true) held n f.type ((cs.drop f.offset).take (P.cellsOf f.type)) = some y) → cs.length = off + d.sz → ∃ x, d.K W x (cs.drop off) ∧ ok x
theorem from_one {off : Nat} {f : Field} {d : Kt α} {ok : α → Prop} (ho : f.offset = off) (hc : P.cellsOf f.type = d.sz) (h : OpensAt P N f.type d ok) : OpensFrom P N off [f] d ok := by
  constructor
  intro H enc W base held n cs hn hf hl
  obtain ⟨y, hy⟩ := hf f (by simp)
  obtain ⟨x, hk, hx⟩ := h.get enc W base held n _ y hn hy
  rw [ho, hc, List.take_of_length_le (by simp; omega)] at hk
  exact ⟨x, hk, hx⟩
theorem K_pair {d : Kt α} {d' : Kt β} {W : World} {x : α} {x' : β} {cs cs' : List Value} (h : d.K W x cs) (h' : d'.K W x' cs') : (Kt.pair d d').K W (x, x') (cs ++ cs') := by
  refine ⟨by simp [Kt.pair, h.1, h'.1], fun k y v h1 h2 => ?_⟩
  simp only [Kt.pair] at h1
  rw [List.getElem?_append] at h1 h2
  rw [d.len] at h1
  rw [h.1] at h2
  by_cases hk : k < d.sz
  · rw [if_pos hk] at h1 h2; exact h.2 k y v h1 h2
  · rw [if_neg hk] at h1 h2; exact h'.2 _ y v h1 h2
theorem from_cons {off : Nat} {f : Field} {fs : List Field} {d : Kt α} {d' : Kt β} {ok : α → Prop} {ok' : β → Prop} (ho : f.offset = off) (hc : P.cellsOf f.type = d.sz) (h : OpensAt P N f.type d ok) (h' : OpensFrom P N (off + d.sz) fs d' ok') :
    OpensFrom P N off (f :: fs) (Kt.pair d d') (fun x => ok x.1 ∧ ok' x.2) := by
  constructor
  intro H enc W base held n cs hn hf hl
  have hl2 : cs.length = off + (d.sz + d'.sz) := hl
  obtain ⟨y, hy⟩ := hf f (by simp)
  obtain ⟨x, hk, hx⟩ := h.get enc W base held n _ y hn hy
  obtain ⟨x', hk', hx'⟩ := h'.get enc W base held n cs hn (fun g hg => hf g (by simp [hg])) (by omega)
  rw [ho, hc] at hk
  refine ⟨(x, x'), ?_, hx, hx'⟩
  have := K_pair hk hk'
  rwa [← List.drop_drop, List.take_append_drop] at this
theorem opens_struct {fs : List Field} {d : Kt α} {ok : α → Prop} (ht : P.underlying t = some (.struct fs.toArray)) (hc : P.cellsOf t = d.sz) (h : OpensFrom P N 0 fs d ok) : OpensAt P (N + 1) t d ok := by
  constructor
  intro H enc W base held fuel cs y hf hr
  obtain ⟨xs, n, rfl, rfl, hl, hxl, hx⟩ := DataW.trod_struct ht hr
  obtain ⟨x, hk, ho⟩ := h.get enc W base held n cs (by omega) (fun f hfm => by
    obtain ⟨i, hi⟩ := List.getElem?_of_mem hfm
    have h1 := hx i f (by simpa using hi)
    have hi2 : i < fs.length := (List.getElem?_eq_some_iff.1 hi).1
    rw [List.getElem?_eq_getElem (by simp at hxl; omega)] at h1
    exact ⟨_, h1⟩) (by omega)
  exact ⟨x, by simpa using hk, ho⟩
theorem opens_iso {d : Kt α} {ok : α → Prop} {f : β → α} (g : α → β) (hg : ∀ y, f (g y) = y) (h : OpensAt P N t d ok) : OpensAt P N t (Kt.iso d f) (fun x => ok (f x)) := by
  constructor
  intro H enc W base held fuel cs y hf hr
  obtain ⟨x, hk, hx⟩ := h.get enc W base held fuel cs y hf hr
  refine ⟨g x, ?_, ?_⟩
  · show d.K W (f (g x)) cs
    rw [hg]; exact hk
  · show ok (f (g x))
    rw [hg]; exact hx
end
end Go.Ev

set_option linter.unusedVariables false
set_option linter.unusedSimpArgs false
namespace Go.Ev
open Go
theorem tabOk {P : Program} {tab : Tab} (h : ∀ p ∈ tab, tiOf P p.1 = some p.2) (hm : P.follows .mixedOrders = true) : TabOk P tab := by
  refine ⟨?_, hm⟩
  intro id ti hl
  induction tab with
  | nil => cases hl
  | cons p r ih =>
    obtain ⟨k, v⟩ := p
    rw [lk_cons] at hl
    split at hl
    · rename_i e; subst e; cases hl; exact h (k, _) (List.mem_cons_self ..)
    · exact ih (fun p hp => h p (List.mem_cons_of_mem _ hp)) hl
end Go.Ev
namespace Go.Proofs
open Go Go.Ev
set_option maxRecDepth 100000
def tab : Tab := [
  (0, ⟨TD.other, 1, 0, some [T.sc (Value.tuple { toList := [] })]⟩),
  (1, ⟨TD.other, 1, 8, some [T.sc Value.nilFunc]⟩),
  (2, ⟨TD.int IntKind.i64, 1, 8, some [T.sc (Value.int IntKind.i64 0)]⟩),
  (3, ⟨TD.int IntKind.i64, 1, 8, some [T.sc (Value.int IntKind.i64 0)]⟩),
  (4, ⟨TD.bool, 1, 1, some [T.sc (Value.bool false)]⟩),
  (5, ⟨TD.int IntKind.u8, 1, 1, some [T.sc (Value.int IntKind.u8 0)]⟩),
  (6, ⟨TD.int IntKind.u8, 1, 1, some [T.sc (Value.int IntKind.u8 0)]⟩),
  (7, ⟨TD.st [(0, 2), (1, 3), (2, 4), (3, 6)], 4, 24, some [T.sc (Value.int IntKind.i64 0), T.sc (Value.int IntKind.i64 0), T.sc (Value.bool false), T.sc (Value.int IntKind.u8 0)]⟩),
  (8, ⟨TD.st [(0, 2), (1, 3), (2, 4), (3, 6)], 4, 24, some [T.sc (Value.int IntKind.i64 0), T.sc (Value.int IntKind.i64 0), T.sc (Value.bool false), T.sc (Value.int IntKind.u8 0)]⟩),
  (9, ⟨TD.str, 1, 16, some [T.sc (Value.string { data := { toList := [] } })]⟩),
  (10, ⟨TD.str, 1, 16, some [T.sc (Value.string { data := { toList := [] } })]⟩),
  (11, ⟨TD.str, 1, 16, some [T.sc (Value.string { data := { toList := [] } })]⟩),
  (12, ⟨TD.int IntKind.u64, 1, 8, some [T.sc (Value.int IntKind.u64 0)]⟩),
  (13, ⟨TD.st [(0, 9), (1, 12)], 2, 24, some [T.sc (Value.string { data := { toList := [] } }), T.sc (Value.int IntKind.u64 0)]⟩),
  (14, ⟨TD.st [(0, 9), (1, 12)], 2, 24, some [T.sc (Value.string { data := { toList := [] } }), T.sc (Value.int IntKind.u64 0)]⟩),
  (15, ⟨TD.other, 1, 8, some [T.sc (Value.pointer none)]⟩),
  (16, ⟨TD.other, 1, 8, some [T.sc (Value.pointer none)]⟩),
  (17, ⟨TD.other, 1, 8, some [T.sc (Value.pointer none)]⟩),
  (18, ⟨TD.st [(0, 17)], 1, 8, some [T.sc (Value.pointer none)]⟩),
  (19, ⟨TD.st [(0, 17)], 1, 8, some [T.sc (Value.pointer none)]⟩),
  (20, ⟨TD.other, 1, 16, some [T.sc Value.nilIface]⟩),
  (21, ⟨TD.int IntKind.i32, 1, 4, some [T.sc (Value.int IntKind.i32 0)]⟩),
  (22, ⟨TD.sl 59, 1, 24, some [T.sc (Value.slice none 0 0)]⟩),
  (23, ⟨TD.st [(0, 3), (1, 3), (2, 3), (3, 22)], 4, 48, some [T.sc (Value.int IntKind.i64 0), T.sc (Value.int IntKind.i64 0), T.sc (Value.int IntKind.i64 0), T.sc (Value.slice none 0 0)]⟩),
  (24, ⟨TD.st [(0, 3), (1, 3), (2, 3), (3, 22)], 4, 48, some [T.sc (Value.int IntKind.i64 0), T.sc (Value.int IntKind.i64 0), T.sc (Value.int IntKind.i64 0), T.sc (Value.slice none 0 0)]⟩),
  (25, ⟨TD.other, 1, 8, some [T.sc Value.nilFunc]⟩),
  (26, ⟨TD.other, 1, 8, some [T.sc Value.nilFunc]⟩),
  (27, ⟨TD.sl 62, 1, 24, some [T.sc (Value.slice none 0 0)]⟩),
  (28, ⟨TD.st [(0, 3), (1, 3), (2, 3), (3, 27)], 4, 48, some [T.sc (Value.int IntKind.i64 0), T.sc (Value.int IntKind.i64 0), T.sc (Value.int IntKind.i64 0), T.sc (Value.slice none 0 0)]⟩),
  (29, ⟨TD.st [(0, 3), (1, 3), (2, 3), (3, 27)], 4, 48, some [T.sc (Value.int IntKind.i64 0), T.sc (Value.int IntKind.i64 0), T.sc (Value.int IntKind.i64 0), T.sc (Value.slice none 0 0)]⟩),
  (30, ⟨TD.other, 1, 8, some [T.sc Value.nilFunc]⟩),
  (31, ⟨TD.other, 1, 8, some [T.sc Value.nilFunc]⟩),
  (32, ⟨TD.other, 1, 8, some [T.sc Value.nilFunc]⟩),
  (33, ⟨TD.sl 46, 1, 24, some [T.sc (Value.slice none 0 0)]⟩),
  (34, ⟨TD.other, 1, 8, some [T.sc Value.nilFunc]⟩),
  (35, ⟨TD.other, 1, 8, some [T.sc Value.nilFunc]⟩),
  (36, ⟨TD.other, 1, 8, some [T.sc Value.nilFunc]⟩),
  (37, ⟨TD.other, 1, 8, some [T.sc Value.nilFunc]⟩),
  (38, ⟨TD.other, 1, 8, some [T.sc Value.nilFunc]⟩),
  (39, ⟨TD.other, 1, 8, some [T.sc Value.nilFunc]⟩),
  (40, ⟨TD.other, 1, 8, some [T.sc Value.nilFunc]⟩),
  (41, ⟨TD.sl 49, 1, 24, some [T.sc (Value.slice none 0 0)]⟩),
  (42, ⟨TD.st [(0, 29), (4, 41), (5, 4)], 6, 80, some [T.sc (Value.int IntKind.i64 0), T.sc (Value.int IntKind.i64 0), T.sc (Value.int IntKind.i64 0), T.sc (Value.slice none 0 0), T.sc (Value.slice none 0 0), T.sc (Value.bool false)]⟩),
  (43, ⟨TD.st [(0, 29), (4, 41), (5, 4)], 6, 80, some [T.sc (Value.int IntKind.i64 0), T.sc (Value.int IntKind.i64 0), T.sc (Value.int IntKind.i64 0), T.sc (Value.slice none 0 0), T.sc (Value.slice none 0 0), T.sc (Value.bool false)]⟩),
  (44, ⟨TD.other, 1, 8, some [T.sc (Value.pointer none)]⟩),
  (45, ⟨TD.other, 1, 8, some [T.sc Value.nilFunc]⟩),
  (46, ⟨TD.sl 3, 1, 24, some [T.sc (Value.slice none 0 0)]⟩),
  (47, ⟨TD.other, 1, 8, some [T.sc Value.nilFunc]⟩),
  (48, ⟨TD.other, 1, 8, some [T.sc Value.nilFunc]⟩),
  (49, ⟨TD.sl 4, 1, 24, some [T.sc (Value.slice none 0 0)]⟩),
  (50, ⟨TD.other, 1, 8, some [T.sc Value.nilFunc]⟩),
  (51, ⟨TD.other, 1, 8, some [T.sc Value.nilFunc]⟩),
  (52, ⟨TD.other, 1, 8, some [T.sc Value.nilFunc]⟩),
  (53, ⟨TD.other, 1, 8, some [T.sc Value.nilFunc]⟩),
  (54, ⟨TD.other, 1, 8, some [T.sc Value.nilFunc]⟩),
  (55, ⟨TD.other, 1, 8, some [T.sc Value.nilFunc]⟩),
  (56, ⟨TD.other, 1, 8, some [T.sc Value.nilFunc]⟩),
  (57, ⟨TD.other, 1, 8, some [T.sc Value.nilFunc]⟩),
  (58, ⟨TD.st [(0, 3), (1, 3), (2, 3), (3, 3), (4, 3), (5, 46), (6, 3)], 7, 72, some [T.sc (Value.int IntKind.i64 0), T.sc (Value.int IntKind.i64 0), T.sc (Value.int IntKind.i64 0), T.sc (Value.int IntKind.i64 0), T.sc (Value.int IntKind.i64 0), T.sc (Value.slice none 0 0), T.sc (Value.int IntKind.i64 0)]⟩),
  (59, ⟨TD.st [(0, 3), (1, 3), (2, 3), (3, 3), (4, 3), (5, 46), (6, 3)], 7, 72, some [T.sc (Value.int IntKind.i64 0), T.sc (Value.int IntKind.i64 0), T.sc (Value.int IntKind.i64 0), T.sc (Value.int IntKind.i64 0), T.sc (Value.int IntKind.i64 0), T.sc (Value.slice none 0 0), T.sc (Value.int IntKind.i64 0)]⟩),
  (60, ⟨TD.other, 1, 8, some [T.sc Value.nilFunc]⟩),
  (61, ⟨TD.other, 1, 8, some [T.sc Value.nilFunc]⟩),
  (62, ⟨TD.st [(0, 3), (1, 3), (2, 3), (3, 3), (4, 3), (5, 46), (6, 3)], 7, 72, some [T.sc (Value.int IntKind.i64 0), T.sc (Value.int IntKind.i64 0), T.sc (Value.int IntKind.i64 0), T.sc (Value.int IntKind.i64 0), T.sc (Value.int IntKind.i64 0), T.sc (Value.slice none 0 0), T.sc (Value.int IntKind.i64 0)]⟩),
  (63, ⟨TD.other, 1, 8, some [T.sc Value.nilFunc]⟩),
  (64, ⟨TD.other, 1, 8, some [T.sc Value.nilFunc]⟩),
  (65, ⟨TD.other, 1, 8, some [T.sc Value.nilFunc]⟩),
  (66, ⟨TD.other, 1, 8, some [T.sc Value.nilFunc]⟩),
  (67, ⟨TD.other, 1, 8, some [T.sc Value.nilFunc]⟩),
  (68, ⟨TD.other, 1, 8, some [T.sc Value.nilFunc]⟩),
  (69, ⟨TD.other, 1, 8, some [T.sc Value.nilFunc]⟩),
  (70, ⟨TD.other, 1, 8, some [T.sc Value.nilFunc]⟩),
  (71, ⟨TD.other, 1, 8, some [T.sc Value.nilFunc]⟩),
  (72, ⟨TD.other, 1, 8, some [T.sc Value.nilFunc]⟩),
  (73, ⟨TD.ar 4 4, 4, 4, some [T.sc (Value.bool false), T.sc (Value.bool false), T.sc (Value.bool false), T.sc (Value.bool false)]⟩),
  (74, ⟨TD.other, 1, 8, some [T.sc Value.nilFunc]⟩),
  (75, ⟨TD.other, 1, 8, some [T.sc Value.nilFunc]⟩),
  (76, ⟨TD.other, 1, 8, some [T.sc Value.nilFunc]⟩),
  (77, ⟨TD.other, 1, 8, some [T.sc Value.nilFunc]⟩),
  (78, ⟨TD.other, 1, 8, some [T.sc Value.nilFunc]⟩),
  (79, ⟨TD.other, 1, 8, some [T.sc Value.nilFunc]⟩),
  (80, ⟨TD.other, 1, 8, some [T.sc Value.nilFunc]⟩),
  (81, ⟨TD.other, 1, 8, some [T.sc Value.nilFunc]⟩),
  (82, ⟨TD.other, 1, 0, some [T.sc (Value.tuple { toList := [Value.string { data := { toList := [] } }, Value.bool false] })]⟩),
  (83, ⟨TD.other, 1, 8, some [T.sc Value.nilFunc]⟩),
  (84, ⟨TD.other, 1, 8, some [T.sc Value.nilFunc]⟩),
  (85, ⟨TD.other, 1, 8, some [T.sc Value.nilFunc]⟩),
  (86, ⟨TD.other, 1, 8, some [T.sc Value.nilFunc]⟩),
  (87, ⟨TD.other, 1, 8, some [T.sc Value.nilFunc]⟩),
  (88, ⟨TD.other, 1, 8, some [T.sc Value.nilFunc]⟩),
  (89, ⟨TD.sl 5, 1, 24, some [T.sc (Value.slice none 0 0)]⟩),
  (90, ⟨TD.other, 1, 8, some [T.sc Value.nilFunc]⟩),
  (91, ⟨TD.other, 1, 8, some [T.sc Value.nilFunc]⟩),
  (92, ⟨TD.other, 1, 8, some [T.sc Value.nilFunc]⟩),
  (93, ⟨TD.other, 1, 8, some [T.sc Value.nilFunc]⟩),
  (94, ⟨TD.other, 1, 8, some [T.sc Value.nilFunc]⟩),
  (95, ⟨TD.int IntKind.u64, 1, 8, some [T.sc (Value.int IntKind.u64 0)]⟩),
  (96, ⟨TD.other, 1, 8, some [T.sc Value.nilFunc]⟩),
  (97, ⟨TD.int IntKind.i64, 1, 8, some [T.sc (Value.int IntKind.i64 0)]⟩),
  (98, ⟨TD.other, 1, 0, some [T.sc (Value.tuple { toList := [Value.int IntKind.i64 0, Value.int IntKind.i64 0] })]⟩),
  (99, ⟨TD.other, 1, 8, some [T.sc Value.nilFunc]⟩),
  (100, ⟨TD.other, 1, 8, some [T.sc Value.nilFunc]⟩),
  (101, ⟨TD.other, 1, 8, some [T.sc Value.nilFunc]⟩),
  (102, ⟨TD.other, 1, 8, some [T.sc Value.nilFunc]⟩),
  (103, ⟨TD.other, 1, 0, some [T.sc (Value.tuple { toList := [Value.int IntKind.i64 0, Value.bool false] })]⟩),
  (104, ⟨TD.other, 1, 8, some [T.sc Value.nilFunc]⟩),
  (105, ⟨TD.other, 1, 8, some [T.sc Value.nilFunc]⟩),
  (106, ⟨TD.int IntKind.u32, 1, 4, some [T.sc (Value.int IntKind.u32 0)]⟩),
  (107, ⟨TD.other, 1, 8, some [T.sc Value.nilFunc]⟩),
  (108, ⟨TD.int IntKind.u64, 1, 8, some [T.sc (Value.int IntKind.u64 0)]⟩),
  (109, ⟨TD.int IntKind.u64, 1, 8, some [T.sc (Value.int IntKind.u64 0)]⟩),
  (110, ⟨TD.other, 1, 8, some [T.sc Value.nilFunc]⟩),
  (111, ⟨TD.other, 1, 8, some [T.sc Value.nilFunc]⟩),
  (112, ⟨TD.other, 1, 8, some [T.sc Value.nilFunc]⟩),
  (113, ⟨TD.other, 1, 8, some [T.sc (Value.pointer none)]⟩),
  (114, ⟨TD.other, 1, 8, some [T.sc Value.nilFunc]⟩),
  (115, ⟨TD.other, 1, 8, some [T.sc (Value.pointer none)]⟩),
  (116, ⟨TD.other, 1, 0, some [T.sc (Value.tuple { toList := [Value.int IntKind.i64 0, Value.int IntKind.i64 0] })]⟩),
  (117, ⟨TD.other, 1, 8, some [T.sc Value.nilFunc]⟩),
  (118, ⟨TD.other, 1, 8, some [T.sc Value.nilFunc]⟩),
  (119, ⟨TD.st [(0, 17), (1, 17), (2, 17), (3, 9)], 4, 40, some [T.sc (Value.pointer none), T.sc (Value.pointer none), T.sc (Value.pointer none), T.sc (Value.string { data := { toList := [] } })]⟩),
  (120, ⟨TD.st [(0, 17), (1, 17), (2, 17), (3, 9)], 4, 40, some [T.sc (Value.pointer none), T.sc (Value.pointer none), T.sc (Value.pointer none), T.sc (Value.string { data := { toList := [] } })]⟩),
  (121, ⟨TD.ar 0 16, 0, 0, some []⟩),
  (122, ⟨TD.st [(0, 121)], 0, 0, some []⟩),
  (123, ⟨TD.st [(0, 121)], 0, 0, some []⟩),
  (124, ⟨TD.other, 1, 8, some [T.sc Value.nilFunc]⟩),
  (125, ⟨TD.int IntKind.u8, 1, 1, some [T.sc (Value.int IntKind.u8 0)]⟩),
  (126, ⟨TD.int IntKind.u8, 1, 1, some [T.sc (Value.int IntKind.u8 0)]⟩),
  (127, ⟨TD.other, 1, 8, some [T.sc Value.nilFunc]⟩),
  (128, ⟨TD.other, 1, 8, some [T.sc (Value.pointer none)]⟩),
  (129, ⟨TD.int IntKind.i32, 1, 4, some [T.sc (Value.int IntKind.i32 0)]⟩),
  (130, ⟨TD.int IntKind.i32, 1, 4, some [T.sc (Value.int IntKind.i32 0)]⟩),
  (131, ⟨TD.st [(0, 12), (1, 12), (2, 106), (3, 125), (4, 5), (5, 5), (6, 126), (7, 127), (8, 128), (9, 129), (10, 130)], 11, 48, some [T.sc (Value.int IntKind.u64 0), T.sc (Value.int IntKind.u64 0), T.sc (Value.int IntKind.u32 0), T.sc (Value.int IntKind.u8 0), T.sc (Value.int IntKind.u8 0), T.sc (Value.int IntKind.u8 0), T.sc (Value.int IntKind.u8 0), T.sc Value.nilFunc, T.sc (Value.pointer none), T.sc (Value.int IntKind.i32 0), T.sc (Value.int IntKind.i32 0)]⟩),
  (132, ⟨TD.st [(0, 12), (1, 12), (2, 106), (3, 125), (4, 5), (5, 5), (6, 126), (7, 127), (8, 128), (9, 129), (10, 130)], 11, 48, some [T.sc (Value.int IntKind.u64 0), T.sc (Value.int IntKind.u64 0), T.sc (Value.int IntKind.u32 0), T.sc (Value.int IntKind.u8 0), T.sc (Value.int IntKind.u8 0), T.sc (Value.int IntKind.u8 0), T.sc (Value.int IntKind.u8 0), T.sc Value.nilFunc, T.sc (Value.pointer none), T.sc (Value.int IntKind.i32 0), T.sc (Value.int IntKind.i32 0)]⟩),
  (133, ⟨TD.other, 1, 8, some [T.sc (Value.pointer none)]⟩)]
theorem tab_ok : TabOk Try.prog tab := by
  refine tabOk ?_ rfl
  simp only [tab, List.forall_mem_cons]
  refine ⟨?_, ?_, ?_, ?_, ?_, ?_, ?_, ?_, ?_, ?_, ?_, ?_, ?_, ?_, ?_, ?_, ?_, ?_, ?_, ?_, ?_, ?_, ?_, ?_, ?_, ?_, ?_, ?_, ?_, ?_, ?_, ?_, ?_, ?_, ?_, ?_, ?_, ?_, ?_, ?_, ?_, ?_, ?_, ?_, ?_, ?_, ?_, ?_, ?_, ?_, ?_, ?_, ?_, ?_, ?_, ?_, ?_, ?_, ?_, ?_, ?_, ?_, ?_, ?_, ?_, ?_, ?_, ?_, ?_, ?_, ?_, ?_, ?_, ?_, ?_, ?_, ?_, ?_, ?_, ?_, ?_, ?_, ?_, ?_, ?_, ?_, ?_, ?_, ?_, ?_, ?_, ?_, ?_, ?_, ?_, ?_, ?_, ?_, ?_, ?_, ?_, ?_, ?_, ?_, ?_, ?_, ?_, ?_, ?_, ?_, ?_, ?_, ?_, ?_, ?_, ?_, ?_, ?_, ?_, ?_, ?_, ?_, ?_, ?_, ?_, ?_, ?_, ?_, ?_, ?_, ?_, ?_, ?_, ?_, fun _ h => by cases h⟩ <;> rfl
abbrev E0 : Env := ⟨tab, [(29, [true]), (28, [true]), (13, [true]), (74, [true]), (75, [true]), (55, [true]), (35, [true]), (57, [true]), (67, [false, false, false, true]), (48, [false, false, false, true]), (14, [true])]⟩
end Go.Proofs

set_option linter.unusedVariables false
set_option linter.unusedSimpArgs false
namespace Go.Proofs
open Go Go.Ev
set_option maxRecDepth 100000
abbrev iT (n : Int) : T := .sc (.int .i64 n)
abbrev iA (n : Int) : AV := .t (iT n)
abbrev bA (b : Bool) : AV := .t (.sc (.bool b))
abbrev iR (n : Int) : List T := [iT n]
structure Ins where
  op : Int
  d : Int
  x : Int
  y : Int
  n : Int
  l : List Int
  to_ : Int
  deriving DecidableEq
abbrev Ins.c (o : Bool) (i : Ins) : List T := [iT i.op, iT i.d, iT i.x, iT i.y, iT i.n, .sl o (i.l.map iR), iT i.to_]
abbrev Ins.a (o : Bool) (i : Ins) : AV := .ag [iA i.op, iA i.d, iA i.x, iA i.y, iA i.n, .t (.sl o (i.l.map iR)), iA i.to_]
variable {X : Rel3}
theorem w64 {n : Int} (h0 : -9223372036854775808 ≤ n) (h1 : n ≤ 9223372036854775807) : IntKind.i64.wrap n = n := by
  simp [IntKind.wrap, IntKind.bits, IntKind.signed]; omega
theorem w_succ {k n : Nat} (h : k < n) (hn : n ≤ 9223372036854775807) : IntKind.i64.wrap ((k : Int) + 1) = ((k + 1 : Nat) : Int) := by
  rw [w64] <;> omega

def mk : List Int → Int → List Int × Int
  | [], k => ([], k)
  | _ :: r, k => (k :: (mk r (IntKind.i64.wrap (k + 1))).1, (mk r (IntKind.i64.wrap (k + 1))).2)
theorem mk_snoc (l : List Int) (x k : Int) : mk (l ++ [x]) k = ((mk l k).1 ++ [(mk l k).2], IntKind.i64.wrap ((mk l k).2 + 1)) := by
  induction l generalizing k with
  | nil => rfl
  | cons y l ih => simp [mk, ih]
theorem mk_len (l : List Int) (k : Int) : (mk l k).1.length = l.length := by
  induction l generalizing k with
  | nil => rfl
  | cons y l ih => simp [mk, ih]
theorem markIntS_t (l : List Int) (k : Int) (hl : l.length ≤ 9223372036854775807) : Tells Try.prog E0 X 29 [.t (.sl true (l.map iR)), iA k] (.io [iA (mk l k).2, .t (.sl true ((mk l k).1.map iR)), .u]) := by
  refine Tells.by Try.func29 (by simp [Try.f29]) (Body.i rfl rfl rfl (fun _ => rfl) fun f => ?_)
  repeat' (first
    | refine wp_seq_i ?_ | refine wp_region_i ?_ | refine Run.done rfl ?_ | refine then_n ?_ | refine then_r ?_ | refine then_e ?_ | refine Run.go1 rfl ?_
    | refine wp_skip_i ?_ | refine wp_ret_i ?_ | refine wp_exit_i ?_ | refine wp_block_i ?_ | refine block_n ?_ | refine block_r ?_ | refine block_e ?_ | refine block_o rfl ?_
    | refine wp_cond_t rfl ?_ | refine wp_cond_f rfl ?_
    | (refine wp_cond_i rfl ?_ ?_ <;> intro _))
  refine wp_loop_k (α := Nat × Int × List Int) [.keep [0, 1, 4, 5] [100000]] (fun p => [(1, iA p.2.1), (5, iA p.1)]) (fun _ => []) (fun p => [(100000, ⟨0, some (f 100000)⟩, p.2.2.map iR)]) (fun p => p.1 ≤ l.length ∧ p.2.1 = (mk (l.take p.1) k).2 ∧ p.2.2 = (mk (l.take p.1) k).1 ++ l.drop p.1) (fun p => l.length - p.1) (0, k, l) rfl (fun _ => rfl) rfl ⟨by simp, by simp [mk], by simp [mk]⟩ ?_
  rintro ⟨j, c, m⟩ ⟨hj, hc, hm⟩
  simp only at hj hc hm
  have hml : m.length = l.length := by rw [hm]; simp [mk_len]; omega
  by_cases hlt : j < l.length
  · have ht : l.take (j + 1) = l.take j ++ [l[j]] := by simp
    have hx : (m.map iR)[j]? = some (iR (m[j]'(by omega))) := by simp [hml, hlt]
    repeat' (first
      | refine wp_seq_i ?_ | refine wp_region_i ?_ | refine Run.done rfl ?_ | refine then_n ?_ | refine then_r ?_ | refine then_e ?_ | refine Run.go1 rfl ?_
      | refine wp_skip_i ?_ | refine wp_ret_i ?_ | refine wp_exit_i ?_ | refine wp_block_i ?_ | refine block_n ?_ | refine block_r ?_ | refine block_e ?_ | refine block_o rfl ?_
      | refine wp_cond_t rfl ?_ | refine wp_cond_f rfl ?_ | refine Run.ix rfl rfl rfl rfl rfl rfl rfl hx rfl rfl rfl ?_ | refine Run.str rfl rfl rfl rfl rfl rfl hx rfl rfl ?_
      | (refine wp_cond_i rfl ?_ ?_ <;> intro _))
    · refine back_i [.keep [0, 1, 4, 5] [100000]] (j + 1, IntKind.i64.wrap (c + 1), m.set j c) rfl ?_ ⟨by simp; omega, ?_, ?_⟩ (by simp; omega)
      · simp only [List.map_set, w_succ hlt hl]
      · rw [ht, mk_snoc, hc]
      · rw [ht, mk_snoc, hm, List.drop_eq_getElem_cons hlt, hc]
        rw [List.set_append_right _ _ (by simp [mk_len]; omega)]
        simp only [mk_len, List.length_take, Nat.min_eq_left hj, Nat.sub_self, List.set_cons_zero, List.append_assoc, List.singleton_append]
    · rename_i h; simp [hml, hlt] at h
  · have hjl : j = l.length := by omega
    repeat' (first
      | refine wp_seq_i ?_ | refine wp_region_i ?_ | refine Run.done rfl ?_ | refine then_n ?_ | refine then_r ?_ | refine then_e ?_ | refine Run.go1 rfl ?_
      | refine wp_skip_i ?_ | refine wp_ret_i ?_ | refine wp_exit_i ?_ | refine wp_block_i ?_ | refine block_n ?_ | refine block_r ?_ | refine block_e ?_ | refine block_o rfl ?_
      | refine wp_cond_t rfl ?_ | refine wp_cond_f rfl ?_
      | (refine wp_cond_i rfl ?_ ?_ <;> intro _))
    · rename_i h; simp [hml, hjl] at h
    · refine ret_o [true] [] rfl rfl rfl ⟨rfl, trivial⟩ ?_
      subst hjl
      simp [hc, hm]
end Go.Proofs

set_option linter.unusedVariables false
set_option linter.unusedSimpArgs false
namespace Go.Proofs
open Go Go.Ev
set_option maxRecDepth 100000
variable {X : Rel3}
theorem set_hit {rows : List (List T)} {j : Nat} {r : List T} (h : j < rows.length) : (rows.set j r)[j]? = some r := by simp [h]
def nx (k : Int) : Int := IntKind.i64.wrap (k + 1)
def mkIns (i : Ins) (k : Int) : Ins × Int :=
  (⟨k, nx k, nx (nx k), nx (nx (nx k)), nx (nx (nx (nx k))), (mk i.l (nx (nx (nx (nx (nx k)))))).1, (mk i.l (nx (nx (nx (nx (nx k)))))).2⟩, nx (mk i.l (nx (nx (nx (nx (nx k)))))).2)
def mkInsS : List Ins → Int → List Ins × Int
  | [], k => ([], k)
  | i :: r, k => ((mkIns i k).1 :: (mkInsS r (mkIns i k).2).1, (mkInsS r (mkIns i k).2).2)
theorem mkInsS_snoc (l : List Ins) (x : Ins) (k : Int) : mkInsS (l ++ [x]) k = ((mkInsS l k).1 ++ [(mkIns x (mkInsS l k).2).1], (mkIns x (mkInsS l k).2).2) := by
  induction l generalizing k with
  | nil => rfl
  | cons y l ih => simp [mkInsS, ih]
theorem mkInsS_len (l : List Ins) (k : Int) : (mkInsS l k).1.length = l.length := by
  induction l generalizing k with
  | nil => rfl
  | cons y l ih => simp [mkInsS, ih]
theorem markInsS_t (l : List Ins) (k : Int) (hl : l.length ≤ 9223372036854775807) (hll : ∀ i ∈ l, i.l.length ≤ 9223372036854775807) : Tells Try.prog E0 X 28 [.t (.sl true (l.map (Ins.c true))), iA k] (.io [iA (mkInsS l k).2, .t (.sl true ((mkInsS l k).1.map (Ins.c true))), .u]) := by
  refine Tells.by Try.func28 (by simp [Try.f28]) (Body.i rfl rfl rfl (fun _ => rfl) fun f => ?_)
  repeat' (first
    | refine wp_seq_i ?_ | refine wp_region_i ?_ | refine Run.done rfl ?_ | refine then_n ?_ | refine then_r ?_ | refine then_e ?_ | refine Run.go1 rfl ?_
    | refine wp_skip_i ?_ | refine wp_ret_i ?_ | refine wp_exit_i ?_ | refine wp_block_i ?_ | refine block_n ?_ | refine block_r ?_ | refine block_e ?_ | refine block_o rfl ?_
    | refine wp_cond_t rfl ?_ | refine wp_cond_f rfl ?_
    | (refine wp_cond_i rfl ?_ ?_ <;> intro _))
  refine wp_loop_k (α := Nat × Int × List Ins) [.keep [0, 1, 4, 5] [100000]] (fun p => [(1, iA p.2.1), (5, iA p.1)]) (fun _ => []) (fun p => [(100000, ⟨0, some (f 100000)⟩, p.2.2.map (Ins.c true))]) (fun p => p.1 ≤ l.length ∧ p.2.1 = (mkInsS (l.take p.1) k).2 ∧ p.2.2 = (mkInsS (l.take p.1) k).1 ++ l.drop p.1) (fun p => l.length - p.1) (0, k, l) rfl (fun _ => rfl) rfl ⟨by simp, by simp [mkInsS], by simp [mkInsS]⟩ ?_
  rintro ⟨j, c, m⟩ ⟨hj, hc, hm⟩
  simp only at hj hc hm
  have hml : m.length = l.length := by rw [hm]; simp [mkInsS_len]; omega
  by_cases hlt : j < l.length
  · have hj' : j < m.length := by omega
    have hx : (m.map (Ins.c true))[j]? = some (Ins.c true m[j]) := by simp [hj']
    have ht : l.take (j + 1) = l.take j ++ [l[j]] := by simp
    have hmj : m[j] = l[j] := by subst hm; rw [List.getElem_append_right (by simp [mkInsS_len]; omega)]; simp [mkInsS_len, Nat.min_eq_left hj]
    have hlj : m[j].l.length ≤ 9223372036854775807 := by rw [hmj]; exact hll _ (List.getElem_mem _)
    repeat' (first
      | refine wp_seq_i ?_ | refine wp_region_i ?_ | refine Run.done rfl ?_ | refine then_n ?_ | refine then_r ?_ | refine then_e ?_ | refine Run.go1 rfl ?_
      | refine wp_skip_i ?_ | refine wp_ret_i ?_ | refine wp_exit_i ?_ | refine wp_block_i ?_ | refine block_n ?_ | refine block_r ?_ | refine block_e ?_ | refine block_o rfl ?_
      | refine wp_cond_t rfl ?_ | refine wp_cond_f rfl ?_
      | refine Run.ix rfl rfl rfl rfl rfl rfl rfl hx rfl rfl rfl ?_ | refine Run.str rfl rfl rfl rfl rfl rfl hx rfl rfl ?_ | refine Run.ix rfl rfl rfl rfl rfl rfl rfl (set_hit (by simp [hj'])) rfl rfl rfl ?_ | refine Run.str rfl rfl rfl rfl rfl rfl (set_hit (by simp [hj'])) rfl rfl ?_
      | refine Run.adjw (.hole 100000 j 5 900000 _ _ _ _ _ _ rfl (set_hit (by simp [hj'])) rfl (fun _ => rfl) fun u => .done _ (Run.ldr rfl rfl rfl (set_hit (by simp [hj'])) rfl rfl (Run.go1 rfl (Run.adjw (.tell 51 900000 _ _ _ _ _ rfl rfl rfl rfl (.done _ (Run.call rfl rfl rfl (markIntS_t _ _ hlj) rfl rfl (Run.adjw (.fill 100000 j 5 900000 _ _ _ _ _ _ _ rfl (set_hit (by simp [hj'])) rfl rfl rfl (.done _ ?_))))))))))
      | (refine wp_cond_i rfl ?_ ?_ <;> intro _))
    · refine back_i [.keep [0, 1, 4, 5] [100000]] (j + 1, (mkIns m[j] c).2, m.set j (mkIns m[j] c).1) rfl ?_ ⟨by simp; omega, ?_, ?_⟩ (by simp; omega)
      · simp only [List.map_set, List.set_set, w_succ hlt hl, mkIns, nx]
      · rw [ht, mkInsS_snoc, hmj, hc]
      · rw [ht, mkInsS_snoc, hmj, ← hc]
        conv => lhs; rw [hm]
        rw [List.drop_eq_getElem_cons hlt, List.set_append_right _ _ (by simp [mkInsS_len]; omega)]
        simp only [mkInsS_len, List.length_take, Nat.min_eq_left hj, Nat.sub_self, List.set_cons_zero, List.append_assoc, List.singleton_append]
    · rename_i h; simp [hml, hlt] at h
  · have hjl : j = l.length := by omega
    repeat' (first
      | refine wp_seq_i ?_ | refine wp_region_i ?_ | refine Run.done rfl ?_ | refine then_n ?_ | refine then_r ?_ | refine then_e ?_ | refine Run.go1 rfl ?_
      | refine wp_skip_i ?_ | refine wp_ret_i ?_ | refine wp_exit_i ?_ | refine wp_block_i ?_ | refine block_n ?_ | refine block_r ?_ | refine block_e ?_ | refine block_o rfl ?_
      | refine wp_cond_t rfl ?_ | refine wp_cond_f rfl ?_
      | (refine wp_cond_i rfl ?_ ?_ <;> intro _))
    · rename_i h; simp [hml, hjl] at h
    · refine ret_o [true] [] rfl rfl rfl ⟨rfl, trivial⟩ ?_
      subst hjl
      simp [hc, hm]
end Go.Proofs

set_option linter.unusedVariables false
set_option linter.unusedSimpArgs false
namespace Go.Proofs
open Go Go.Ev
set_option maxRecDepth 100000
variable {X : Rel3}
abbrev uR (n : Int) : List T := [.sc (.int .u8 n)]
def mkB : List Int → Int → List Int × Int
  | [], k => ([], k)
  | _ :: r, k => (IntKind.u8.wrap k :: (mkB r (nx k)).1, (mkB r (nx k)).2)
theorem mkB_snoc (l : List Int) (x k : Int) : mkB (l ++ [x]) k = ((mkB l k).1 ++ [IntKind.u8.wrap (mkB l k).2], nx (mkB l k).2) := by
  induction l generalizing k with
  | nil => rfl
  | cons y l ih => simp [mkB, ih]
theorem mkB_len (l : List Int) (k : Int) : (mkB l k).1.length = l.length := by
  induction l generalizing k with
  | nil => rfl
  | cons y l ih => simp [mkB, ih]
/-- what is marked is held -/
def heB : List Int → Int → Int
  | [], k => k
  | x :: r, k => if x = IntKind.u8.wrap k then heB r (nx k) else -1
structure Piece where
  lam : Int
  in_ : Int
  regs : Int
  ins : List Ins
  deriving DecidableEq
abbrev Piece.c (o : Bool) (p : Piece) : List T := [iT p.lam, iT p.in_, iT p.regs, .sl o (p.ins.map (Ins.c o))]
abbrev Piece.a (o : Bool) (p : Piece) : AV := .ag [iA p.lam, iA p.in_, iA p.regs, .t (.sl o (p.ins.map (Ins.c o)))]
theorem markPiece_t (p : Piece) (k : Int) (hl : p.ins.length ≤ 9223372036854775807) (hll : ∀ i ∈ p.ins, i.l.length ≤ 9223372036854775807) : Tells Try.prog E0 X 13 [p.a true, iA k] (.io [iA (mkInsS p.ins k).2, ({ p with ins := (mkInsS p.ins k).1 } : Piece).a true, .u]) := by
  refine Tells.by Try.func13 (by simp [Try.f13]) (Body.i rfl rfl rfl (fun _ => rfl) fun f => ?_)
  repeat' (first
     | refine wp_seq_i ?_ | refine wp_region_i ?_ | refine Run.done rfl ?_ | refine then_n ?_ | refine then_r ?_ | refine then_e ?_ | refine Run.go1 rfl ?_ | refine wp_skip_i ?_ | refine wp_ret_i ?_ | refine wp_exit_i ?_
     | refine wp_block_i ?_ | refine block_n ?_ | refine block_r ?_ | refine block_e ?_ | refine block_o rfl ?_ | refine wp_cond_t rfl ?_ | refine wp_cond_f rfl ?_ | refine Run.call rfl rfl rfl (markInsS_t _ _ hl hll) rfl rfl ?_
     | (refine wp_cond_i rfl ?_ ?_ <;> intro _))
  all_goals (refine ret_o [true] [] rfl rfl rfl ⟨?_, ?_⟩ rfl <;> simp)
end Go.Proofs

set_option linter.unusedVariables false
set_option linter.unusedSimpArgs false
set_option maxHeartbeats 4000000
namespace Go.Proofs
open Go Go.Ev
set_option maxRecDepth 100000
variable {X : Rel3}
/-- what is added to a list in order -/
def addGo (n : Int) : Bool → List Int → List Int
  | put, [] => if put then [] else [n]
  | put, x :: r => (if !put && decide (x ≥ n) then [n] else []) ++ (if x ≠ n then [x] else []) ++ addGo n (put || decide (x ≥ n)) r
theorem l10Add_t (l : List Int) (n : Int) (hl : l.length ≤ 1000000000000) : Tells Try.prog E0 X 71 [.t (.sl false (l.map iR)), iA n] (.t (.sl true ((addGo n false l).map iR))) := by
  refine Tells.by Try.func71 (by simp [Try.f71]) (Body.i rfl rfl rfl (fun _ => rfl) fun f => ?_)
  repeat' (first
     | refine wp_seq_i ?_ | refine wp_region_i ?_ | refine Run.done rfl ?_ | refine then_n ?_ | refine then_r ?_ | refine then_e ?_ | refine Run.go1 rfl ?_ | refine wp_skip_i ?_ | refine wp_ret_i ?_ | refine wp_exit_i ?_
     | refine wp_block_i ?_ | refine block_n ?_ | refine block_r ?_ | refine block_e ?_ | refine block_o rfl ?_ | refine wp_cond_t rfl ?_ | refine wp_cond_f rfl ?_
     | refine Run.cnd rfl rfl rfl ⟨by simp; omega, by simp, by simp, .inl rfl, by simp [flatT]⟩ ?_ | (refine wp_cond_k rfl rfl rfl ?_ ?_ <;> intro _) | (refine wp_cond_i rfl ?_ ?_ <;> intro _))
  refine wp_loop_k (α := Nat × List Int × Bool) [.keep [0, 1, 5, 6, 7] [8]] (fun p => [(6, bA p.2.2), (7, iA p.1)]) (fun _ => []) (fun p => [(8, 0, p.2.1.map iR)]) (fun p => p.1 ≤ l.length ∧ p.2.1.length ≤ 2 * p.1 ∧ p.2.1 ++ addGo n p.2.2 (l.drop p.1) = addGo n false l) (fun p => l.length - p.1) (0, [], false) rfl (fun _ => rfl) rfl ⟨by simp, by simp, by simp⟩ ?_
  rintro ⟨j, c, put⟩ ⟨hj, hc, he⟩
  simp only at hj hc he
  by_cases hlt : j < l.length
  · have hx : (l.map iR)[j]? = some (iR l[j]) := by simp [hlt]
    repeat' (first
       | refine wp_seq_i ?_ | refine wp_region_i ?_ | refine Run.done rfl ?_ | refine then_n ?_ | refine then_r ?_ | refine then_e ?_ | refine Run.go1 rfl ?_ | refine wp_skip_i ?_ | refine wp_ret_i ?_ | refine wp_exit_i ?_
       | refine wp_block_i ?_ | refine block_n ?_ | refine block_r ?_ | refine block_e ?_ | refine block_o rfl ?_ | refine wp_cond_t rfl ?_ | refine wp_cond_f rfl ?_ | refine Run.gT rfl rfl rfl rfl ?_ | refine Run.pT rfl rfl ?_
       | (refine Run.splitG rfl rfl rfl rfl rfl rfl ?_ ?_ <;> intro _) | (refine Run.splitP rfl rfl rfl rfl ?_ ?_ <;> intro _) | refine Run.ix rfl rfl rfl rfl rfl rfl rfl hx rfl rfl rfl ?_
       | refine Run.cnd rfl rfl rfl ⟨by simp; omega, (by intro r hr; simp at hr; first | (rcases hr with ⟨a, _, rfl⟩ | rfl <;> rfl) | (obtain ⟨a, _, rfl⟩ := hr; rfl)), by simp, .inl rfl, by simp [flatT]⟩ ?_
       | (refine wp_cond_k rfl rfl rfl ?_ ?_ <;> intro _) | (refine wp_cond_i rfl ?_ ?_ <;> intro _))
    all_goals (try (exfalso; simp [hlt] at *; done))
    all_goals cases put
    all_goals first
    | (exfalso; simp at *; done)
    | (refine back_i [.keep [0, 1, 5, 6, 7] [41], .ren 41 8] (j + 1, c ++ [n] ++ [l[j]], true) rfl ?_ ⟨by simp; omega, by simp at hc ⊢; omega, ?_⟩ (by simp; omega)
       · simp only [List.map_append, List.map_cons, List.map_nil, w_succ hlt (by omega)]; try first | rfl | simp_all
       · (rw [← he, List.drop_eq_getElem_cons hlt, addGo]; first | (simp_all; done) | (by_cases p1 : n ≤ l[j] <;> by_cases p2 : l[j] = n <;> simp [p1, p2] at * <;> first | done | omega)); done)
    | (refine back_i [.keep [0, 1, 5, 6, 7] [28], .ren 28 8] (j + 1, c ++ [n], true) rfl ?_ ⟨by simp; omega, by simp at hc ⊢; omega, ?_⟩ (by simp; omega)
       · simp only [List.map_append, List.map_cons, List.map_nil, w_succ hlt (by omega)]; try first | rfl | simp_all
       · (rw [← he, List.drop_eq_getElem_cons hlt, addGo]; first | (simp_all; done) | (by_cases p1 : n ≤ l[j] <;> by_cases p2 : l[j] = n <;> simp [p1, p2] at * <;> first | done | omega)); done)
    | (refine back_i [.keep [0, 1, 5, 6, 7] [41], .ren 41 8] (j + 1, c ++ [l[j]], true) rfl ?_ ⟨by simp; omega, by simp at hc ⊢; omega, ?_⟩ (by simp; omega)
       · simp only [List.map_append, List.map_cons, List.map_nil, w_succ hlt (by omega)]; try first | rfl | simp_all
       · (rw [← he, List.drop_eq_getElem_cons hlt, addGo]; first | (simp_all; done) | (by_cases p1 : n ≤ l[j] <;> by_cases p2 : l[j] = n <;> simp [p1, p2] at * <;> first | done | omega)); done)
    | (refine back_i [.keep [0, 1, 5, 6, 7] [41], .ren 41 8] (j + 1, c ++ [l[j]], false) rfl ?_ ⟨by simp; omega, by simp at hc ⊢; omega, ?_⟩ (by simp; omega)
       · simp only [List.map_append, List.map_cons, List.map_nil, w_succ hlt (by omega)]; try first | rfl | simp_all
       · (rw [← he, List.drop_eq_getElem_cons hlt, addGo]; first | (simp_all; done) | (by_cases p1 : n ≤ l[j] <;> by_cases p2 : l[j] = n <;> simp [p1, p2] at * <;> first | done | omega)); done)
    | (refine back_i [.keep [0, 1, 5, 6, 7] [8]] (j + 1, c, true) rfl ?_ ⟨by simp; omega, by simp at hc ⊢; omega, ?_⟩ (by simp; omega)
       · simp only [List.map_append, List.map_cons, List.map_nil, w_succ hlt (by omega)]; try first | rfl | simp_all
       · (rw [← he, List.drop_eq_getElem_cons hlt, addGo]; first | (simp_all; done) | (by_cases p1 : n ≤ l[j] <;> by_cases p2 : l[j] = n <;> simp [p1, p2] at * <;> first | done | omega)); done)
    | (refine back_i [.keep [0, 1, 5, 6, 7] [8]] (j + 1, c, false) rfl ?_ ⟨by simp; omega, by simp at hc ⊢; omega, ?_⟩ (by simp; omega)
       · simp only [List.map_append, List.map_cons, List.map_nil, w_succ hlt (by omega)]; try first | rfl | simp_all
       · (rw [← he, List.drop_eq_getElem_cons hlt, addGo]; first | (simp_all; done) | (by_cases p1 : n ≤ l[j] <;> by_cases p2 : l[j] = n <;> simp [p1, p2] at * <;> first | done | omega)); done)
  · have hjl : j = l.length := by omega
    subst hjl
    rw [List.drop_length] at he
    repeat' (first
       | refine wp_seq_i ?_ | refine wp_region_i ?_ | refine Run.done rfl ?_ | refine then_n ?_ | refine then_r ?_ | refine then_e ?_ | refine Run.go1 rfl ?_ | refine wp_skip_i ?_ | refine wp_ret_i ?_ | refine wp_exit_i ?_
       | refine wp_block_i ?_ | refine block_n ?_ | refine block_r ?_ | refine block_e ?_ | refine block_o rfl ?_ | refine wp_cond_t rfl ?_ | refine wp_cond_f rfl ?_
       | refine Run.cnd rfl rfl rfl ⟨by simp; omega, by simp, by simp, .inl rfl, by simp [flatT]⟩ ?_
       | refine Run.cnd rfl rfl rfl ⟨by simp; omega, (by intro r hr; simp at hr; first | (rcases hr with ⟨a, _, rfl⟩ | rfl <;> rfl) | (obtain ⟨a, _, rfl⟩ := hr; rfl)), by simp, .inl rfl, by simp [flatT]⟩ ?_
       | (refine wp_cond_k rfl rfl rfl ?_ ?_ <;> intro _) | (refine wp_cond_i rfl ?_ ?_ <;> intro _))
    all_goals cases put
    all_goals first
    | (exfalso; simp at *; done)
    | (refine ret_m [] rfl rfl ?_; rw [← he]; simp [addGo]; done)
end Go.Proofs

set_option linter.unusedVariables false
set_option linter.unusedSimpArgs false
set_option maxHeartbeats 4000000
namespace Go.Proofs
open Go Go.Ev
set_option maxRecDepth 100000
variable {X : Rel3}
/-- the last place of what is not above i -/
def blk (i : Int) : List Int → Nat → Int → Int
  | [], _, b => b
  | x :: r, k, b => blk i r (k + 1) (if x ≤ i then (k : Int) else b)
end Go.Proofs

set_option linter.unusedVariables false
set_option linter.unusedSimpArgs false
set_option maxHeartbeats 4000000
namespace Go.Proofs
open Go Go.Ev
set_option maxRecDepth 100000
variable {X : Rel3}
/-- how far what follows is not above i -/
def blkI (i : Int) : List Int → Nat → Nat
  | [], k => k
  | x :: r, k => if x ≤ i then blkI i r (k + 1) else k
end Go.Proofs

set_option linter.unusedVariables false
set_option linter.unusedSimpArgs false
set_option maxHeartbeats 4000000
namespace Go.Proofs
open Go Go.Ev
set_option maxRecDepth 100000
variable {X : Rel3}
def Asc (l : List Int) : Prop := l.Pairwise (· < ·)
theorem addGo_true (n : Int) : ∀ l, addGo n true l = l.filter (fun x => decide (x ≠ n))
  | [] => rfl
  | x :: r => by
    rw [addGo, Bool.true_or, addGo_true n r, List.filter_cons]
    by_cases h : x = n <;> simp [h]
theorem addGo_mem (n : Int) : ∀ (put : Bool) (l : List Int) (x : Int), x ∈ addGo n put l ↔ (put = false ∧ x = n) ∨ (x ≠ n ∧ x ∈ l)
  | put, [], x => by cases put <;> simp [addGo]
  | put, y :: r, x => by
    rw [addGo, List.mem_append, List.mem_append, addGo_mem n _ r x]
    by_cases hx : x = n
    · subst hx; cases put <;> by_cases h1 : x ≤ y <;> by_cases h2 : y = x <;> simp [h1, h2] <;> exact fun e => h2 e.symm
    · cases put <;> by_cases h1 : n ≤ y <;> by_cases h2 : y = n <;> simp [h1, h2, hx]
      all_goals (try (intro h; exact absurd (h.trans h2) hx))
theorem addGo_len (n : Int) : ∀ (put : Bool) (l : List Int), (addGo n put l).length ≤ l.length + (if put then 0 else 1)
  | put, [] => by cases put <;> simp [addGo]
  | put, y :: r => by
    rw [addGo]
    have := addGo_len n (put || decide (y ≥ n)) r
    simp only [List.length_append, List.length_cons]
    cases put <;> by_cases h1 : n ≤ y <;> by_cases h2 : y = n <;> simp [h1, h2] at this ⊢ <;> omega
theorem addGo_asc (n : Int) : ∀ (l : List Int), Asc l → Asc (addGo n false l)
  | [], _ => by simp [addGo, Asc]
  | y :: r, h => by
    obtain ⟨h1, h2⟩ := List.pairwise_cons.1 h
    rw [addGo]
    by_cases hy : n ≤ y
    · have ht : (false || decide (y ≥ n)) = true := by simp [hy]
      rw [ht, addGo_true]
      have hf : Asc (r.filter (fun x => decide (x ≠ n))) := h2.filter _
      by_cases e : y = n
      · subst e
        simp only [Bool.not_false, Bool.true_and, ge_iff_le, Int.le_refl, decide_true, if_true, ne_eq, not_true, if_false, List.append_nil, List.singleton_append]
        exact List.pairwise_cons.2 ⟨fun x hx => h1 x (List.mem_filter.1 hx).1, hf⟩
      · simp [hy, e]
        refine List.pairwise_cons.2 ⟨fun x hx => ?_, List.pairwise_cons.2 ⟨fun x hx => h1 x (List.mem_filter.1 hx).1, ?_⟩⟩
        · rcases List.mem_cons.1 hx with rfl | hx
          · omega
          · have := h1 x (List.mem_filter.1 hx).1; omega
        · have hf' := hf; unfold Asc at hf'; simpa using hf'
    · have ht : (false || decide (y ≥ n)) = false := by simp; omega
      have e : y ≠ n := by omega
      rw [ht]
      simp [hy, e]
      refine List.pairwise_cons.2 ⟨fun x hx => ?_, addGo_asc n r h2⟩
      rcases (addGo_mem n false r x).1 hx with ⟨_, rfl⟩ | ⟨_, hx⟩
      · omega
      · exact h1 x hx
theorem asc_ext : ∀ {a b : List Int}, Asc a → Asc b → (∀ x, x ∈ a ↔ x ∈ b) → a = b
  | [], [], _, _, _ => rfl
  | [], y :: r, _, _, h => absurd ((h y).2 (List.mem_cons_self ..)) (by simp)
  | y :: r, [], _, _, h => absurd ((h y).1 (List.mem_cons_self ..)) (by simp)
  | x :: r, y :: s, ha, hb, h => by
    obtain ⟨a1, a2⟩ := List.pairwise_cons.1 ha
    obtain ⟨b1, b2⟩ := List.pairwise_cons.1 hb
    have e : x = y := by
      rcases List.mem_cons.1 ((h x).1 (List.mem_cons_self ..)) with e | h1
      · exact e
      · rcases List.mem_cons.1 ((h y).2 (List.mem_cons_self ..)) with e | h2
        · exact e.symm
        · have := b1 x h1; have := a1 y h2; omega
    subst e
    refine congrArg _ (asc_ext a2 b2 fun z => ⟨fun hz => ?_, fun hz => ?_⟩)
    · rcases List.mem_cons.1 ((h z).1 (List.mem_cons_of_mem _ hz)) with rfl | h1
      · have := a1 z hz; omega
      · exact h1
    · rcases List.mem_cons.1 ((h z).2 (List.mem_cons_of_mem _ hz)) with rfl | h1
      · have := b1 z hz; omega
      · exact h1
/-- in order, each once -/
def ascOf (l : List Int) : List Int := Lib.compact (l.mergeSort fun x y => decide (x ≤ y))
theorem compact_asc {l : List Int} (h : l.Pairwise (· ≤ ·)) : Asc (Lib.compact l) ∧ ∀ x, x ∈ Lib.compact l ↔ x ∈ l := by
  have hp : ∀ i j (hi : i < l.length) (hj : j < l.length), i < j → l[i] ≤ l[j] := fun i j hi hj hij => List.pairwise_iff_getElem.1 h i j hi hj hij
  have key : ∀ m, m ≤ l.length → Asc (Lib.compactUpTo l.toArray m) ∧ (∀ x, x ∈ Lib.compactUpTo l.toArray m ↔ x ∈ l.take m) := by
    intro m
    induction m with
    | zero => intro _; simp [Lib.compactUpTo, Asc]
    | succ m ih =>
      intro hm
      obtain ⟨i1, i2⟩ := ih (by omega)
      have hg : l.toArray[m]! = l[m] := by rw [getElem!_pos l.toArray m (by simp; omega)]; simp
      rw [Lib.compactUpTo_succ, hg]
      have ht : l.take (m + 1) = l.take m ++ [l[m]] := by simp
      by_cases hk : Lib.keeps l.toArray m = true
      · rw [if_pos hk]
        refine ⟨List.pairwise_append.2 ⟨i1, by simp, fun x hx y hy => ?_⟩, fun x => by rw [ht, List.mem_append, List.mem_append, i2 x]⟩
        obtain rfl : y = l[m] := by simpa using hy
        obtain ⟨j, hj, rfl⟩ := List.mem_iff_getElem.1 ((i2 x).1 hx)
        rw [List.length_take] at hj
        rw [List.getElem_take]
        have hm0 : m ≠ 0 := by omega
        have hne : l[m] ≠ l[m - 1] := by
          have e2 : l.toArray[m - 1]! = l[m - 1] := by rw [getElem!_pos l.toArray (m - 1) (by simp; omega)]; simp
          intro e
          unfold Lib.keeps at hk
          rw [hg, e2] at hk
          simp [hm0, e] at hk
        have h1 : l[m - 1] ≤ l[m] := hp _ _ _ _ (by omega)
        have h2 : l[j] ≤ l[m - 1] := by
          by_cases hj1 : j = m - 1
          · subst hj1; omega
          · exact hp _ _ _ _ (by omega)
        omega
      · rw [if_neg hk, List.append_nil]
        refine ⟨i1, fun x => ?_⟩
        rw [i2 x, ht, List.mem_append]
        have hm0 : m ≠ 0 := by intro e; subst e; exact hk (by simp [Lib.keeps])
        have hne : l[m] = l[m - 1] := by
          have e2 : l.toArray[m - 1]! = l[m - 1] := by rw [getElem!_pos l.toArray (m - 1) (by simp; omega)]; simp
          unfold Lib.keeps at hk
          by_cases e : l[m] = l[m - 1]
          · exact e
          · exfalso; apply hk; rw [hg, e2]; simp [e, hm0]
        constructor
        · exact .inl
        · rintro (h | h)
          · exact h
          · obtain rfl : x = l[m] := by simpa using h
            rw [hne]
            exact List.mem_iff_getElem.2 ⟨m - 1, by simp; omega, by simp⟩
  have := key l.length (Nat.le_refl _)
  rw [List.take_length] at this
  exact this
theorem ascOf_asc (l : List Int) : Asc (ascOf l) := (compact_asc (by
  have := List.pairwise_mergeSort (le := fun x y : Int => decide (x ≤ y)) (fun a b c h1 h2 => by simp at *; omega) (fun a b => by simp; omega) l
  exact this.imp fun h => by simpa using h)).1
theorem ascOf_mem (l : List Int) (x : Int) : x ∈ ascOf l ↔ x ∈ l := ((compact_asc (by
  have := List.pairwise_mergeSort (le := fun x y : Int => decide (x ≤ y)) (fun a b c h1 h2 => by simp at *; omega) (fun a b => by simp; omega) l
  exact this.imp fun h => by simpa using h)).2 x).trans List.mem_mergeSort
theorem ascOf_len (l : List Int) : (ascOf l).length ≤ l.length := by
  have : (Lib.compact (l.mergeSort fun x y => decide (x ≤ y))).length ≤ (l.mergeSort fun x y => decide (x ≤ y)).length := by
    unfold Lib.compact Lib.compactUpTo
    rw [List.length_map]
    exact Nat.le_trans (List.length_filter_le ..) (by simp)
  rw [List.length_mergeSort] at this
  exact this
theorem compact_ne {l : List Int} (h : l ≠ []) : Lib.compact l ≠ [] := by
  obtain ⟨n, hn⟩ : ∃ n, l.length = n + 1 := ⟨l.length - 1, by have := List.length_pos_iff.2 h; omega⟩
  have key : ∀ m, Lib.compactUpTo l.toArray (m + 1) ≠ [] := by
    intro m
    induction m with
    | zero => rw [Lib.compactUpTo_succ]; simp [Lib.keeps]
    | succ m ih => rw [Lib.compactUpTo_succ]; intro e; exact ih (List.append_eq_nil_iff.1 e).1
  unfold Lib.compact
  rw [hn]
  exact key n
theorem compact_len (l : List Int) : (Lib.compact l).length ≤ l.length := by
  unfold Lib.compact Lib.compactUpTo
  rw [List.length_map]
  exact Nat.le_trans (List.length_filter_le ..) (by simp)
end Go.Proofs

set_option linter.unusedVariables false
set_option linter.unusedSimpArgs false
namespace Go.Proofs
open Go Go.Ev
set_option maxRecDepth 100000
variable {X : Rel3}
def rng (a lo hi : Int) : Bool := decide (lo ≤ a) && decide (a ≤ hi)
theorem rng_iff {a lo hi : Int} : rng a lo hi = true ↔ lo ≤ a ∧ a ≤ hi := by simp [rng]
theorem in_t (a lo hi : Int) : Tells Try.prog E0 X 37 [iA a, iA lo, iA hi] (bA (rng a lo hi)) := by
  refine Tells.by Try.func37 (by simp [Try.f37]) (Body.i rfl rfl rfl (fun _ => rfl) fun f => ?_)
  repeat' (first
     | refine wp_seq_i ?_ | refine wp_region_i ?_ | refine Run.done rfl ?_ | refine then_n ?_ | refine then_r ?_ | refine then_e ?_ | refine Run.go1 rfl ?_ | refine wp_skip_i ?_ | refine wp_ret_i ?_ | refine wp_exit_i ?_
     | refine wp_block_i ?_ | refine block_n ?_ | refine block_r ?_ | refine block_e ?_ | refine block_o rfl ?_ | refine wp_cond_t rfl ?_ | refine wp_cond_f rfl ?_ | (refine Run.splitG rfl rfl rfl rfl rfl rfl ?_ ?_ <;> intro _)
     | (refine Run.splitP rfl rfl rfl rfl ?_ ?_ <;> intro _) | (refine wp_cond_i rfl ?_ ?_ <;> intro _))
  all_goals (refine ret_m [] rfl rfl ?_; simp_all [rng] <;> omega)
theorem l1In_t (a lo hi : Int) : Tells Try.prog E0 X 32 [iA a, iA lo, iA hi] (bA (rng a lo hi)) := by
  refine Tells.by Try.func32 (by simp [Try.f32]) (Body.i rfl rfl rfl (fun _ => rfl) fun f => ?_)
  repeat' (first
     | refine wp_seq_i ?_ | refine wp_region_i ?_ | refine Run.done rfl ?_ | refine then_n ?_ | refine then_r ?_ | refine then_e ?_ | refine Run.go1 rfl ?_ | refine wp_skip_i ?_ | refine wp_ret_i ?_ | refine wp_exit_i ?_
     | refine wp_block_i ?_ | refine block_n ?_ | refine block_r ?_ | refine block_e ?_ | refine block_o rfl ?_ | refine wp_cond_t rfl ?_ | refine wp_cond_f rfl ?_ | (refine Run.splitG rfl rfl rfl rfl rfl rfl ?_ ?_ <;> intro _)
     | (refine Run.splitP rfl rfl rfl rfl ?_ ?_ <;> intro _) | (refine wp_cond_i rfl ?_ ?_ <;> intro _))
  all_goals (refine ret_m [] rfl rfl ?_; simp_all [rng] <;> omega)
def lamOk (p : Piece) : Bool := (p.lam == -1 && p.in_ == 0) || (rng p.lam 0 149 && decide (1 ≤ p.in_))
theorem lamOk_t (p : Piece) : Tells Try.prog E0 X 38 [p.a false] (bA (lamOk p)) := by
  refine Tells.by Try.func38 (by simp [Try.f38]) (Body.i rfl rfl rfl (fun _ => rfl) fun f => ?_)
  repeat' (first
     | refine wp_seq_i ?_ | refine wp_region_i ?_ | refine Run.done rfl ?_ | refine then_n ?_ | refine then_r ?_ | refine then_e ?_ | refine Run.go1 rfl ?_ | refine wp_skip_i ?_ | refine wp_ret_i ?_ | refine wp_exit_i ?_
     | refine wp_block_i ?_ | refine block_n ?_ | refine block_r ?_ | refine block_e ?_ | refine block_o rfl ?_ | refine wp_cond_t rfl ?_ | refine wp_cond_f rfl ?_ | refine Run.call rfl rfl rfl (in_t _ _ _) rfl rfl ?_
     | (refine Run.splitG rfl rfl rfl rfl rfl rfl ?_ ?_ <;> intro _) | (refine Run.splitP rfl rfl rfl rfl ?_ ?_ <;> intro _) | (refine wp_cond_i rfl ?_ ?_ <;> intro _))
  all_goals (refine ret_m [] rfl rfl ?_; simp_all [lamOk])
end Go.Proofs

set_option linter.unusedVariables false
set_option linter.unusedSimpArgs false
namespace Go.Proofs
open Go Go.Ev
set_option maxRecDepth 100000
variable {X : Rel3}
def uD (op : Int) : Bool := op == 1 || op == 2 || op == 3 || op == 8 || op == 4 || op == 9 || op == 10 || op == 5 || op == 6 || op == 7 || op == 14 || op == 17
def uX (op : Int) : Bool := op == 4 || op == 9 || op == 10 || op == 5 || op == 6 || op == 7 || op == 14 || op == 11 || op == 12 || op == 15 || op == 16
def uY (op : Int) : Bool := op == 5 || op == 6 || op == 7 || op == 14
def uT (op : Int) : Bool := op == 11 || op == 12 || op == 13 || op == 17
theorem l9Uses_t (op : Int) : Tells Try.prog E0 X 52 [iA op] (.ag [bA (uD op), bA (uX op), bA (uY op), bA (uT op)]) := by
  refine Tells.by Try.func52 (by simp [Try.f52]) (Body.i rfl rfl rfl (fun _ => rfl) fun f => ?_)
  repeat' (first
     | refine wp_seq_i ?_ | refine wp_region_i ?_ | refine Run.done rfl ?_ | refine then_n ?_ | refine then_r ?_ | refine then_e ?_ | refine Run.go1 rfl ?_ | refine wp_skip_i ?_ | refine wp_ret_i ?_ | refine wp_exit_i ?_
     | refine wp_block_i ?_ | refine block_n ?_ | refine block_r ?_ | refine block_e ?_ | refine block_o rfl ?_ | refine wp_cond_t rfl ?_ | refine wp_cond_f rfl ?_ | (refine wp_cond_k rfl rfl rfl ?_ ?_ <;> intro _)
     | (refine wp_cond_i rfl ?_ ?_ <;> intro _))
  all_goals (refine ret_m [] rfl rfl ?_; simp_all [uD, uX, uY, uT])
def l9Reg (has : Bool) (r regs : Int) : Bool := if has then rng r 0 (IntKind.i64.wrap (regs - 1)) else r == 0
theorem l9Reg_t (has : Bool) (r regs : Int) : Tells Try.prog E0 X 53 [bA has, iA r, iA regs] (bA (l9Reg has r regs)) := by
  refine Tells.by Try.func53 (by simp [Try.f53]) (Body.i rfl rfl rfl (fun _ => rfl) fun f => ?_)
  repeat' (first
     | refine wp_seq_i ?_ | refine wp_region_i ?_ | refine Run.done rfl ?_ | refine then_n ?_ | refine then_r ?_ | refine then_e ?_ | refine Run.go1 rfl ?_ | refine wp_skip_i ?_ | refine wp_ret_i ?_ | refine wp_exit_i ?_
     | refine wp_block_i ?_ | refine block_n ?_ | refine block_r ?_ | refine block_e ?_ | refine block_o rfl ?_ | refine wp_cond_t rfl ?_ | refine wp_cond_f rfl ?_ | refine Run.call rfl rfl rfl (l1In_t _ _ _) rfl rfl ?_
     | (refine wp_cond_k rfl rfl rfl ?_ ?_ <;> intro _) | (refine wp_cond_i rfl ?_ ?_ <;> intro _))
  all_goals (refine ret_m [] rfl rfl ?_; simp_all [l9Reg])
end Go.Proofs

set_option linter.unusedVariables false
set_option linter.unusedSimpArgs false
namespace Go.Proofs
open Go Go.Ev
set_option maxRecDepth 100000
variable {X : Rel3}
theorem eqIntS_t (a b : List Int) (hl : a.length ≤ 1048576) : Tells Try.prog E0 X 27 [.t (.sl false (a.map (iR))), .t (.sl false (b.map (iR)))] (bA (decide (a = b))) := by
  refine Tells.by Try.func27 (by simp [Try.f27]) (Body.i rfl rfl rfl (fun _ => rfl) fun f => ?_)
  repeat' (first
     | refine wp_seq_i ?_ | refine wp_region_i ?_ | refine Run.done rfl ?_ | refine then_n ?_ | refine then_r ?_ | refine then_e ?_ | refine Run.go1 rfl ?_ | refine wp_skip_i ?_ | refine wp_ret_i ?_ | refine wp_exit_i ?_
     | refine wp_block_i ?_ | refine block_n ?_ | refine block_r ?_ | refine block_e ?_ | refine block_o rfl ?_ | refine wp_cond_t rfl ?_ | refine wp_cond_f rfl ?_ | (refine wp_cond_k rfl rfl rfl ?_ ?_ <;> intro _)
     | (refine wp_cond_i rfl ?_ ?_ <;> intro _))
  · rename_i h
    refine ret_m [] rfl rfl ?_
    simp at h
    simp; intro e; exact h (by rw [e])
  rename_i h
  have hab : a.length = b.length := by
    have : (a.length : Int) = b.length := by simpa using h
    omega
  refine wp_loop_k (α := Nat) [.keep [0, 1, 4, 5] []] (fun p => [(5, iA p)]) (fun _ => []) (fun _ => []) (fun p => p ≤ a.length ∧ a.take p = b.take p) (fun p => a.length - p) 0 rfl (fun _ => rfl) rfl ⟨by simp, by simp⟩ ?_
  rintro j ⟨hj, he⟩
  by_cases hlt : j < a.length
  · have hx : (a.map (iR))[j]? = some ((iR) a[j]) := by simp [hlt]
    have hy : (b.map (iR))[j]? = some ((iR) (b[j]'(by omega))) := by simp [← hab, hlt]
    have ta : a.take (j + 1) = a.take j ++ [a[j]] := by simp
    have tb : b.take (j + 1) = b.take j ++ [b[j]'(by omega)] := by simp
    repeat' (first
       | refine wp_seq_i ?_ | refine wp_region_i ?_ | refine Run.done rfl ?_ | refine then_n ?_ | refine then_r ?_ | refine then_e ?_ | refine Run.go1 rfl ?_ | refine wp_skip_i ?_ | refine wp_ret_i ?_ | refine wp_exit_i ?_
       | refine wp_block_i ?_ | refine block_n ?_ | refine block_r ?_ | refine block_e ?_ | refine block_o rfl ?_ | refine wp_cond_t rfl ?_ | refine wp_cond_f rfl ?_ | refine wp_region_q 9 rfl rfl rfl ?_ | refine RunQ.go1 rfl ?_
       | refine RunQ.done rfl ?_ | refine RunQ.ix rfl rfl rfl rfl rfl rfl rfl hx rfl rfl rfl ?_ | refine RunQ.ix rfl rfl rfl rfl rfl rfl rfl hy rfl rfl rfl ?_ | refine Run.ix rfl rfl rfl rfl rfl rfl rfl hx rfl rfl rfl ?_
       | refine Run.ix rfl rfl rfl rfl rfl rfl rfl hy rfl rfl rfl ?_ | (refine wp_cond_k rfl rfl rfl ?_ ?_ <;> intro _) | (refine wp_cond_i rfl ?_ ?_ <;> intro _))
    · rename_i h2
      refine ret_m [] rfl rfl ?_
      simp at h2
      simp; intro e; subst e; exact h2 rfl
    · rename_i h2
      simp at h2
      refine back_i [.keep [0, 1, 4, 5] []] (j + 1) rfl ?_ ⟨by omega, ?_⟩ (by omega)
      · simp only [w_succ hlt (show a.length ≤ 9223372036854775807 by omega)]
      · rw [ta, tb, he, h2]
    · rename_i h2; simp [hlt] at h2
  · have hjl : j = a.length := by omega
    repeat' (first
       | refine wp_seq_i ?_ | refine wp_region_i ?_ | refine Run.done rfl ?_ | refine then_n ?_ | refine then_r ?_ | refine then_e ?_ | refine Run.go1 rfl ?_ | refine wp_skip_i ?_ | refine wp_ret_i ?_ | refine wp_exit_i ?_
       | refine wp_block_i ?_ | refine block_n ?_ | refine block_r ?_ | refine block_e ?_ | refine block_o rfl ?_ | refine wp_cond_t rfl ?_ | refine wp_cond_f rfl ?_ | (refine wp_cond_k rfl rfl rfl ?_ ?_ <;> intro _)
       | (refine wp_cond_i rfl ?_ ?_ <;> intro _))
    · rename_i h2; simp [hjl] at h2
    · refine ret_m [] rfl rfl ?_
      rw [hjl] at he
      have : a = b := by rw [List.take_length, hab, List.take_length] at he; exact he
      simp [this]

theorem eqIns_t (a b : Ins) (hl : a.l.length ≤ 1048576) : Tells Try.prog E0 X 44 [a.a false, b.a false] (bA (decide (a = b))) := by
  refine Tells.by Try.func44 (by simp [Try.f44]) (Body.i rfl rfl rfl (fun _ => rfl) fun f => ?_)
  repeat' (first
     | refine wp_seq_i ?_ | refine wp_region_i ?_ | refine Run.done rfl ?_ | refine then_n ?_ | refine then_r ?_ | refine then_e ?_ | refine Run.go1 rfl ?_ | refine wp_skip_i ?_ | refine wp_ret_i ?_ | refine wp_exit_i ?_
     | refine wp_block_i ?_ | refine block_n ?_ | refine block_r ?_ | refine block_e ?_ | refine block_o rfl ?_ | refine wp_cond_t rfl ?_ | refine wp_cond_f rfl ?_ | refine Run.call rfl rfl rfl (eqIntS_t _ _ hl) rfl rfl ?_
     | refine wp_region_q 5 rfl rfl rfl ?_ | refine RunQ.go1 rfl ?_ | refine RunQ.done rfl ?_ | (refine Run.splitG rfl rfl rfl rfl rfl rfl ?_ ?_ <;> intro _) | (refine Run.splitP rfl rfl rfl rfl ?_ ?_ <;> intro _)
     | (refine wp_cond_k rfl rfl rfl ?_ ?_ <;> intro _) | (refine wp_cond_i rfl ?_ ?_ <;> intro _))
  all_goals (refine ret_m [] rfl rfl ?_; obtain ⟨a1, a2, a3, a4, a5, a6, a7⟩ := a; obtain ⟨b1, b2, b3, b4, b5, b6, b7⟩ := b; simp_all)
theorem eqInsS_t (a b : List Ins) (hl : a.length ≤ 1048576) (hll : ∀ i ∈ a, i.l.length ≤ 1048576) : Tells Try.prog E0 X 24 [.t (.sl false (a.map (Ins.c false))), .t (.sl false (b.map (Ins.c false)))] (bA (decide (a = b))) := by
  refine Tells.by Try.func24 (by simp [Try.f24]) (Body.i rfl rfl rfl (fun _ => rfl) fun f => ?_)
  repeat' (first
     | refine wp_seq_i ?_ | refine wp_region_i ?_ | refine Run.done rfl ?_ | refine then_n ?_ | refine then_r ?_ | refine then_e ?_ | refine Run.go1 rfl ?_ | refine wp_skip_i ?_ | refine wp_ret_i ?_ | refine wp_exit_i ?_
     | refine wp_block_i ?_ | refine block_n ?_ | refine block_r ?_ | refine block_e ?_ | refine block_o rfl ?_ | refine wp_cond_t rfl ?_ | refine wp_cond_f rfl ?_ | (refine wp_cond_k rfl rfl rfl ?_ ?_ <;> intro _)
     | (refine wp_cond_i rfl ?_ ?_ <;> intro _))
  · rename_i h
    refine ret_m [] rfl rfl ?_
    simp at h
    simp; intro e; exact h (by rw [e])
  rename_i h
  have hab : a.length = b.length := by
    have : (a.length : Int) = b.length := by simpa using h
    omega
  refine wp_loop_k (α := Nat) [.keep [0, 1, 4, 5] []] (fun p => [(5, iA p)]) (fun _ => []) (fun _ => []) (fun p => p ≤ a.length ∧ a.take p = b.take p) (fun p => a.length - p) 0 rfl (fun _ => rfl) rfl ⟨by simp, by simp⟩ ?_
  rintro j ⟨hj, he⟩
  by_cases hlt : j < a.length
  · have hx : (a.map (Ins.c false))[j]? = some ((Ins.c false) a[j]) := by simp [hlt]
    have hy : (b.map (Ins.c false))[j]? = some ((Ins.c false) (b[j]'(by omega))) := by simp [← hab, hlt]
    have ta : a.take (j + 1) = a.take j ++ [a[j]] := by simp
    have tb : b.take (j + 1) = b.take j ++ [b[j]'(by omega)] := by simp
    repeat' (first
       | refine wp_seq_i ?_ | refine wp_region_i ?_ | refine Run.done rfl ?_ | refine then_n ?_ | refine then_r ?_ | refine then_e ?_ | refine Run.go1 rfl ?_ | refine wp_skip_i ?_ | refine wp_ret_i ?_ | refine wp_exit_i ?_
       | refine wp_block_i ?_ | refine block_n ?_ | refine block_r ?_ | refine block_e ?_ | refine block_o rfl ?_ | refine wp_cond_t rfl ?_ | refine wp_cond_f rfl ?_ | refine wp_region_q 10 rfl rfl rfl ?_ | refine RunQ.go1 rfl ?_
       | refine RunQ.done rfl ?_ | refine RunQ.ix rfl rfl rfl rfl rfl rfl rfl hx rfl rfl rfl ?_ | refine RunQ.ix rfl rfl rfl rfl rfl rfl rfl hy rfl rfl rfl ?_ | refine Run.ix rfl rfl rfl rfl rfl rfl rfl hx rfl rfl rfl ?_
       | refine Run.ix rfl rfl rfl rfl rfl rfl rfl hy rfl rfl rfl ?_ | refine Run.call rfl rfl rfl (eqIns_t _ _ (hll _ (List.getElem_mem hlt))) rfl rfl ?_
       | refine RunQ.call rfl rfl rfl rfl rfl rfl (eqIns_t _ _ (hll _ (List.getElem_mem hlt))) (.inl rfl) rfl rfl ?_ | (refine wp_cond_k rfl rfl rfl ?_ ?_ <;> intro _) | (refine wp_cond_i rfl ?_ ?_ <;> intro _))
    · rename_i h2
      refine ret_m [] rfl rfl ?_
      simp at h2
      simp; intro e; subst e; exact h2 rfl
    · rename_i h2
      simp at h2
      refine back_i [.keep [0, 1, 4, 5] []] (j + 1) rfl ?_ ⟨by omega, ?_⟩ (by omega)
      · simp only [w_succ hlt (show a.length ≤ 9223372036854775807 by omega)]
      · rw [ta, tb, he, h2]
    · rename_i h2; simp [hlt] at h2
  · have hjl : j = a.length := by omega
    repeat' (first
       | refine wp_seq_i ?_ | refine wp_region_i ?_ | refine Run.done rfl ?_ | refine then_n ?_ | refine then_r ?_ | refine then_e ?_ | refine Run.go1 rfl ?_ | refine wp_skip_i ?_ | refine wp_ret_i ?_ | refine wp_exit_i ?_
       | refine wp_block_i ?_ | refine block_n ?_ | refine block_r ?_ | refine block_e ?_ | refine block_o rfl ?_ | refine wp_cond_t rfl ?_ | refine wp_cond_f rfl ?_ | (refine wp_cond_k rfl rfl rfl ?_ ?_ <;> intro _)
       | (refine wp_cond_i rfl ?_ ?_ <;> intro _))
    · rename_i h2; simp [hjl] at h2
    · refine ret_m [] rfl rfl ?_
      rw [hjl] at he
      have : a = b := by rw [List.take_length, hab, List.take_length] at he; exact he
      simp [this]
end Go.Proofs

set_option linter.unusedVariables false
set_option linter.unusedSimpArgs false
namespace Go.Proofs
open Go Go.Ev
set_option maxRecDepth 100000
variable {X : Rel3}
theorem fill_step {α : Type} (l : List α) (z : α) {j : Nat} (h : j < l.length) : (l.take j ++ List.replicate (l.length - j) z).set j l[j] = l.take (j + 1) ++ List.replicate (l.length - (j + 1)) z := by
  have e : l.length - j = (l.length - (j + 1)) + 1 := by omega
  rw [e, List.replicate_succ, List.set_append_right _ _ (by simp; omega)]
  simp only [List.length_take, Nat.min_eq_left (Nat.le_of_lt h), Nat.sub_self, List.set_cons_zero]
  rw [show l.take (j + 1) = l.take j ++ [l[j]] by simp, List.append_assoc]
  rfl
theorem toIntS_t (l : List Int) (hl : l.length ≤ 1048576) : Tells Try.prog E0 X 59 [.t (.sl false (l.map iR))] (.t (.sl true (l.map iR))) := by
  refine Tells.by Try.func59 (by simp [Try.f59]) (Body.i rfl rfl rfl (fun _ => rfl) fun f => ?_)
  repeat' (first
     | refine wp_seq_i ?_ | refine wp_region_i ?_ | refine Run.done rfl ?_ | refine then_n ?_ | refine then_r ?_ | refine then_e ?_ | refine Run.go1 rfl ?_ | refine wp_skip_i ?_ | refine wp_ret_i ?_ | refine wp_exit_i ?_
     | refine wp_block_i ?_ | refine block_n ?_ | refine block_r ?_ | refine block_e ?_ | refine block_o rfl ?_ | refine wp_cond_t rfl ?_ | refine wp_cond_f rfl ?_
     | refine Run.cnd2 rfl rfl rfl ⟨by simp, rfl, by simp; omega, by simp; omega⟩ ?_ | (refine wp_cond_i rfl ?_ ?_ <;> intro _))
  refine wp_loop_k (α := Nat × List Int) [.keep [0, 2, 3, 4] [7]] (fun p => [(4, iA p.1)]) (fun _ => []) (fun p => [(7, 0, p.2.map iR)]) (fun p => p.1 ≤ l.length ∧ p.2 = l.take p.1 ++ List.replicate (l.length - p.1) 0) (fun p => l.length - p.1) (0, List.replicate l.length 0) rfl (fun _ => rfl) (by simp) ⟨by simp, by simp⟩ ?_
  rintro ⟨j, m⟩ ⟨hj, hm⟩
  simp only at hj hm
  have hml : m.length = l.length := by rw [hm]; simp; omega
  by_cases hlt : j < l.length
  · have hx : (l.map iR)[j]? = some (iR l[j]) := by simp [hlt]
    have hy : (m.map iR)[j]? = some (iR (m[j]'(by omega))) := by simp [hml, hlt]
    repeat' (first
       | refine wp_seq_i ?_ | refine wp_region_i ?_ | refine Run.done rfl ?_ | refine then_n ?_ | refine then_r ?_ | refine then_e ?_ | refine Run.go1 rfl ?_ | refine wp_skip_i ?_ | refine wp_ret_i ?_ | refine wp_exit_i ?_
       | refine wp_block_i ?_ | refine block_n ?_ | refine block_r ?_ | refine block_e ?_ | refine block_o rfl ?_ | refine wp_cond_t rfl ?_ | refine wp_cond_f rfl ?_ | refine Run.ix rfl rfl rfl rfl rfl rfl rfl hx rfl rfl rfl ?_
       | refine Run.ix rfl rfl rfl rfl rfl rfl rfl hy rfl rfl rfl ?_ | refine Run.str rfl rfl rfl rfl rfl rfl hy rfl rfl ?_ | (refine wp_cond_i rfl ?_ ?_ <;> intro _))
    · refine back_i [.keep [0, 2, 3, 4] [7]] (j + 1, m.set j l[j]) rfl ?_ ⟨by simp; omega, ?_⟩ (by simp; omega)
      · simp only [List.map_set, w_succ hlt (by omega)]
      · simp only; rw [hm, fill_step l 0 hlt]
    · rename_i h; simp [hlt] at h
  · have hjl : j = l.length := by omega
    repeat' (first
       | refine wp_seq_i ?_ | refine wp_region_i ?_ | refine Run.done rfl ?_ | refine then_n ?_ | refine then_r ?_ | refine then_e ?_ | refine Run.go1 rfl ?_ | refine wp_skip_i ?_ | refine wp_ret_i ?_ | refine wp_exit_i ?_
       | refine wp_block_i ?_ | refine block_n ?_ | refine block_r ?_ | refine block_e ?_ | refine block_o rfl ?_ | refine wp_cond_t rfl ?_ | refine wp_cond_f rfl ?_ | (refine wp_cond_i rfl ?_ ?_ <;> intro _))
    · rename_i h; simp [hjl] at h
    · refine ret_m [] rfl rfl ?_
      subst hjl; simp [hm]
theorem toIns_t (i : Ins) (hl : i.l.length ≤ 1048576) : Tells Try.prog E0 X 36 [i.a false] (i.a true) := by
  refine Tells.by Try.func36 (by simp [Try.f36]) (Body.i rfl rfl rfl (fun _ => rfl) fun f => ?_)
  repeat' (first
     | refine wp_seq_i ?_ | refine wp_region_i ?_ | refine Run.done rfl ?_ | refine then_n ?_ | refine then_r ?_ | refine then_e ?_ | refine Run.go1 rfl ?_ | refine wp_skip_i ?_ | refine wp_ret_i ?_ | refine wp_exit_i ?_
     | refine wp_block_i ?_ | refine block_n ?_ | refine block_r ?_ | refine block_e ?_ | refine block_o rfl ?_ | refine wp_cond_t rfl ?_ | refine wp_cond_f rfl ?_ | refine Run.call rfl rfl rfl (toIntS_t _ hl) rfl rfl ?_
     | (refine wp_cond_i rfl ?_ ?_ <;> intro _))
  all_goals (refine ret_m [] rfl rfl ?_; simp)
def Ins.z : Ins := ⟨0, 0, 0, 0, 0, [], 0⟩
theorem toInsS_t (l : List Ins) (hl : l.length ≤ 1048576) (hll : ∀ i ∈ l, i.l.length ≤ 1048576) : Tells Try.prog E0 X 20 [.t (.sl false (l.map (Ins.c false)))] (.t (.sl true (l.map (Ins.c true)))) := by
  refine Tells.by Try.func20 (by simp [Try.f20]) (Body.i rfl rfl rfl (fun _ => rfl) fun f => ?_)
  repeat' (first
     | refine wp_seq_i ?_ | refine wp_region_i ?_ | refine Run.done rfl ?_ | refine then_n ?_ | refine then_r ?_ | refine then_e ?_ | refine Run.go1 rfl ?_ | refine wp_skip_i ?_ | refine wp_ret_i ?_ | refine wp_exit_i ?_
     | refine wp_block_i ?_ | refine block_n ?_ | refine block_r ?_ | refine block_e ?_ | refine block_o rfl ?_ | refine wp_cond_t rfl ?_ | refine wp_cond_f rfl ?_
     | refine Run.cnd2 rfl rfl rfl ⟨by simp, rfl, by simp; omega, by simp; omega⟩ ?_ | (refine wp_cond_i rfl ?_ ?_ <;> intro _))
  refine wp_loop_k (α := Nat × List Ins) [.keep [0, 2, 3, 4] [7]] (fun p => [(4, iA p.1)]) (fun _ => []) (fun p => [(7, 0, p.2.map (Ins.c true))]) (fun p => p.1 ≤ l.length ∧ p.2 = l.take p.1 ++ List.replicate (l.length - p.1) Ins.z) (fun p => l.length - p.1) (0, List.replicate l.length Ins.z) rfl (fun _ => rfl) (by simp [Ins.z, Ins.c]) ⟨by simp, by simp⟩ ?_
  rintro ⟨j, m⟩ ⟨hj, hm⟩
  simp only at hj hm
  have hml : m.length = l.length := by rw [hm]; simp; omega
  by_cases hlt : j < l.length
  · have hx : (l.map (Ins.c false))[j]? = some (Ins.c false l[j]) := by simp [hlt]
    have hy : (m.map (Ins.c true))[j]? = some (Ins.c true (m[j]'(by omega))) := by simp [hml, hlt]
    repeat' (first
       | refine wp_seq_i ?_ | refine wp_region_i ?_ | refine Run.done rfl ?_ | refine then_n ?_ | refine then_r ?_ | refine then_e ?_ | refine Run.go1 rfl ?_ | refine wp_skip_i ?_ | refine wp_ret_i ?_ | refine wp_exit_i ?_
       | refine wp_block_i ?_ | refine block_n ?_ | refine block_r ?_ | refine block_e ?_ | refine block_o rfl ?_ | refine wp_cond_t rfl ?_ | refine wp_cond_f rfl ?_ | refine Run.ix rfl rfl rfl rfl rfl rfl rfl hx rfl rfl rfl ?_
       | refine Run.ix rfl rfl rfl rfl rfl rfl rfl hy rfl rfl rfl ?_ | refine Run.str rfl rfl rfl rfl rfl rfl hy rfl rfl ?_ | refine Run.call rfl rfl rfl (toIns_t _ (hll _ (List.getElem_mem hlt))) rfl rfl ?_
       | (refine wp_cond_i rfl ?_ ?_ <;> intro _))
    · refine back_i [.keep [0, 2, 3, 4] [7]] (j + 1, m.set j l[j]) rfl ?_ ⟨by simp; omega, ?_⟩ (by simp; omega)
      · simp only [List.map_set, w_succ hlt (by omega)]
      · simp only; rw [hm, fill_step l Ins.z hlt]
    · rename_i h; simp [hlt] at h
  · have hjl : j = l.length := by omega
    repeat' (first
       | refine wp_seq_i ?_ | refine wp_region_i ?_ | refine Run.done rfl ?_ | refine then_n ?_ | refine then_r ?_ | refine then_e ?_ | refine Run.go1 rfl ?_ | refine wp_skip_i ?_ | refine wp_ret_i ?_ | refine wp_exit_i ?_
       | refine wp_block_i ?_ | refine block_n ?_ | refine block_r ?_ | refine block_e ?_ | refine block_o rfl ?_ | refine wp_cond_t rfl ?_ | refine wp_cond_f rfl ?_ | (refine wp_cond_i rfl ?_ ?_ <;> intro _))
    · rename_i h; simp [hjl] at h
    · refine ret_m [] rfl rfl ?_
      subst hjl; simp [hm]
end Go.Proofs

set_option linter.unusedVariables false
set_option linter.unusedSimpArgs false
namespace Go.Proofs
open Go Go.Ev
set_option maxRecDepth 100000
variable {X : Rel3}
structure Code where
  funs : List Piece
  main : Piece
  deriving DecidableEq
abbrev Code.a (o : Bool) (c : Code) : AV := .ag [.t (.sl o (c.funs.map (Piece.c o))), iA c.main.lam, iA c.main.in_, iA c.main.regs, .t (.sl o (c.main.ins.map (Ins.c o)))]
def Piece.ok (p : Piece) : Prop := p.ins.length ≤ 1048576 ∧ ∀ i ∈ p.ins, i.l.length ≤ 1048576
def Code.ok (c : Code) : Prop := c.funs.length ≤ 1048576 ∧ (∀ p ∈ c.funs, p.ok) ∧ c.main.ok
theorem toPiece_t (p : Piece) (hp : p.ok) : Tells Try.prog E0 X 7 [p.a false] (p.a true) := by
  refine Tells.by Try.func7 (by simp [Try.f7]) (Body.i rfl rfl rfl (fun _ => rfl) fun f => ?_)
  repeat' (first
     | refine wp_seq_i ?_ | refine wp_region_i ?_ | refine Run.done rfl ?_ | refine then_n ?_ | refine then_r ?_ | refine then_e ?_ | refine Run.go1 rfl ?_ | refine wp_skip_i ?_ | refine wp_ret_i ?_ | refine wp_exit_i ?_
     | refine wp_block_i ?_ | refine block_n ?_ | refine block_r ?_ | refine block_e ?_ | refine block_o rfl ?_ | refine wp_cond_t rfl ?_ | refine wp_cond_f rfl ?_ | refine Run.call rfl rfl rfl (toInsS_t _ hp.1 hp.2) rfl rfl ?_
     | (refine wp_cond_k rfl rfl rfl ?_ ?_ <;> intro _) | (refine wp_cond_i rfl ?_ ?_ <;> intro _))
  all_goals (refine ret_m [] rfl rfl ?_; simp)
def Piece.z : Piece := ⟨0, 0, 0, []⟩
end Go.Proofs

set_option linter.unusedVariables false
set_option linter.unusedSimpArgs false
namespace Go.Proofs
open Go Go.Ev
set_option maxRecDepth 100000
variable {X : Rel3}
theorem eqPiece_t (a b : Piece) (ha : a.ok) : Tells Try.prog E0 X 9 [a.a false, b.a false] (bA (decide (a = b))) := by
  refine Tells.by Try.func9 (by simp [Try.f9]) (Body.i rfl rfl rfl (fun _ => rfl) fun f => ?_)
  repeat' (first
     | refine wp_seq_i ?_ | refine wp_region_i ?_ | refine Run.done rfl ?_ | refine then_n ?_ | refine then_r ?_ | refine then_e ?_ | refine Run.go1 rfl ?_ | refine wp_skip_i ?_ | refine wp_ret_i ?_ | refine wp_exit_i ?_
     | refine wp_block_i ?_ | refine block_n ?_ | refine block_r ?_ | refine block_e ?_ | refine block_o rfl ?_ | refine wp_cond_t rfl ?_ | refine wp_cond_f rfl ?_ | refine Run.call rfl rfl rfl (eqInsS_t _ _ ha.1 ha.2) rfl rfl ?_
     | (refine Run.splitG rfl rfl rfl rfl rfl rfl ?_ ?_ <;> intro _) | (refine Run.splitP rfl rfl rfl rfl ?_ ?_ <;> intro _) | (refine wp_cond_k rfl rfl rfl ?_ ?_ <;> intro _) | (refine wp_cond_i rfl ?_ ?_ <;> intro _))
  all_goals (refine ret_m [] rfl rfl ?_; obtain ⟨a1, a2, a3, a4⟩ := a; obtain ⟨b1, b2, b3, b4⟩ := b; simp_all)
end Go.Proofs

set_option linter.unusedVariables false
set_option linter.unusedSimpArgs false
namespace Go.Proofs
open Go Go.Ev
set_option maxRecDepth 100000
variable {X : Rel3}
def mkPiece (p : Piece) (k : Int) : Piece × Int :=
  (⟨k, nx k, nx (nx k), (mkInsS p.ins (nx (nx (nx k)))).1⟩, (mkInsS p.ins (nx (nx (nx k)))).2)
def mkPieceS : List Piece → Int → List Piece × Int
  | [], k => ([], k)
  | i :: r, k => ((mkPiece i k).1 :: (mkPieceS r (mkPiece i k).2).1, (mkPieceS r (mkPiece i k).2).2)
theorem mkPieceS_snoc (l : List Piece) (x : Piece) (k : Int) : mkPieceS (l ++ [x]) k = ((mkPieceS l k).1 ++ [(mkPiece x (mkPieceS l k).2).1], (mkPiece x (mkPieceS l k).2).2) := by
  induction l generalizing k with
  | nil => rfl
  | cons y l ih => simp [mkPieceS, ih]
theorem mkPieceS_len (l : List Piece) (k : Int) : (mkPieceS l k).1.length = l.length := by
  induction l generalizing k with
  | nil => rfl
  | cons y l ih => simp [mkPieceS, ih]
end Go.Proofs

set_option linter.unusedVariables false
set_option linter.unusedSimpArgs false
namespace Go.Proofs
open Go Go.Ev
set_option maxRecDepth 100000
variable {X : Rel3}
def szIntS (l : List Int) (left : Int) : Int := if IntKind.i64.wrap (left - l.length) < 0 then -1 else IntKind.i64.wrap (left - l.length)
theorem szIntS_t (l : List Int) (left : Int) : Tells Try.prog E0 X 51 [.t (.sl false (l.map iR)), iA left] (iA (szIntS l left)) := by
  refine Tells.by Try.func51 (by simp [Try.f51]) (Body.i rfl rfl rfl (fun _ => rfl) fun f => ?_)
  repeat' (first
     | refine wp_seq_i ?_ | refine wp_region_i ?_ | refine Run.done rfl ?_ | refine then_n ?_ | refine then_r ?_ | refine then_e ?_ | refine Run.go1 rfl ?_ | refine wp_skip_i ?_ | refine wp_ret_i ?_ | refine wp_exit_i ?_
     | refine wp_block_i ?_ | refine block_n ?_ | refine block_r ?_ | refine block_e ?_ | refine block_o rfl ?_ | refine wp_cond_t rfl ?_ | refine wp_cond_f rfl ?_ | (refine wp_cond_k rfl rfl rfl ?_ ?_ <;> intro _)
     | (refine wp_cond_i rfl ?_ ?_ <;> intro _))
  all_goals (refine ret_m [] rfl rfl ?_; simp_all [szIntS] <;> omega)
def szIns (i : Ins) (left : Int) : Int := if szIntS i.l left < 0 then -1 else szIntS i.l left
theorem szIns_t (i : Ins) (left : Int) : Tells Try.prog E0 X 31 [i.a false, iA left] (iA (szIns i left)) := by
  refine Tells.by Try.func31 (by simp [Try.f31]) (Body.i rfl rfl rfl (fun _ => rfl) fun f => ?_)
  repeat' (first
     | refine wp_seq_i ?_ | refine wp_region_i ?_ | refine Run.done rfl ?_ | refine then_n ?_ | refine then_r ?_ | refine then_e ?_ | refine Run.go1 rfl ?_ | refine wp_skip_i ?_ | refine wp_ret_i ?_ | refine wp_exit_i ?_
     | refine wp_block_i ?_ | refine block_n ?_ | refine block_r ?_ | refine block_e ?_ | refine block_o rfl ?_ | refine wp_cond_t rfl ?_ | refine wp_cond_f rfl ?_ | refine Run.call rfl rfl rfl (szIntS_t _ _) rfl rfl ?_
     | (refine wp_cond_k rfl rfl rfl ?_ ?_ <;> intro _) | (refine wp_cond_i rfl ?_ ?_ <;> intro _))
  all_goals (refine ret_m [] rfl rfl ?_; simp_all [szIns] <;> omega)
def szL {α : Type} (f : α → Int → Int) : List α → Int → Int
  | [], left => left
  | x :: r, left => if f x left < 0 then -1 else szL f r (f x left)
def szInsS (l : List Ins) (left : Int) : Int := if IntKind.i64.wrap (left - l.length) < 0 then -1 else szL szIns l (IntKind.i64.wrap (left - l.length))
theorem szInsS_t (l : List Ins) (left : Int) (hl : l.length ≤ 9223372036854775807) : Tells Try.prog E0 X 16 [.t (.sl false (l.map (Ins.c false))), iA left] (iA (szInsS l left)) := by
  refine Tells.by Try.func16 (by simp [Try.f16]) (Body.i rfl rfl rfl (fun _ => rfl) fun f => ?_)
  repeat' (first
     | refine wp_seq_i ?_ | refine wp_region_i ?_ | refine Run.done rfl ?_ | refine then_n ?_ | refine then_r ?_ | refine then_e ?_ | refine Run.go1 rfl ?_ | refine wp_skip_i ?_ | refine wp_ret_i ?_ | refine wp_exit_i ?_
     | refine wp_block_i ?_ | refine block_n ?_ | refine block_r ?_ | refine block_e ?_ | refine block_o rfl ?_ | refine wp_cond_t rfl ?_ | refine wp_cond_f rfl ?_ | (refine wp_cond_k rfl rfl rfl ?_ ?_ <;> intro _)
     | (refine wp_cond_i rfl ?_ ?_ <;> intro _))
  · refine ret_m [] rfl rfl ?_; simp_all [szInsS]
  rename_i h0
  have h0 : ¬ IntKind.i64.wrap (left - l.length) < 0 := by simpa using h0
  refine wp_loop_k (α := Nat × Int) [.keep [0, 1, 4, 5] []] (fun p => [(1, iA p.2), (5, iA p.1)]) (fun _ => []) (fun _ => []) (fun p => p.1 ≤ l.length ∧ szL szIns (l.drop p.1) p.2 = szL szIns l (IntKind.i64.wrap (left - l.length))) (fun p => l.length - p.1) (0, IntKind.i64.wrap (left - (l.map (Ins.c false)).length)) rfl (fun _ => rfl) rfl ⟨by simp, by simp⟩ ?_
  rintro ⟨k, r⟩ ⟨hk, hI⟩
  simp only at hk hI
  have hgoal : szInsS l left = szL szIns l (IntKind.i64.wrap (left - l.length)) := if_neg h0
  by_cases hlt : k < l.length
  · have hx : (l.map (Ins.c false))[k]? = some ((Ins.c false) l[k]) := by simp [hlt]
    rw [List.drop_eq_getElem_cons hlt, szL] at hI
    repeat' (first
       | refine wp_seq_i ?_ | refine wp_region_i ?_ | refine Run.done rfl ?_ | refine then_n ?_ | refine then_r ?_ | refine then_e ?_ | refine Run.go1 rfl ?_ | refine wp_skip_i ?_ | refine wp_ret_i ?_ | refine wp_exit_i ?_
       | refine wp_block_i ?_ | refine block_n ?_ | refine block_r ?_ | refine block_e ?_ | refine block_o rfl ?_ | refine wp_cond_t rfl ?_ | refine wp_cond_f rfl ?_ | refine Run.ix rfl rfl rfl rfl rfl rfl rfl hx rfl rfl rfl ?_
       | refine Run.call rfl rfl rfl (szIns_t _ _) rfl rfl ?_ | (refine wp_cond_k rfl rfl rfl ?_ ?_ <;> intro _) | (refine wp_cond_i rfl ?_ ?_ <;> intro _))
    · rename_i h
      rw [if_pos (by simpa using h)] at hI
      refine ret_m [] rfl rfl ?_; rw [hgoal, ← hI]
    · rename_i h
      rw [if_neg (by simpa using h)] at hI
      refine back_i [.keep [0, 1, 4, 5] []] (k + 1, szIns l[k] r) rfl ?_ ⟨by simp; omega, hI⟩ (by simp; omega)
      simp only [w_succ hlt hl]
    · rename_i h; simp [hlt] at h
  · have hkl : k = l.length := by omega
    repeat' (first
       | refine wp_seq_i ?_ | refine wp_region_i ?_ | refine Run.done rfl ?_ | refine then_n ?_ | refine then_r ?_ | refine then_e ?_ | refine Run.go1 rfl ?_ | refine wp_skip_i ?_ | refine wp_ret_i ?_ | refine wp_exit_i ?_
       | refine wp_block_i ?_ | refine block_n ?_ | refine block_r ?_ | refine block_e ?_ | refine block_o rfl ?_ | refine wp_cond_t rfl ?_ | refine wp_cond_f rfl ?_ | (refine wp_cond_k rfl rfl rfl ?_ ?_ <;> intro _)
       | (refine wp_cond_i rfl ?_ ?_ <;> intro _))
    · rename_i h; simp [hkl] at h
    · refine ret_m [] rfl rfl ?_
      rw [hgoal, ← hI, hkl, List.drop_length]; rfl
def szPiece (p : Piece) (left : Int) : Int := if szInsS p.ins left < 0 then -1 else szInsS p.ins left
theorem szPiece_t (p : Piece) (left : Int) (hl : p.ins.length ≤ 9223372036854775807) : Tells Try.prog E0 X 5 [p.a false, iA left] (iA (szPiece p left)) := by
  refine Tells.by Try.func5 (by simp [Try.f5]) (Body.i rfl rfl rfl (fun _ => rfl) fun f => ?_)
  repeat' (first
     | refine wp_seq_i ?_ | refine wp_region_i ?_ | refine Run.done rfl ?_ | refine then_n ?_ | refine then_r ?_ | refine then_e ?_ | refine Run.go1 rfl ?_ | refine wp_skip_i ?_ | refine wp_ret_i ?_ | refine wp_exit_i ?_
     | refine wp_block_i ?_ | refine block_n ?_ | refine block_r ?_ | refine block_e ?_ | refine block_o rfl ?_ | refine wp_cond_t rfl ?_ | refine wp_cond_f rfl ?_ | refine Run.call rfl rfl rfl (szInsS_t _ _ hl) rfl rfl ?_
     | (refine wp_cond_k rfl rfl rfl ?_ ?_ <;> intro _) | (refine wp_cond_i rfl ?_ ?_ <;> intro _))
  all_goals (refine ret_m [] rfl rfl ?_; simp_all [szPiece] <;> omega)
def szPieceS (l : List Piece) (left : Int) : Int := if IntKind.i64.wrap (left - l.length) < 0 then -1 else szL szPiece l (IntKind.i64.wrap (left - l.length))
def szCode (c : Code) (left : Int) : Int := if szPieceS c.funs left < 0 then -1 else if szPiece c.main (szPieceS c.funs left) < 0 then -1 else szPiece c.main (szPieceS c.funs left)
end Go.Proofs

set_option linter.unusedVariables false
set_option linter.unusedSimpArgs false
namespace Go.Proofs
open Go Go.Ev
set_option maxRecDepth 100000
variable {X : Rel3}
def sumB : List Int → Int → Int
  | [], n => n
  | x :: r, n => sumB r ((IntKind.i64.wrap (IntKind.i64.wrap (n * 31) + IntKind.i64.wrap x)).tmod 65521)
end Go.Proofs

set_option linter.unusedVariables false
set_option linter.unusedSimpArgs false
set_option maxHeartbeats 4000000
namespace Go.Proofs
open Go Go.Ev
set_option maxRecDepth 100000
variable {X : Rel3}
theorem w_pred {n : Int} (h0 : -9223372036854775807 ≤ n) (h1 : n ≤ 9223372036854775807) : IntKind.i64.wrap (n - 1) = n - 1 := by rw [w64] <;> omega
theorem map_at {α β : Type} {f : α → β} {l : List α} {k : Nat} (h : k < l.length) : (l.map f)[k]? = some (f l[k]) := by simp [h]
theorem all_step {α : Type} {f : α → Bool} {l : List α} {k : Nat} (h : k < l.length) : (l.drop k).all f = (f l[k] && (l.drop (k + 1)).all f) := by
  rw [List.drop_eq_getElem_cons h, List.all_cons]
def asc : List Int → Bool
  | [] => true
  | [_] => true
  | x :: y :: r => decide (x < y) && asc (y :: r)
theorem asc_step {l : List Int} {k : Nat} (h : k + 1 < l.length) : asc (l.drop k) = (decide (l[k] < l[k + 1]) && asc (l.drop (k + 1))) := by
  rw [List.drop_eq_getElem_cons (show k < l.length by omega), List.drop_eq_getElem_cons h, asc]
theorem asc_end {l : List Int} {k : Nat} (h : l.length ≤ k + 1) : asc (l.drop k) = true := by
  have : (l.drop k).length ≤ 1 := by simp; omega
  match h : l.drop k with
  | [] => rfl
  | [_] => rfl
  | _ :: _ :: _ => rw [h] at this; simp at this
def regB (has : Bool) (r regs : Int) : Bool := if has then rng r 0 (regs - 1) else r == 0
def allR (l : List Int) (hi : Int) : Bool := l.all fun r => rng r 0 hi
theorem allR_step {l : List Int} {hi : Int} {k : Nat} (h : k < l.length) : allR (l.drop k) hi = (rng l[k] 0 hi && allR (l.drop (k + 1)) hi) := all_step h
def numB (regs : Int) (i : Ins) : Bool :=
  if i.op = 1 then rng i.n (-1000000) 1000000
  else if i.op = 2 then rng i.n 0 1
  else if i.op = 5 then rng i.n 1 5
  else if i.op = 8 then allR i.l (regs - 1) && (rng i.n 0 149 && decide ((i.l.length : Int) < 100))
  else if i.op = 14 then asc i.l && (i.n == 0 && decide ((i.l.length : Int) ≤ 200))
  else i.n == 0
def insB (regs n : Int) (i : Ins) : Bool :=
  rng i.op 1 18 && regB (uD i.op) i.d regs && regB (uX i.op) i.x regs && regB (uY i.op) i.y regs && (if uT i.op then rng i.to_ 0 (n - 1) else i.to_ == 0) &&
  (i.op == 8 || i.op == 14 || !decide (0 < (i.l.length : Int))) && numB regs i
def k_l9Ins : List (Nat × List Nat) := [(0, [2, 3]), (1, [2, 3, 5]), (2, [2, 3, 68]), (3, [4]), (4, [2, 3, 82]), (5, [4]), (6, [2, 3, 84]), (7, [2, 3, 84, 85]), (8, [4]), (9, [2, 3, 84, 90]), (10, [4]), (11, [2, 3, 84, 95]), (12, [4]), (13, [2, 3, 84, 100]), (14, [2, 3, 6]), (15, [2, 3, 6, 106]), (16, [2, 3, 6]), (17, [2, 3, 6, 118]), (18, [4]), (19, [4]), (20, [3, 128]), (21, [3, 7]), (22, [3, 7, 134]), (23, [3, 7]), (24, [3, 7, 148]), (25, [4]), (26, [4]), (27, [4])]
theorem l9Ins_t (p : Piece) (i : Ins) (hr : 0 ≤ p.regs ∧ p.regs ≤ 400) (hn : p.ins.length ≤ 600) (hl : i.l.length ≤ 1048576) : Tells Try.prog E0 X 33 [p.a false, i.a false] (bA (insB p.regs p.ins.length i)) := by
  have hw : IntKind.i64.wrap (p.regs - 1) = p.regs - 1 := w_pred (by omega) (by omega)
  have hv : IntKind.i64.wrap ((p.ins.length : Int) - 1) = p.ins.length - 1 := w_pred (by omega) (by omega)
  have hreg : ∀ b r, Tells Try.prog E0 X 53 [bA b, iA r, iA p.regs] (bA (regB b r p.regs)) := by intro b r; have := l9Reg_t (X := X) b r p.regs; simpa only [l9Reg, regB, hw] using this
  refine Tells.by Try.func33 (by simp [Try.f33]) (Body.i rfl rfl rfl (fun _ => rfl) fun f => ?_)
  repeat' (first
     | refine wp_seq_i ?_ | refine wp_region_t k_l9Ins rfl ?_ | refine Run.done rfl ?_ | refine then_n ?_ | refine then_r ?_ | refine then_e ?_ | refine Run.go1 rfl ?_ | refine wp_skip_i ?_ | refine wp_ret_i ?_
     | refine wp_exit_i ?_ | refine wp_block_i ?_ | refine block_n ?_ | refine block_r ?_ | refine block_e ?_ | refine block_o rfl ?_ | refine wp_cond_t rfl ?_ | refine wp_cond_f rfl ?_ | refine Run.gT rfl rfl rfl rfl ?_
     | refine Run.pT rfl rfl ?_ | (refine Run.splitG rfl rfl rfl rfl rfl rfl ?_ ?_ <;> intro _) | (refine Run.splitP rfl rfl rfl rfl ?_ ?_ <;> intro _) | refine Run.call rfl rfl rfl (l1In_t _ _ _) rfl rfl ?_
     | refine Run.call rfl rfl rfl (l9Uses_t _) rfl rfl ?_ | refine Run.call rfl rfl rfl (hreg _ _) rfl rfl ?_ | refine Run.one rfl rfl rfl ?_ | (refine wp_cond_k rfl rfl rfl ?_ ?_ <;> intro _)
     | (refine wp_cond_i rfl ?_ ?_ <;> intro _))
  any_goals (refine ret_m [] rfl rfl ?_; first | (simp_all [insB]; done) | (simp_all [insB, numB]; done))
  any_goals (exfalso; clear hreg hw hv; simp_all [uT]; done)
  · refine wp_loop_k (α := Nat) [.keep [3, 7] [3]] (fun k => [(7, iA k)]) (fun _ => []) (fun _ => []) (fun k => (1 ≤ k ∧ k ≤ i.l.length + 1) ∧ asc (i.l.drop (k - 1)) = asc i.l) (fun k => i.l.length - k) 1 rfl (fun _ => rfl) rfl ?_ ?_
    · simp
    rintro k ⟨hk, hI⟩
    by_cases hlt : k < i.l.length
    · have hx : (i.l.map iR)[k]? = some (iR i.l[k]) := by simp [hlt]
      have hy : (i.l.map iR)[k - 1]? = some (iR (i.l[k - 1]'(by omega))) := by simp [hlt] <;> omega
      have hkk : IntKind.i64.wrap ((k : Int) - 1) = ((k - 1 : Nat) : Int) := by rw [w_pred] <;> omega
      have hst := asc_step (l := i.l) (k := k - 1) (by omega)
      have e1 : k - 1 + 1 = k := by omega
      simp only [e1] at hst
      repeat' (first
         | refine wp_seq_i ?_ | refine wp_region_t k_l9Ins rfl ?_ | refine Run.done rfl ?_ | refine then_n ?_ | refine then_r ?_ | refine then_e ?_ | refine Run.go1 rfl ?_ | refine wp_skip_i ?_ | refine wp_ret_i ?_
         | refine wp_exit_i ?_ | refine wp_block_i ?_ | refine block_n ?_ | refine block_r ?_ | refine block_e ?_ | refine block_o rfl ?_ | refine wp_cond_t rfl ?_ | refine wp_cond_f rfl ?_
         | refine wp_region_qt k_l9Ins rfl 12 rfl rfl rfl ?_ | refine RunQ.go1 rfl ?_ | refine RunQ.done rfl ?_ | refine RunQ.ix rfl rfl rfl rfl rfl rfl rfl hx rfl rfl rfl ?_
         | refine RunQ.ix rfl rfl rfl rfl rfl rfl hkk hy rfl rfl rfl ?_ | (refine wp_cond_k rfl rfl rfl ?_ ?_ <;> intro _) | (refine wp_cond_i rfl ?_ ?_ <;> intro _))
      · rename_i h1 h2
        refine ret_m [] rfl rfl ?_
        have : asc i.l = false := by rw [← hI, hst]; simp at h2; simp; omega
        simp_all [insB, numB]
      · rename_i h1 h2
        refine back_i [.keep [3, 7] [3]] (k + 1) rfl ?_ ⟨by omega, ?_⟩ (by omega)
        · simp only [w_succ hlt (by omega)]
        · rw [← hI, hst]; simp at h2; simp; omega
      · rename_i h; simp [hlt] at h
    · have hend := asc_end (l := i.l) (k := k - 1) (by omega)
      repeat' (first
         | refine wp_seq_i ?_ | refine wp_region_t k_l9Ins rfl ?_ | refine Run.done rfl ?_ | refine then_n ?_ | refine then_r ?_ | refine then_e ?_ | refine Run.go1 rfl ?_ | refine wp_skip_i ?_ | refine wp_ret_i ?_
         | refine wp_exit_i ?_ | refine wp_block_i ?_ | refine block_n ?_ | refine block_r ?_ | refine block_e ?_ | refine block_o rfl ?_ | refine wp_cond_t rfl ?_ | refine wp_cond_f rfl ?_ | refine Run.gT rfl rfl rfl rfl ?_
         | refine Run.pT rfl rfl ?_ | (refine Run.splitG rfl rfl rfl rfl rfl rfl ?_ ?_ <;> intro _) | (refine Run.splitP rfl rfl rfl rfl ?_ ?_ <;> intro _) | (refine wp_cond_k rfl rfl rfl ?_ ?_ <;> intro _)
         | (refine wp_cond_i rfl ?_ ?_ <;> intro _))
      · rename_i h; simp [hlt] at h
      all_goals (refine ret_m [] rfl rfl ?_; simp_all [insB, numB])
  · refine wp_loop_k (α := Nat) [.keep [2, 3, 6] [2, 3]] (fun k => [(6, iA k)]) (fun _ => []) (fun _ => []) (fun k => k ≤ i.l.length ∧ allR (i.l.drop k) (p.regs - 1) = allR i.l (p.regs - 1)) (fun k => i.l.length - k) 0 rfl (fun _ => rfl) rfl ?_ ?_
    · simp
    rintro k ⟨hk, hI⟩
    by_cases hlt : k < i.l.length
    · have hx : (i.l.map iR)[k]? = some (iR i.l[k]) := by simp [hlt]
      rw [allR_step hlt] at hI
      repeat' (first
         | refine wp_seq_i ?_ | refine wp_region_t k_l9Ins rfl ?_ | refine Run.done rfl ?_ | refine then_n ?_ | refine then_r ?_ | refine then_e ?_ | refine Run.go1 rfl ?_ | refine wp_skip_i ?_ | refine wp_ret_i ?_
         | refine wp_exit_i ?_ | refine wp_block_i ?_ | refine block_n ?_ | refine block_r ?_ | refine block_e ?_ | refine block_o rfl ?_ | refine wp_cond_t rfl ?_ | refine wp_cond_f rfl ?_
         | refine wp_region_qt k_l9Ins rfl 10 rfl rfl rfl ?_ | refine RunQ.go1 rfl ?_ | refine RunQ.done rfl ?_ | refine RunQ.ix rfl rfl rfl rfl rfl rfl rfl hx rfl rfl rfl ?_
         | refine RunQ.call rfl rfl rfl rfl rfl rfl (l1In_t _ _ _) (.inl rfl) rfl rfl ?_ | (refine wp_cond_k rfl rfl rfl ?_ ?_ <;> intro _) | (refine wp_cond_i rfl ?_ ?_ <;> intro _))
      · rename_i h1 h2
        refine ret_m [] rfl rfl ?_
        rw [hw] at h2
        have : allR i.l (p.regs - 1) = false := by rw [← hI]; simp at h2; simp [h2]
        simp_all [insB, numB]
      · rename_i h1 h2
        refine back_i [.keep [2, 3, 6] [2, 3]] (k + 1) rfl ?_ ⟨by omega, ?_⟩ (by omega)
        · simp only [w_succ hlt (by omega)]
        · rw [hw] at h2; rw [← hI]; simp at h2; simp [h2]
      · rename_i h; simp [hlt] at h
    · have hk : k = i.l.length := by omega
      subst hk
      have hI : allR i.l (p.regs - 1) = true := by rw [← hI]; simp [allR]
      repeat' (first
         | refine wp_seq_i ?_ | refine wp_region_t k_l9Ins rfl ?_ | refine Run.done rfl ?_ | refine then_n ?_ | refine then_r ?_ | refine then_e ?_ | refine Run.go1 rfl ?_ | refine wp_skip_i ?_ | refine wp_ret_i ?_
         | refine wp_exit_i ?_ | refine wp_block_i ?_ | refine block_n ?_ | refine block_r ?_ | refine block_e ?_ | refine block_o rfl ?_ | refine wp_cond_t rfl ?_ | refine wp_cond_f rfl ?_ | refine Run.gT rfl rfl rfl rfl ?_
         | refine Run.pT rfl rfl ?_ | (refine Run.splitG rfl rfl rfl rfl rfl rfl ?_ ?_ <;> intro _) | (refine Run.splitP rfl rfl rfl rfl ?_ ?_ <;> intro _) | refine Run.call rfl rfl rfl (l1In_t _ _ _) rfl rfl ?_
         | (refine wp_cond_k rfl rfl rfl ?_ ?_ <;> intro _) | (refine wp_cond_i rfl ?_ ?_ <;> intro _))
      · rename_i h; simp at h
      all_goals (refine ret_m [] rfl rfl ?_; simp_all [insB, numB])
end Go.Proofs

set_option linter.unusedVariables false
set_option linter.unusedSimpArgs false
set_option maxHeartbeats 4000000
namespace Go.Proofs
open Go Go.Ev
set_option maxRecDepth 100000
variable {X : Rel3}
def headB (p : Piece) : Bool := lamOk p && rng p.regs p.in_ 400 && rng p.ins.length 1 600
theorem headB_iff {p : Piece} : headB p = true ↔ ((p.lam = -1 ∧ p.in_ = 0) ∨ (0 ≤ p.lam ∧ p.lam ≤ 149 ∧ 1 ≤ p.in_)) ∧ p.in_ ≤ p.regs ∧ p.regs ≤ 400 ∧ 1 ≤ p.ins.length ∧ p.ins.length ≤ 600 := by
  simp [headB, lamOk, rng]; omega
def lastB (l : List Ins) : Bool := match l.getLast? with
  | some i => i.op == 15 || i.op == 13
  | none => false
theorem lastB_eq {l : List Ins} (h : 0 < l.length) : lastB l = (l[l.length - 1].op == 15 || l[l.length - 1].op == 13) := by
  simp only [lastB, List.getLast?_eq_getElem?, List.getElem?_eq_getElem (show l.length - 1 < l.length by omega)]
def allI (regs n : Int) (l : List Ins) : Bool := l.all (insB regs n)
theorem allI_step {regs n : Int} {l : List Ins} {k : Nat} (h : k < l.length) : allI regs n (l.drop k) = (insB regs n l[k] && allI regs n (l.drop (k + 1))) := all_step h
def pieceB (p : Piece) : Bool := headB p && (allI p.regs p.ins.length p.ins && lastB p.ins)
def k_l9Piece : List (Nat × List Nat) := [(0, [1]), (1, [1, 3]), (2, [1, 3, 49]), (3, [2]), (4, [1, 3, 4]), (5, [1, 3, 4, 52]), (6, [1, 3, 4]), (7, [1, 3, 4, 62]), (8, [2]), (9, [2])]
theorem l9Piece_t (p : Piece) (hp : p.ok) : Tells Try.prog E0 X 17 [p.a false] (bA (pieceB p)) := by
  refine Tells.by Try.func17 (by simp [Try.f17]) (Body.i rfl rfl rfl (fun _ => rfl) fun f => ?_)
  repeat' (first
     | refine wp_seq_i ?_ | refine wp_region_t k_l9Piece rfl ?_ | refine Run.done rfl ?_ | refine then_n ?_ | refine then_r ?_ | refine then_e ?_ | refine Run.go1 rfl ?_ | refine wp_skip_i ?_ | refine wp_ret_i ?_
     | refine wp_exit_i ?_ | refine wp_block_i ?_ | refine block_n ?_ | refine block_r ?_ | refine block_e ?_ | refine block_o rfl ?_ | refine wp_cond_t rfl ?_ | refine wp_cond_f rfl ?_ | refine Run.gT rfl rfl rfl rfl ?_
     | refine Run.pT rfl rfl ?_ | (refine Run.splitG rfl rfl rfl rfl rfl rfl ?_ ?_ <;> intro _) | (refine Run.splitP rfl rfl rfl rfl ?_ ?_ <;> intro _) | refine Run.call rfl rfl rfl (l1In_t _ _ _) rfl rfl ?_
     | (refine wp_cond_k rfl rfl rfl ?_ ?_ <;> intro _) | (refine wp_cond_i rfl ?_ ?_ <;> intro _))
  any_goals (refine ret_m [] rfl rfl ?_; have : headB p = false := Bool.eq_false_iff.2 (fun h => by have := headB_iff.1 h; simp [rng] at *; omega); simp [pieceB, this])
  all_goals (
    have hh : headB p = true := by (refine headB_iff.2 ?_; simp [rng] at *; omega)
    have hh' := headB_iff.1 hh
    have hv : IntKind.i64.wrap (((p.ins.map (Ins.c false)).length : Int) - 1) = ((p.ins.length - 1 : Nat) : Int) := by rw [List.length_map, w_pred] <;> omega
    refine wp_loop_k (α := Nat) [.keep [1, 3, 4] [1]] (fun k => [(4, iA k)]) (fun _ => []) (fun _ => []) (fun k => k ≤ p.ins.length ∧ allI p.regs p.ins.length (p.ins.drop k) = allI p.regs p.ins.length p.ins) (fun k => p.ins.length - k) 0 rfl (fun _ => rfl) (by simp) ?_ ?_
    · simp
    rintro k ⟨hk, hI⟩
    by_cases hlt : k < p.ins.length
    · have hx : (p.ins.map (Ins.c false))[k]? = some (Ins.c false p.ins[k]) := by simp [hlt]
      rw [allI_step hlt] at hI
      repeat' (first
         | refine wp_seq_i ?_ | refine wp_region_t k_l9Piece rfl ?_ | refine Run.done rfl ?_ | refine then_n ?_ | refine then_r ?_ | refine then_e ?_ | refine Run.go1 rfl ?_ | refine wp_skip_i ?_ | refine wp_ret_i ?_
         | refine wp_exit_i ?_ | refine wp_block_i ?_ | refine block_n ?_ | refine block_r ?_ | refine block_e ?_ | refine block_o rfl ?_ | refine wp_cond_t rfl ?_ | refine wp_cond_f rfl ?_
         | refine wp_region_qt k_l9Piece rfl 8 rfl rfl rfl ?_ | refine RunQ.go1 rfl ?_ | refine RunQ.done rfl ?_ | refine RunQ.ix rfl rfl rfl rfl rfl rfl rfl hx rfl rfl rfl ?_
         | refine RunQ.call rfl rfl rfl rfl rfl rfl (l9Ins_t p p.ins[k] (by omega) (by omega) (hp.2 _ (List.getElem_mem hlt))) (.inl rfl) rfl rfl ?_ | (refine wp_cond_k rfl rfl rfl ?_ ?_ <;> intro _)
         | (refine wp_cond_i rfl ?_ ?_ <;> intro _))
      · rename_i h1 h2
        refine ret_m [] rfl rfl ?_
        have : allI p.regs p.ins.length p.ins = false := by rw [← hI]; simp at h2; simp [h2]
        simp [pieceB, this]
      · rename_i h1 h2
        refine back_i [.keep [1, 3, 4] [1]] (k + 1) rfl ?_ ⟨by omega, ?_⟩ (by omega)
        · simp only [w_succ hlt (by omega)]
        · rw [← hI]; simp at h2; simp [h2]
      · rename_i h; simp [hlt] at h
    · have hk : k = p.ins.length := by omega
      subst hk
      have hI : allI p.regs p.ins.length p.ins = true := by rw [← hI]; simp [allI]
      have hx : (p.ins.map (Ins.c false))[p.ins.length - 1]? = some (Ins.c false (p.ins[p.ins.length - 1]'(by omega))) := map_at (by omega)
      have hl := lastB_eq (l := p.ins) (by omega)
      repeat' (first
         | refine wp_seq_i ?_ | refine wp_region_t k_l9Piece rfl ?_ | refine Run.done rfl ?_ | refine then_n ?_ | refine then_r ?_ | refine then_e ?_ | refine Run.go1 rfl ?_ | refine wp_skip_i ?_ | refine wp_ret_i ?_
         | refine wp_exit_i ?_ | refine wp_block_i ?_ | refine block_n ?_ | refine block_r ?_ | refine block_e ?_ | refine block_o rfl ?_ | refine wp_cond_t rfl ?_ | refine wp_cond_f rfl ?_ | refine Run.gT rfl rfl rfl rfl ?_
         | refine Run.pT rfl rfl ?_ | (refine Run.splitG rfl rfl rfl rfl rfl rfl ?_ ?_ <;> intro _) | (refine Run.splitP rfl rfl rfl rfl ?_ ?_ <;> intro _) | refine Run.ix rfl rfl rfl rfl rfl rfl hv hx rfl rfl rfl ?_
         | (refine wp_cond_k rfl rfl rfl ?_ ?_ <;> intro _) | (refine wp_cond_i rfl ?_ ?_ <;> intro _))
      any_goals (refine ret_m [] rfl rfl ?_; simp_all [pieceB]; done)
      all_goals (rename_i h; simp at h))
end Go.Proofs

set_option linter.unusedVariables false
set_option linter.unusedSimpArgs false
set_option maxHeartbeats 4000000
namespace Go.Proofs
open Go Go.Ev
set_option maxRecDepth 100000
variable {X : Rel3}
theorem shrI_b (l : List Int) : shrR (l.map iR) = l.map iR := by
  induction l with
  | nil => rfl
  | cons x r ih => simp [shrR, shrL, T.shr, ih]
theorem ownI_b (l : List Int) : ownR (l.map iR) := by
  induction l with
  | nil => simp [ownR]
  | cons x r ih => simp [ownR, ownL, T.own, ih]
theorem l10Add_s (l : List Int) (n : Int) (hl : l.length ≤ 1000000000000) : Tells Try.prog E0 X 71 [.t (.sl false (shrR (l.map iR))), iA n] (.t (.sl true ((addGo n false l).map iR))) := by rw [shrI_b]; exact l10Add_t l n hl
def jumpB (op : Int) : Bool := uT op || op == 15 || op == 16 || op == 14
/-- the leaders that an instruction makes -/
def leadAdd (n i : Nat) (x : Ins) : List Int := (if uT x.op then [x.to_] else []) ++ (if jumpB x.op && decide (i + 1 < n) then [((i + 1 : Nat) : Int)] else [])
def addL (c l : List Int) : List Int := l.foldl (fun a m => addGo m false a) c
def leadGo (n : Nat) : List Ins → Nat → List Int → List Int
  | [], _, c => c
  | x :: r, i, c => leadGo n r (i + 1) (addL c (leadAdd n i x))
def leads (l : List Ins) : List Int := leadGo l.length l 0 [0]
theorem addL_len : ∀ (l c : List Int), (addL c l).length ≤ c.length + l.length
  | [], c => by simp [addL]
  | x :: r, c => by
    have h1 := addGo_len x false c
    have h2 := addL_len r (addGo x false c)
    simp [addL] at h1 h2 ⊢; omega
theorem leadAdd_len (n i : Nat) (x : Ins) : (leadAdd n i x).length ≤ 2 := by unfold leadAdd; split <;> split <;> simp
theorem leadGo_len (n : Nat) : ∀ (l : List Ins) (i : Nat) (c : List Int), (leadGo n l i c).length ≤ c.length + 2 * l.length
  | [], _, c => by simp [leadGo]
  | x :: r, i, c => by
    have h1 := leadGo_len n r (i + 1) (addL c (leadAdd n i x))
    have h2 := addL_len (leadAdd n i x) c
    have h3 := leadAdd_len n i x
    rw [leadGo]; simp only [List.length_cons]; omega
theorem leads_len (l : List Ins) : (leads l).length ≤ 1 + 2 * l.length := by have := leadGo_len l.length l 0 [0]; simpa [leads] using this
def k_l20Lead : List (Nat × List Nat) := [(0, [1]), (1, [1, 3]), (2, [1, 3, 4]), (3, [1, 3, 4, 12]), (4, [1, 3, 4]), (5, [1, 3, 4, 5]), (6, [1, 3, 4, 5, 6]), (7, [1, 3, 4, 5, 6, 24]), (8, [1, 3, 4, 5, 6]), (9, [1, 3, 4, 52]), (10, [1, 3, 4]), (11, [2])]
end Go.Proofs

namespace Go.Proofs
open Go.Shelf
def Try.laysSort_ren : Go.Shelf.Ren := ⟨fun | 189 => 74 | 125 => 78 | 257 => 77 | 128 => 88 | 129 => 89 | 294 => 79 | 295 => 80 | 296 => 81 | 297 => 82 | 298 => 83 | 299 => 84 | 216 => 85 | 300 => 86 | 301 => 87 | 328 => 90 | 329 => 91 | 330 => 92 | 331 => 93 | 332 => 94 | 215 => 95 | 343 => 96 | n => n, fun | 28 => 46 | 3 => 3 | 46 => 95 | 0 => 0 | 51 => 106 | 53 => 108 | 4 => 4 | 183 => 98 | 182 => 97 | 131 => 103 | 5 => 5 | 9 => 9 | 218 => 109 | 222 => 113 | 228 => 115 | 229 => 116 | n => n, fun | n => n⟩
theorem Try.laysSort : Go.Proofs.Lays.n189 Try.prog Try.laysSort_ren := {
  mixed := by kernel_rfl
  f125 := Try.func78.trans (congrArg some (by kernel_rfl))
  f128 := Try.func88.trans (congrArg some (by kernel_rfl))
  f129 := Try.func89.trans (congrArg some (by kernel_rfl))
  f189 := Try.func74.trans (congrArg some (by kernel_rfl))
  f215 := Try.func95.trans (congrArg some (by kernel_rfl))
  f216 := Try.func85.trans (congrArg some (by kernel_rfl))
  f257 := Try.func77.trans (congrArg some (by kernel_rfl))
  f294 := Try.func79.trans (congrArg some (by kernel_rfl))
  f295 := Try.func80.trans (congrArg some (by kernel_rfl))
  f296 := Try.func81.trans (congrArg some (by kernel_rfl))
  f297 := Try.func82.trans (congrArg some (by kernel_rfl))
  f298 := Try.func83.trans (congrArg some (by kernel_rfl))
  f299 := Try.func84.trans (congrArg some (by kernel_rfl))
  f300 := Try.func86.trans (congrArg some (by kernel_rfl))
  f301 := Try.func87.trans (congrArg some (by kernel_rfl))
  f328 := Try.func90.trans (congrArg some (by kernel_rfl))
  f329 := Try.func91.trans (congrArg some (by kernel_rfl))
  f330 := Try.func92.trans (congrArg some (by kernel_rfl))
  f331 := Try.func93.trans (congrArg some (by kernel_rfl))
  f332 := Try.func94.trans (congrArg some (by kernel_rfl))
  f343 := Try.func96.trans (congrArg some (by kernel_rfl))
  t0 := Try.underlying0
  a0 := Try.isAgg0
  z0 := Try.sizeOf0
  v0 := Try.zeroValue0
  t3 := Try.underlying3
  a3 := Try.isAgg3
  z3 := Try.sizeOf3
  v3 := Try.zeroValue3
  t4 := Try.underlying4
  a4 := Try.isAgg4
  z4 := Try.sizeOf4
  v4 := Try.zeroValue4
  t5 := Try.underlying5
  a5 := Try.isAgg5
  z5 := Try.sizeOf5
  v5 := Try.zeroValue5
  t9 := Try.underlying9
  a9 := Try.isAgg9
  z9 := Try.sizeOf9
  v9 := Try.zeroValue9
  t28 := Try.underlying46
  a28 := Try.isAgg46
  z28 := Try.sizeOf46
  v28 := Try.zeroValue46
  t46 := Try.underlying95
  a46 := Try.isAgg95
  z46 := Try.sizeOf95
  v46 := Try.zeroValue95
  t51 := Try.underlying106
  a51 := Try.isAgg106
  z51 := Try.sizeOf106
  v51 := Try.zeroValue106
  t53 := Try.underlying108
  a53 := Try.isAgg108
  z53 := Try.sizeOf108
  v53 := Try.zeroValue108
  t131 := Try.underlying103
  a131 := Try.isAgg103
  z131 := Try.sizeOf103
  v131 := Try.zeroValue103
  t182 := Try.underlying97
  a182 := Try.isAgg97
  z182 := Try.sizeOf97
  v182 := Try.zeroValue97
  t183 := Try.underlying98
  a183 := Try.isAgg98
  z183 := Try.sizeOf98
  v183 := Try.zeroValue98
  t218 := Try.underlying109
  a218 := Try.isAgg109
  z218 := Try.sizeOf109
  v218 := Try.zeroValue109
  t222 := Try.underlying113
  a222 := Try.isAgg113
  z222 := Try.sizeOf113
  v222 := Try.zeroValue113
  t228 := Try.underlying115
  a228 := Try.isAgg115
  z228 := Try.sizeOf115
  v228 := Try.zeroValue115
  t229 := Try.underlying116
  a229 := Try.isAgg116
  z229 := Try.sizeOf116
  v229 := Try.zeroValue116 }
def Try.laysCompact_ren : Go.Shelf.Ren := ⟨fun | 20 => 75 | n => n, fun | 22 => 46 | 3 => 3 | 4 => 4 | 0 => 0 | n => n, fun | n => n⟩
theorem Try.laysCompact : Go.Proofs.Lays2.n20 Try.prog Try.laysCompact_ren := {
  mixed := by kernel_rfl
  f20 := Try.func75.trans (congrArg some (by kernel_rfl))
  t0 := Try.underlying0
  a0 := Try.isAgg0
  z0 := Try.sizeOf0
  v0 := Try.zeroValue0
  t3 := Try.underlying3
  a3 := Try.isAgg3
  z3 := Try.sizeOf3
  v3 := Try.zeroValue3
  t4 := Try.underlying4
  a4 := Try.isAgg4
  z4 := Try.sizeOf4
  v4 := Try.zeroValue4
  t22 := Try.underlying46
  a22 := Try.isAgg46
  z22 := Try.sizeOf46
  v22 := Try.zeroValue46
  i3 := by kernel_rfl }
end Go.Proofs

set_option linter.unusedVariables false
set_option linter.unusedSimpArgs false
set_option maxHeartbeats 4000000
namespace Go.Proofs
open Go Go.Ev Go.Shelf Go.Sort
set_option maxRecDepth 100000
/-- only the block b's cells have turned, and what is new -/
structure KB (b : Nat) (w w' : World) : Prop where
  os : w'.os = w.os
  tape : w'.tape = w.tape
  output : w'.output = w.output
  size : w.heap.size ≤ w'.heap.size
  other : ∀ k, k < w.heap.size → k ≠ b → w'.heap[k]? = w.heap[k]?
  cells : ∀ cs ty fr, w.heap[b]? = some (.cells cs ty fr) → ∃ cs', w'.heap[b]? = some (.cells cs' ty fr) ∧ cs'.size = cs.size
theorem KB.refl (b : Nat) (w : World) : KB b w w := ⟨rfl, rfl, rfl, Nat.le_refl _, fun _ _ _ => rfl, fun cs _ _ h => ⟨cs, h, rfl⟩⟩
theorem KB.trans {b : Nat} {w w1 w2 : World} (h : KB b w w1) (h' : KB b w1 w2) : KB b w w2 :=
  ⟨h'.os.trans h.os, h'.tape.trans h.tape, h'.output.trans h.output, Nat.le_trans h.size h'.size, fun k hk hb => (h'.other k (Nat.lt_of_lt_of_le hk h.size) hb).trans (h.other k hk hb),
    fun cs ty fr hc => by
      obtain ⟨c1, e1, s1⟩ := h.cells cs ty fr hc
      obtain ⟨c2, e2, s2⟩ := h'.cells c1 ty fr e1
      exact ⟨c2, e2, s2.trans s1⟩⟩
theorem KB.ahead (b n : Nat) (w : World) : KB b w (Sort.ahead w n) := ⟨rfl, rfl, rfl, Nat.le_refl _, fun _ _ _ => rfl, fun cs _ _ h => ⟨cs, h, rfl⟩⟩
theorem KB.row {α : Type} [Inhabited α] (enc : α → Value) (b off : Nat) (d : Array α) (w : World) : KB b w (putRow enc w b off d) := by
  refine ⟨rfl, rfl, rfl, by simp, fun k _ hk => ?_, fun cs ty fr h => ⟨putCells enc off d cs, ?_, by simp [putCells]⟩⟩
  · simp [putRow, mapBlock, Array.getElem?_modify, Ne.symm hk]
  · simp [putRow, mapBlock, Array.getElem?_modify, h, onCells]
theorem KB.grow {b : Nat} {w w' : World} (h : KB b w w') (hb : b < w.heap.size) (os : Array Obj) : KB b w (Sort.grow w' os) := by
  have hs := h.size
  refine ⟨h.os, h.tape, h.output, by simp; omega, fun k hk hn => ?_, fun cs ty fr hc => ?_⟩
  · rw [← h.other k hk hn]; simp only [Sort.grow]; rw [Array.getElem?_append_left (by omega)]
  · obtain ⟨c, e, s⟩ := h.cells cs ty fr hc
    exact ⟨c, by simp only [Sort.grow]; rw [Array.getElem?_append_left (by omega)]; exact e, s⟩
theorem holds_grow {α : Type} [Inhabited α] {enc : α → Value} {w : World} {b off : Nat} {d : Array α} (h : Holds enc w b off d) (os : Array Obj) : Holds enc (Sort.grow w os) b off d := by
  intro j hj
  obtain ⟨h1, h2⟩ := h j hj
  obtain ⟨c, e, fr, hb, hc⟩ := cells_of_cell? h1
  have hlt : b < w.heap.size := by
    rcases Nat.lt_or_ge b w.heap.size with h | h
    · exact h
    · rw [Array.getElem?_eq_none h] at hb; cases hb
  have he : (Sort.grow w os).heap[b]? = w.heap[b]? := by simp only [Sort.grow]; rw [Array.getElem?_append_left hlt]
  refine ⟨?_, ?_⟩
  · rw [← h1]; simp only [World.cell?, he]
  · rw [← h2]; simp only [World.frozen?, he]
abbrev eI : Int → Value := Value.int .i64
theorem sort_c (b off cap : Nat) (zs : List Int) (w : World) (hH : Holds eI w b off zs.toArray) (hb : b < w.heap.size) (hz : zs.length < 4611686018427387904) :
    Calls Try.prog 74 #[.slice (some ⟨b, off, none⟩) zs.length cap] w fun e w' => e = .returned (.tuple #[]) ∧ Holds eI w' b off (zs.mergeSort fun x y => decide (x ≤ y)).toArray ∧ KB b w w' := by
  refine (Any.slices_Sort_int Try.laysSort b off cap zs w hH hb hz).mono ?_
  rintro e w' ⟨he, n, os, rfl⟩
  refine ⟨he, holds_grow (holds_putRow eI _ b off zs.toArray _ (holds_ahead eI w n b off _ hH) (by simp)) os, KB.grow ((KB.ahead b n w).trans (KB.row ..)) hb os⟩
theorem sort_n (a : Option Addr) (cap : Nat) (w : World) : Calls Try.prog 74 #[.slice a 0 cap] w fun e w' => e = .returned (.tuple #[]) ∧ w' = w :=
  Any.slices_Sort_int_none Try.laysSort a cap w
theorem comp_c (b off cap : Nat) (zs : List Int) (w : World) (hH : Holds eI w b off zs.toArray) (hz : zs.length ≤ 9223372036854775807) (hc : zs.length ≤ cap) :
    Calls Try.prog 75 #[.slice (some ⟨b, off, none⟩) zs.length cap] w fun e w' => e = .returned (.slice (some ⟨b, off, none⟩) (Lib.compact zs).length cap) ∧ Holds eI w' b off (Lib.compact zs ++ List.replicate (zs.length - (Lib.compact zs).length) 0).toArray ∧ KB b w w' := by
  refine (calls_of_every_depth fun D => AnyS.slices_Compact_int_in Try.laysCompact D b off cap zs w hH hz hc).mono ?_
  rintro e w' ⟨he, n, rfl⟩
  have hl := compact_len zs
  exact ⟨he, holds_putRow eI _ b off zs.toArray _ (holds_ahead eI w n b off _ hH) (by simp; omega), (KB.ahead b n w).trans (KB.row ..)⟩
theorem comp_n (a : Option Addr) (cap : Nat) (w : World) : Calls Try.prog 75 #[.slice a 0 cap] w fun e w' => e = .returned (.slice a 0 cap) ∧ w' = w :=
  calls_of_every_depth fun D => AnyS.slices_Compact_int_empty_in Try.laysCompact D a cap w
theorem own_holds {w : World} {B F : Nat → Prop} {l : List Int} {v : Value} (h : Own w B (.sl true (l.map iR)) v F) :
    (l = [] ∧ ∃ a cap, v = .slice a 0 cap) ∨ (l ≠ [] ∧ ∃ b off cap cs ty, v = .slice (some ⟨b, off, none⟩) l.length cap ∧ w.heap[b]? = some (.cells cs ty (0, 0)) ∧ off + cap ≤ cs.size ∧ l.length ≤ cap ∧ F b ∧ Holds eI w b off l.toArray) := by
  by_cases hl0 : l = []
  · subst hl0
    refine .inl ⟨rfl, ?_⟩
    cases h with
    | nil => exact ⟨_, _, rfl⟩
    | sl => exact ⟨_, _, rfl⟩
  · refine .inr ⟨hl0, ?_⟩
    have hlen : 0 < l.length := List.length_pos_iff.2 hl0
    generalize hrows : l.map iR = rows at h
    cases h with
    | nil => exact absurd (by simpa using hrows) hl0
    | sl _ b off cap sz us Fs F cs ty hh hcap hc hl hw hrr hoo hdd hbb hFb hFF htt =>
      subst hrows
      have hsz : sz = 1 := by
        have := hl 0 (iR l[0]) (by simp [hlen])
        simpa using this.symm
      subst hsz
      have hval : ∀ j (hj : j < l.length), us j 0 = .int .i64 l[j] := fun j hj => by
        have := hrr j (iR l[j]) 0 (iT l[j]) (by simp [hj]) rfl
        generalize us j 0 = u at this
        cases this; rfl
      refine ⟨b, off, cap, cs, ty, by rw [List.length_map], hh, by simpa using hcap, by simpa using hc, hFb, ?_⟩
      intro j hj
      have hj' : j < l.length := by simpa using hj
      have h3 := hw j (iR l[j]) 0 (iT l[j]) (by simp [hj']) rfl
      rw [hval j hj', Nat.mul_one, Nat.add_zero] at h3
      refine ⟨?_, ?_⟩
      · simp only [World.cell?, hh]
        rw [getElem!_pos l.toArray j hj]
        simp [h3]
      · simp [World.frozen?, hh]
theorem holds_own {w : World} {B : Nat → Prop} {l r : List Int} {b off cap : Nat} {cs : Array Value} {ty : TypeId} (hh : w.heap[b]? = some (.cells cs ty (0, 0))) (hcap : off + cap ≤ cs.size) (hc : l.length ≤ cap) (hl : l ≠ []) (hR : Holds eI w b off (l ++ r).toArray) :
    Own w B (.sl true (l.map iR)) (.slice (some ⟨b, off, none⟩) l.length cap) (fun k => k = b) := by
  have hcell : ∀ j (hj : j < l.length), cs[off + j]? = some (.int .i64 l[j]) := fun j hj => by
    obtain ⟨h4, _⟩ := hR j (by simp; omega)
    simp only [World.cell?, hh] at h4
    rw [getElem!_pos _ j (by simp; omega)] at h4
    simpa [List.getElem_append_left hj] using h4
  have := Own.sl (w := w) (B := B) (l.map iR) b off cap 1 (fun i _ => .int .i64 (l[i]?.getD 0)) (fun _ _ _ => False) (fun k => k = b) cs ty hh (by simpa using hcap) (by simpa using hc)
    (fun i r h => by
      obtain ⟨x, _, rfl⟩ := List.mem_map.1 (List.mem_of_getElem? h); rfl)
    (fun i r k x hi hk => by
      rw [List.getElem?_map, Option.map_eq_some_iff] at hi
      obtain ⟨z, hz1, rfl⟩ := hi
      obtain ⟨hi1, rfl⟩ := List.getElem?_eq_some_iff.1 hz1
      cases k with
      | zero => rw [Nat.mul_one, Nat.add_zero, hcell i hi1]; simp [hi1]
      | succ k => simp at hk)
    (fun i r k x hi hk => by
      rw [List.getElem?_map, Option.map_eq_some_iff] at hi
      obtain ⟨z, hz1, rfl⟩ := hi
      cases k with
      | zero => simp at hk; subst hk; rw [hz1]; exact .sc _ _
      | succ k => simp at hk)
    (fun i r k x hi hk => rfl)
    (fun _ _ _ _ _ h => h.elim) (fun _ _ h => h) rfl (fun _ _ _ h => h.elim)
    (fun h => absurd (by simpa using h) hl)
  rw [List.length_map] at this
  exact this
theorem fam_one {w : World} {B Fin : Nat → Prop} {t : T} {vs : List Value} (h : Fam (VS w B) [.t t] vs Fin) : ∃ v G, vs = [v] ∧ Own w B t v G ∧ ∀ b, G b → Fin b := by
  cases h with
  | cons x xs v vs' G F' _ hx hr hd h1 h2 =>
  cases hr
  rcases hx with ⟨y, hy, ho⟩ | ⟨cs, us, h, _⟩ | ⟨_, _, _, _, _, h, _⟩
  · cases hy; exact ⟨_, _, rfl, ho, h1⟩
  · cases h
  · cases h
/-- slices.Sort at []int, told from outside: what is handed on for good is in order behind it. -/
theorem sort_sound (l : List Int) (hz : l.length < 4611686018427387904) : Sound Try.prog 74 [.t (.sl true (l.map iR))] (.io [.tp [], .t (.sl true ((l.mergeSort fun x y => decide (x ≤ y)).map iR))]) := by
  refine ⟨⟨Try.f74, Try.func74, rfl, by simp [Try.f74]⟩, ?_⟩
  intro w vs B Fin hB hF hfam
  obtain ⟨v, G, rfl, ho, hG⟩ := fam_one hfam
  rcases own_holds ho with ⟨rfl, a, cap, rfl⟩ | ⟨hl0, b, off, cap, cs, ty, rfl, hh, hcap, hc, hb, hH⟩
  · refine (sort_n a cap w).mono ?_
    rintro e w' ⟨rfl, rfl⟩
    exact ⟨_, B, G, rfl, .inr ⟨_, _, fun _ => False, G, rfl, .inr ⟨[], [], rfl, rfl, .nil _⟩, .cons _ _ _ _ G (fun _ => False) G (.inr (.inl ⟨_, rfl, by rw [List.mergeSort_nil]; exact ho⟩)) (.nil _) (fun _ _ h => h) (fun _ h => h) (fun _ h => h.elim), fun _ h => h.elim, fun _ h => h.elim, fun _ h => h⟩,
      fun k hk => ⟨(hB k hk).1, fun h => (hB k hk).2 (hG k h), .inl hk⟩, fun k h => ⟨hF k (hG k h), .inl (hG k h)⟩, Keeps.refl _ _⟩
  · have hlt : b < w.heap.size := hF b (hG b hb)
    refine (sort_c b off cap l w hH hlt hz).mono ?_
    rintro e w' ⟨rfl, hR, hk⟩
    obtain ⟨cs', hh', hs'⟩ := hk.cells cs ty _ hh
    have hne : l.mergeSort (fun x y => decide (x ≤ y)) ≠ [] := fun h => hl0 (by have := congrArg List.length h; simpa using this)
    have hO := holds_own (B := B) (r := []) hh' (by rw [hs']; exact hcap) (by simpa using hc) hne (by simpa using hR)
    rw [List.length_mergeSort] at hO
    exact ⟨_, B, fun k => k = b, rfl, .inr ⟨_, _, fun _ => False, fun k => k = b, rfl, .inr ⟨[], [], rfl, rfl, .nil _⟩, .cons _ _ _ _ (fun k => k = b) (fun _ => False) _ (.inr (.inl ⟨_, rfl, hO⟩)) (.nil _) (fun _ _ h => h) (fun _ h => h) (fun _ h => h.elim), fun _ h => h.elim, fun _ h => h.elim, fun _ h => h⟩,
      fun k hk' => ⟨Nat.lt_of_lt_of_le (hB k hk').1 hk.size, fun h => (hB k hk').2 (h ▸ hG b hb), .inl hk'⟩, fun k h => by subst h; exact ⟨Nat.lt_of_lt_of_le hlt hk.size, .inl (hG _ hb)⟩,
      ⟨hk.os, hk.tape, hk.output, hk.size, fun k hk1 hk2 => hk.other k hk1 fun e => hk2 (e ▸ hG b hb)⟩⟩
/-- slices.Compact at []int, told from outside. -/
theorem comp_sound (l : List Int) (hz : l.length ≤ 9223372036854775807) : Sound Try.prog 75 [.t (.sl true (l.map iR))] (.t (.sl true ((Lib.compact l).map iR))) := by
  refine ⟨⟨Try.f75, Try.func75, rfl, by simp [Try.f75]⟩, ?_⟩
  intro w vs B Fin hB hF hfam
  obtain ⟨v, G, rfl, ho, hG⟩ := fam_one hfam
  rcases own_holds ho with ⟨rfl, a, cap, rfl⟩ | ⟨hl0, b, off, cap, cs, ty, rfl, hh, hcap, hc, hb, hH⟩
  · refine (comp_n a cap w).mono ?_
    rintro e w' ⟨rfl, rfl⟩
    exact ⟨_, B, G, rfl, .inl ⟨rfl, .inl (.inl ⟨_, rfl, ho⟩)⟩, fun k hk => ⟨(hB k hk).1, fun h => (hB k hk).2 (hG k h), .inl hk⟩, fun k h => ⟨hF k (hG k h), .inl (hG k h)⟩, Keeps.refl _ _⟩
  · have hlt : b < w.heap.size := hF b (hG b hb)
    refine (comp_c b off cap l w hH hz hc).mono ?_
    rintro e w' ⟨rfl, hR, hk⟩
    obtain ⟨cs', hh', hs'⟩ := hk.cells cs ty _ hh
    have hle := compact_len l
    have hO := holds_own (B := B) hh' (by rw [hs']; exact hcap) (by omega) (compact_ne hl0) hR
    exact ⟨_, B, fun k => k = b, rfl, .inl ⟨rfl, .inl (.inl ⟨_, rfl, hO⟩)⟩,
      fun k hk' => ⟨Nat.lt_of_lt_of_le (hB k hk').1 hk.size, fun h => (hB k hk').2 (h ▸ hG b hb), .inl hk'⟩, fun k h => by subst h; exact ⟨Nat.lt_of_lt_of_le hlt hk.size, .inl (hG _ hb)⟩,
      ⟨hk.os, hk.tape, hk.output, hk.size, fun k hk1 hk2 => hk.other k hk1 fun e => hk2 (e ▸ hG b hb)⟩⟩
/-- what is told from outside -/
def XS : Rel3 := fun f args r => (∃ l : List Int, l.length < 4611686018427387904 ∧ f = 74 ∧ args = [.t (.sl true (l.map iR))] ∧ r = .io [.tp [], .t (.sl true ((l.mergeSort fun x y => decide (x ≤ y)).map iR))]) ∨
  (∃ l : List Int, l.length ≤ 9223372036854775807 ∧ f = 75 ∧ args = [.t (.sl true (l.map iR))] ∧ r = .t (.sl true ((Lib.compact l).map iR)))
theorem XS_sound (f : FuncId) (args : List AV) (r : AV) (h : XS f args r) : Sound Try.prog f args r := by
  rcases h with ⟨l, hl, rfl, rfl, rfl⟩ | ⟨l, hl, rfl, rfl, rfl⟩
  · exact sort_sound l hl
  · exact comp_sound l hl
theorem Sort_t (l : List Int) (hz : l.length < 4611686018427387904) : Tells Try.prog E0 XS 74 [.t (.sl true (l.map iR))] (.io [.tp [], .t (.sl true ((l.mergeSort fun x y => decide (x ≤ y)).map iR))]) := Tells.of (.inl ⟨l, hz, rfl, rfl, rfl⟩)
theorem Compact_t (l : List Int) (hz : l.length ≤ 9223372036854775807) : Tells Try.prog E0 XS 75 [.t (.sl true (l.map iR))] (.t (.sl true ((Lib.compact l).map iR))) := Tells.of (.inr ⟨l, hz, rfl, rfl, rfl⟩)
end Go.Proofs

set_option linter.unusedVariables false
set_option linter.unusedSimpArgs false
set_option maxHeartbeats 4000000
namespace Go.Proofs
open Go Go.Ev
set_option maxRecDepth 100000
variable {X : Rel3}
def addsGo (n : Nat) : List Ins → Nat → List Int
  | [], _ => []
  | x :: r, i => leadAdd n i x ++ addsGo n r (i + 1)
theorem addL_app (c a b : List Int) : addL (addL c a) b = addL c (a ++ b) := by simp [addL]
theorem leadGo_eq (n : Nat) : ∀ (l : List Ins) (i : Nat) (c : List Int), leadGo n l i c = addL c (addsGo n l i)
  | [], _, c => rfl
  | x :: r, i, c => by rw [leadGo, leadGo_eq n r, addL_app, addsGo]
theorem addL_asc : ∀ (l c : List Int), Asc c → Asc (addL c l)
  | [], c, h => h
  | x :: r, c, h => addL_asc r _ (addGo_asc x c h)
theorem addL_mem : ∀ (l c : List Int) (x : Int), x ∈ addL c l ↔ x ∈ c ∨ x ∈ l
  | [], c, x => by simp [addL]
  | y :: r, c, x => by
    have h := addL_mem r (addGo y false c) x
    rw [addGo_mem] at h
    simp only [addL, List.foldl_cons] at h ⊢
    rw [h]
    by_cases e : x = y <;> simp [e]
theorem leads_eq (l : List Ins) : ascOf (0 :: addsGo l.length l 0) = leads l := by
  refine asc_ext (ascOf_asc _) (by rw [leads, leadGo_eq]; exact addL_asc _ _ (by simp [Asc])) fun x => ?_
  rw [ascOf_mem, leads, leadGo_eq, addL_mem]; simp
theorem leads_asc (l : List Ins) : Asc (leads l) := by rw [← leads_eq]; exact ascOf_asc _
theorem leads_zero (l : List Ins) : 0 ∈ leads l := by rw [← leads_eq, ascOf_mem]; simp
theorem blk_none (i : Int) : ∀ (l : List Int) (k : Nat) (b : Int), (∀ x ∈ l, i < x) → blk i l k b = b
  | [], _, _, _ => rfl
  | x :: r, k, b, h => by
    have := h x (List.mem_cons_self ..)
    rw [blk, if_neg (by omega)]; exact blk_none i r _ _ fun y hy => h y (List.mem_cons_of_mem _ hy)
theorem blk_asc (i : Int) : ∀ (l : List Int) (k : Nat), Asc l → blk i l (k + 1) k = blkI i l k
  | [], _, _ => rfl
  | x :: r, k, h => by
    obtain ⟨h1, h2⟩ := List.pairwise_cons.1 h
    by_cases hx : x ≤ i
    · have := blk_asc i r (k + 1) h2
      rw [blk, if_pos hx, blkI, if_pos hx, ← this]
    · rw [blk, if_neg hx, blkI, if_neg hx]; exact blk_none i r _ _ fun y hy => by have := h1 y hy; omega
theorem blk_leads (l : List Ins) (i : Int) (hi : 0 ≤ i) : blk i (leads l) 0 (-1) = blkI i ((leads l).drop 1) 0 := by
  have ha := leads_asc l
  have h0 := leads_zero l
  generalize leads l = m at ha h0
  cases m with
  | nil => cases h0
  | cons y r =>
    obtain ⟨h1, h2⟩ := List.pairwise_cons.1 ha
    have hy : y ≤ i := by
      rcases List.mem_cons.1 h0 with e | h
      · omega
      · have := h1 0 h; omega
    rw [blk, if_pos hy]
    exact blk_asc i r 0 h2
def leadsB (p : Piece) : List Int := if pieceB p then leads p.ins else []
def blockB (p : Piece) (i : Int) : Int := if pieceB p && rng i 0 (p.ins.length - 1) then blkI i ((leads p.ins).drop 1) 0 else -1
theorem leadsB_len (p : Piece) (hp : p.ok) : (leadsB p).length ≤ 3000000 := by
  have := leads_len p.ins
  have := hp.1
  unfold leadsB; split <;> simp; omega
theorem addsGo_len (n : Nat) : ∀ (l : List Ins) (i : Nat), (addsGo n l i).length ≤ 2 * l.length
  | [], _ => by simp [addsGo]
  | x :: r, i => by
    have h1 := addsGo_len n r (i + 1)
    have h3 := leadAdd_len n i x
    rw [addsGo]; simp only [List.length_cons, List.length_append]; omega
def k_LeadS : List (Nat × List Nat) := [(0, [1]), (1, [1, 5]), (2, [2]), (3, [2])]
def k_BlockS : List (Nat × List Nat) := [(0, [1, 2]), (1, [1, 2, 16]), (2, [4]), (3, [4])]
end Go.Proofs

set_option linter.unusedVariables false
set_option linter.unusedSimpArgs false
set_option maxHeartbeats 4000000
namespace Go.Proofs
open Go Go.Ev
set_option maxRecDepth 100000
variable {X : Rel3}
/-- what is marked, how often -/
def cntT : List Bool → Nat
  | [] => 0
  | b :: r => (if b then 1 else 0) + cntT r
theorem cntT_le : ∀ l : List Bool, cntT l ≤ l.length
  | [] => Nat.le_refl _
  | b :: r => by have := cntT_le r; simp only [cntT, List.length_cons]; split <;> omega
theorem cntT_set : ∀ {l : List Bool} {i : Nat}, l[i]? = some false → cntT (l.set i true) = cntT l + 1
  | [], i, h => by simp at h
  | b :: r, 0, h => by simp at h; subst h; simp [cntT]; omega
  | b :: r, i + 1, h => by
    have := cntT_set (l := r) (i := i) (by simpa using h)
    simp only [List.set_cons_succ, cntT]; omega
theorem cntT_lt {l : List Bool} {i : Nat} (h : l[i]? = some false) : cntT l < l.length := by
  have h1 := cntT_set h
  have h2 := cntT_le (l.set i true)
  simp at h2; omega
theorem cntT_rep (n : Nat) : cntT (List.replicate n false) = 0 := by
  induction n with
  | zero => rfl
  | succ n ih => simp [List.replicate_succ, cntT, ih]
def mayB (op : Int) : Bool := op == 5 || op == 14 || op == 16 || op == 9 || op == 10 || op == 11 || op == 12
/-- the open tries ahead of a place -/
def guardGo : List Ins → Nat → List Int → List Int
  | [], _, s => s
  | x :: r, k, s => guardGo r (k + 1) (if x.op = 17 then s ++ [(k : Int)] else if x.op = 18 then s.dropLast else s)
def lastI (s : List Int) : Int := match s.getLast? with
  | some k => k
  | none => -1
def guardI (l : List Ins) (i : Nat) : Int := lastI (guardGo (l.take i) 0 [])
theorem guardGo_mem {l : List Ins} : ∀ (m : List Ins) (k : Nat) (s : List Int), m = l.drop k → (∀ x ∈ s, ∃ j : Nat, x = j ∧ ∃ y, l[j]? = some y ∧ y.op = 17) → ∀ (i : Nat), ∀ x ∈ guardGo (m.take i) k s, ∃ j : Nat, x = j ∧ ∃ y, l[j]? = some y ∧ y.op = 17
  | [], k, s, _, hs, i => by simp [guardGo]; exact hs
  | y :: r, k, s, he, hs, 0 => by simp [guardGo]; exact hs
  | y :: r, k, s, he, hs, i + 1 => by
    have hy : l[k]? = some y := by
      have := congrArg (fun m : List Ins => m[0]?) he
      simpa [List.getElem?_drop] using this.symm
    have hr : r = l.drop (k + 1) := by
      have := congrArg List.tail he
      simpa using this
    rw [List.take_succ_cons, guardGo]
    refine guardGo_mem r (k + 1) _ hr ?_ i
    intro x hx
    split at hx
    · rename_i h17
      rcases List.mem_append.1 hx with hx | hx
      · exact hs x hx
      · obtain rfl : x = (k : Int) := by simpa using hx
        exact ⟨k, rfl, y, hy, h17⟩
    · split at hx
      · exact hs x (List.dropLast_subset _ hx)
      · exact hs x hx
theorem guardI_is {l : List Ins} {i : Nat} (h : 0 ≤ guardI l i) : ∃ j : Nat, guardI l i = j ∧ ∃ y, l[j]? = some y ∧ y.op = 17 := by
  unfold guardI at h ⊢
  unfold lastI at h ⊢
  split at h
  · rename_i k hk
    exact guardGo_mem (l := l) l 0 [] (by simp) (by simp) i k (List.mem_of_getLast? hk)
  · omega
def waysL (x : Ins) (i : Nat) : List Int := (if x.op == 13 || x.op == 11 || x.op == 12 then [x.to_] else []) ++ (if x.op != 13 && x.op != 15 && x.op != 16 then [((i + 1 : Nat) : Int)] else [])
def toAt (l : List Ins) (k : Int) : Int := match l[k.toNat]? with
  | some x => x.to_
  | none => 0
def guardL (l : List Ins) (i : Nat) (x : Ins) : List Int := if decide (0 ≤ guardI l i) && mayB x.op then [toAt l (guardI l i)] else []
/-- where it goes on, in order -/
def nexts (l : List Ins) (i : Nat) : List Int := match l[i]? with
  | some x => ascOf (waysL x i ++ guardL l i x)
  | none => []
theorem nexts_len (l : List Ins) (i : Nat) : (nexts l i).length ≤ 3 := by
  unfold nexts
  split
  · rename_i x _
    refine Nat.le_trans (ascOf_len _) ?_
    unfold waysL guardL
    rw [List.length_append, List.length_append]
    split <;> split <;> split <;> simp
  · simp
/-- what is met: from the first on, and nothing that is cut -/
inductive Reach (l : List Ins) (c : Int) : Nat → Prop
  | zero (h : c ≠ 0) : Reach l c 0
  | step {i y : Nat} (h : Reach l c i) (hy : (y : Int) ∈ nexts l i) (hc : (y : Int) ≠ c) : Reach l c y
noncomputable def metC (l : List Ins) (c : Int) : List Bool := (List.range l.length).map fun i => @decide (Reach l c i) (Classical.propDecidable _)
theorem metC_len (l : List Ins) (c : Int) : (metC l c).length = l.length := by simp [metC]
theorem metC_at {l : List Ins} {c : Int} {i : Nat} : (metC l c)[i]? = some true ↔ i < l.length ∧ Reach l c i := by
  unfold metC
  rw [List.getElem?_map, Option.map_eq_some_iff]
  constructor
  · rintro ⟨j, hj, h⟩
    obtain ⟨h1, h2⟩ := List.getElem?_eq_some_iff.1 hj
    simp at h1 h2; subst h2
    exact ⟨h1, @of_decide_eq_true _ (Classical.propDecidable _) h⟩
  · rintro ⟨h1, h2⟩
    exact ⟨i, by simp [h1], @decide_eq_true _ (Classical.propDecidable _) h2⟩
theorem met_of {l : List Ins} {c : Int} {out : List Bool} (hl : out.length = l.length) (h1 : ∀ i, out[i]? = some true → Reach l c i) (h0 : c ≠ 0 → out[0]? = some true)
    (h2 : ∀ i, out[i]? = some true → ∀ y : Nat, (y : Int) ∈ nexts l i → (y : Int) ≠ c → out[y]? = some true) : out = metC l c := by
  have all : ∀ i, Reach l c i → out[i]? = some true := by
    intro i h
    induction h with
    | zero h => exact h0 h
    | step h hy hc ih => exact h2 _ ih _ hy hc
  refine List.ext_getElem? fun i => ?_
  by_cases hi : i < l.length
  · have e1 : out[i]? = some out[i] := List.getElem?_eq_getElem (by omega)
    have e2 : (metC l c)[i]? = some ((metC l c)[i]'(by rw [metC_len]; exact hi)) := List.getElem?_eq_getElem (by rw [metC_len]; exact hi)
    cases hb : out[i] with
    | true =>
      rw [hb] at e1
      rw [e1]; exact (metC_at.2 ⟨hi, h1 i e1⟩).symm
    | false =>
      rw [e1, hb, e2]
      congr 1
      cases hm : (metC l c)[i]'(by rw [metC_len]; exact hi) with
      | false => rfl
      | true =>
        rw [hm] at e2
        have := all i (metC_at.1 e2).2
        rw [e1, hb] at this; simp at this
  · rw [List.getElem?_eq_none (by omega), List.getElem?_eq_none (by rw [metC_len]; omega)]
theorem ins_at {p : Piece} (h : pieceB p = true) {i : Nat} {x : Ins} (hx : p.ins[i]? = some x) : insB p.regs p.ins.length x = true := by
  unfold pieceB at h
  simp only [Bool.and_eq_true] at h
  exact List.all_eq_true.1 h.2.1 x (List.mem_of_getElem? hx)
theorem to_at {p : Piece} (h : pieceB p = true) {i : Nat} {x : Ins} (hx : p.ins[i]? = some x) (ht : uT x.op = true) : 0 ≤ x.to_ ∧ x.to_ < p.ins.length := by
  have := ins_at h hx
  unfold insB at this
  rw [ht] at this
  simp [regB, rng] at this
  omega
theorem last_at {p : Piece} (h : pieceB p = true) {x : Ins} (hx : p.ins[p.ins.length - 1]? = some x) : x.op = 15 ∨ x.op = 13 := by
  unfold pieceB at h
  simp only [Bool.and_eq_true] at h
  have hl := h.2.2
  unfold lastB at hl
  rw [List.getLast?_eq_getElem?, hx] at hl
  simpa using hl
theorem len_pos {p : Piece} (h : pieceB p = true) : 1 ≤ p.ins.length ∧ p.ins.length ≤ 600 := by
  unfold pieceB at h
  simp only [Bool.and_eq_true] at h
  exact (headB_iff.1 h.1).2.2.2
theorem ways_in {p : Piece} (h : pieceB p = true) {i : Nat} {x : Ins} (hx : p.ins[i]? = some x) {y : Int} (hy : y ∈ waysL x i) : 0 ≤ y ∧ y < p.ins.length := by
  unfold waysL at hy
  rcases List.mem_append.1 hy with hy | hy
  · split at hy
    · rename_i hop
      obtain rfl : y = x.to_ := by simpa using hy
      exact to_at h hx (by simp at hop; rcases hop with (e | e) | e <;> simp [uT, e])
    · cases hy
  · split at hy
    · rename_i hop
      obtain rfl : y = ((i + 1 : Nat) : Int) := by simpa using hy
      have hi : i < p.ins.length := (List.getElem?_eq_some_iff.1 hx).1
      have : i ≠ p.ins.length - 1 := by
        rintro rfl
        simp at hop
        rcases last_at h hx with e | e <;> simp [e] at hop
      omega
    · cases hy
theorem nexts_in {p : Piece} (h : pieceB p = true) {i : Nat} {y : Int} (hy : y ∈ nexts p.ins i) : 0 ≤ y ∧ y < p.ins.length := by
  unfold nexts at hy
  split at hy
  · rename_i x hx
    rw [ascOf_mem] at hy
    rcases List.mem_append.1 hy with hy | hy
    · exact ways_in h hx hy
    · unfold guardL at hy
      split at hy
      · rename_i hg
        simp only [Bool.and_eq_true, decide_eq_true_eq] at hg
        obtain ⟨j, hj, z, hz, h17⟩ := guardI_is hg.1
        obtain rfl : y = toAt p.ins (guardI p.ins i) := by simpa using hy
        unfold toAt
        rw [hj, Int.toNat_natCast, hz]
        exact to_at h hz (by simp [uT, h17])
      · cases hy
  · cases hy
theorem reach_lt {p : Piece} (h : pieceB p = true) {c : Int} {i : Nat} (hr : Reach p.ins c i) : i < p.ins.length := by
  cases hr with
  | zero => have := (len_pos h).1; omega
  | step _ hy _ => have := nexts_in h hy; omega
end Go.Proofs

set_option linter.unusedVariables false
set_option linter.unusedSimpArgs false
set_option maxHeartbeats 4000000
namespace Go.Proofs
open Go Go.Ev
set_option maxRecDepth 100000
variable {X : Rel3}
theorem l10May_t (op : Int) : Tells Try.prog E0 X 58 [iA op] (bA (mayB op)) := by
  refine Tells.by Try.func58 (by simp [Try.f58]) (Body.i rfl rfl rfl (fun _ => rfl) fun f => ?_)
  repeat' (first
     | refine wp_seq_i ?_ | refine wp_region_i ?_ | refine Run.done rfl ?_ | refine then_n ?_ | refine then_r ?_ | refine then_e ?_ | refine Run.go1 rfl ?_ | refine wp_skip_i ?_ | refine wp_ret_i ?_ | refine wp_exit_i ?_
     | refine wp_block_i ?_ | refine block_n ?_ | refine block_r ?_ | refine block_e ?_ | refine block_o rfl ?_ | refine wp_cond_t rfl ?_ | refine wp_cond_f rfl ?_ | (refine wp_cond_k rfl rfl rfl ?_ ?_ <;> intro _)
     | (refine wp_cond_i rfl ?_ ?_ <;> intro _))
  all_goals (refine ret_m [] rfl rfl ?_; simp_all [mayB]; done)
theorem raises_t (op : Int) : Tells Try.prog E0 X 69 [iA op] (bA (mayB op)) := by
  refine Tells.by Try.func69 (by simp [Try.f69]) (Body.i rfl rfl rfl (fun _ => rfl) fun f => ?_)
  repeat' (first
     | refine wp_seq_i ?_ | refine wp_region_i ?_ | refine Run.done rfl ?_ | refine then_n ?_ | refine then_r ?_ | refine then_e ?_ | refine Run.go1 rfl ?_ | refine wp_skip_i ?_ | refine wp_ret_i ?_ | refine wp_exit_i ?_
     | refine wp_block_i ?_ | refine block_n ?_ | refine block_r ?_ | refine block_e ?_ | refine block_o rfl ?_ | refine wp_cond_t rfl ?_ | refine wp_cond_f rfl ?_ | (refine wp_cond_k rfl rfl rfl ?_ ?_ <;> intro _)
     | (refine wp_cond_i rfl ?_ ?_ <;> intro _))
  all_goals (refine ret_m [] rfl rfl ?_; simp_all [mayB]; done)
theorem guardGo_len : ∀ (l : List Ins) (k : Nat) (s : List Int), (guardGo l k s).length ≤ s.length + l.length
  | [], _, s => by simp [guardGo]
  | x :: r, k, s => by
    have := guardGo_len r (k + 1) (if x.op = 17 then s ++ [(k : Int)] else if x.op = 18 then s.dropLast else s)
    rw [guardGo]
    split at this
    · simp at this ⊢; rename_i h; simp [h]; omega
    · split at this
      · simp at this ⊢; rename_i h1 h; simp [h]; omega
      · simp at this ⊢; rename_i h1 h; simp [h, h1]; omega
theorem lastI_at {s : List Int} (h : 0 < s.length) : lastI s = s[s.length - 1] := by
  unfold lastI
  rw [List.getLast?_eq_getElem?, List.getElem?_eq_getElem (show s.length - 1 < s.length by omega)]
theorem lastI_nil {s : List Int} (h : ¬ 0 < s.length) : lastI s = -1 := by
  have : s = [] := List.length_eq_zero_iff.1 (by omega)
  subst this; rfl
theorem wlen (s : List Int) (h0 : 0 < s.length) (h : s.length ≤ 9223372036854775807) : IntKind.i64.wrap (((s.map iR).length : Int) - 1) = ((s.length - 1 : Nat) : Int) := by rw [List.length_map, w64] <;> omega
theorem cutLast (s : List Int) (h0 : 0 < s.length) (h : s.length ≤ 9223372036854775807) : (List.take (IntKind.i64.wrap (((s.map iR).length : Int) - 1)).toNat (s.map iR)) = s.dropLast.map iR := by
  rw [wlen s h0 h, Int.toNat_natCast, List.dropLast_eq_take, List.map_take]
def k_l10Guard : List (Nat × List Nat) := [(0, [1, 2]), (1, [1, 2, 5]), (2, [1, 2, 5, 6]), (3, [1, 2, 5, 6, 17]), (4, [1, 2, 5, 6]), (5, [1, 2, 5, 6, 25]), (6, [1, 2, 5, 6, 25, 26]), (7, [1, 2, 5, 6]), (8, [1, 2, 5, 6, 32]), (9, [1, 2, 5, 6, 36]), (10, [1, 2, 5, 6]), (11, [5, 53]), (12, [4]), (13, [4])]
theorem l10Guard_t (p : Piece) (i : Nat) (hp : p.ins.length ≤ 1048576) (hi : i < p.ins.length) : Tells Try.prog E0 X 46 [p.a false, iA i] (iA (guardI p.ins i)) := by
  refine Tells.by Try.func46 (by simp [Try.f46]) (Body.i rfl rfl rfl (fun _ => rfl) fun f => ?_)
  repeat' (first
     | refine wp_seq_i ?_ | refine wp_region_t k_l10Guard rfl ?_ | refine Run.done rfl ?_ | refine then_n ?_ | refine then_r ?_ | refine then_e ?_ | refine Run.go1 rfl ?_ | refine wp_skip_i ?_ | refine wp_ret_i ?_
     | refine wp_exit_i ?_ | refine wp_block_i ?_ | refine block_n ?_ | refine block_r ?_ | refine block_e ?_ | refine block_o rfl ?_ | refine wp_cond_t rfl ?_ | refine wp_cond_f rfl ?_
     | (refine wp_cond_k rfl rfl rfl ?_ ?_ <;> intro _) | (refine wp_cond_i rfl ?_ ?_ <;> intro _))
  refine wp_loop_k (α := Nat × List Int × Nat) [.keep [1, 2, 5, 6] [2, 7]] (fun z => [(6, iA z.1)]) (fun _ => []) (fun z => [(7, ⟨z.2.2, none⟩, z.2.1.map iR)]) (fun z => z.1 ≤ i ∧ z.2.1.length ≤ z.1 ∧ (z.2.2 = 0 ∨ z.2.2 = 1) ∧ guardGo ((p.ins.take i).drop z.1) z.1 z.2.1 = guardGo (p.ins.take i) 0 []) (fun z => i - z.1) (0, [], 0) rfl (fun _ => rfl) rfl ⟨by simp, by simp, by simp, by simp⟩ ?_
  rintro ⟨k, s, q⟩ ⟨hk, hsl, hq, he⟩
  simp only at hk hsl hq he
  have hti : (p.ins.take i).length = i := by simp; omega
  by_cases hlt : k < i
  · have hx : (p.ins.map (Ins.c false))[k]? = some (Ins.c false (p.ins[k]'(by omega))) := map_at (by omega)
    have hdr : (p.ins.take i).drop k = (p.ins[k]'(by omega)) :: (p.ins.take i).drop (k + 1) := by
      rw [List.drop_eq_getElem_cons (by rw [hti]; exact hlt)]; simp
    rw [hdr, guardGo] at he
    generalize (p.ins[k]'(by omega)) = x at hx he
    have hw := w_succ hlt (by omega)
    by_cases hs : 0 < s.length
    all_goals (
      repeat' (first
         | refine wp_seq_i ?_ | refine wp_region_t k_l10Guard rfl ?_ | refine Run.done rfl ?_ | refine then_n ?_ | refine then_r ?_ | refine then_e ?_ | refine Run.go1 rfl ?_ | refine wp_skip_i ?_ | refine wp_ret_i ?_
         | refine wp_exit_i ?_ | refine wp_block_i ?_ | refine block_n ?_ | refine block_r ?_ | refine block_e ?_ | refine block_o rfl ?_ | refine wp_cond_t rfl ?_ | refine wp_cond_f rfl ?_ | refine Run.gT rfl rfl rfl rfl ?_
         | refine Run.pT rfl rfl ?_ | (refine Run.splitG rfl rfl rfl rfl rfl rfl ?_ ?_ <;> intro _) | (refine Run.splitP rfl rfl rfl rfl ?_ ?_ <;> intro _) | refine Run.ix rfl rfl rfl rfl rfl rfl rfl hx rfl rfl rfl ?_
         | refine Run.cnd rfl rfl rfl ⟨by simp; omega, (by intro r hr; simp at hr; first | (rcases hr with ⟨a, _, rfl⟩ | rfl <;> rfl) | (obtain ⟨a, _, rfl⟩ := hr; rfl)), by simp, by first | exact .inl rfl | exact hq, by simp [flatT]⟩ ?_
         | refine Run.cnd2 rfl rfl rfl ⟨by decide, by rw [wlen s hs (by omega)]; omega, by rw [wlen s hs (by omega)]; simp, by simp, by first | exact .inl rfl | exact hq, by decide⟩ ?_
         | (refine wp_cond_k rfl rfl rfl ?_ ?_ <;> intro _) | (refine wp_cond_i rfl ?_ ?_ <;> intro _))
      all_goals first
      | (exfalso; clear he hx hdr; simp_all; done)
      | (exfalso; clear he hx hdr; simp only [List.length_map, beq_iff_eq, beq_eq_false_iff_ne, decide_eq_true_eq, decide_eq_false_iff_not] at *; omega)
      | (rename_i h17
         refine back_i [.keep [1, 2, 5, 6] [2, 31], .ren 31 7] (k + 1, s ++ [(k : Int)], q) rfl ?_ ⟨by simp; omega, by simp; omega, by simpa using hq, by rw [← he, if_pos (by simpa using h17)]⟩ (by simp; omega)
         simp only [hw, List.map_append, List.map_cons, List.map_nil]; try rfl; done)
      | (refine back_i [.keep [1, 2, 5, 6] [2, 41], .ren 41 7] (k + 1, s.dropLast, 1) rfl ?_ ⟨by simp; omega, by simp; omega, by simp, ?_⟩ (by simp; omega)
         · simp only [hw, Int.toNat_zero, List.drop_zero]; rw [cutLast s hs (by omega)]; try rfl
         · rw [← he, if_neg (by simp_all), if_pos (by simp_all)]; done)
      | (refine back_i [.keep [1, 2, 5, 6] [2, 7]] (k + 1, s, q) rfl ?_ ⟨by simp; omega, by simp; omega, by simpa using hq, ?_⟩ (by simp; omega)
         · simp only [hw]; try rfl
         · (by_cases h18 : x.op = 18
            · first
              | (exfalso; clear he hx hdr; simp_all; done)
              | (have : s = [] := List.length_eq_zero_iff.1 (by omega)
                 subst this
                 rw [← he, if_neg (by omega), if_pos h18]; rfl)
            · rw [← he, if_neg (by simp_all), if_neg h18]); done)
      | trace_state)
  · have hki : k = i := by omega
    subst hki
    rw [List.drop_of_length_le (by omega), guardGo] at he
    have hrng : rng k 0 (IntKind.i64.wrap (((p.ins.map (Ins.c false)).length : Int) - 1)) = true := by rw [List.length_map, w64 (by omega) (by omega)]; simp [rng]; omega
    have hg : guardI p.ins k = lastI s := by rw [guardI, he]
    by_cases hs : 0 < s.length
    · have hx2 : (s.map iR)[s.length - 1]? = some (iR s[s.length - 1]) := map_at (by omega)
      have hl := lastI_at hs
      repeat' (first
         | refine wp_seq_i ?_ | refine wp_region_t k_l10Guard rfl ?_ | refine Run.done rfl ?_ | refine then_n ?_ | refine then_r ?_ | refine then_e ?_ | refine Run.go1 rfl ?_ | refine wp_skip_i ?_ | refine wp_ret_i ?_
         | refine wp_exit_i ?_ | refine wp_block_i ?_ | refine block_n ?_ | refine block_r ?_ | refine block_e ?_ | refine block_o rfl ?_ | refine wp_cond_t rfl ?_ | refine wp_cond_f rfl ?_ | refine Run.gT rfl rfl rfl rfl ?_
         | refine Run.pT rfl rfl ?_ | (refine Run.splitG rfl rfl rfl rfl rfl rfl ?_ ?_ <;> intro _) | (refine Run.splitP rfl rfl rfl rfl ?_ ?_ <;> intro _) | refine Run.call rfl rfl rfl (l1In_t _ _ _) rfl rfl ?_
         | refine Run.ix rfl rfl rfl rfl rfl rfl (wlen s hs (by omega)) hx2 rfl rfl rfl ?_ | refine Run.ldr rfl rfl rfl hx2 rfl rfl ?_ | (refine wp_cond_k rfl rfl rfl ?_ ?_ <;> intro _) | (refine wp_cond_i rfl ?_ ?_ <;> intro _))
      all_goals first
      | (exfalso; clear he; simp_all; done)
      | (exfalso; clear he; simp only [List.length_map, beq_iff_eq, beq_eq_false_iff_ne, decide_eq_true_eq, decide_eq_false_iff_not] at *; omega)
      | (refine ret_m [] rfl rfl ?_; rw [hg, hl]; done)
      | trace_state
    · have hl := lastI_nil hs
      repeat' (first
         | refine wp_seq_i ?_ | refine wp_region_t k_l10Guard rfl ?_ | refine Run.done rfl ?_ | refine then_n ?_ | refine then_r ?_ | refine then_e ?_ | refine Run.go1 rfl ?_ | refine wp_skip_i ?_ | refine wp_ret_i ?_
         | refine wp_exit_i ?_ | refine wp_block_i ?_ | refine block_n ?_ | refine block_r ?_ | refine block_e ?_ | refine block_o rfl ?_ | refine wp_cond_t rfl ?_ | refine wp_cond_f rfl ?_ | refine Run.gT rfl rfl rfl rfl ?_
         | refine Run.pT rfl rfl ?_ | (refine Run.splitG rfl rfl rfl rfl rfl rfl ?_ ?_ <;> intro _) | (refine Run.splitP rfl rfl rfl rfl ?_ ?_ <;> intro _) | refine Run.call rfl rfl rfl (l1In_t _ _ _) rfl rfl ?_
         | (refine wp_cond_k rfl rfl rfl ?_ ?_ <;> intro _) | (refine wp_cond_i rfl ?_ ?_ <;> intro _))
      all_goals first
      | (exfalso; clear he; simp_all; done)
      | (exfalso; clear he; simp only [List.length_map, beq_iff_eq, beq_eq_false_iff_ne, decide_eq_true_eq, decide_eq_false_iff_not] at *; omega)
      | (refine ret_m [] rfl rfl ?_; rw [hg, hl]; done)
      | trace_state
end Go.Proofs

set_option linter.unusedVariables false
set_option linter.unusedSimpArgs false
set_option maxHeartbeats 4000000
namespace Go.Proofs
open Go Go.Ev
set_option maxRecDepth 100000
variable {X : Rel3}
def guardTo (l : List Ins) (i : Nat) : Int := if guardI l i < 0 then -1 else toAt l (guardI l i)
theorem guard_row {l : List Ins} {i : Nat} (h : ¬ guardI l i < 0) : guardI l i = ((guardI l i).toNat : Int) ∧ ∃ x, (l.map (Ins.c false))[(guardI l i).toNat]? = some (Ins.c false x) ∧ x.to_ = toAt l (guardI l i) := by
  obtain ⟨j, hj, y, hy, _⟩ := guardI_is (l := l) (i := i) (by omega)
  refine ⟨by omega, y, ?_, ?_⟩
  · rw [hj, Int.toNat_natCast, List.getElem?_map, hy]; rfl
  · unfold toAt; rw [hj, Int.toNat_natCast, hy]
def normS (x : Ins) (i : Nat) : List Int :=
  if x.op == 15 || x.op == 16 then [] else if x.op == 13 then [x.to_] else if x.op == 11 || x.op == 12 then
    (if x.to_ < ((i + 1 : Nat) : Int) then [x.to_, ((i + 1 : Nat) : Int)] else if ((i + 1 : Nat) : Int) < x.to_ then [((i + 1 : Nat) : Int), x.to_] else [((i + 1 : Nat) : Int)]) else [((i + 1 : Nat) : Int)]
theorem normS_eq (x : Ins) (i : Nat) : normS x i = ascOf (waysL x i) := by
  refine asc_ext ?_ (ascOf_asc _) fun y => ?_
  · unfold normS
    repeat' split
    all_goals simp [Asc]
    all_goals omega
  · rw [ascOf_mem]
    unfold normS waysL
    by_cases h1 : x.op = 15
    · simp [h1]
    by_cases h2 : x.op = 16
    · simp [h2]
    by_cases h3 : x.op = 13
    · simp [h3]
    by_cases h4 : x.op = 11
    · simp only [h4]
      simp
      repeat' split
      all_goals simp
      all_goals omega
    by_cases h5 : x.op = 12
    · simp only [h5]
      simp
      repeat' split
      all_goals simp
      all_goals omega
    simp [h1, h2, h3, h4, h5]
theorem normS_len (x : Ins) (i : Nat) : (normS x i).length ≤ 2 := by
  unfold normS
  repeat' split
  all_goals simp
theorem nextsS_eq {p : Piece} (h : pieceB p = true) {i : Nat} {x : Ins} (hx : p.ins[i]? = some x) :
    (if decide (0 ≤ guardTo p.ins i) && mayB x.op then addGo (guardTo p.ins i) false (normS x i) else normS x i) = nexts p.ins i := by
  have hg : decide (0 ≤ guardTo p.ins i) = decide (0 ≤ guardI p.ins i) := by
    unfold guardTo
    split
    · simp; omega
    · rename_i hn
      obtain ⟨j, hj, y, hy, h17⟩ := guardI_is (l := p.ins) (i := i) (by omega)
      have := to_at h hy (by simp [uT, h17])
      have ht : toAt p.ins (guardI p.ins i) = y.to_ := by unfold toAt; rw [hj, Int.toNat_natCast, hy]
      rw [ht]; simp; omega
  unfold nexts
  rw [hx]
  simp only
  rw [hg, normS_eq]
  unfold guardL
  cases hc : (decide (0 ≤ guardI p.ins i) && mayB x.op) with
  | false => simp
  | true =>
    have h0 : 0 ≤ guardI p.ins i := by simp at hc; exact hc.1
    have ht : guardTo p.ins i = toAt p.ins (guardI p.ins i) := by unfold guardTo; rw [if_neg (by omega)]
    simp only [if_true, ht]
    refine asc_ext (addGo_asc _ _ (ascOf_asc _)) (ascOf_asc _) fun y => ?_
    rw [addGo_mem, ascOf_mem, ascOf_mem, List.mem_append, List.mem_singleton]
    by_cases e : y = toAt p.ins (guardI p.ins i) <;> simp [e]
def k_GuardS : List (Nat × List Nat) := [(0, [1, 2]), (1, [2, 5]), (2, [2, 5, 10]), (3, [4]), (4, [4])]
def k_Normal : List (Nat × List Nat) := [(0, [1, 2]), (1, [1, 5]), (2, [1, 5, 12]), (3, [1, 5, 12, 13]), (4, [1, 5, 12, 13]), (5, [4]), (6, [1, 5, 12, 17]), (7, [4]), (8, [1, 5, 12, 22]), (9, [1, 5, 22]), (10, [1, 5, 29]), (11, [4]), (12, [1, 5, 39]), (13, [4]), (14, [4])]
theorem Normal_t (p : Piece) (i : Nat) (x : Ins) (hp : p.ins.length ≤ 1048576) (hx0 : p.ins[i]? = some x) : Tells Try.prog E0 X 45 [p.a false, iA i] (.t (.sl true ((normS x i).map iR))) := by
  have hi : i < p.ins.length := (List.getElem?_eq_some_iff.1 hx0).1
  have hx : (p.ins.map (Ins.c false))[i]? = some (Ins.c false x) := by rw [List.getElem?_map, hx0]; rfl
  have hw := w_succ hi (by omega)
  refine Tells.by Try.func45 (by simp [Try.f45]) (Body.i rfl rfl rfl (fun _ => rfl) fun f => ?_)
  repeat' (first
     | refine wp_seq_i ?_ | refine wp_region_t k_Normal rfl ?_ | refine Run.done rfl ?_ | refine then_n ?_ | refine then_r ?_ | refine then_e ?_ | refine Run.go1 rfl ?_ | refine wp_skip_i ?_ | refine wp_ret_i ?_
     | refine wp_exit_i ?_ | refine wp_block_i ?_ | refine block_n ?_ | refine block_r ?_ | refine block_e ?_ | refine block_o rfl ?_ | refine wp_cond_t rfl ?_ | refine wp_cond_f rfl ?_
     | refine Run.ix rfl rfl rfl rfl rfl rfl rfl hx rfl rfl rfl ?_ | (refine wp_cond_k rfl rfl rfl ?_ ?_ <;> intro _) | (refine wp_cond_i rfl ?_ ?_ <;> intro _))
  all_goals first
  | (exfalso; clear hx hx0; simp_all; done)
  | (refine ret_m [] rfl rfl ?_
     clear hx hx0
     simp only [decide_eq_true_eq, decide_eq_false_iff_not, beq_iff_eq, beq_eq_false_iff_ne] at *
     rw [hw] at *
     unfold normS
     simp only [beq_iff_eq, Bool.or_eq_true]
     repeat' split
     all_goals first
     | rfl
     | (exfalso; omega)
     | (exfalso; simp_all; omega))
  | trace_state
theorem l10Add_r (l : List Int) (n : Int) (hl : l.length ≤ 1000000000000) : Tells Try.prog E0 X 71 [.t (.sl false (shrR (l.map iR))), iA n] (.t (.sl true ((addGo n false l).map iR))) := l10Add_s l n hl
def k_NextsS : List (Nat × List Nat) := [(0, [1, 2]), (1, [1, 2, 13]), (2, [4]), (3, [1, 2, 5]), (4, [1, 2, 5, 6]), (5, [5, 6, 31]), (6, [5]), (7, [4])]
end Go.Proofs

set_option linter.unusedVariables false
set_option linter.unusedSimpArgs false
set_option maxHeartbeats 4000000
namespace Go.Proofs
open Go Go.Ev
set_option maxRecDepth 100000
variable {X : Rel3}
def mkR (R : Nat) (f : Nat → Bool) : List Bool := (List.range R).map f
theorem mkR_len (R : Nat) (f : Nat → Bool) : (mkR R f).length = R := by simp [mkR]
theorem mkR_at {R : Nat} {f : Nat → Bool} {r : Nat} (h : r < R) : (mkR R f).getD r false = f r := by simp [mkR, List.getD_eq_getElem?_getD, h]
theorem mkR_ext {R : Nat} {f g : Nat → Bool} (h : ∀ r, r < R → f r = g r) : mkR R f = mkR R g := List.map_congr_left fun r hr => h r (by simpa using hr)
theorem eq_mkR {l : List Bool} : l = mkR l.length fun r => l.getD r false := by
  refine List.ext_getElem (by simp [mkR]) fun i h1 h2 => ?_
  simp [mkR, List.getD_eq_getElem?_getD, h1]
theorem mkR_set {R : Nat} {f : Nat → Bool} {k : Nat} : (mkR R f).set k true = mkR R fun r => f r || decide (r = k) := by
  refine List.ext_getElem (by simp [mkR]) fun i h1 h2 => ?_
  simp only [mkR, List.getElem_set, List.getElem_map, List.getElem_range]
  by_cases h : k = i
  · subst h; simp
  · rw [if_neg h, decide_eq_false (fun e => h e.symm), Bool.or_false]
/-- what lives at another place, but for one, comes in: the first k -/
def takeGo (row : List Bool) (but : Int) : Nat → List Bool → List Bool
  | 0, out => out
  | k + 1, out => if row.getD k false && ((k : Int) != but) then (takeGo row but k out).set k true else takeGo row but k out
theorem takeGo_mkR (row : List Bool) (but : Int) (R : Nat) (f : Nat → Bool) : ∀ k, takeGo row but k (mkR R f) = mkR R fun r => f r || (decide (r < k) && (row.getD r false && ((r : Int) != but)))
  | 0 => by simp [takeGo]
  | k + 1 => by
    rw [takeGo, takeGo_mkR row but R f k]
    split
    · rename_i h
      rw [mkR_set]
      refine mkR_ext fun r _ => ?_
      by_cases e : r = k
      · subst e; rw [h]; simp
      · rw [decide_eq_false e, show decide (r < k + 1) = decide (r < k) from by congr 1; exact propext ⟨fun h => by omega, fun h => by omega⟩, Bool.or_false]
    · rename_i h
      refine mkR_ext fun r _ => ?_
      by_cases e : r = k
      · subst e; rw [Bool.eq_false_iff.2 h]; simp
      · rw [show decide (r < k + 1) = decide (r < k) from by congr 1; exact propext ⟨fun h => by omega, fun h => by omega⟩]
theorem takeGo_len (row : List Bool) (but : Int) (out : List Bool) : ∀ k, (takeGo row but k out).length = out.length
  | 0 => rfl
  | k + 1 => by
    rw [takeGo]
    split
    · rw [List.length_set]; exact takeGo_len row but out k
    · exact takeGo_len row but out k
def setsL (rs : List Int) (out : List Bool) : List Bool := rs.foldl (fun o r => o.set r.toNat true) out
theorem setsL_mkR (R : Nat) : ∀ (rs : List Int) (f : Nat → Bool), (∀ r ∈ rs, 0 ≤ r) → setsL rs (mkR R f) = mkR R fun r => f r || rs.contains (r : Int)
  | [], f, _ => by simp [setsL]
  | x :: rs, f, h => by
    have h1 := setsL_mkR R rs (fun r => f r || decide (r = x.toNat)) (fun r hr => h r (List.mem_cons_of_mem _ hr))
    rw [setsL, List.foldl_cons, mkR_set]
    rw [setsL] at h1
    rw [h1]
    refine mkR_ext fun r _ => ?_
    have hx := h x (List.mem_cons_self ..)
    rw [List.contains_cons, Bool.or_assoc]
    congr 2
    by_cases e : (r : Int) = x
    · rw [decide_eq_true (by omega : r = x.toNat)]; simp [e]
    · rw [decide_eq_false (by omega : ¬ r = x.toNat)]; simp [e]
theorem setsL_len : ∀ (rs : List Int) (out : List Bool), (setsL rs out).length = out.length
  | [], _ => rfl
  | x :: rs, out => by rw [setsL, List.foldl_cons]; exact (setsL_len rs _).trans (by simp)
/-- the registers that an instruction reads, in order; the one that it writes -/
def rdsL (x : Ins) : List Int := ascOf ((if uX x.op then [x.x] else []) ++ (if uY x.op then [x.y] else []) ++ (if x.op = 8 then x.l else []))
def wrI (x : Ins) : Int := if x.op = 17 ∨ uD x.op = false then -1 else x.d
def dAt (l : List Ins) (k : Int) : Int := match l[k.toNat]? with
  | some x => x.d
  | none => 0
def rowOf (L : List (List Bool)) (k : Int) : List Bool := L.getD k.toNat []
/-- the program's way -/
def wanted (ins : List Ins) (R : Nat) (L : List (List Bool)) (i : Nat) (x : Ins) : List Bool :=
  let o1 := (waysL x i).foldl (fun o k => takeGo (rowOf L k) (wrI x) R o) (List.replicate R false)
  let o2 := if decide (0 ≤ guardI ins i) && mayB x.op then takeGo (rowOf L (toAt ins (guardI ins i))) (dAt ins (guardI ins i)) R o1 else o1
  setsL (rdsL x) o2
/-- the reference's way -/
def fromL (L : List (List Bool)) (i : Nat) (next but : Int) (k : Nat) : List (List Bool) := L.set i (takeGo (rowOf L next) but k (L.getD i []))
def nodeS (ins : List Ins) (R : Nat) (L : List (List Bool)) (i : Nat) (x : Ins) : List (List Bool) :=
  let L1 := L.set i (setsL (rdsL x) (L.getD i []))
  let L2 := (normS x i).foldl (fun L k => fromL L i k (wrI x) R) L1
  if decide (0 ≤ guardI ins i) && mayB x.op then fromL L2 i (toAt ins (guardI ins i)) (dAt ins (guardI ins i)) R else L2
/-- what lives there by the others -/
def liveAt (L : List (List Bool)) (k but : Int) (r : Nat) : Bool := (rowOf L k).getD r false && ((r : Int) != but)
def wantF (ins : List Ins) (L : List (List Bool)) (i : Nat) (x : Ins) (r : Nat) : Bool :=
  ((waysL x i).any fun k => liveAt L k (wrI x) r) || ((decide (0 ≤ guardI ins i) && mayB x.op) && liveAt L (toAt ins (guardI ins i)) (dAt ins (guardI ins i)) r) || (rdsL x).contains (r : Int)
theorem foldTake (R : Nat) (L : List (List Bool)) (w : Int) : ∀ (ks : List Int) (f : Nat → Bool), ks.foldl (fun o k => takeGo (rowOf L k) w R o) (mkR R f) = mkR R fun r => f r || ks.any fun k => liveAt L k w r
  | [], f => by simp
  | k :: ks, f => by
    rw [List.foldl_cons, takeGo_mkR, foldTake R L w ks]
    refine mkR_ext fun r hr => ?_
    rw [List.any_cons, decide_eq_true hr, Bool.true_and, Bool.or_assoc]
    rfl
theorem rep_mkR (R : Nat) : List.replicate R false = mkR R fun _ => false := by
  refine List.ext_getElem (by simp [mkR]) fun i h1 h2 => by simp [mkR]
theorem wanted_eq {ins : List Ins} {R : Nat} {L : List (List Bool)} {i : Nat} {x : Ins} (hr : ∀ r ∈ rdsL x, 0 ≤ r) : wanted ins R L i x = mkR R (wantF ins L i x) := by
  unfold wanted
  simp only
  rw [rep_mkR, foldTake]
  have e : (if decide (0 ≤ guardI ins i) && mayB x.op then takeGo (rowOf L (toAt ins (guardI ins i))) (dAt ins (guardI ins i)) R (mkR R fun r => false || (waysL x i).any fun k => liveAt L k (wrI x) r) else mkR R fun r => false || (waysL x i).any fun k => liveAt L k (wrI x) r)
      = mkR R fun r => ((waysL x i).any fun k => liveAt L k (wrI x) r) || ((decide (0 ≤ guardI ins i) && mayB x.op) && liveAt L (toAt ins (guardI ins i)) (dAt ins (guardI ins i)) r) := by
    cases hc : (decide (0 ≤ guardI ins i) && mayB x.op) with
    | false => rw [if_neg (by simp)]; exact mkR_ext fun r _ => by simp
    | true =>
      rw [if_pos rfl, takeGo_mkR]
      refine mkR_ext fun r hr => ?_
      rw [decide_eq_true hr]; simp [liveAt]
  rw [e, setsL_mkR R _ _ hr]
  rfl
/-- rows of one length -/
def Rows (n R : Nat) (L : List (List Bool)) : Prop := L.length = n ∧ ∀ row ∈ L, row.length = R
theorem Rows.at {n R : Nat} {L : List (List Bool)} (h : Rows n R L) {i : Nat} (hi : i < n) : (L.getD i []).length = R := by
  rw [List.getD_eq_getElem?_getD, List.getElem?_eq_getElem (by rw [h.1]; exact hi)]
  exact h.2 _ (List.getElem_mem _)
theorem Rows.set {n R : Nat} {L : List (List Bool)} (h : Rows n R L) (i : Nat) {row : List Bool} (hr : row.length = R) : Rows n R (L.set i row) := by
  refine ⟨by rw [List.length_set]; exact h.1, fun x hx => ?_⟩
  rcases List.mem_or_eq_of_mem_set hx with hx | rfl
  · exact h.2 x hx
  · exact hr
theorem getD_set {L : List (List Bool)} {i : Nat} (hi : i < L.length) (row : List Bool) (j : Nat) : (L.set i row).getD j [] = if j = i then row else L.getD j [] := by
  simp only [List.getD_eq_getElem?_getD, List.getElem?_set]
  by_cases h : i = j
  · subst h; simp [hi]
  · rw [if_neg h, if_neg (fun e => h e.symm)]
theorem fromL_eq {n R : Nat} {L : List (List Bool)} (h : L.length = n) {i : Nat} (hi : i < n) (next but : Int) (f : Nat → Bool) (A : Nat → Bool) (hf : ∀ r, (L.getD i []).getD r false = true → f r = true) (hA : ∀ r, A r = liveAt L next but r) :
    ∃ f', fromL (L.set i (mkR R f)) i next but R = L.set i (mkR R f') ∧ (∀ r, r < R → ((L.getD i []).getD r false || f' r) = ((L.getD i []).getD r false || (f r || A r))) ∧ ∀ r, f r = true → f' r = true := by
  have hl : i < L.length := by omega
  have e0 : ∀ row : List Bool, (L.set i row).getD i [] = row := fun row => by rw [getD_set hl, if_pos rfl]
  by_cases hn : next.toNat = i
  · refine ⟨f, ?_, fun r hr => ?_, fun _ h => h⟩
    · have e1 : rowOf (L.set i (mkR R f)) next = mkR R f := by unfold rowOf; rw [hn, e0]
      unfold fromL
      rw [e0, e1, takeGo_mkR, List.set_set]
      congr 1
      refine mkR_ext fun r hr => ?_
      rw [mkR_at hr]
      cases f r <;> simp
    · have : A r = true → f r = true := fun ha => by
        rw [hA] at ha
        unfold liveAt rowOf at ha
        rw [hn] at ha
        simp only [Bool.and_eq_true] at ha
        exact hf r ha.1
      cases h1 : f r with
      | true => simp
      | false => cases h2 : A r with
        | true => rw [this h2] at h1; cases h1
        | false => simp
  · refine ⟨fun r => f r || (decide (r < R) && A r), ?_, fun r hr => by simp only [decide_eq_true hr, Bool.true_and], fun r h => by simp [h]⟩
    have e1 : rowOf (L.set i (mkR R f)) next = rowOf L next := by unfold rowOf; rw [getD_set hl, if_neg hn]
    unfold fromL
    rw [e0, e1, takeGo_mkR, List.set_set]
    congr 1
    exact mkR_ext fun r hr => by simp only [decide_eq_true hr, Bool.true_and, hA]; rfl
theorem foldFrom {n R : Nat} {L : List (List Bool)} (h : L.length = n) {i : Nat} (hi : i < n) (w : Int) : ∀ (ks : List Int) (f : Nat → Bool), (∀ r, (L.getD i []).getD r false = true → f r = true) →
    ∃ f', ks.foldl (fun L k => fromL L i k w R) (L.set i (mkR R f)) = L.set i (mkR R f') ∧ (∀ r, r < R → ((L.getD i []).getD r false || f' r) = ((L.getD i []).getD r false || (f r || ks.any fun k => liveAt L k w r))) ∧ ∀ r, f r = true → f' r = true
  | [], f, hf => ⟨f, rfl, fun r _ => by simp, fun _ h => h⟩
  | k :: ks, f, hf => by
    obtain ⟨f1, e1, h1, m1⟩ := fromL_eq (R := R) h hi k w f (liveAt L k w) hf (fun _ => rfl)
    obtain ⟨f2, e2, h2, m2⟩ := foldFrom (R := R) h hi w ks f1 (fun r hr => m1 r (hf r hr))
    refine ⟨f2, by rw [List.foldl_cons, e1, e2], fun r hr => ?_, fun r hr => m2 r (m1 r hr)⟩
    rw [h2 r hr, List.any_cons, ← Bool.or_assoc (f r), ← Bool.or_assoc, h1 r hr, Bool.or_assoc, Bool.or_assoc]
theorem any_norm {x : Ins} {i : Nat} {g : Int → Bool} : (normS x i).any g = (waysL x i).any g := by
  rw [normS_eq, Bool.eq_iff_iff, List.any_eq_true, List.any_eq_true]
  constructor
  · rintro ⟨y, h1, h2⟩; exact ⟨y, (ascOf_mem _ _).1 h1, h2⟩
  · rintro ⟨y, h1, h2⟩; exact ⟨y, (ascOf_mem _ _).2 h1, h2⟩
/-- the reference's row: what lived, and what is wanted -/
theorem nodeS_eq {ins : List Ins} {n R : Nat} {L : List (List Bool)} (h : Rows n R L) {i : Nat} (hi : i < n) {x : Ins} (hr : ∀ r ∈ rdsL x, 0 ≤ r) :
    nodeS ins R L i x = L.set i (mkR R fun r => (L.getD i []).getD r false || wantF ins L i x r) := by
  have hl := h.at hi
  have e0 : L.getD i [] = mkR R fun r => (L.getD i []).getD r false := by have := eq_mkR (l := L.getD i []); rw [hl] at this; exact this
  unfold nodeS
  simp only
  have es : setsL (rdsL x) (L.getD i []) = mkR R fun r => (L.getD i []).getD r false || (rdsL x).contains (r : Int) := by
    conv => lhs; rw [e0]
    rw [setsL_mkR R _ _ hr]
  rw [es]
  obtain ⟨f1, e1, h1, m1⟩ := foldFrom (R := R) h.1 hi (wrI x) (normS x i) (fun r => (L.getD i []).getD r false || (rdsL x).contains (r : Int)) (fun r hr => by rw [hr]; rfl)
  rw [e1]
  have hb : ∀ r, (L.getD i []).getD r false = true → f1 r = true := fun r hr => m1 r (by simp only [hr, Bool.true_or])
  have fin : ∃ f2, (if decide (0 ≤ guardI ins i) && mayB x.op then fromL (L.set i (mkR R f1)) i (toAt ins (guardI ins i)) (dAt ins (guardI ins i)) R else L.set i (mkR R f1)) = L.set i (mkR R f2) ∧
      (∀ r, r < R → ((L.getD i []).getD r false || f2 r) = ((L.getD i []).getD r false || (f1 r || ((decide (0 ≤ guardI ins i) && mayB x.op) && liveAt L (toAt ins (guardI ins i)) (dAt ins (guardI ins i)) r)))) ∧ ∀ r, f1 r = true → f2 r = true := by
    cases hc : (decide (0 ≤ guardI ins i) && mayB x.op) with
    | false => exact ⟨f1, by rw [if_neg (by simp)], fun r _ => by simp, fun _ h => h⟩
    | true =>
      rw [if_pos rfl]
      obtain ⟨f2, e2, h2, m2⟩ := fromL_eq (R := R) h.1 hi (toAt ins (guardI ins i)) (dAt ins (guardI ins i)) f1 (liveAt L (toAt ins (guardI ins i)) (dAt ins (guardI ins i))) hb (fun _ => rfl)
      exact ⟨f2, e2, fun r hr => by rw [h2 r hr, Bool.true_and], m2⟩
  obtain ⟨f2, e2, h2, m2⟩ := fin
  rw [e2]
  congr 1
  refine mkR_ext fun r hr => ?_
  have h3 : ((L.getD i []).getD r false || f2 r) = f2 r := by
    cases hq : (L.getD i []).getD r false with
    | false => simp
    | true => rw [m2 r (hb r hq)]; rfl
  rw [← h3, h2 r hr, ← Bool.or_assoc, h1 r hr, any_norm]
  unfold wantF
  generalize (L.getD i []).getD r false = A
  generalize ((waysL x i).any fun k => liveAt L k (wrI x) r) = B
  generalize ((decide (0 ≤ guardI ins i) && mayB x.op) && liveAt L (toAt ins (guardI ins i)) (dAt ins (guardI ins i)) r) = C
  cases A <;> cases B <;> cases C <;> simp
end Go.Proofs

set_option linter.unusedVariables false
set_option linter.unusedSimpArgs false
set_option maxHeartbeats 4000000
namespace Go.Proofs
open Go Go.Ev
set_option maxRecDepth 100000
variable {X : Rel3}
theorem addGo_le (n : Int) (l : List Int) : (addGo n false l).length ≤ l.length + 1 := by
  have := addGo_len n false l; simpa using this
def adds (l xs : List Int) : List Int := xs.foldl (fun l n => addGo n false l) l
theorem adds_asc : ∀ (xs l : List Int), Asc l → Asc (adds l xs)
  | [], l, h => h
  | x :: xs, l, h => adds_asc xs _ (addGo_asc x l h)
theorem adds_mem : ∀ (xs l : List Int) (y : Int), y ∈ adds l xs ↔ y ∈ l ∨ y ∈ xs
  | [], l, y => by simp [adds]
  | x :: xs, l, y => by
    have := adds_mem xs (addGo x false l) y
    rw [adds, List.foldl_cons]
    rw [adds] at this
    rw [this, addGo_mem, List.mem_cons]
    by_cases e : y = x <;> simp [e]
theorem adds_snoc (l xs : List Int) (x : Int) : adds l (xs ++ [x]) = addGo x false (adds l xs) := by simp [adds]
theorem rds_fin {x : Ins} {l0 : List Int} {k : Nat} (h1 : Asc l0) (h2 : ∀ y, y ∈ l0 ↔ (uX x.op = true ∧ y = x.x) ∨ (uY x.op = true ∧ y = x.y)) (h3 : k = 0 ∨ x.op = 8) (h4 : k = x.l.length ∨ x.op ≠ 8) : adds l0 (x.l.take k) = rdsL x := by
  refine asc_ext (adds_asc _ _ h1) (ascOf_asc _) fun y => ?_
  unfold rdsL
  rw [ascOf_mem, adds_mem, h2 y, List.mem_append, List.mem_append]
  by_cases e : x.op = 8
  · have hk : k = x.l.length := by rcases h4 with h | h; exact h; exact absurd e h
    rw [hk, List.take_length, if_pos e]
    cases uX x.op <;> cases uY x.op <;> simp
  · have hk : k = 0 := by rcases h3 with h | h; exact h; exact absurd h e
    rw [hk, List.take_zero, if_neg e]
    cases uX x.op <;> cases uY x.op <;> simp
def k_ReadsS : List (Nat × List Nat) := [(0, [1]), (1, [1, 3]), (2, [1, 3, 4]), (3, [1, 3, 4, 11]), (4, [1, 3, 4]), (5, [1, 4, 17]), (6, [1, 4]), (7, [1, 4, 5]), (8, [1, 4, 5, 31]), (9, [1, 4, 5]), (10, [1, 4, 5]), (11, [2])]
theorem ReadsS_t (x : Ins) (hl : x.l.length ≤ 1048576) : Tells Try.prog E0 X 54 [x.a false] (.t (.sl true ((rdsL x).map iR))) := by
  have hx0 : ∀ (j : Nat) (h : j < x.l.length), (x.l.map iR)[j]? = some (iR x.l[j]) := fun j h => by simp [h]
  refine Tells.by Try.func54 (by simp [Try.f54]) (Body.i rfl rfl rfl (fun _ => rfl) fun f => ?_)
  repeat' (first
     | refine wp_seq_i ?_ | refine wp_region_t k_ReadsS rfl ?_ | refine Run.done rfl ?_ | refine then_n ?_ | refine then_r ?_ | refine then_e ?_ | refine Run.go1 rfl ?_ | refine wp_skip_i ?_ | refine wp_ret_i ?_
     | refine wp_exit_i ?_ | refine wp_block_i ?_ | refine block_n ?_ | refine block_r ?_ | refine block_e ?_ | refine block_o rfl ?_ | refine wp_cond_t rfl ?_ | refine wp_cond_f rfl ?_ | refine Run.gT rfl rfl rfl rfl ?_
     | refine Run.pT rfl rfl ?_ | (refine Run.splitG rfl rfl rfl rfl rfl rfl ?_ ?_ <;> intro _) | (refine Run.splitP rfl rfl rfl rfl ?_ ?_ <;> intro _) | refine Run.call rfl rfl rfl (l9Uses_t _) rfl rfl ?_
     | refine Run.callB rfl rfl rfl (l10Add_s [] _ (by simp)) (by simp [AV.own, T.own, ownI_b]) rfl ?_
     | refine Run.callB rfl rfl rfl (l10Add_s (addGo x.x false []) _ (by have := addGo_le x.x []; simp at this; omega)) (by simp [AV.own, T.own, ownI_b]) rfl ?_ | refine Run.one rfl rfl rfl ?_
     | (refine wp_cond_k rfl rfl rfl ?_ ?_ <;> intro _) | (refine wp_cond_i rfl ?_ ?_ <;> intro _))
  · rename_i hX hY
    have hA : Asc (addGo x.y false (addGo x.x false [])) := by first | exact addGo_asc _ _ (addGo_asc _ _ List.Pairwise.nil) | exact addGo_asc _ _ List.Pairwise.nil | exact List.Pairwise.nil
    have hM : ∀ y, y ∈ addGo x.y false (addGo x.x false []) ↔ (uX x.op = true ∧ y = x.x) ∨ (uY x.op = true ∧ y = x.y) := fun y => by
      simp only [addGo_mem, hX, hY]
      by_cases e : y = x.y <;> simp [e]
    have hL : (addGo x.y false (addGo x.x false []) : List Int).length ≤ 2 := by
      have h1 := addGo_le x.x []
      have h2 := addGo_le x.y []
      have h3 := addGo_le x.y (addGo x.x false [])
      simp at h1 h2 h3 ⊢ <;> omega
    generalize addGo x.y false (addGo x.x false []) = l0 at *
    refine wp_loop_k (α := Nat × List Int) [.ren 21 77, .keep [1, 4, 5] [1, 77]] (fun z => [(5, iA z.1)]) (fun _ => []) (fun z => [(77, 0, z.2.map iR)]) (fun z => (z.1 ≤ x.l.length ∧ (z.1 = 0 ∨ x.op = 8)) ∧ z.2 = adds l0 (x.l.take z.1) ∧ z.2.length ≤ 2 + z.1) (fun z => x.l.length - z.1) (0, l0) rfl (fun _ => rfl) rfl ⟨by simp, by simp [adds], by first | (simp; done) | simpa using hL⟩ ?_
    rintro ⟨k, l⟩ ⟨⟨hk, h8⟩, hl2, hl3⟩
    simp only at hk h8 hl2 hl3
    by_cases hlt : k < x.l.length
    · have hx := hx0 k hlt
      repeat' (first
         | refine wp_seq_i ?_ | refine wp_region_t k_ReadsS rfl ?_ | refine Run.done rfl ?_ | refine then_n ?_ | refine then_r ?_ | refine then_e ?_ | refine Run.go1 rfl ?_ | refine wp_skip_i ?_ | refine wp_ret_i ?_
         | refine wp_exit_i ?_ | refine wp_block_i ?_ | refine block_n ?_ | refine block_r ?_ | refine block_e ?_ | refine block_o rfl ?_ | refine wp_cond_t rfl ?_ | refine wp_cond_f rfl ?_ | refine Run.gT rfl rfl rfl rfl ?_
         | refine Run.pT rfl rfl ?_ | (refine Run.splitG rfl rfl rfl rfl rfl rfl ?_ ?_ <;> intro _) | (refine Run.splitP rfl rfl rfl rfl ?_ ?_ <;> intro _) | refine Run.ix rfl rfl rfl rfl rfl rfl rfl hx rfl rfl rfl ?_
         | refine Run.callB rfl rfl rfl (l10Add_s l _ (by omega)) (by simp [AV.own, T.own, ownI_b]) rfl ?_ | (refine wp_cond_k rfl rfl rfl ?_ ?_ <;> intro _) | (refine wp_cond_i rfl ?_ ?_ <;> intro _))
      all_goals first
      | (have c2 : (x.op == 8) = true := by assumption
         have e8 : x.op = 8 := by simpa using c2
         refine back_i [.keep [1, 4, 5] [1, 40], .ren 40 77] (k + 1, addGo x.l[k] false l) rfl ?_ ⟨⟨by simp; omega, .inr e8⟩, ?_, ?_⟩ (by simp; omega)
         · simp only [w_succ hlt (by omega)]
         · simp only; rw [hl2, show x.l.take (k + 1) = x.l.take k ++ [x.l[k]] by simp, adds_snoc]
         · simp only; have := addGo_le x.l[k] l; omega)
      | (have c2 : (x.op == 8) = false := by assumption
         have e8 : x.op ≠ 8 := by simpa using c2
         refine ret_m [] rfl rfl ?_
         rw [hl2, rds_fin hA hM h8 (.inr e8)])
      | (exfalso; rename_i h; have h := of_decide_eq_false h; simp at h; omega)
      | trace_state
    · have hk2 : k = x.l.length := by omega
      repeat' (first
         | refine wp_seq_i ?_ | refine wp_region_t k_ReadsS rfl ?_ | refine Run.done rfl ?_ | refine then_n ?_ | refine then_r ?_ | refine then_e ?_ | refine Run.go1 rfl ?_ | refine wp_skip_i ?_ | refine wp_ret_i ?_
         | refine wp_exit_i ?_ | refine wp_block_i ?_ | refine block_n ?_ | refine block_r ?_ | refine block_e ?_ | refine block_o rfl ?_ | refine wp_cond_t rfl ?_ | refine wp_cond_f rfl ?_ | refine Run.gT rfl rfl rfl rfl ?_
         | refine Run.pT rfl rfl ?_ | (refine Run.splitG rfl rfl rfl rfl rfl rfl ?_ ?_ <;> intro _) | (refine Run.splitP rfl rfl rfl rfl ?_ ?_ <;> intro _) | (refine wp_cond_k rfl rfl rfl ?_ ?_ <;> intro _)
         | (refine wp_cond_i rfl ?_ ?_ <;> intro _))
      all_goals first
      | (exfalso; rename_i h _; have h := of_decide_eq_true h; simp at h; omega)
      | (exfalso; rename_i h; have h := of_decide_eq_true h; simp at h; omega)
      | (refine ret_m [] rfl rfl ?_
         rw [hl2, rds_fin hA hM h8 (.inl hk2)])
      | trace_state
  · rename_i hX hY
    have hA : Asc (addGo x.x false []) := by first | exact addGo_asc _ _ (addGo_asc _ _ List.Pairwise.nil) | exact addGo_asc _ _ List.Pairwise.nil | exact List.Pairwise.nil
    have hM : ∀ y, y ∈ addGo x.x false [] ↔ (uX x.op = true ∧ y = x.x) ∨ (uY x.op = true ∧ y = x.y) := fun y => by
      simp only [addGo_mem, hX, hY]
      by_cases e : y = x.y <;> simp [e]
    have hL : (addGo x.x false [] : List Int).length ≤ 2 := by
      have h1 := addGo_le x.x []
      have h2 := addGo_le x.y []
      have h3 := addGo_le x.y (addGo x.x false [])
      simp at h1 h2 h3 ⊢ <;> omega
    generalize addGo x.x false [] = l0 at *
    refine wp_loop_k (α := Nat × List Int) [.ren 15 77, .keep [1, 4, 5] [1, 77]] (fun z => [(5, iA z.1)]) (fun _ => []) (fun z => [(77, 0, z.2.map iR)]) (fun z => (z.1 ≤ x.l.length ∧ (z.1 = 0 ∨ x.op = 8)) ∧ z.2 = adds l0 (x.l.take z.1) ∧ z.2.length ≤ 2 + z.1) (fun z => x.l.length - z.1) (0, l0) rfl (fun _ => rfl) rfl ⟨by simp, by simp [adds], by first | (simp; done) | simpa using hL⟩ ?_
    rintro ⟨k, l⟩ ⟨⟨hk, h8⟩, hl2, hl3⟩
    simp only at hk h8 hl2 hl3
    by_cases hlt : k < x.l.length
    · have hx := hx0 k hlt
      repeat' (first
         | refine wp_seq_i ?_ | refine wp_region_t k_ReadsS rfl ?_ | refine Run.done rfl ?_ | refine then_n ?_ | refine then_r ?_ | refine then_e ?_ | refine Run.go1 rfl ?_ | refine wp_skip_i ?_ | refine wp_ret_i ?_
         | refine wp_exit_i ?_ | refine wp_block_i ?_ | refine block_n ?_ | refine block_r ?_ | refine block_e ?_ | refine block_o rfl ?_ | refine wp_cond_t rfl ?_ | refine wp_cond_f rfl ?_ | refine Run.gT rfl rfl rfl rfl ?_
         | refine Run.pT rfl rfl ?_ | (refine Run.splitG rfl rfl rfl rfl rfl rfl ?_ ?_ <;> intro _) | (refine Run.splitP rfl rfl rfl rfl ?_ ?_ <;> intro _) | refine Run.ix rfl rfl rfl rfl rfl rfl rfl hx rfl rfl rfl ?_
         | refine Run.callB rfl rfl rfl (l10Add_s l _ (by omega)) (by simp [AV.own, T.own, ownI_b]) rfl ?_ | (refine wp_cond_k rfl rfl rfl ?_ ?_ <;> intro _) | (refine wp_cond_i rfl ?_ ?_ <;> intro _))
      all_goals first
      | (have c2 : (x.op == 8) = true := by assumption
         have e8 : x.op = 8 := by simpa using c2
         refine back_i [.keep [1, 4, 5] [1, 40], .ren 40 77] (k + 1, addGo x.l[k] false l) rfl ?_ ⟨⟨by simp; omega, .inr e8⟩, ?_, ?_⟩ (by simp; omega)
         · simp only [w_succ hlt (by omega)]
         · simp only; rw [hl2, show x.l.take (k + 1) = x.l.take k ++ [x.l[k]] by simp, adds_snoc]
         · simp only; have := addGo_le x.l[k] l; omega)
      | (have c2 : (x.op == 8) = false := by assumption
         have e8 : x.op ≠ 8 := by simpa using c2
         refine ret_m [] rfl rfl ?_
         rw [hl2, rds_fin hA hM h8 (.inr e8)])
      | (exfalso; rename_i h; have h := of_decide_eq_false h; simp at h; omega)
      | trace_state
    · have hk2 : k = x.l.length := by omega
      repeat' (first
         | refine wp_seq_i ?_ | refine wp_region_t k_ReadsS rfl ?_ | refine Run.done rfl ?_ | refine then_n ?_ | refine then_r ?_ | refine then_e ?_ | refine Run.go1 rfl ?_ | refine wp_skip_i ?_ | refine wp_ret_i ?_
         | refine wp_exit_i ?_ | refine wp_block_i ?_ | refine block_n ?_ | refine block_r ?_ | refine block_e ?_ | refine block_o rfl ?_ | refine wp_cond_t rfl ?_ | refine wp_cond_f rfl ?_ | refine Run.gT rfl rfl rfl rfl ?_
         | refine Run.pT rfl rfl ?_ | (refine Run.splitG rfl rfl rfl rfl rfl rfl ?_ ?_ <;> intro _) | (refine Run.splitP rfl rfl rfl rfl ?_ ?_ <;> intro _) | (refine wp_cond_k rfl rfl rfl ?_ ?_ <;> intro _)
         | (refine wp_cond_i rfl ?_ ?_ <;> intro _))
      all_goals first
      | (exfalso; rename_i h _; have h := of_decide_eq_true h; simp at h; omega)
      | (exfalso; rename_i h; have h := of_decide_eq_true h; simp at h; omega)
      | (refine ret_m [] rfl rfl ?_
         rw [hl2, rds_fin hA hM h8 (.inl hk2)])
      | trace_state
  · rename_i hX hY
    have hA : Asc (addGo x.y false []) := by first | exact addGo_asc _ _ (addGo_asc _ _ List.Pairwise.nil) | exact addGo_asc _ _ List.Pairwise.nil | exact List.Pairwise.nil
    have hM : ∀ y, y ∈ addGo x.y false [] ↔ (uX x.op = true ∧ y = x.x) ∨ (uY x.op = true ∧ y = x.y) := fun y => by
      simp only [addGo_mem, hX, hY]
      by_cases e : y = x.y <;> simp [e]
    have hL : (addGo x.y false [] : List Int).length ≤ 2 := by
      have h1 := addGo_le x.x []
      have h2 := addGo_le x.y []
      have h3 := addGo_le x.y (addGo x.x false [])
      simp at h1 h2 h3 ⊢ <;> omega
    generalize addGo x.y false [] = l0 at *
    refine wp_loop_k (α := Nat × List Int) [.ren 21 77, .keep [1, 4, 5] [1, 77]] (fun z => [(5, iA z.1)]) (fun _ => []) (fun z => [(77, 0, z.2.map iR)]) (fun z => (z.1 ≤ x.l.length ∧ (z.1 = 0 ∨ x.op = 8)) ∧ z.2 = adds l0 (x.l.take z.1) ∧ z.2.length ≤ 2 + z.1) (fun z => x.l.length - z.1) (0, l0) rfl (fun _ => rfl) rfl ⟨by simp, by simp [adds], by first | (simp; done) | simpa using hL⟩ ?_
    rintro ⟨k, l⟩ ⟨⟨hk, h8⟩, hl2, hl3⟩
    simp only at hk h8 hl2 hl3
    by_cases hlt : k < x.l.length
    · have hx := hx0 k hlt
      repeat' (first
         | refine wp_seq_i ?_ | refine wp_region_t k_ReadsS rfl ?_ | refine Run.done rfl ?_ | refine then_n ?_ | refine then_r ?_ | refine then_e ?_ | refine Run.go1 rfl ?_ | refine wp_skip_i ?_ | refine wp_ret_i ?_
         | refine wp_exit_i ?_ | refine wp_block_i ?_ | refine block_n ?_ | refine block_r ?_ | refine block_e ?_ | refine block_o rfl ?_ | refine wp_cond_t rfl ?_ | refine wp_cond_f rfl ?_ | refine Run.gT rfl rfl rfl rfl ?_
         | refine Run.pT rfl rfl ?_ | (refine Run.splitG rfl rfl rfl rfl rfl rfl ?_ ?_ <;> intro _) | (refine Run.splitP rfl rfl rfl rfl ?_ ?_ <;> intro _) | refine Run.ix rfl rfl rfl rfl rfl rfl rfl hx rfl rfl rfl ?_
         | refine Run.callB rfl rfl rfl (l10Add_s l _ (by omega)) (by simp [AV.own, T.own, ownI_b]) rfl ?_ | (refine wp_cond_k rfl rfl rfl ?_ ?_ <;> intro _) | (refine wp_cond_i rfl ?_ ?_ <;> intro _))
      all_goals first
      | (have c2 : (x.op == 8) = true := by assumption
         have e8 : x.op = 8 := by simpa using c2
         refine back_i [.keep [1, 4, 5] [1, 40], .ren 40 77] (k + 1, addGo x.l[k] false l) rfl ?_ ⟨⟨by simp; omega, .inr e8⟩, ?_, ?_⟩ (by simp; omega)
         · simp only [w_succ hlt (by omega)]
         · simp only; rw [hl2, show x.l.take (k + 1) = x.l.take k ++ [x.l[k]] by simp, adds_snoc]
         · simp only; have := addGo_le x.l[k] l; omega)
      | (have c2 : (x.op == 8) = false := by assumption
         have e8 : x.op ≠ 8 := by simpa using c2
         refine ret_m [] rfl rfl ?_
         rw [hl2, rds_fin hA hM h8 (.inr e8)])
      | (exfalso; rename_i h; have h := of_decide_eq_false h; simp at h; omega)
      | trace_state
    · have hk2 : k = x.l.length := by omega
      repeat' (first
         | refine wp_seq_i ?_ | refine wp_region_t k_ReadsS rfl ?_ | refine Run.done rfl ?_ | refine then_n ?_ | refine then_r ?_ | refine then_e ?_ | refine Run.go1 rfl ?_ | refine wp_skip_i ?_ | refine wp_ret_i ?_
         | refine wp_exit_i ?_ | refine wp_block_i ?_ | refine block_n ?_ | refine block_r ?_ | refine block_e ?_ | refine block_o rfl ?_ | refine wp_cond_t rfl ?_ | refine wp_cond_f rfl ?_ | refine Run.gT rfl rfl rfl rfl ?_
         | refine Run.pT rfl rfl ?_ | (refine Run.splitG rfl rfl rfl rfl rfl rfl ?_ ?_ <;> intro _) | (refine Run.splitP rfl rfl rfl rfl ?_ ?_ <;> intro _) | (refine wp_cond_k rfl rfl rfl ?_ ?_ <;> intro _)
         | (refine wp_cond_i rfl ?_ ?_ <;> intro _))
      all_goals first
      | (exfalso; rename_i h _; have h := of_decide_eq_true h; simp at h; omega)
      | (exfalso; rename_i h; have h := of_decide_eq_true h; simp at h; omega)
      | (refine ret_m [] rfl rfl ?_
         rw [hl2, rds_fin hA hM h8 (.inl hk2)])
      | trace_state
  · rename_i hX hY
    have hA : Asc ([]) := by first | exact addGo_asc _ _ (addGo_asc _ _ List.Pairwise.nil) | exact addGo_asc _ _ List.Pairwise.nil | exact List.Pairwise.nil
    have hM : ∀ y, y ∈ [] ↔ (uX x.op = true ∧ y = x.x) ∨ (uY x.op = true ∧ y = x.y) := fun y => by
      simp only [addGo_mem, hX, hY]
      by_cases e : y = x.y <;> simp [e]
    have hL : ([] : List Int).length ≤ 2 := by
      have h1 := addGo_le x.x []
      have h2 := addGo_le x.y []
      have h3 := addGo_le x.y (addGo x.x false [])
      simp at h1 h2 h3 ⊢ <;> omega
    refine wp_loop_k (α := Nat × List Int) [.ren 9 77, .keep [1, 4, 5] [1, 77]] (fun z => [(5, iA z.1)]) (fun _ => []) (fun z => [(77, 0, z.2.map iR)]) (fun z => (z.1 ≤ x.l.length ∧ (z.1 = 0 ∨ x.op = 8)) ∧ z.2 = adds [] (x.l.take z.1) ∧ z.2.length ≤ 2 + z.1) (fun z => x.l.length - z.1) (0, []) rfl (fun _ => rfl) rfl ⟨by simp, by simp [adds], by first | (simp; done) | simpa using hL⟩ ?_
    rintro ⟨k, l⟩ ⟨⟨hk, h8⟩, hl2, hl3⟩
    simp only at hk h8 hl2 hl3
    by_cases hlt : k < x.l.length
    · have hx := hx0 k hlt
      repeat' (first
         | refine wp_seq_i ?_ | refine wp_region_t k_ReadsS rfl ?_ | refine Run.done rfl ?_ | refine then_n ?_ | refine then_r ?_ | refine then_e ?_ | refine Run.go1 rfl ?_ | refine wp_skip_i ?_ | refine wp_ret_i ?_
         | refine wp_exit_i ?_ | refine wp_block_i ?_ | refine block_n ?_ | refine block_r ?_ | refine block_e ?_ | refine block_o rfl ?_ | refine wp_cond_t rfl ?_ | refine wp_cond_f rfl ?_ | refine Run.gT rfl rfl rfl rfl ?_
         | refine Run.pT rfl rfl ?_ | (refine Run.splitG rfl rfl rfl rfl rfl rfl ?_ ?_ <;> intro _) | (refine Run.splitP rfl rfl rfl rfl ?_ ?_ <;> intro _) | refine Run.ix rfl rfl rfl rfl rfl rfl rfl hx rfl rfl rfl ?_
         | refine Run.callB rfl rfl rfl (l10Add_s l _ (by omega)) (by simp [AV.own, T.own, ownI_b]) rfl ?_ | (refine wp_cond_k rfl rfl rfl ?_ ?_ <;> intro _) | (refine wp_cond_i rfl ?_ ?_ <;> intro _))
      all_goals first
      | (have c2 : (x.op == 8) = true := by assumption
         have e8 : x.op = 8 := by simpa using c2
         refine back_i [.keep [1, 4, 5] [1, 40], .ren 40 77] (k + 1, addGo x.l[k] false l) rfl ?_ ⟨⟨by simp; omega, .inr e8⟩, ?_, ?_⟩ (by simp; omega)
         · simp only [w_succ hlt (by omega)]
         · simp only; rw [hl2, show x.l.take (k + 1) = x.l.take k ++ [x.l[k]] by simp, adds_snoc]
         · simp only; have := addGo_le x.l[k] l; omega)
      | (have c2 : (x.op == 8) = false := by assumption
         have e8 : x.op ≠ 8 := by simpa using c2
         refine ret_m [] rfl rfl ?_
         rw [hl2, rds_fin hA hM h8 (.inr e8)])
      | (exfalso; rename_i h; have h := of_decide_eq_false h; simp at h; omega)
      | trace_state
    · have hk2 : k = x.l.length := by omega
      repeat' (first
         | refine wp_seq_i ?_ | refine wp_region_t k_ReadsS rfl ?_ | refine Run.done rfl ?_ | refine then_n ?_ | refine then_r ?_ | refine then_e ?_ | refine Run.go1 rfl ?_ | refine wp_skip_i ?_ | refine wp_ret_i ?_
         | refine wp_exit_i ?_ | refine wp_block_i ?_ | refine block_n ?_ | refine block_r ?_ | refine block_e ?_ | refine block_o rfl ?_ | refine wp_cond_t rfl ?_ | refine wp_cond_f rfl ?_ | refine Run.gT rfl rfl rfl rfl ?_
         | refine Run.pT rfl rfl ?_ | (refine Run.splitG rfl rfl rfl rfl rfl rfl ?_ ?_ <;> intro _) | (refine Run.splitP rfl rfl rfl rfl ?_ ?_ <;> intro _) | (refine wp_cond_k rfl rfl rfl ?_ ?_ <;> intro _)
         | (refine wp_cond_i rfl ?_ ?_ <;> intro _))
      all_goals first
      | (exfalso; rename_i h _; have h := of_decide_eq_true h; simp at h; omega)
      | (exfalso; rename_i h; have h := of_decide_eq_true h; simp at h; omega)
      | (refine ret_m [] rfl rfl ?_
         rw [hl2, rds_fin hA hM h8 (.inl hk2)])
      | trace_state
def k_WritesS : List (Nat × List Nat) := [(0, [1]), (1, [1, 12]), (2, [2]), (3, [2])]
theorem WritesS_t (x : Ins) : Tells Try.prog E0 X 56 [x.a false] (iA (wrI x)) := by
  refine Tells.by Try.func56 (by simp [Try.f56]) (Body.i rfl rfl rfl (fun _ => rfl) fun f => ?_)
  repeat' (first
     | refine wp_seq_i ?_ | refine wp_region_t k_WritesS rfl ?_ | refine Run.done rfl ?_ | refine then_n ?_ | refine then_r ?_ | refine then_e ?_ | refine Run.go1 rfl ?_ | refine wp_skip_i ?_ | refine wp_ret_i ?_
     | refine wp_exit_i ?_ | refine wp_block_i ?_ | refine block_n ?_ | refine block_r ?_ | refine block_e ?_ | refine block_o rfl ?_ | refine wp_cond_t rfl ?_ | refine wp_cond_f rfl ?_ | refine Run.gT rfl rfl rfl rfl ?_
     | refine Run.pT rfl rfl ?_ | (refine Run.splitG rfl rfl rfl rfl rfl rfl ?_ ?_ <;> intro _) | (refine Run.splitP rfl rfl rfl rfl ?_ ?_ <;> intro _) | refine Run.call rfl rfl rfl (l9Uses_t _) rfl rfl ?_
     | refine Run.one rfl rfl rfl ?_ | (refine wp_cond_k rfl rfl rfl ?_ ?_ <;> intro _) | (refine wp_cond_i rfl ?_ ?_ <;> intro _))
  all_goals (refine ret_m [] rfl rfl ?_; first | (simp_all [wrI]; done) | trace_state)
end Go.Proofs

set_option linter.unusedVariables false
set_option linter.unusedSimpArgs false
set_option maxHeartbeats 4000000
namespace Go.Proofs
open Go Go.Ev
set_option maxRecDepth 100000
variable {X : Rel3}
def sub1 (a b : List Bool) : Prop := ∀ r, a.getD r false = true → b.getD r false = true
def le2 (L M : List (List Bool)) : Prop := ∀ i, sub1 (L.getD i []) (M.getD i [])
theorem le2.refl (L : List (List Bool)) : le2 L L := fun _ _ h => h
theorem le2.trans {L M N : List (List Bool)} (h : le2 L M) (h' : le2 M N) : le2 L N := fun i r hr => h' i r (h i r hr)
theorem sub1_eq {a b : List Bool} (hl : a.length = b.length) (h1 : sub1 a b) (h2 : sub1 b a) : a = b := by
  refine List.ext_getElem hl fun i h3 h4 => ?_
  have e1 := h1 i
  have e2 := h2 i
  simp only [List.getD_eq_getElem?_getD, List.getElem?_eq_getElem h3, List.getElem?_eq_getElem h4, Option.getD_some] at e1 e2
  cases ha : a[i] <;> cases hb : b[i] <;> simp_all
theorem le2.antisymm {n R : Nat} {L M : List (List Bool)} (hL : Rows n R L) (hM : Rows n R M) (h1 : le2 L M) (h2 : le2 M L) : L = M := by
  refine List.ext_getElem (by rw [hL.1, hM.1]) fun i h3 h4 => ?_
  have e1 := h1 i
  have e2 := h2 i
  simp only [List.getD_eq_getElem?_getD, List.getElem?_eq_getElem h3, List.getElem?_eq_getElem h4, Option.getD_some] at e1 e2
  exact sub1_eq (by rw [hL.2 _ (List.getElem_mem _), hM.2 _ (List.getElem_mem _)]) e1 e2
theorem le2_set {L : List (List Bool)} {i : Nat} {row : List Bool} (h : sub1 (L.getD i []) row) : le2 L (L.set i row) := by
  intro j
  by_cases hi : i < L.length
  · rw [getD_set hi]
    by_cases e : j = i
    · subst e; rw [if_pos rfl]; exact h
    · rw [if_neg e]; exact fun _ h => h
  · rw [List.set_eq_of_length_le (by omega)]; exact fun _ h => h
/-- has anything come in? -/
def chg (more : Bool) (L M : List (List Bool)) : Bool := more || !decide (M = L)
theorem chg_self (more : Bool) (L : List (List Bool)) : chg more L L = more := by simp [chg]
theorem chg_trans {n R : Nat} {more : Bool} {L M N : List (List Bool)} (hL : Rows n R L) (hM : Rows n R M) (h1 : le2 L M) (h2 : le2 M N) : chg (chg more L M) M N = chg more L N := by
  unfold chg
  rw [Bool.or_assoc]
  congr 1
  by_cases e : N = L
  · subst e
    have := le2.antisymm hL hM h1 h2
    subst this; simp
  · by_cases e2 : N = M
    · subst e2; simp
    · simp [e, e2]
def setB (L : List (List Bool)) (i r : Nat) : List (List Bool) := L.set i ((L.getD i []).set r true)
theorem sub1_set (row : List Bool) (r : Nat) : sub1 row (row.set r true) := by
  intro j h
  simp only [List.getD_eq_getElem?_getD, List.getElem?_set] at h ⊢
  by_cases e : r = j
  · subst e
    by_cases hl : r < row.length
    · simp [hl]
    · rw [List.getElem?_eq_none (by omega)] at h; simp at h
  · rw [if_neg e]; exact h
theorem setB_le (L : List (List Bool)) (i r : Nat) : le2 L (setB L i r) := le2_set (sub1_set _ _)
theorem setB_rows {n R : Nat} {L : List (List Bool)} (h : Rows n R L) {i : Nat} (hi : i < n) (r : Nat) : Rows n R (setB L i r) := h.set i (by rw [List.length_set]; exact h.at hi)
theorem set_self {α : Type} {l : List α} {k : Nat} {x : α} (h : l[k]? = some x) : l.set k x = l := by
  obtain ⟨h1, rfl⟩ := List.getElem?_eq_some_iff.1 h
  exact List.set_getElem_self h1
theorem setB_eq {L : List (List Bool)} {i r : Nat} {row : List Bool} {v : Bool} (hi : L[i]? = some row) (hr : row[r]? = some v) : setB L i r = L.set i (row.set r true) ∧ (decide (setB L i r = L) = v) := by
  have e : L.getD i [] = row := by rw [List.getD_eq_getElem?_getD, hi]; rfl
  refine ⟨by unfold setB; rw [e], ?_⟩
  unfold setB
  rw [e]
  cases v with
  | true => rw [set_self hr, set_self hi]; simp
  | false =>
    refine decide_eq_false fun he => ?_
    have h1 := congrArg (fun M : List (List Bool) => M[i]?) he
    have hil := (List.getElem?_eq_some_iff.1 hi).1
    simp only [List.getElem?_set, if_true, hil, hi] at h1
    have hrl := (List.getElem?_eq_some_iff.1 hr).1
    have h2 : (row.set r true)[r]? = row[r]? := by rw [Option.some.inj h1]
    rw [hr, List.getElem?_set, if_pos rfl, if_pos hrl] at h2
    cases h2
theorem sub1_take (row out : List Bool) (but : Int) : ∀ k, sub1 out (takeGo row but k out)
  | 0 => fun _ h => h
  | k + 1 => by
    rw [takeGo]
    split
    · exact fun r h => sub1_set _ k r (sub1_take row out but k r h)
    · exact sub1_take row out but k
theorem fromL_le (L : List (List Bool)) (i : Nat) (next but : Int) (k : Nat) : le2 L (fromL L i next but k) := le2_set (sub1_take _ _ _ _)
theorem fromL_rows {n R : Nat} {L : List (List Bool)} (h : Rows n R L) {i : Nat} (hi : i < n) (next but : Int) (k : Nat) : Rows n R (fromL L i next but k) := h.set i (by rw [takeGo_len]; exact h.at hi)
/-- one step further -/
theorem takeGo_at (row : List Bool) (but : Int) {k : Nat} : ∀ j, j ≤ k → (takeGo row but j row).getD k false = row.getD k false
  | 0, _ => rfl
  | j + 1, h => by
    rw [takeGo]
    split
    · rw [← takeGo_at row but j (by omega)]
      simp only [List.getD_eq_getElem?_getD, List.getElem?_set]
      rw [if_neg (by omega)]
    · exact takeGo_at row but j (by omega)
theorem fromL_row {n R : Nat} {L : List (List Bool)} (h : Rows n R L) {i : Nat} (hi : i < n) (next but : Int) (k : Nat) : (rowOf (fromL L i next but k) next).getD k false = (rowOf L next).getD k false := by
  unfold rowOf fromL
  rw [getD_set (by rw [h.1]; exact hi)]
  split
  · rename_i e
    unfold rowOf
    rw [e]
    exact takeGo_at _ _ k (Nat.le_refl _)
  · rfl
theorem fromL_step {n R : Nat} {L : List (List Bool)} (h : Rows n R L) {i : Nat} (hi : i < n) (next but : Int) (k : Nat) :
    fromL L i next but (k + 1) = if (rowOf L next).getD k false && ((k : Int) != but) then setB (fromL L i next but k) i k else fromL L i next but k := by
  have e : (fromL L i next but k).getD i [] = takeGo (rowOf L next) but k (L.getD i []) := by unfold fromL; rw [getD_set (by rw [h.1]; exact hi), if_pos rfl]
  split
  · rename_i hc
    unfold setB
    rw [e]
    unfold fromL
    rw [List.set_set, takeGo, if_pos hc]
  · rename_i hc
    unfold fromL
    rw [takeGo, if_neg hc]
theorem set_getD (L : List (List Bool)) (i : Nat) : L.set i (L.getD i []) = L := by
  by_cases hi : i < L.length
  · exact set_self (by rw [List.getD_eq_getElem?_getD, List.getElem?_eq_getElem hi]; rfl)
  · exact List.set_eq_of_length_le (by omega)
theorem fromL_zero (L : List (List Bool)) (i : Nat) (next but : Int) : fromL L i next but 0 = L := set_getD L i
theorem foldB {n R : Nat} {i : Nat} (hi : i < n) : ∀ (rs : List Int) {L : List (List Bool)}, Rows n R L → rs.foldl (fun L r => setB L i r.toNat) L = L.set i (setsL rs (L.getD i []))
  | [], L, _ => (set_getD L i).symm
  | x :: rs, L, h => by
    rw [List.foldl_cons, foldB hi rs (setB_rows h hi _)]
    have hl : i < L.length := by rw [h.1]; exact hi
    have e : (setB L i x.toNat).getD i [] = (L.getD i []).set x.toNat true := by unfold setB; rw [getD_set hl, if_pos rfl]
    rw [e]
    unfold setB
    rw [List.set_set]
    rfl
/-- one node, in both ways -/
def nodeL (ins : List Ins) (R : Nat) (L : List (List Bool)) (i : Nat) : List (List Bool) := match ins[i]? with
  | some x => L.set i (mkR R fun r => (L.getD i []).getD r false || wantF ins L i x r)
  | none => L
def passL (ins : List Ins) (R : Nat) : Nat → List (List Bool) → List (List Bool)
  | 0, L => L
  | k + 1, L => passL ins R k (nodeL ins R L k)
theorem nodeL_rows {ins : List Ins} {n R : Nat} {L : List (List Bool)} (h : Rows n R L) (i : Nat) : Rows n R (nodeL ins R L i) := by
  unfold nodeL
  split
  · exact h.set i (mkR_len _ _)
  · exact h
theorem sub1_lt {a : List Bool} {r : Nat} (h : a.getD r false = true) : r < a.length := by
  rcases Nat.lt_or_ge r a.length with h1 | h1
  · exact h1
  · rw [List.getD_eq_getElem?_getD, List.getElem?_eq_none h1] at h; cases h
theorem nodeL_le {ins : List Ins} {n R : Nat} {L : List (List Bool)} (h : Rows n R L) (hn : n = ins.length) (i : Nat) : le2 L (nodeL ins R L i) := by
  unfold nodeL
  split
  · rename_i x hx
    have hi : i < n := by rw [hn]; exact (List.getElem?_eq_some_iff.1 hx).1
    refine le2_set fun r hr => ?_
    have := sub1_lt hr
    rw [h.at hi] at this
    rw [mkR_at this, hr]; rfl
  · exact le2.refl L
theorem cnt_lt : ∀ (a b : List Bool), a.length = b.length → sub1 a b → b = a ∨ b.count false < a.count false
  | [], [], _, _ => .inl rfl
  | x :: a, y :: b, hl, h => by
    have ih := cnt_lt a b (by simpa using hl) fun r hr => h (r + 1) (by simpa using hr)
    have h0 := h 0
    cases x <;> cases y
    · rcases ih with rfl | ih
      · exact .inl rfl
      · right; simp; exact ih
    · right
      rcases ih with rfl | ih
      · simp
      · simp; omega
    · simp at h0
    · rcases ih with rfl | ih
      · exact .inl rfl
      · right; simp; exact ih
def falses (L : List (List Bool)) : Nat := (L.map fun row => row.count false).sum
theorem falses_lt : ∀ {L M : List (List Bool)} {R : Nat}, Rows L.length R L → Rows L.length R M → le2 L M → M = L ∨ falses M < falses L
  | [], M, R, _, hM, _ => .inl (List.length_eq_zero_iff.1 hM.1)
  | x :: L, [], R, _, hM, _ => by simp [Rows] at hM
  | x :: L, y :: M, R, hL, hM, h => by
    have hr : Rows L.length R L := ⟨rfl, fun r hr => hL.2 r (List.mem_cons_of_mem _ hr)⟩
    have hm : Rows L.length R M := ⟨by have := hM.1; simpa using this, fun r hr => hM.2 r (List.mem_cons_of_mem _ hr)⟩
    have ih := falses_lt hr hm fun i => by have := h (i + 1); simpa using this
    have h0 := cnt_lt x y (by rw [hL.2 x (List.mem_cons_self ..), hM.2 y (List.mem_cons_self ..)]) (by have := h 0; simpa using this)
    simp only [falses, List.map_cons, List.sum_cons] at ih ⊢
    rcases h0 with rfl | h0
    · rcases ih with rfl | ih
      · exact .inl rfl
      · right; omega
    · right
      rcases ih with rfl | ih
      · omega
      · omega
theorem passL_rows {ins : List Ins} {n R : Nat} : ∀ (k : Nat) {L : List (List Bool)}, Rows n R L → Rows n R (passL ins R k L)
  | 0, _, h => h
  | k + 1, _, h => passL_rows k (nodeL_rows h k)
theorem passL_le {ins : List Ins} {n R : Nat} (hn : n = ins.length) : ∀ (k : Nat) {L : List (List Bool)}, Rows n R L → le2 L (passL ins R k L)
  | 0, _, _ => le2.refl _
  | k + 1, _, h => (nodeL_le h hn k).trans (passL_le hn k (nodeL_rows h k))
def iterP (ins : List Ins) (R : Nat) : Nat → List (List Bool) → List (List Bool)
  | 0, L => L
  | k + 1, L => iterP ins R k (passL ins R ins.length L)
theorem iterP_fix {ins : List Ins} {R : Nat} {L : List (List Bool)} (h : passL ins R ins.length L = L) : ∀ k, iterP ins R k L = L
  | 0 => rfl
  | k + 1 => by rw [iterP, h]; exact iterP_fix h k
theorem iterP_add {ins : List Ins} {R : Nat} : ∀ (k j : Nat) (L : List (List Bool)), iterP ins R (k + j) L = iterP ins R j (iterP ins R k L)
  | 0, j, L => by rw [Nat.zero_add]; rfl
  | k + 1, j, L => by rw [show k + 1 + j = k + j + 1 by omega, iterP, iterP_add k j]; rfl
def init2 (n R : Nat) : List (List Bool) := List.replicate n (List.replicate R false)
theorem init2_rows (n R : Nat) : Rows n R (init2 n R) := ⟨by simp [init2], fun row h => by rw [(List.mem_replicate.1 h).2]; simp⟩
theorem init2_falses (n R : Nat) : falses (init2 n R) = n * R := by
  unfold falses init2
  rw [List.map_replicate, List.sum_replicate_nat]
  simp
/-- what lives, at the end -/
def solL (ins : List Ins) (R : Nat) : List (List Bool) := iterP ins R (ins.length * R) (init2 ins.length R)
theorem solL_of {ins : List Ins} {R k : Nat} {L : List (List Bool)} (h : L = iterP ins R k (init2 ins.length R)) (hk : k + falses L ≤ ins.length * R) (hf : passL ins R ins.length L = L) : L = solL ins R := by
  unfold solL
  rw [show ins.length * R = k + (ins.length * R - k) by omega, iterP_add, ← h, iterP_fix hf]
theorem iterP_snoc {ins : List Ins} {R k : Nat} {L : List (List Bool)} (h : L = iterP ins R k (init2 ins.length R)) : passL ins R ins.length L = iterP ins R (k + 1) (init2 ins.length R) := by
  rw [iterP_add, ← h]; rfl
theorem iterP_rows {ins : List Ins} {n R : Nat} : ∀ (k : Nat) {L : List (List Bool)}, Rows n R L → Rows n R (iterP ins R k L)
  | 0, _, h => h
  | k + 1, _, h => iterP_rows k (passL_rows _ h)
/-- all that lives is wanted -/
def Post (ins : List Ins) (L : List (List Bool)) : Prop := ∀ i x, ins[i]? = some x → ∀ r, (L.getD i []).getD r false = true → wantF ins L i x r = true
theorem wantF_mono {ins : List Ins} {L M : List (List Bool)} (h : le2 L M) {i : Nat} {x : Ins} {r : Nat} (hw : wantF ins L i x r = true) : wantF ins M i x r = true := by
  have hl : ∀ k but, liveAt L k but r = true → liveAt M k but r = true := by
    intro k but h1
    unfold liveAt at h1 ⊢
    simp only [Bool.and_eq_true] at h1 ⊢
    exact ⟨h k.toNat r h1.1, h1.2⟩
  unfold wantF at hw ⊢
  simp only [Bool.or_eq_true, Bool.and_eq_true, List.any_eq_true] at hw ⊢
  rcases hw with (⟨k, h1, h2⟩ | ⟨h1, h2⟩) | h1
  · exact .inl (.inl ⟨k, h1, hl _ _ h2⟩)
  · exact .inl (.inr ⟨h1, hl _ _ h2⟩)
  · exact .inr h1
theorem init2_post (ins : List Ins) (n R : Nat) : Post ins (init2 n R) := by
  intro i x _ r h
  unfold init2 at h
  simp only [List.getD_eq_getElem?_getD, List.getElem?_replicate] at h
  split at h
  · simp only [Option.getD_some, List.getElem?_replicate] at h
    split at h <;> simp at h
  · simp at h
theorem nodeL_post {ins : List Ins} {n R : Nat} {L : List (List Bool)} (h : Rows n R L) (hn : n = ins.length) (hp : Post ins L) (i : Nat) : Post ins (nodeL ins R L i) := by
  have hle := nodeL_le h hn i
  intro j y hy r hr
  refine wantF_mono hle ?_
  unfold nodeL at hr
  split at hr
  · rename_i x hx
    have hi : i < L.length := by rw [h.1, hn]; exact (List.getElem?_eq_some_iff.1 hx).1
    rw [getD_set hi] at hr
    split at hr
    · rename_i e
      subst e
      rw [hx] at hy
      cases hy
      have hr' := sub1_lt hr
      rw [mkR_len] at hr'
      rw [mkR_at hr', Bool.or_eq_true] at hr
      rcases hr with hr | hr
      · exact hp _ _ hx r hr
      · exact hr
    · exact hp _ _ hy r hr
  · exact hp _ _ hy r hr
theorem nodeL_post_eq {ins : List Ins} {n R : Nat} {L : List (List Bool)} (hp : Post ins L) {i : Nat} {x : Ins} (hx : ins[i]? = some x) : nodeL ins R L i = L.set i (mkR R (wantF ins L i x)) := by
  unfold nodeL
  rw [hx]
  simp only
  congr 1
  refine mkR_ext fun r _ => ?_
  cases h : (L.getD i []).getD r false with
  | false => simp
  | true => rw [hp i x hx r h]; rfl
theorem passL_post {ins : List Ins} {n R : Nat} (hn : n = ins.length) : ∀ (k : Nat) {L : List (List Bool)}, Rows n R L → Post ins L → Post ins (passL ins R k L)
  | 0, _, _, hp => hp
  | k + 1, _, h, hp => passL_post hn k (nodeL_rows h k) (nodeL_post h hn hp k)
theorem iterP_post {ins : List Ins} {n R : Nat} (hn : n = ins.length) : ∀ (k : Nat) {L : List (List Bool)}, Rows n R L → Post ins L → Post ins (iterP ins R k L)
  | 0, _, _, hp => hp
  | k + 1, _, h, hp => iterP_post hn k (passL_rows _ h) (passL_post hn _ h hp)
end Go.Proofs

set_option linter.unusedVariables false
set_option linter.unusedSimpArgs false
set_option maxHeartbeats 4000000
namespace Go.Proofs
open Go Go.Ev
set_option maxRecDepth 100000
variable {X : Rel3}
abbrev bR (b : Bool) : List T := [.sc (.bool b)]
abbrev m3 (k : Int) : Bool := k.tmod 3 == 0
def mkT : List Bool → Int → List Bool × Int
  | [], k => ([], k)
  | _ :: r, k => (m3 k :: (mkT r (nx k)).1, (mkT r (nx k)).2)
theorem mkT_snoc (l : List Bool) (x : Bool) (k : Int) : mkT (l ++ [x]) k = ((mkT l k).1 ++ [m3 (mkT l k).2], nx (mkT l k).2) := by
  induction l generalizing k with
  | nil => rfl
  | cons y l ih => simp [mkT, ih]
theorem mkT_len (l : List Bool) (k : Int) : (mkT l k).1.length = l.length := by
  induction l generalizing k with
  | nil => rfl
  | cons y l ih => simp [mkT, ih]
/-- what is marked is held -/
def heT : List Bool → Int → Int
  | [], k => k
  | x :: r, k => if x = m3 k then heT r (nx k) else -1
end Go.Proofs

set_option linter.unusedVariables false
set_option linter.unusedSimpArgs false
set_option maxHeartbeats 4000000
namespace Go.Proofs
open Go Go.Ev
set_option maxRecDepth 100000
variable {X : Rel3}
theorem Run.adjwOn {Φ : Rel3} {E : Env} {all : List Oper} {D : List Nat} {lo : Option (List Nat)} {rest : List Oper} {s : St} {K : St → Prop} (d : Nat) {op : Op} {ty : Nat} {pos : String} {after : Array Edge} {g : Option (Nat × Bool)}
  (h : AdjW (fun s1 => Run Φ E all D lo (⟨some d, op, ty, pos, after, g⟩ :: rest) s1 K) s) : Run Φ E all D lo (⟨some d, op, ty, pos, after, g⟩ :: rest) s K := Run.adjw h
abbrev bRow (o : Bool) (l : List Bool) : List T := [.sl o (l.map bR)]
abbrev mkA (p : Piece) (L : List (List Bool)) (more : Bool) : AV := .io [iA p.lam, iA p.in_, iA p.regs, .t (.sl false (p.ins.map (Ins.c false))), .t (.sl true (L.map (bRow true))), bA more]
def k_l10Set : List (Nat × List Nat) := [(0, [0, 1, 2, 16]), (1, [0]), (2, [])]
theorem Set_t (p : Piece) (L : List (List Bool)) (more : Bool) (i r : Nat) {row : List Bool} {v : Bool} (hi : L[i]? = some row) (hr : row[r]? = some v) : Tells Try.prog E0 X 55 [mkA p L more, iA i, iA r] (.io [.tp [], mkA p (setB L i r) (chg more L (setB L i r)), .u, .u]) := by
  obtain ⟨hS, hD⟩ := setB_eq hi hr
  rw [chg, hD, hS]
  have hx : (L.map (bRow true))[i]? = some (bRow true row) := by rw [List.getElem?_map, hi]; rfl
  have hy : (row.map bR)[r]? = some (bR v) := by rw [List.getElem?_map, hr]; rfl
  have hil : i < (L.map (bRow true)).length := by rw [List.length_map]; exact (List.getElem?_eq_some_iff.1 hi).1
  refine Tells.by Try.func55 (by simp [Try.f55]) (Body.i rfl rfl rfl (fun _ => rfl) fun f => ?_)
  repeat' (first
    
     | refine Run.adjwOn 23 (.hole 105000 i 0 900000 _ _ _ _ _ _ rfl hx rfl (fun _ => rfl) fun u => .done _ (Run.ldr rfl rfl rfl (set_hit hil) rfl rfl (Run.go1 rfl (Run.adjw (.tell 23 900000 _ _ _ _ _ rfl rfl rfl rfl (.done _ ?_))))))
     | refine Run.adjwEnd (.fill 105000 i 0 900000 _ _ _ _ _ _ _ rfl (set_hit hil) rfl rfl rfl (.done _ ?_)) | refine wp_seq_i ?_ | refine wp_region_t k_l10Set rfl ?_ | refine Run.done rfl ?_ | refine then_n ?_ | refine then_r ?_
     | refine then_e ?_ | refine Run.go1 rfl ?_ | refine wp_skip_i ?_ | refine wp_ret_i ?_ | refine wp_exit_i ?_ | refine wp_block_i ?_ | refine block_n ?_ | refine block_r ?_ | refine block_e ?_ | refine block_o rfl ?_
     | refine wp_cond_t rfl ?_ | refine wp_cond_f rfl ?_ | refine Run.ix rfl rfl rfl rfl rfl rfl rfl hx rfl rfl rfl ?_ | refine Run.ix rfl rfl rfl rfl rfl rfl rfl hy rfl rfl rfl ?_ | refine Run.ldr rfl rfl rfl hx rfl rfl ?_
     | refine Run.ldr rfl rfl rfl hy rfl rfl ?_ | refine Run.str rfl rfl rfl rfl rfl rfl hy rfl rfl ?_ | (refine wp_cond_k rfl rfl rfl ?_ ?_ <;> intro _) | (refine wp_cond_i rfl ?_ ?_ <;> intro _))
  · rename_i hv
    have hv : v = false := by simpa using hv
    subst hv
    refine retn_o [true] [] rfl rfl rfl (by simp) ?_
    simp [List.map_set, bRow]
  · rename_i hv
    have hv : v = true := by simpa using hv
    subst hv
    refine retn_o [true] [] rfl rfl rfl (by simp) ?_
    rw [set_self hr, set_self hi]
    simp
def k_l10From : List (Nat × List Nat) := [(0, [0, 1, 2, 3, 8]), (1, [0, 1, 2, 3, 8, 15]), (2, [0, 1, 2, 3, 8]), (3, [0, 1, 2, 3, 8, 32]), (4, [0, 1, 2, 3, 8])]
theorem From_t (p : Piece) (L : List (List Bool)) (more : Bool) (i : Nat) (next but : Int) {n R : Nat} (hR : Rows n R L) (hi : i < n) (hn : 0 ≤ next ∧ next < n) (hp : p.regs = R) (hr : R ≤ 400) : Tells Try.prog E0 X 57 [mkA p L more, iA i, iA next, iA but] (.io [.tp [], mkA p (fromL L i next but R) (chg more L (fromL L i next but R)), .u, .u, .u]) := by
  obtain ⟨nx, rfl⟩ := Int.eq_ofNat_of_zero_le hn.1
  refine Tells.by Try.func57 (by simp [Try.f57]) (Body.i rfl rfl rfl (fun _ => rfl) fun f => ?_)
  repeat' (first
     | refine wp_seq_i ?_ | refine wp_region_t k_l10From rfl ?_ | refine Run.done rfl ?_ | refine then_n ?_ | refine then_r ?_ | refine then_e ?_ | refine Run.go1 rfl ?_ | refine wp_skip_i ?_ | refine wp_ret_i ?_
     | refine wp_exit_i ?_ | refine wp_block_i ?_ | refine block_n ?_ | refine block_r ?_ | refine block_e ?_ | refine block_o rfl ?_ | refine wp_cond_t rfl ?_ | refine wp_cond_f rfl ?_
     | (refine wp_cond_k rfl rfl rfl ?_ ?_ <;> intro _) | (refine wp_cond_i rfl ?_ ?_ <;> intro _))
  refine wp_loop_k (α := Nat × Option Value) [.ren 105000 77, .keep [0, 1, 2, 3, 8] [100000, 77]] (fun z => [(8, iA z.1)]) (fun z => [(100000, [iA p.lam, iA p.in_, iA p.regs, .t (.sl false (p.ins.map (Ins.c false))), .rf 77, bA (chg more L (fromL L i nx but z.1))])]) (fun z => [(77, ⟨0, z.2⟩, (fromL L i nx but z.1).map (bRow true))]) (fun z => z.1 ≤ R) (fun z => R - z.1) (0, some (f 105000)) rfl (fun _ => rfl) ?_ (Nat.zero_le _) ?_
  · rw [fromL_zero, chg_self]; rfl
  rintro ⟨k, u⟩ hk
  simp only at hk
  have hk2 := fromL_rows hR hi nx but k
  have hk3 := fromL_step hR hi nx but k
  have hk4 := fromL_row hR hi nx but k
  have hk5 := fromL_le L i nx but k
  have hn2 : nx < n := by omega
  by_cases hlt : k < R
  · obtain ⟨rn, hrn⟩ : ∃ rn, (fromL L i nx but k)[nx]? = some rn := ⟨_, List.getElem?_eq_getElem (by rw [hk2.1]; exact hn2)⟩
    obtain ⟨ri, hri⟩ : ∃ ri, (fromL L i nx but k)[i]? = some ri := ⟨_, List.getElem?_eq_getElem (by rw [hk2.1]; exact hi)⟩
    have hrl : rn.length = R := hk2.2 _ (List.mem_of_getElem? hrn)
    have hil : ri.length = R := hk2.2 _ (List.mem_of_getElem? hri)
    obtain ⟨v, hv⟩ : ∃ v, rn[k]? = some v := ⟨_, List.getElem?_eq_getElem (by omega)⟩
    obtain ⟨v2, hv2⟩ : ∃ v, ri[k]? = some v := ⟨_, List.getElem?_eq_getElem (by omega)⟩
    have hvv : (rowOf L nx).getD k false = v := by
      have e : (fromL L i nx but k).getD nx [] = rn := by rw [List.getD_eq_getElem?_getD, hrn]; rfl
      rw [← hk4]; unfold rowOf; rw [Int.toNat_natCast, e, List.getD_eq_getElem?_getD, hv]; rfl
    rw [hvv] at hk3
    have hx : ((fromL L i nx but k).map (bRow true))[nx]? = some (bRow true rn) := by rw [List.getElem?_map, hrn]; rfl
    have hy : (rn.map bR)[k]? = some (bR v) := by rw [List.getElem?_map, hv]; rfl
    have hS := Set_t (X := X) p (fromL L i nx but k) (chg more L (fromL L i nx but k)) i k hri hv2
    repeat' (first
       | refine wp_seq_i ?_ | refine wp_region_t k_l10From rfl ?_ | refine Run.done rfl ?_ | refine then_n ?_ | refine then_r ?_ | refine then_e ?_ | refine Run.go1 rfl ?_ | refine wp_skip_i ?_ | refine wp_ret_i ?_
       | refine wp_exit_i ?_ | refine wp_block_i ?_ | refine block_n ?_ | refine block_r ?_ | refine block_e ?_ | refine block_o rfl ?_ | refine wp_cond_t rfl ?_ | refine wp_cond_f rfl ?_ | refine Run.gT rfl rfl rfl rfl ?_
       | refine Run.pT rfl rfl ?_ | (refine Run.splitG rfl rfl rfl rfl rfl rfl ?_ ?_ <;> intro _) | (refine Run.splitP rfl rfl rfl rfl ?_ ?_ <;> intro _) | refine Run.ix rfl rfl rfl rfl rfl rfl rfl hx rfl rfl rfl ?_
       | refine Run.ix rfl rfl rfl rfl rfl rfl rfl hy rfl rfl rfl ?_ | refine Run.ldr rfl rfl rfl hx rfl rfl ?_ | refine Run.ldr rfl rfl rfl hy rfl rfl ?_ | refine Run.call rfl rfl rfl (hS) rfl rfl ?_
       | (refine wp_cond_k rfl rfl rfl ?_ ?_ <;> intro _) | (refine wp_cond_i rfl ?_ ?_ <;> intro _))
    · have e1 : fromL L i nx but (k + 1) = setB (fromL L i nx but k) i k := by
        rw [hk3, if_pos]
        simp_all
      have e2 := chg_trans (more := more) hR hk2 hk5 (setB_le (fromL L i nx but k) i k)
      refine back_i [.keep [0, 1, 2, 3, 8] [100000, 10010004000], .ren 10010004000 77] (k + 1, none) rfl ?_ (by simp; omega) (by simp; omega)
      simp only [w_succ hlt (by omega), e1, e2]; first | done | rfl
    · have e1 : fromL L i nx but (k + 1) = fromL L i nx but k := by
        rw [hk3, if_neg]
        simp_all
      refine back_i [.keep [0, 1, 2, 3, 8] [100000, 77]] (k + 1, u) rfl ?_ (by simp; omega) (by simp; omega)
      simp only [w_succ hlt (by omega), e1]; first | done | rfl
    · have e1 : fromL L i nx but (k + 1) = fromL L i nx but k := by
        rw [hk3, if_neg]
        simp_all
      refine back_i [.keep [0, 1, 2, 3, 8] [100000, 77]] (k + 1, u) rfl ?_ (by simp; omega) (by simp; omega)
      simp only [w_succ hlt (by omega), e1]; first | done | rfl
    · exfalso; rename_i h; have h := of_decide_eq_false h; omega
  · have hk6 : k = R := by omega
    subst hk6
    repeat' (first
       | refine wp_seq_i ?_ | refine wp_region_t k_l10From rfl ?_ | refine Run.done rfl ?_ | refine then_n ?_ | refine then_r ?_ | refine then_e ?_ | refine Run.go1 rfl ?_ | refine wp_skip_i ?_ | refine wp_ret_i ?_
       | refine wp_exit_i ?_ | refine wp_block_i ?_ | refine block_n ?_ | refine block_r ?_ | refine block_e ?_ | refine block_o rfl ?_ | refine wp_cond_t rfl ?_ | refine wp_cond_f rfl ?_ | refine Run.gT rfl rfl rfl rfl ?_
       | refine Run.pT rfl rfl ?_ | (refine Run.splitG rfl rfl rfl rfl rfl rfl ?_ ?_ <;> intro _) | (refine Run.splitP rfl rfl rfl rfl ?_ ?_ <;> intro _) | (refine wp_cond_k rfl rfl rfl ?_ ?_ <;> intro _)
       | (refine wp_cond_i rfl ?_ ?_ <;> intro _))
    · exfalso; rename_i h; have h := of_decide_eq_true h; omega
    · refine retn_o [true] [] rfl rfl rfl (by simp) rfl
end Go.Proofs

set_option linter.unusedVariables false
set_option linter.unusedSimpArgs false
set_option maxHeartbeats 4000000
namespace Go.Proofs
open Go Go.Ev
set_option maxRecDepth 100000
variable {X : Rel3}
theorem insB_of {p : Piece} (h : pieceB p = true) {i : Nat} {x : Ins} (hx : p.ins[i]? = some x) : insB p.regs p.ins.length x = true := by
  simp only [pieceB, Bool.and_eq_true] at h
  have h2 := h.2.1
  simp only [allI, List.all_eq_true] at h2
  exact h2 x (List.mem_of_getElem? hx)
theorem regs_of {p : Piece} (h : pieceB p = true) : 0 ≤ p.regs ∧ p.regs ≤ 400 := by
  simp only [pieceB, Bool.and_eq_true] at h
  have := headB_iff.1 h.1
  omega
theorem regB_rng {r regs : Int} (h : regB true r regs = true) : 0 ≤ r ∧ r < regs := by
  unfold regB at h
  have h2 : rng r 0 (regs - 1) = true := by simpa using h
  have := rng_iff.1 h2; omega
theorem rds_in {p : Piece} (h : pieceB p = true) {i : Nat} {x : Ins} (hx : p.ins[i]? = some x) {r : Int} (hr : r ∈ rdsL x) : 0 ≤ r ∧ r < p.regs := by
  have hi := insB_of h hx
  simp only [insB, Bool.and_eq_true] at hi
  obtain ⟨⟨⟨⟨⟨⟨_, _⟩, a3⟩, a4⟩, _⟩, _⟩, a7⟩ := hi
  unfold rdsL at hr
  rw [ascOf_mem, List.mem_append, List.mem_append] at hr
  rcases hr with (hr | hr) | hr
  · split at hr
    · rename_i e
      rw [e] at a3
      obtain rfl : r = x.x := by simpa using hr
      exact regB_rng a3
    · simp at hr
  · split at hr
    · rename_i e
      rw [e] at a4
      obtain rfl : r = x.y := by simpa using hr
      exact regB_rng a4
    · simp at hr
  · split at hr
    · rename_i e
      unfold numB at a7
      rw [if_neg (by omega), if_neg (by omega), if_neg (by omega), if_pos e] at a7
      simp only [Bool.and_eq_true] at a7
      have h1 := a7.1
      simp only [allR, List.all_eq_true] at h1
      have := rng_iff.1 (h1 r hr)
      omega
    · simp at hr
theorem rds_len {p : Piece} (h : pieceB p = true) {i : Nat} {x : Ins} (hx : p.ins[i]? = some x) : x.l.length ≤ 1048576 := by
  have hi := insB_of h hx
  simp only [insB, Bool.and_eq_true] at hi
  obtain ⟨⟨_, a6⟩, a7⟩ := hi
  by_cases e8 : x.op = 8
  · simp [numB, e8] at a7; omega
  · by_cases e14 : x.op = 14
    · simp [numB, e14] at a7; omega
    · simp [e8, e14] at a6; simp [a6]
theorem rdsL_len (x : Ins) : (rdsL x).length ≤ x.l.length + 2 := by
  unfold rdsL
  refine Nat.le_trans (ascOf_len _) ?_
  rw [List.length_append, List.length_append]
  split <;> split <;> split <;> simp <;> omega
theorem norm_in {p : Piece} (h : pieceB p = true) {i : Nat} {x : Ins} (hx : p.ins[i]? = some x) {y : Int} (hy : y ∈ normS x i) : 0 ≤ y ∧ y < p.ins.length := by
  rw [normS_eq, ascOf_mem] at hy
  exact ways_in h hx hy
/-- where an instruction may be guarded: the one that guards it, and where it goes on there -/
theorem guard_in {p : Piece} (h : pieceB p = true) {i : Nat} (hg : 0 ≤ guardI p.ins i) : ∃ (j : Nat) (y : Ins), guardI p.ins i = j ∧ p.ins[j]? = some y ∧ toAt p.ins (guardI p.ins i) = y.to_ ∧ dAt p.ins (guardI p.ins i) = y.d ∧ 0 ≤ y.to_ ∧ y.to_ < p.ins.length := by
  obtain ⟨j, hj, y, hy, h17⟩ := guardI_is hg
  refine ⟨j, y, hj, hy, ?_, ?_, to_at h hy (by simp [uT, h17])⟩
  · unfold toAt; rw [hj, Int.toNat_natCast, hy]
  · unfold dAt; rw [hj, Int.toNat_natCast, hy]
theorem foldSet {n R i : Nat} (hi : i < n) : ∀ (rs : List Int) {L : List (List Bool)}, Rows n R L → Rows n R (rs.foldl (fun L r => setB L i r.toNat) L) ∧ le2 L (rs.foldl (fun L r => setB L i r.toNat) L)
  | [], L, h => ⟨h, le2.refl L⟩
  | x :: rs, L, h => by
    obtain ⟨h1, h2⟩ := foldSet hi rs (setB_rows h hi x.toNat)
    exact ⟨h1, (setB_le L i x.toNat).trans h2⟩
theorem foldFr {n R i : Nat} (hi : i < n) (w : Int) : ∀ (ks : List Int) {L : List (List Bool)}, Rows n R L → Rows n R (ks.foldl (fun L k => fromL L i k w R) L) ∧ le2 L (ks.foldl (fun L k => fromL L i k w R) L)
  | [], L, h => ⟨h, le2.refl L⟩
  | x :: rs, L, h => by
    obtain ⟨h1, h2⟩ := foldFr hi w rs (fromL_rows h hi x w R)
    exact ⟨h1, (fromL_le L i x w R).trans h2⟩
def k_l10New : List (Nat × List Nat) := [(0, [1]), (1, [1, 3]), (2, [1, 3, 4]), (3, [1, 3, 4, 12]), (4, [1, 3, 4]), (5, [1, 3, 4]), (6, [2])]
theorem New_t (p : Piece) (hp : p.ins.length ≤ 600) (hr : 0 ≤ p.regs ∧ p.regs ≤ 400) : Tells Try.prog E0 X 34 [p.a false] (.io [mkA p (init2 p.ins.length p.regs.toNat) false, .u]) := by
  refine Tells.by Try.func34 (by simp [Try.f34]) (Body.i rfl rfl rfl (fun _ => rfl) fun f => ?_)
  repeat' (first
     | refine wp_seq_i ?_ | refine wp_region_t k_l10New rfl ?_ | refine Run.done rfl ?_ | refine then_n ?_ | refine then_r ?_ | refine then_e ?_ | refine Run.go1 rfl ?_ | refine wp_skip_i ?_ | refine wp_ret_i ?_
     | refine wp_exit_i ?_ | refine wp_block_i ?_ | refine block_n ?_ | refine block_r ?_ | refine block_e ?_ | refine block_o rfl ?_ | refine wp_cond_t rfl ?_ | refine wp_cond_f rfl ?_
     | (refine wp_cond_k rfl rfl rfl ?_ ?_ <;> intro _) | (refine wp_cond_i rfl ?_ ?_ <;> intro _))
  refine wp_loop_k (α := Nat) [.nilH 7 4 77, .keep [1, 3, 4] [1, 7, 77]] (fun k => [(4, iA k)]) (fun _ => []) (fun k => [(77, 0, (init2 k p.regs.toNat).map (bRow true))]) (fun k => k ≤ p.ins.length) (fun k => p.ins.length - k) 0 rfl (fun _ => rfl) rfl (Nat.zero_le _) ?_
  intro k hk
  by_cases hlt : k < p.ins.length
  · have hap : ∀ (m : Nat), (init2 k m).map (bRow true) ++ [[T.sl true (List.replicate m [T.sc (.bool false)])]] = (init2 (k + 1) m).map (bRow true) := fun m => by
      simp [init2, List.replicate_succ', bRow]
    repeat' (first
       | refine wp_seq_i ?_ | refine wp_region_t k_l10New rfl ?_ | refine Run.done rfl ?_ | refine then_n ?_ | refine then_r ?_ | refine then_e ?_ | refine Run.go1 rfl ?_ | refine wp_skip_i ?_ | refine wp_ret_i ?_
       | refine wp_exit_i ?_ | refine wp_block_i ?_ | refine block_n ?_ | refine block_r ?_ | refine block_e ?_ | refine block_o rfl ?_ | refine wp_cond_t rfl ?_ | refine wp_cond_f rfl ?_ | refine RunQ.go1 rfl ?_
       | refine RunQ.done rfl ?_ | refine wp_region_l k_l10New [0, 1, 2, 3, 4, 5, 6] [7, 8, 9] [0, 0, 2, 6, 14, 0, 32, 96, 224, 510, 1023, 2047, 4095] rfl (by decide +kernel) (by decide +kernel) rfl rfl ?_
       | refine RunL.cnd2 rfl rfl rfl rfl ⟨by first | omega | (simp; omega), rfl, by first | omega | (simp; omega), by first | omega | (simp; omega)⟩ rfl ?_ | refine RunL.one rfl rfl rfl rfl rfl ?_ | refine RunL.done ?_
       | refine RunL.cnd rfl rfl rfl rfl ⟨by simp [init2]; omega, (by intro r hr; obtain ⟨a, _, rfl⟩ := List.mem_map.1 hr; rfl), by simp, .inl rfl, by first | trivial | (simp [flatT]; done)⟩ rfl ?_ | refine Run.one rfl rfl rfl ?_
       | (refine wp_cond_k rfl rfl rfl ?_ ?_ <;> intro _) | (refine wp_cond_i rfl ?_ ?_ <;> intro _))
    · refine back_i [.keep [1, 3, 4] [1, 7, 24], .ren 24 77] (k + 1) rfl ?_ (by omega) (by omega)
      simp only [w_succ hlt (by omega), ← hap]; first | done | rfl
    · exfalso; rename_i h; have h := of_decide_eq_false h; simp at h; omega
  · have hk2 : k = p.ins.length := by omega
    subst hk2
    repeat' (first
       | refine wp_seq_i ?_ | refine wp_region_t k_l10New rfl ?_ | refine Run.done rfl ?_ | refine then_n ?_ | refine then_r ?_ | refine then_e ?_ | refine Run.go1 rfl ?_ | refine wp_skip_i ?_ | refine wp_ret_i ?_
       | refine wp_exit_i ?_ | refine wp_block_i ?_ | refine block_n ?_ | refine block_r ?_ | refine block_e ?_ | refine block_o rfl ?_ | refine wp_cond_t rfl ?_ | refine wp_cond_f rfl ?_
       | (refine wp_cond_k rfl rfl rfl ?_ ?_ <;> intro _) | (refine wp_cond_i rfl ?_ ?_ <;> intro _))
    · exfalso; rename_i h; have h := of_decide_eq_true h; simp at h
    · refine ret_o [] [] rfl rfl rfl (by simp) rfl
def k_l10Node : List (Nat × List Nat) := [(0, [0, 1, 4]), (1, [0, 1, 4, 5]), (2, [0, 1, 4, 5, 22]), (3, [0, 1, 4, 5]), (4, [0, 1, 4, 5]), (5, [0, 1, 6]), (6, [0, 1, 6, 7]), (7, [0, 1, 6, 7, 8]), (8, [0, 1, 6, 7, 8, 50]), (9, [0, 1, 6, 7, 8]), (10, [0, 1, 6, 7, 8]), (11, [0, 1, 9]), (12, [0, 1, 9, 80]), (13, [])]
theorem Node_t (p : Piece) (L : List (List Bool)) (more : Bool) (i : Nat) (x : Ins) (hb : pieceB p = true) (hok : p.ok) (hx0 : p.ins[i]? = some x) (hR : Rows p.ins.length p.regs.toNat L) : Tells Try.prog E0 X 35 [mkA p L more, iA i] (.io [.tp [], mkA p (nodeS p.ins p.regs.toNat L i x) (chg more L (nodeS p.ins p.regs.toNat L i x)), .u]) := by
  have hi : i < p.ins.length := (List.getElem?_eq_some_iff.1 hx0).1
  have hx : (p.ins.map (Ins.c false))[i]? = some (Ins.c false x) := by rw [List.getElem?_map, hx0]; rfl
  have hxl := rds_len hb hx0
  have hrl := rdsL_len x
  have hreg := regs_of hb
  have hRn : p.regs = (p.regs.toNat : Int) := by omega
  have hnl := normS_len x i
  have hrin : ∀ r ∈ rdsL x, 0 ≤ r ∧ r < p.regs := fun r hr => rds_in hb hx0 hr
  have hnin : ∀ r ∈ normS x i, 0 ≤ r ∧ r < p.ins.length := fun r hr => norm_in hb hx0 hr
  have hfold := foldB hi (rdsL x) hR
  refine Tells.by Try.func35 (by simp [Try.f35]) (Body.i rfl rfl rfl (fun _ => rfl) fun f => ?_)
  repeat' (first
     | refine wp_seq_i ?_ | refine wp_region_t k_l10Node rfl ?_ | refine Run.done rfl ?_ | refine then_n ?_ | refine then_r ?_ | refine then_e ?_ | refine Run.go1 rfl ?_ | refine wp_skip_i ?_ | refine wp_ret_i ?_
     | refine wp_exit_i ?_ | refine wp_block_i ?_ | refine block_n ?_ | refine block_r ?_ | refine block_e ?_ | refine block_o rfl ?_ | refine wp_cond_t rfl ?_ | refine wp_cond_f rfl ?_
     | refine Run.ix rfl rfl rfl rfl rfl rfl rfl hx rfl rfl rfl ?_ | refine Run.call rfl rfl rfl (ReadsS_t x hxl) rfl rfl ?_ | (refine wp_cond_k rfl rfl rfl ?_ ?_ <;> intro _) | (refine wp_cond_i rfl ?_ ?_ <;> intro _))
  refine wp_loop_k (α := Nat × Option Value) [.ren 105000 77, .keep [0, 1, 4, 5] [100000, 18, 77]] (fun z => [(5, iA z.1)]) (fun z => [(100000, [iA p.lam, iA p.in_, iA p.regs, .t (.sl false (p.ins.map (Ins.c false))), .rf 77, bA (chg more L (((rdsL x).take z.1).foldl (fun L r => setB L i r.toNat) L))])]) (fun z => [(77, ⟨0, z.2⟩, (((rdsL x).take z.1).foldl (fun L r => setB L i r.toNat) L).map (bRow true))]) (fun z => z.1 ≤ (rdsL x).length) (fun z => (rdsL x).length - z.1) (0, some (f 105000)) rfl (fun _ => rfl) ?_ (Nat.zero_le _) ?_
  · rw [List.take_zero, List.foldl_nil, chg_self]; rfl
  rintro ⟨k, u⟩ hk
  simp only at hk
  by_cases hlt : k < (rdsL x).length
  · obtain ⟨r, hrk⟩ : ∃ r, (rdsL x)[k]? = some r := ⟨_, List.getElem?_eq_getElem hlt⟩
    have hrr := hrin r (List.mem_of_getElem? hrk)
    obtain ⟨rn, rfl⟩ := Int.eq_ofNat_of_zero_le hrr.1
    have hxr : ((rdsL x).map iR)[k]? = some (iR (rn : Int)) := by rw [List.getElem?_map, hrk]; rfl
    obtain ⟨hF1, hF2⟩ := foldSet (R := p.regs.toNat) hi ((rdsL x).take k) hR
    have hsn : ((rdsL x).take (k + 1)).foldl (fun L r => setB L i r.toNat) L = setB (((rdsL x).take k).foldl (fun L r => setB L i r.toNat) L) i rn := by
      have e : (rdsL x).take (k + 1) = (rdsL x).take k ++ [(rn : Int)] := by
        rw [List.take_succ_eq_append_getElem hlt, (List.getElem?_eq_some_iff.1 hrk).2]
      rw [e, List.foldl_append]; rfl
    have hch := chg_trans (more := more) hR hF1 hF2 (setB_le (((rdsL x).take k).foldl (fun L r => setB L i r.toNat) L) i rn)
    rw [← hsn] at hch
    generalize hG : ((rdsL x).take k).foldl (fun L r => setB L i r.toNat) L = G at *
    obtain ⟨row, hrow⟩ : ∃ row, G[i]? = some row := ⟨_, List.getElem?_eq_getElem (by rw [hF1.1]; exact hi)⟩
    have hrowl : row.length = p.regs.toNat := hF1.2 _ (List.mem_of_getElem? hrow)
    obtain ⟨v, hv⟩ : ∃ v, row[rn]? = some v := ⟨_, List.getElem?_eq_getElem (by omega)⟩
    have hS := Set_t (X := X) p G (chg more L G) i rn hrow hv
    rw [← hsn, hch] at hS
    repeat' (first
       | refine wp_seq_i ?_ | refine wp_region_t k_l10Node rfl ?_ | refine Run.done rfl ?_ | refine then_n ?_ | refine then_r ?_ | refine then_e ?_ | refine Run.go1 rfl ?_ | refine wp_skip_i ?_ | refine wp_ret_i ?_
       | refine wp_exit_i ?_ | refine wp_block_i ?_ | refine block_n ?_ | refine block_r ?_ | refine block_e ?_ | refine block_o rfl ?_ | refine wp_cond_t rfl ?_ | refine wp_cond_f rfl ?_ | refine Run.gT rfl rfl rfl rfl ?_
       | refine Run.pT rfl rfl ?_ | (refine Run.splitG rfl rfl rfl rfl rfl rfl ?_ ?_ <;> intro _) | (refine Run.splitP rfl rfl rfl rfl ?_ ?_ <;> intro _) | refine Run.ix rfl rfl rfl rfl rfl rfl rfl hxr rfl rfl rfl ?_
       | refine Run.ldr rfl rfl rfl hxr rfl rfl ?_ | refine Run.call rfl rfl rfl (hS) rfl rfl ?_ | (refine wp_cond_k rfl rfl rfl ?_ ?_ <;> intro _) | (refine wp_cond_i rfl ?_ ?_ <;> intro _))
    · refine back_i [.keep [0, 1, 4, 5] [100000, 18, 10010004000], .ren 10010004000 77] (k + 1, none) rfl ?_ (by simp; omega) (by simp; omega)
      simp only [w_succ hlt (by omega)]; first | done | rfl
    · exfalso; rename_i h; have h := of_decide_eq_false h; simp at h; omega
  have hk2 : k = (rdsL x).length := by omega
  subst hk2
  rw [List.take_length]
  obtain ⟨hF1, hF2⟩ := foldSet (R := p.regs.toNat) hi (rdsL x) hR
  have hNd : nodeS p.ins p.regs.toNat L i x = if decide (0 ≤ guardI p.ins i) && mayB x.op then fromL ((normS x i).foldl (fun L k => fromL L i k (wrI x) p.regs.toNat) ((rdsL x).foldl (fun L r => setB L i r.toNat) L)) i (toAt p.ins (guardI p.ins i)) (dAt p.ins (guardI p.ins i)) p.regs.toNat else (normS x i).foldl (fun L k => fromL L i k (wrI x) p.regs.toNat) ((rdsL x).foldl (fun L r => setB L i r.toNat) L) := by
    unfold nodeS; rw [hfold]
  rw [hNd]
  generalize (rdsL x).foldl (fun L r => setB L i r.toNat) L = L1 at *
  repeat' (first
     | refine wp_seq_i ?_ | refine wp_region_t k_l10Node rfl ?_ | refine Run.done rfl ?_ | refine then_n ?_ | refine then_r ?_ | refine then_e ?_ | refine Run.go1 rfl ?_ | refine wp_skip_i ?_ | refine wp_ret_i ?_
     | refine wp_exit_i ?_ | refine wp_block_i ?_ | refine block_n ?_ | refine block_r ?_ | refine block_e ?_ | refine block_o rfl ?_ | refine wp_cond_t rfl ?_ | refine wp_cond_f rfl ?_
     | refine Run.ix rfl rfl rfl rfl rfl rfl rfl hx rfl rfl rfl ?_ | refine Run.call rfl rfl rfl (WritesS_t x) rfl rfl ?_ | refine Run.call rfl rfl rfl (Normal_t p i x hok.1 hx0) rfl rfl ?_
     | (refine wp_cond_k rfl rfl rfl ?_ ?_ <;> intro _) | (refine wp_cond_i rfl ?_ ?_ <;> intro _))
  · exfalso; rename_i h; have h := of_decide_eq_true h; simp at h
  refine wp_loop_k (α := Nat × Option Value) [.ren 77 76, .ren 76 77, .keep [0, 1, 6, 7, 8] [100000, 46, 77]] (fun z => [(8, iA z.1)]) (fun z => [(100000, [iA p.lam, iA p.in_, iA p.regs, .t (.sl false (p.ins.map (Ins.c false))), .rf 77, bA (chg more L (((normS x i).take z.1).foldl (fun L k => fromL L i k (wrI x) p.regs.toNat) L1))])]) (fun z => [(77, ⟨0, z.2⟩, (((normS x i).take z.1).foldl (fun L k => fromL L i k (wrI x) p.regs.toNat) L1).map (bRow true))]) (fun z => z.1 ≤ (normS x i).length) (fun z => (normS x i).length - z.1) (0, u) rfl (fun _ => rfl) ?_ (Nat.zero_le _) ?_
  · rw [List.take_zero, List.foldl_nil]; rfl
  rintro ⟨k, u⟩ hk
  simp only at hk
  by_cases hlt : k < (normS x i).length
  · obtain ⟨r, hrk⟩ : ∃ r, (normS x i)[k]? = some r := ⟨_, List.getElem?_eq_getElem hlt⟩
    have hrr := hnin r (List.mem_of_getElem? hrk)
    have hxr : ((normS x i).map iR)[k]? = some (iR r) := by rw [List.getElem?_map, hrk]; rfl
    obtain ⟨hM1, hM2⟩ := foldFr (R := p.regs.toNat) hi (wrI x) ((normS x i).take k) hF1
    have hsn : ((normS x i).take (k + 1)).foldl (fun L k => fromL L i k (wrI x) p.regs.toNat) L1 = fromL (((normS x i).take k).foldl (fun L k => fromL L i k (wrI x) p.regs.toNat) L1) i r (wrI x) p.regs.toNat := by
      have e : (normS x i).take (k + 1) = (normS x i).take k ++ [r] := by
        rw [List.take_succ_eq_append_getElem hlt, (List.getElem?_eq_some_iff.1 hrk).2]
      rw [e, List.foldl_append]; rfl
    have hch := chg_trans (more := more) hR hM1 (hF2.trans hM2) (fromL_le (((normS x i).take k).foldl (fun L k => fromL L i k (wrI x) p.regs.toNat) L1) i r (wrI x) p.regs.toNat)
    rw [← hsn] at hch
    generalize hG : ((normS x i).take k).foldl (fun L k => fromL L i k (wrI x) p.regs.toNat) L1 = G at *
    have hS := From_t (X := X) p G (chg more L G) i r (wrI x) hM1 hi hrr hRn (by omega)
    rw [← hsn, hch] at hS
    repeat' (first
       | refine wp_seq_i ?_ | refine wp_region_t k_l10Node rfl ?_ | refine Run.done rfl ?_ | refine then_n ?_ | refine then_r ?_ | refine then_e ?_ | refine Run.go1 rfl ?_ | refine wp_skip_i ?_ | refine wp_ret_i ?_
       | refine wp_exit_i ?_ | refine wp_block_i ?_ | refine block_n ?_ | refine block_r ?_ | refine block_e ?_ | refine block_o rfl ?_ | refine wp_cond_t rfl ?_ | refine wp_cond_f rfl ?_ | refine Run.gT rfl rfl rfl rfl ?_
       | refine Run.pT rfl rfl ?_ | (refine Run.splitG rfl rfl rfl rfl rfl rfl ?_ ?_ <;> intro _) | (refine Run.splitP rfl rfl rfl rfl ?_ ?_ <;> intro _) | refine Run.ix rfl rfl rfl rfl rfl rfl rfl hxr rfl rfl rfl ?_
       | refine Run.ldr rfl rfl rfl hxr rfl rfl ?_ | refine Run.call rfl rfl rfl (hS) rfl rfl ?_ | (refine wp_cond_k rfl rfl rfl ?_ ?_ <;> intro _) | (refine wp_cond_i rfl ?_ ?_ <;> intro _))
    · refine back_i [.keep [0, 1, 6, 7, 8] [100000, 46, 10010004000], .ren 10010004000 77] (k + 1, none) rfl ?_ (by simp; omega) (by simp; omega)
      simp only [w_succ hlt (by omega)]; first | done | rfl
    · exfalso; rename_i h; have h := of_decide_eq_false h; simp at h; omega
  have hk2 : k = (normS x i).length := by omega
  subst hk2
  rw [List.take_length]
  obtain ⟨hM1, hM2⟩ := foldFr (R := p.regs.toNat) hi (wrI x) (normS x i) hF1
  generalize (normS x i).foldl (fun L k => fromL L i k (wrI x) p.regs.toNat) L1 = L2 at *
  by_cases hg : 0 ≤ guardI p.ins i
  · obtain ⟨j, y, hj, hy0, hto, hdd, ht1, ht2⟩ := guard_in hb hg
    have hy : (p.ins.map (Ins.c false))[j]? = some (Ins.c false y) := by rw [List.getElem?_map, hy0]; rfl
    have hS := From_t (X := X) p L2 (chg more L L2) i y.to_ y.d hM1 hi ⟨ht1, ht2⟩ hRn (by omega)
    have hch := chg_trans (more := more) hR hM1 (hF2.trans hM2) (fromL_le L2 i y.to_ y.d p.regs.toNat)
    rw [hch] at hS
    rw [hto, hdd, decide_eq_true hg, Bool.true_and]
    repeat' (first
       | refine wp_seq_i ?_ | refine wp_region_t k_l10Node rfl ?_ | refine Run.done rfl ?_ | refine then_n ?_ | refine then_r ?_ | refine then_e ?_ | refine Run.go1 rfl ?_ | refine wp_skip_i ?_ | refine wp_ret_i ?_
       | refine wp_exit_i ?_ | refine wp_block_i ?_ | refine block_n ?_ | refine block_r ?_ | refine block_e ?_ | refine block_o rfl ?_ | refine wp_cond_t rfl ?_ | refine wp_cond_f rfl ?_
       | refine wp_region_qt k_l10Node rfl 20 (by decide +kernel) rfl rfl ?_ | refine RunQ.go1 rfl ?_ | refine RunQ.done rfl ?_ | refine Run.gT rfl rfl rfl rfl ?_ | refine Run.pT rfl rfl ?_
       | (refine Run.splitG rfl rfl rfl rfl rfl rfl ?_ ?_ <;> intro _) | (refine Run.splitP rfl rfl rfl rfl ?_ ?_ <;> intro _) | refine RunQ.gT rfl rfl rfl rfl ?_ | refine RunQ.pT rfl rfl ?_
       | (refine RunQ.splitG rfl rfl rfl rfl rfl rfl ?_ ?_ <;> intro _) | (refine RunQ.splitP rfl rfl rfl rfl ?_ ?_ <;> intro _) | refine Run.ix rfl rfl rfl rfl rfl rfl rfl hx rfl rfl rfl ?_
       | refine Run.call rfl rfl rfl (l10Guard_t p i hok.1 hi) rfl rfl ?_ | refine Run.call rfl rfl rfl (l10May_t _) rfl rfl ?_ | refine RunQ.ix rfl rfl rfl rfl rfl rfl hj hy rfl rfl rfl ?_
       | refine Run.call rfl rfl rfl (hS) rfl rfl ?_ | (refine wp_cond_k rfl rfl rfl ?_ ?_ <;> intro _) | (refine wp_cond_i rfl ?_ ?_ <;> intro _))
    all_goals first
    | (have h : decide (guardI p.ins i ≥ 0) = true := by assumption
       exact absurd (of_decide_eq_true h) (by omega))
    | (exfalso; rename_i h; have h := of_decide_eq_true h; simp at h; done)
    | (exfalso; rename_i h; have h := of_decide_eq_true h; omega)
    | (exfalso; rename_i h; have h := of_decide_eq_false h; omega)
    | (have hm : mayB x.op = true := by assumption
       rw [if_pos hm]; exact retn_o [true] [] rfl rfl rfl (by simp) rfl)
    | (have hm : mayB x.op = false := by assumption
       rw [if_neg (by rw [hm]; simp)]; exact retn_o [true] [] rfl rfl rfl (by simp) rfl)
    | (rw [if_neg (by simp)]; exact retn_o [true] [] rfl rfl rfl (by simp) rfl)
    | trace_state
  · rw [decide_eq_false hg, Bool.false_and]
    repeat' (first
       | refine wp_seq_i ?_ | refine wp_region_t k_l10Node rfl ?_ | refine Run.done rfl ?_ | refine then_n ?_ | refine then_r ?_ | refine then_e ?_ | refine Run.go1 rfl ?_ | refine wp_skip_i ?_ | refine wp_ret_i ?_
       | refine wp_exit_i ?_ | refine wp_block_i ?_ | refine block_n ?_ | refine block_r ?_ | refine block_e ?_ | refine block_o rfl ?_ | refine wp_cond_t rfl ?_ | refine wp_cond_f rfl ?_ | refine Run.gT rfl rfl rfl rfl ?_
       | refine Run.pT rfl rfl ?_ | (refine Run.splitG rfl rfl rfl rfl rfl rfl ?_ ?_ <;> intro _) | (refine Run.splitP rfl rfl rfl rfl ?_ ?_ <;> intro _) | refine Run.ix rfl rfl rfl rfl rfl rfl rfl hx rfl rfl rfl ?_
       | refine Run.call rfl rfl rfl (l10Guard_t p i hok.1 hi) rfl rfl ?_ | refine Run.call rfl rfl rfl (l10May_t _) rfl rfl ?_ | (refine wp_cond_k rfl rfl rfl ?_ ?_ <;> intro _) | (refine wp_cond_i rfl ?_ ?_ <;> intro _))
    all_goals first
    | (have h : decide (guardI p.ins i ≥ 0) = true := by assumption
       exact absurd (of_decide_eq_true h) (by omega))
    | (exfalso; rename_i h; have h := of_decide_eq_true h; simp at h; done)
    | (exfalso; rename_i h; have h := of_decide_eq_true h; omega)
    | (exfalso; rename_i h; have h := of_decide_eq_false h; omega)
    | (have hm : mayB x.op = true := by assumption
       rw [if_pos hm]; exact retn_o [true] [] rfl rfl rfl (by simp) rfl)
    | (have hm : mayB x.op = false := by assumption
       rw [if_neg (by rw [hm]; simp)]; exact retn_o [true] [] rfl rfl rfl (by simp) rfl)
    | (rw [if_neg (by simp)]; exact retn_o [true] [] rfl rfl rfl (by simp) rfl)
    | trace_state
end Go.Proofs

set_option linter.unusedVariables false
set_option linter.unusedSimpArgs false
set_option maxHeartbeats 4000000
namespace Go.Proofs
open Go Go.Ev
set_option maxRecDepth 100000
variable {X : Rel3}
theorem nodeS_L {ins : List Ins} {n R : Nat} {L : List (List Bool)} (h : Rows n R L) {i : Nat} (hi : i < n) {x : Ins} (hx : ins[i]? = some x) (hr : ∀ r ∈ rdsL x, 0 ≤ r) : nodeS ins R L i x = nodeL ins R L i := by
  rw [nodeS_eq h hi hr]; unfold nodeL; rw [hx]
def k_l10Solve : List (Nat × List Nat) := [(0, [1]), (1, [1, 3]), (2, [1, 3]), (3, [1, 3, 13]), (4, [1, 3]), (5, [1, 3, 4]), (6, [1, 3, 4, 22]), (7, [1, 3, 4]), (8, [1, 3, 4]), (9, [2])]
theorem Solve_t (p : Piece) (hb : pieceB p = true) (hok : p.ok) : Tells Try.prog E0 X 19 [p.a false] (.io [mkA p (solL p.ins p.regs.toNat) false, .u]) := by
  have hreg := regs_of hb
  have hlen := len_pos hb
  refine Tells.by Try.func19 (by simp [Try.f19]) (Body.i rfl rfl rfl (fun _ => rfl) fun f => ?_)
  repeat' (first
     | refine wp_seq_i ?_ | refine wp_region_t k_l10Solve rfl ?_ | refine Run.done rfl ?_ | refine then_n ?_ | refine then_r ?_ | refine then_e ?_ | refine Run.go1 rfl ?_ | refine wp_skip_i ?_ | refine wp_ret_i ?_
     | refine wp_exit_i ?_ | refine wp_block_i ?_ | refine block_n ?_ | refine block_r ?_ | refine block_e ?_ | refine block_o rfl ?_ | refine wp_cond_t rfl ?_ | refine wp_cond_f rfl ?_
     | refine Run.call rfl rfl rfl (New_t p hlen.2 hreg) rfl rfl ?_ | (refine wp_cond_k rfl rfl rfl ?_ ?_ <;> intro _) | (refine wp_cond_i rfl ?_ ?_ <;> intro _))
  refine wp_loop_k (α := List (List Bool) × Bool × Option Value) [.ren 5006 77, .keep [1, 3] [1, 6, 77]] (fun _ => []) (fun z => [(6, [iA p.lam, iA p.in_, iA p.regs, .t (.sl false (p.ins.map (Ins.c false))), .rf 77, bA z.2.1])]) (fun z => [(77, ⟨0, z.2.2⟩, z.1.map (bRow true))]) (fun z => (Rows p.ins.length p.regs.toNat z.1 ∧ ∃ k, z.1 = iterP p.ins p.regs.toNat k (init2 p.ins.length p.regs.toNat) ∧ k + falses z.1 ≤ p.ins.length * p.regs.toNat) ∧ (z.2.1 = false → passL p.ins p.regs.toNat p.ins.length z.1 = z.1)) (fun z => 2 * falses z.1 + (if z.2.1 then 1 else 0)) (init2 p.ins.length p.regs.toNat, true, none) rfl (fun _ => rfl) rfl ⟨⟨init2_rows _ _, 0, rfl, by simp [init2_falses]⟩, by simp⟩ ?_
  rintro ⟨L, more, u⟩ ⟨⟨hR, k, hk1, hk2⟩, hfix⟩
  simp only at hR hk1 hk2 hfix
  cases more with
  | false =>
    have hsol := solL_of hk1 hk2 (hfix rfl)
    repeat' (first
       | refine wp_seq_i ?_ | refine wp_region_t k_l10Solve rfl ?_ | refine Run.done rfl ?_ | refine then_n ?_ | refine then_r ?_ | refine then_e ?_ | refine Run.go1 rfl ?_ | refine wp_skip_i ?_ | refine wp_ret_i ?_
       | refine wp_exit_i ?_ | refine wp_block_i ?_ | refine block_n ?_ | refine block_r ?_ | refine block_e ?_ | refine block_o rfl ?_ | refine wp_cond_t rfl ?_ | refine wp_cond_f rfl ?_
       | (refine wp_cond_k rfl rfl rfl ?_ ?_ <;> intro _) | (refine wp_cond_i rfl ?_ ?_ <;> intro _))
    refine ret_o [] [] rfl rfl rfl (by simp) ?_
    rw [← hsol]
  | true =>
    clear hfix
    repeat' (first
       | refine wp_seq_i ?_ | refine wp_region_t k_l10Solve rfl ?_ | refine Run.done rfl ?_ | refine then_n ?_ | refine then_r ?_ | refine then_e ?_ | refine Run.go1 rfl ?_ | refine wp_skip_i ?_ | refine wp_ret_i ?_
       | refine wp_exit_i ?_ | refine wp_block_i ?_ | refine block_n ?_ | refine block_r ?_ | refine block_e ?_ | refine block_o rfl ?_ | refine wp_cond_t rfl ?_ | refine wp_cond_f rfl ?_
       | (refine wp_cond_k rfl rfl rfl ?_ ?_ <;> intro _) | (refine wp_cond_i rfl ?_ ?_ <;> intro _))
    refine wp_loop_k (α := Nat × List (List Bool) × Bool × Option Value) [.ren 77 76, .ren 76 77, .keep [1, 3, 4] [1, 6, 77]] (fun z => [(4, iA ((z.1 : Int) - 1))]) (fun z => [(6, [iA p.lam, iA p.in_, iA p.regs, .t (.sl false (p.ins.map (Ins.c false))), .rf 77, bA z.2.2.1])]) (fun z => [(77, ⟨0, z.2.2.2⟩, z.2.1.map (bRow true))]) (fun z => (z.1 ≤ p.ins.length ∧ Rows p.ins.length p.regs.toNat z.2.1 ∧ le2 L z.2.1) ∧ passL p.ins p.regs.toNat z.1 z.2.1 = passL p.ins p.regs.toNat p.ins.length L ∧ z.2.2.1 = chg false L z.2.1) (fun z => z.1) (p.ins.length, L, false, u) rfl (fun _ => rfl) ?_ ⟨⟨Nat.le_refl _, hR, le2.refl L⟩, rfl, by rw [chg_self]⟩ ?_
    · have e : IntKind.i64.wrap (((p.ins.map (Ins.c false)).length : Int) - 1) = (p.ins.length : Int) - 1 := by rw [List.length_map, w64] <;> omega
      simp only [e]; first | done | rfl
    rintro ⟨j, M, mo, u2⟩ ⟨⟨hj, hM1, hM2⟩, hpass, hmo⟩
    simp only at hj hM1 hM2 hpass hmo
    subst hmo
    rcases j with _ | j
    · have hML : M = passL p.ins p.regs.toNat p.ins.length L := hpass
      repeat' (first
         | refine wp_seq_i ?_ | refine wp_region_t k_l10Solve rfl ?_ | refine Run.done rfl ?_ | refine then_n ?_ | refine then_r ?_ | refine then_e ?_ | refine Run.go1 rfl ?_ | refine wp_skip_i ?_ | refine wp_ret_i ?_
         | refine wp_exit_i ?_ | refine wp_block_i ?_ | refine block_n ?_ | refine block_r ?_ | refine block_e ?_ | refine block_o rfl ?_ | refine wp_cond_t rfl ?_ | refine wp_cond_f rfl ?_
         | (refine wp_cond_k rfl rfl rfl ?_ ?_ <;> intro _) | (refine wp_cond_i rfl ?_ ?_ <;> intro _))
      refine back_i [.keep [1, 3] [1, 6, 77]] (M, chg false L M, u2) rfl rfl ⟨⟨hM1, ?_⟩, fun hc => ?_⟩ ?_
      · by_cases e : M = L
        · exact ⟨k, by rw [e]; exact hk1, by rw [e]; exact hk2⟩
        · refine ⟨k + 1, by rw [hML]; exact iterP_snoc hk1, ?_⟩
          rcases falses_lt (by rw [hR.1]; exact hR) (by rw [hR.1]; exact hM1) hM2 with h | h
          · exact absurd h e
          · simp only; omega
      · have e : M = L := by simpa [chg] using hc
        simp only
        have h2 := hML.symm
        rw [e] at h2 ⊢
        exact h2
      · by_cases e : M = L
        · rw [e, chg_self]; simp
        · rcases falses_lt (by rw [hR.1]; exact hR) (by rw [hR.1]; exact hM1) hM2 with h | h
          · exact absurd h e
          · simp only; split <;> simp <;> omega
    · obtain ⟨x, hx0⟩ : ∃ x, p.ins[j]? = some x := ⟨_, List.getElem?_eq_getElem (by omega)⟩
      have hN := nodeS_L hM1 (show j < p.ins.length by omega) hx0 (fun r hr => (rds_in hb hx0 hr).1)
      have e1 : ((j + 1 : Nat) : Int) - 1 = (j : Int) := by omega
      have hS : Tells Try.prog E0 X 35 [mkA p M (chg false L M), iA (((j + 1 : Nat) : Int) - 1)] (.io [.tp [], mkA p (nodeL p.ins p.regs.toNat M j) (chg false L (nodeL p.ins p.regs.toNat M j)), .u]) := by
        have := Node_t (X := X) p M (chg false L M) j x hb hok hx0 hM1
        rw [hN, chg_trans hR hM1 hM2 (nodeL_le hM1 rfl j)] at this
        rw [e1]; exact this
      repeat' (first
         | refine wp_seq_i ?_ | refine wp_region_t k_l10Solve rfl ?_ | refine Run.done rfl ?_ | refine then_n ?_ | refine then_r ?_ | refine then_e ?_ | refine Run.go1 rfl ?_ | refine wp_skip_i ?_ | refine wp_ret_i ?_
         | refine wp_exit_i ?_ | refine wp_block_i ?_ | refine block_n ?_ | refine block_r ?_ | refine block_e ?_ | refine block_o rfl ?_ | refine wp_cond_t rfl ?_ | refine wp_cond_f rfl ?_
         | refine Run.call rfl rfl rfl (hS) rfl rfl ?_ | (refine wp_cond_k rfl rfl rfl ?_ ?_ <;> intro _) | (refine wp_cond_i rfl ?_ ?_ <;> intro _))
      · refine back_i [.keep [1, 3, 4] [1, 6, 10604000], .ren 10604000 77] (j, nodeL p.ins p.regs.toNat M j, chg false L (nodeL p.ins p.regs.toNat M j), none) rfl ?_ ⟨⟨by simp; omega, nodeL_rows hM1 j, hM2.trans (nodeL_le hM1 rfl j)⟩, hpass, rfl⟩ (by simp)
        have e2 : IntKind.i64.wrap (((j + 1 : Nat) : Int) - 1 - 1) = (j : Int) - 1 := by rw [w64] <;> omega
        simp only [e2]; first | done | rfl
      all_goals (exfalso; rename_i h; have h := of_decide_eq_false h; omega)
end Go.Proofs

set_option linter.unusedVariables false
set_option linter.unusedSimpArgs false
set_option maxHeartbeats 4000000
namespace Go.Proofs
open Go Go.Ev
set_option maxRecDepth 100000
variable {X : Rel3}
/-- the first place where something is so -/
def idx {α : Type} (f : α → Bool) : List α → Nat → Int
  | [], _ => -1
  | x :: r, k => if f x then k else idx f r (k + 1)
theorem idx_step {α : Type} {f : α → Bool} {l : List α} {k j : Nat} (h : k < l.length) : idx f (l.drop k) j = if f l[k] then (j : Int) else idx f (l.drop (k + 1)) (j + 1) := by
  rw [List.drop_eq_getElem_cons h, idx]
theorem idx_any {α : Type} {f : α → Bool} {l : List α} {k : Nat} : decide (0 ≤ idx f l k) = l.any f := by
  induction l generalizing k with
  | nil => simp [idx]
  | cons x r ih => simp only [idx, List.any_cons]; split <;> simp_all
theorem idx_lt {α : Type} {f : α → Bool} {l : List α} {k : Nat} : idx f l k < k + l.length := by
  induction l generalizing k with
  | nil => simp [idx]; omega
  | cons x r ih => simp only [idx]; split <;> simp <;> have := ih (k := k + 1) <;> omega
def funAt (l : List Piece) (lam : Int) : Int := idx (fun p => p.lam == lam) l 0
def k_l9Fun : List (Nat × List Nat) := [(0, [1, 2]), (1, [1, 2, 5]), (2, [1, 2, 5, 10]), (3, [1, 2, 5]), (4, [1, 2, 5, 20]), (5, [4]), (6, [4])]
end Go.Proofs

set_option linter.unusedVariables false
set_option linter.unusedSimpArgs false
set_option maxHeartbeats 4000000
namespace Go.Proofs
open Go Go.Ev
set_option maxRecDepth 100000
variable {X : Rel3}
def formL (op : Int) : List UInt8 :=
  if op == 1 || op == 2 then [68, 78] else
  if op == 3 then [68] else
  if op == 4 || op == 9 || op == 10 then [68, 88] else
  if op == 5 then [68, 88, 89, 78] else
  if op == 6 || op == 7 then [68, 88, 89] else
  if op == 8 then [68, 78, 76] else
  if op == 11 || op == 12 then [88, 84] else
  if op == 13 then [84] else
  if op == 14 then [68, 88, 89, 76] else
  if op == 15 || op == 16 then [88] else
  if op == 17 then [68, 84] else
  []
def form (op : Int) : ByteArray := ⟨⟨formL op⟩⟩
def k_insForm : List (Nat × List Nat) := [(0, [0]), (1, [0, 4]), (2, [0, 4, 5]), (3, [0, 4, 5]), (4, [2, 3]), (5, [0, 4, 8]), (6, [2, 3]), (7, [0, 4, 10]), (8, [0, 4, 10]), (9, [0, 4, 10]), (10, [2, 3]), (11, [0, 4, 14]), (12, [2, 3]), (13, [0, 4, 16]), (14, [0, 4, 16]), (15, [2, 3]), (16, [0, 4, 19]), (17, [2, 3]), (18, [0, 4, 21]), (19, [0, 4, 21]), (20, [2, 3]), (21, [0, 4, 24]), (22, [2, 3]), (23, [0, 4, 26]), (24, [2, 3]), (25, [0, 4, 28]), (26, [0, 4, 28]), (27, [2, 3]), (28, [0, 31]), (29, [2, 3]), (30, [2, 3])]
theorem insForm_t (op : Int) : Tells Try.prog E0 X 61 [iA op] (.tp [.t (.sc (.string (form op))), bA (rng op 1 18)]) := by
  refine Tells.by Try.func61 (by simp [Try.f61]) (Body.i rfl rfl rfl (fun _ => rfl) fun f => ?_)
  repeat' (first
     | refine wp_seq_i ?_ | refine wp_region_t k_insForm rfl ?_ | refine Run.done rfl ?_ | refine then_n ?_ | refine then_r ?_ | refine then_e ?_ | refine Run.go1 rfl ?_ | refine wp_skip_i ?_ | refine wp_ret_i ?_
     | refine wp_exit_i ?_ | refine wp_block_i ?_ | refine block_n ?_ | refine block_r ?_ | refine block_e ?_ | refine block_o rfl ?_ | refine wp_cond_t rfl ?_ | refine wp_cond_f rfl ?_
     | (refine wp_cond_k rfl rfl rfl ?_ ?_ <;> intro _) | (refine wp_cond_i rfl ?_ ?_ <;> intro _))
  all_goals (refine ret_m [] rfl rfl ?_)
  any_goals (simp_all [form, formL, rng]; done)
  have e1 : formL op = [] := by simp_all [formL]
  have e2 : rng op 1 18 = (op == 18) := by rw [Bool.eq_iff_iff]; simp [rng]; simp at *; omega
  rw [e2, form, e1]
abbrev uA (n : Int) : AV := .t (.sc (.int .u8 n))
def k_indexB : List (Nat × List Nat) := [(0, [0, 1]), (1, [0, 1, 7, 8]), (2, [0, 1, 7, 8, 9]), (3, [0, 1, 5, 7, 8]), (4, [0, 1, 5, 7, 8, 16]), (5, [4]), (6, [0, 1, 7, 8]), (7, [4])]
theorem indexB_t (l : List Int) (v : Int) (hl : l.length ≤ 1048576) : Tells Try.prog E0 X 76 [.t (.sl false (l.map uR)), uA v] (iA (idx (fun x => v == x) l 0)) := by
  refine Tells.by Try.func76 (by simp [Try.f76]) (Body.i rfl rfl rfl (fun _ => rfl) fun f => ?_)
  repeat' (first
     | refine wp_seq_i ?_ | refine wp_region_t k_indexB rfl ?_ | refine Run.done rfl ?_ | refine then_n ?_ | refine then_r ?_ | refine then_e ?_ | refine Run.go1 rfl ?_ | refine wp_skip_i ?_ | refine wp_ret_i ?_
     | refine wp_exit_i ?_ | refine wp_block_i ?_ | refine block_n ?_ | refine block_r ?_ | refine block_e ?_ | refine block_o rfl ?_ | refine wp_cond_t rfl ?_ | refine wp_cond_f rfl ?_
     | (refine wp_cond_k rfl rfl rfl ?_ ?_ <;> intro _) | (refine wp_cond_i rfl ?_ ?_ <;> intro _))
  refine wp_loop_k (α := Nat) [.keep [0, 1, 7, 8] []] (fun k => [(8, iA k)]) (fun _ => []) (fun _ => []) (fun k => k ≤ l.length ∧ idx (fun x => v == x) (l.drop k) k = idx (fun x => v == x) l 0) (fun k => l.length - k) 0 rfl (fun _ => rfl) rfl ⟨by simp, rfl⟩ ?_
  rintro k ⟨hk, hI⟩
  by_cases hlt : k < l.length
  · have hx : (l.map uR)[k]? = some (uR l[k]) := map_at hlt
    rw [idx_step hlt] at hI
    repeat' (first
       | refine wp_seq_i ?_ | refine wp_region_t k_indexB rfl ?_ | refine Run.done rfl ?_ | refine then_n ?_ | refine then_r ?_ | refine then_e ?_ | refine Run.go1 rfl ?_ | refine wp_skip_i ?_ | refine wp_ret_i ?_
       | refine wp_exit_i ?_ | refine wp_block_i ?_ | refine block_n ?_ | refine block_r ?_ | refine block_e ?_ | refine block_o rfl ?_ | refine wp_cond_t rfl ?_ | refine wp_cond_f rfl ?_
       | refine Run.ix rfl rfl rfl rfl rfl rfl rfl hx rfl rfl rfl ?_ | (refine wp_cond_k rfl rfl rfl ?_ ?_ <;> intro _) | (refine wp_cond_i rfl ?_ ?_ <;> intro _))
    · rename_i h1 h2
      refine ret_m [] rfl rfl ?_
      rw [← hI, if_pos h2]
    · rename_i h1 h2
      refine back_i [.keep [0, 1, 7, 8] []] (k + 1) rfl ?_ ⟨by omega, ?_⟩ (by omega)
      · simp only [w_succ hlt (by omega)]
      · rw [← hI, if_neg (by simpa using h2)]
    · rename_i h; simp [hlt] at h
  · have hk : k = l.length := by omega
    subst hk
    simp [idx] at hI
    repeat' (first
       | refine wp_seq_i ?_ | refine wp_region_t k_indexB rfl ?_ | refine Run.done rfl ?_ | refine then_n ?_ | refine then_r ?_ | refine then_e ?_ | refine Run.go1 rfl ?_ | refine wp_skip_i ?_ | refine wp_ret_i ?_
       | refine wp_exit_i ?_ | refine wp_block_i ?_ | refine block_n ?_ | refine block_r ?_ | refine block_e ?_ | refine block_o rfl ?_ | refine wp_cond_t rfl ?_ | refine wp_cond_f rfl ?_
       | (refine wp_cond_k rfl rfl rfl ?_ ?_ <;> intro _) | (refine wp_cond_i rfl ?_ ?_ <;> intro _))
    · rename_i h; simp at h
    · refine ret_m [] rfl rfl ?_; rw [hI]
def hasB (b : List UInt8) (v : Int) : Bool := b.any fun c => v == (c.toNat : Int)
theorem containsB_t (b : ByteArray) (v : Int) (hl : b.data.toList.length ≤ 1048576) : Tells Try.prog E0 X 72 [.t (.sl false (byteRows b)), uA v] (bA (hasB b.data.toList v)) := by
  have e : byteRows b = (b.data.toList.map fun c => (c.toNat : Int)).map uR := by simp [byteRows]
  have hc := indexB_t (X := X) (b.data.toList.map fun c => (c.toNat : Int)) v (by simpa using hl)
  have hi : decide (0 ≤ idx (fun x => v == x) (b.data.toList.map fun c => (c.toNat : Int)) 0) = hasB b.data.toList v := by rw [idx_any, List.any_map]; rfl
  rw [← e] at hc
  refine Tells.by Try.func72 (by simp [Try.f72]) (Body.i rfl rfl rfl (fun _ => rfl) fun f => ?_)
  repeat' (first
     | refine wp_seq_i ?_ | refine wp_region_i ?_ | refine Run.done rfl ?_ | refine then_n ?_ | refine then_r ?_ | refine then_e ?_ | refine Run.go1 rfl ?_ | refine wp_skip_i ?_ | refine wp_ret_i ?_ | refine wp_exit_i ?_
     | refine wp_block_i ?_ | refine block_n ?_ | refine block_r ?_ | refine block_e ?_ | refine block_o rfl ?_ | refine wp_cond_t rfl ?_ | refine wp_cond_f rfl ?_ | refine Run.call rfl rfl rfl (hc) rfl rfl ?_
     | (refine wp_cond_k rfl rfl rfl ?_ ?_ <;> intro _) | (refine wp_cond_i rfl ?_ ?_ <;> intro _))
  all_goals (refine ret_m [] rfl rfl ?_; rw [← hi])
theorem form_len (op : Int) : (formL op).length ≤ 1048576 := by
  unfold formL
  repeat' split
  all_goals simp only [List.length_cons, List.length_nil] <;> omega
theorem hasPart_t (op v : Int) : Tells Try.prog E0 X 64 [iA op, uA v] (bA (hasB (formL op) v)) := by
  refine Tells.by Try.func64 (by simp [Try.f64]) (Body.i rfl rfl rfl (fun _ => rfl) fun f => ?_)
  repeat' (first
     | refine wp_seq_i ?_ | refine wp_region_i ?_ | refine Run.done rfl ?_ | refine then_n ?_ | refine then_r ?_ | refine then_e ?_ | refine Run.go1 rfl ?_ | refine wp_skip_i ?_ | refine wp_ret_i ?_ | refine wp_exit_i ?_
     | refine wp_block_i ?_ | refine block_n ?_ | refine block_r ?_ | refine block_e ?_ | refine block_o rfl ?_ | refine wp_cond_t rfl ?_ | refine wp_cond_f rfl ?_ | refine Run.call rfl rfl rfl (insForm_t _) rfl rfl ?_
     | refine Run.call rfl rfl rfl (containsB_t (form op) v (form_len op)) rfl rfl ?_ | refine Run.cnd3 rfl rfl rfl trivial ?_ | (refine wp_cond_k rfl rfl rfl ?_ ?_ <;> intro _) | (refine wp_cond_i rfl ?_ ?_ <;> intro _))
  all_goals (refine ret_m [] rfl rfl ?_; rfl)
theorem partD (op : Int) : hasB (formL op) 68 = uD op := by
  unfold formL
  repeat' split
  all_goals (simp_all [hasB, uD] <;> omega)
theorem hasD_t (op : Int) : Tells Try.prog E0 X 64 [iA op, uA 68] (bA (uD op)) := by have := hasPart_t (X := X) op 68; rwa [partD] at this
theorem partX (op : Int) : hasB (formL op) 88 = uX op := by
  unfold formL
  repeat' split
  all_goals (simp_all [hasB, uX] <;> omega)
theorem hasX_t (op : Int) : Tells Try.prog E0 X 64 [iA op, uA 88] (bA (uX op)) := by have := hasPart_t (X := X) op 88; rwa [partX] at this
theorem partY (op : Int) : hasB (formL op) 89 = uY op := by
  unfold formL
  repeat' split
  all_goals (simp_all [hasB, uY] <;> omega)
theorem hasY_t (op : Int) : Tells Try.prog E0 X 64 [iA op, uA 89] (bA (uY op)) := by have := hasPart_t (X := X) op 89; rwa [partY] at this
theorem partT (op : Int) : hasB (formL op) 84 = uT op := by
  unfold formL
  repeat' split
  all_goals (simp_all [hasB, uT] <;> omega)
theorem hasT_t (op : Int) : Tells Try.prog E0 X 64 [iA op, uA 84] (bA (uT op)) := by have := hasPart_t (X := X) op 84; rwa [partT] at this
theorem fieldOk_t (v : Int) (had : Bool) (n : Int) : Tells Try.prog E0 X 63 [iA v, bA had, iA n] (bA (regB had v n)) := by
  refine Tells.by Try.func63 (by simp [Try.f63]) (Body.i rfl rfl rfl (fun _ => rfl) fun f => ?_)
  repeat' (first
     | refine wp_seq_i ?_ | refine wp_region_i ?_ | refine Run.done rfl ?_ | refine then_n ?_ | refine then_r ?_ | refine then_e ?_ | refine Run.go1 rfl ?_ | refine wp_skip_i ?_ | refine wp_ret_i ?_ | refine wp_exit_i ?_
     | refine wp_block_i ?_ | refine block_n ?_ | refine block_r ?_ | refine block_e ?_ | refine block_o rfl ?_ | refine wp_cond_t rfl ?_ | refine wp_cond_f rfl ?_ | refine Run.gT rfl rfl rfl rfl ?_ | refine Run.pT rfl rfl ?_
     | (refine Run.splitG rfl rfl rfl rfl rfl rfl ?_ ?_ <;> intro _) | (refine Run.splitP rfl rfl rfl rfl ?_ ?_ <;> intro _) | (refine wp_cond_k rfl rfl rfl ?_ ?_ <;> intro _) | (refine wp_cond_i rfl ?_ ?_ <;> intro _))
  all_goals (refine ret_m [] rfl rfl ?_)
  all_goals (simp_all [regB, rng] <;> omega)
def numO (i : Ins) : Bool :=
  if i.op = 1 then rng i.n (-1000000) 1000000
  else if i.op = 2 then rng i.n 0 1
  else if i.op = 5 then rng i.n 1 5
  else if i.op = 8 then rng i.n 0 149 && decide ((i.l.length : Int) < 100)
  else i.n == 0
def k_numOk : List (Nat × List Nat) := [(0, [1]), (1, [1, 4]), (2, [1, 4, 5]), (3, [2]), (4, [1, 4, 10]), (5, [2]), (6, [1, 4, 15]), (7, [2]), (8, [1, 20]), (9, [2]), (10, [2])]
theorem numOk_t (i : Ins) : Tells Try.prog E0 X 62 [i.a false] (bA (numO i)) := by
  refine Tells.by Try.func62 (by simp [Try.f62]) (Body.i rfl rfl rfl (fun _ => rfl) fun f => ?_)
  repeat' (first
     | refine wp_seq_i ?_ | refine wp_region_t k_numOk rfl ?_ | refine Run.done rfl ?_ | refine then_n ?_ | refine then_r ?_ | refine then_e ?_ | refine Run.go1 rfl ?_ | refine wp_skip_i ?_ | refine wp_ret_i ?_
     | refine wp_exit_i ?_ | refine wp_block_i ?_ | refine block_n ?_ | refine block_r ?_ | refine block_e ?_ | refine block_o rfl ?_ | refine wp_cond_t rfl ?_ | refine wp_cond_f rfl ?_ | refine Run.gT rfl rfl rfl rfl ?_
     | refine Run.pT rfl rfl ?_ | (refine Run.splitG rfl rfl rfl rfl rfl rfl ?_ ?_ <;> intro _) | (refine Run.splitP rfl rfl rfl rfl ?_ ?_ <;> intro _) | refine Run.call rfl rfl rfl (in_t _ _ _) rfl rfl ?_
     | (refine wp_cond_k rfl rfl rfl ?_ ?_ <;> intro _) | (refine wp_cond_i rfl ?_ ?_ <;> intro _))
  all_goals (refine ret_m [] rfl rfl ?_; simp_all [numO])
end Go.Proofs

set_option linter.unusedVariables false
set_option linter.unusedSimpArgs false
set_option maxHeartbeats 4000000
namespace Go.Proofs
open Go Go.Ev
set_option maxRecDepth 100000
variable {X : Rel3}
def inOf (l : List Piece) (k : Int) : Int := match l[k.toNat]? with
  | some p => p.in_
  | none => 0
def allF (funs : List Piece) (l : List Int) : Bool := l.all fun lam => !decide (funAt funs lam < 0)
theorem allF_step {funs : List Piece} {l : List Int} {k : Nat} (h : k < l.length) : allF funs (l.drop k) = (!decide (funAt funs l[k] < 0) && allF funs (l.drop (k + 1))) := all_step h
def lamI (funs : List Piece) (i : Ins) : Bool :=
  if i.op = 8 then !decide (funAt funs i.n < 0) && ((i.l.length : Int) == IntKind.i64.wrap (inOf funs (funAt funs i.n) - 1))
  else if i.op = 14 then allF funs i.l else true
def lamsB (funs : List Piece) (l : List Ins) : Bool := l.all (lamI funs)
theorem lamsB_step {funs : List Piece} {l : List Ins} {k : Nat} (h : k < l.length) : lamsB funs (l.drop k) = (lamI funs l[k] && lamsB funs (l.drop (k + 1))) := all_step h
theorem funAt_row {l : List Piece} {n : Int} (h : ¬ funAt l n < 0) : funAt l n = ((funAt l n).toNat : Int) ∧ (l.map (Piece.c false))[(funAt l n).toNat]? = some (Piece.c false ⟨(l[(funAt l n).toNat]?.getD ⟨0, 0, 0, []⟩).lam, inOf l (funAt l n), (l[(funAt l n).toNat]?.getD ⟨0, 0, 0, []⟩).regs, (l[(funAt l n).toNat]?.getD ⟨0, 0, 0, []⟩).ins⟩) := by
  have h1 : funAt l n < l.length := by have := idx_lt (f := fun p : Piece => p.lam == n) (l := l) (k := 0); unfold funAt; omega
  have h2 : (funAt l n).toNat < l.length := by omega
  refine ⟨by omega, ?_⟩
  rw [List.getElem?_map, inOf, List.getElem?_eq_getElem h2]
  rfl
def k_l9Lams : List (Nat × List Nat) := [(0, [2, 3]), (1, [2, 3, 5]), (2, [2, 3, 5, 13]), (3, [2, 3, 5]), (4, [2, 3, 5, 6]), (5, [2, 3, 5, 6, 23]), (6, [2, 3, 5, 6, 7]), (7, [2, 3, 5, 6, 42]), (8, [4]), (9, [2, 3, 5, 6, 8]), (10, [2, 3, 5, 6, 8, 52]), (11, [2, 3, 5, 6, 8]), (12, [2, 3, 5, 6, 8, 62]), (13, [4]), (14, [4])]
def fB (funs : List Piece) (p : Piece) : Bool := !decide (p.lam < 0) && (pieceB p && lamsB funs p.ins)
def allP (funs : List Piece) (l : List Piece) : Bool := l.all (fB funs)
theorem allP_step {funs l : List Piece} {k : Nat} (h : k < l.length) : allP funs (l.drop k) = (fB funs l[k] && allP funs (l.drop (k + 1))) := all_step h
abbrev lamsL (l : List Piece) : List Int := l.map fun p => p.lam
def codeB (c : Code) : Bool := (decide ((c.funs.length : Int) ≤ 200) && c.main.lam == -1) && ((pieceB c.main && lamsB c.funs c.main.ins) && (asc (lamsL c.funs) && allP c.funs c.funs))
theorem lams_step {l : List Piece} {k : Nat} (h : k + 1 < l.length) : asc ((lamsL l).drop k) = (decide (l[k].lam < l[k + 1].lam) && asc ((lamsL l).drop (k + 1))) := by
  rw [asc_step (by simpa using h)]; simp
def k_CodeOkS : List (Nat × List Nat) := [(0, [1]), (1, [1, 27]), (2, [2]), (3, [1, 3]), (4, [1, 3, 32]), (5, [1, 3]), (6, [1, 3, 4]), (7, [1, 3, 69]), (8, [2]), (9, [2])]
end Go.Proofs

set_option linter.unusedVariables false
set_option linter.unusedSimpArgs false
set_option maxHeartbeats 4000000
namespace Go.Proofs
open Go Go.Ev
set_option maxRecDepth 100000
variable {X : Rel3}
def k_indexFI : List (Nat × List Nat) := [(0, [0, 1]), (1, [0, 1, 7, 8]), (2, [0, 1, 7, 8, 9]), (3, [0, 1, 5, 7, 8]), (4, [0, 1, 5, 7, 8, 16]), (5, [4]), (6, [0, 1, 7, 8]), (7, [4])]
theorem indexFI_t (l : List Int) (g : FuncId) (hg : modeOf E0.md g = []) (cs : List T) (p : Int → Bool) (hp : ∀ x ∈ l, Tells Try.prog E0 X g [iA x, .t (.pt cs)] (bA (p x))) (hl : l.length ≤ 1048576) : Tells Try.prog E0 X 73 [.t (.sl false (l.map (iR))), .t (.fn g [.pt cs])] (iA (idx p l 0)) := by
  refine Tells.by Try.func73 (by simp [Try.f73]) (Body.i rfl rfl rfl (fun _ => rfl) fun f => ?_)
  repeat' (first
     | refine wp_seq_i ?_ | refine wp_region_t k_indexFI rfl ?_ | refine Run.done rfl ?_ | refine then_n ?_ | refine then_r ?_ | refine then_e ?_ | refine Run.go1 rfl ?_ | refine wp_skip_i ?_ | refine wp_ret_i ?_
     | refine wp_exit_i ?_ | refine wp_block_i ?_ | refine block_n ?_ | refine block_r ?_ | refine block_e ?_ | refine block_o rfl ?_ | refine wp_cond_t rfl ?_ | refine wp_cond_f rfl ?_
     | (refine wp_cond_k rfl rfl rfl ?_ ?_ <;> intro _) | (refine wp_cond_i rfl ?_ ?_ <;> intro _))
  refine wp_loop_k (α := Nat) [.keep [0, 1, 7, 8] []] (fun k => [(8, iA k)]) (fun _ => []) (fun _ => []) (fun k => k ≤ l.length ∧ idx p (l.drop k) k = idx p l 0) (fun k => l.length - k) 0 rfl (fun _ => rfl) rfl ⟨by simp, rfl⟩ ?_
  rintro k ⟨hk, hI⟩
  by_cases hlt : k < l.length
  · have hx : (l.map (iR))[k]? = some ((iR) l[k]) := map_at hlt
    rw [idx_step hlt] at hI
    repeat' (first
       | refine wp_seq_i ?_ | refine wp_region_t k_indexFI rfl ?_ | refine Run.done rfl ?_ | refine then_n ?_ | refine then_r ?_ | refine then_e ?_ | refine Run.go1 rfl ?_ | refine wp_skip_i ?_ | refine wp_ret_i ?_
       | refine wp_exit_i ?_ | refine wp_block_i ?_ | refine block_n ?_ | refine block_r ?_ | refine block_e ?_ | refine block_o rfl ?_ | refine wp_cond_t rfl ?_ | refine wp_cond_f rfl ?_
       | refine Run.ix rfl rfl rfl rfl rfl rfl rfl hx rfl rfl rfl ?_ | refine Run.callF rfl rfl rfl hg rfl (hp _ (List.getElem_mem hlt)) rfl rfl ?_ | (refine wp_cond_k rfl rfl rfl ?_ ?_ <;> intro _)
       | (refine wp_cond_i rfl ?_ ?_ <;> intro _))
    · rename_i h1 h2
      refine ret_m [] rfl rfl ?_
      rw [← hI, if_pos h2]
    · rename_i h1 h2
      refine back_i [.keep [0, 1, 7, 8] []] (k + 1) rfl ?_ ⟨by omega, ?_⟩ (by omega)
      · simp only [w_succ hlt (by omega)]
      · rw [← hI, if_neg (by simpa using h2)]
    · rename_i h; simp [hlt] at h
  · have hk : k = l.length := by omega
    subst hk
    simp [idx] at hI
    repeat' (first
       | refine wp_seq_i ?_ | refine wp_region_t k_indexFI rfl ?_ | refine Run.done rfl ?_ | refine then_n ?_ | refine then_r ?_ | refine then_e ?_ | refine Run.go1 rfl ?_ | refine wp_skip_i ?_ | refine wp_ret_i ?_
       | refine wp_exit_i ?_ | refine wp_block_i ?_ | refine block_n ?_ | refine block_r ?_ | refine block_e ?_ | refine block_o rfl ?_ | refine wp_cond_t rfl ?_ | refine wp_cond_f rfl ?_
       | (refine wp_cond_k rfl rfl rfl ?_ ?_ <;> intro _) | (refine wp_cond_i rfl ?_ ?_ <;> intro _))
    · rename_i h; simp at h
    · refine ret_m [] rfl rfl ?_; rw [hI]
theorem containsFI_t (l : List Int) (g : FuncId) (hg : modeOf E0.md g = []) (cs : List T) (p : Int → Bool) (hp : ∀ x ∈ l, Tells Try.prog E0 X g [iA x, .t (.pt cs)] (bA (p x))) (hl : l.length ≤ 1048576) : Tells Try.prog E0 X 65 [.t (.sl false (l.map (iR))), .t (.fn g [.pt cs])] (bA (l.any p)) := by
  have hi := idx_any (f := p) (l := l) (k := 0)
  refine Tells.by Try.func65 (by simp [Try.f65]) (Body.i rfl rfl rfl (fun _ => rfl) fun f => ?_)
  repeat' (first
     | refine wp_seq_i ?_ | refine wp_region_i ?_ | refine Run.done rfl ?_ | refine then_n ?_ | refine then_r ?_ | refine then_e ?_ | refine Run.go1 rfl ?_ | refine wp_skip_i ?_ | refine wp_ret_i ?_ | refine wp_exit_i ?_
     | refine wp_block_i ?_ | refine block_n ?_ | refine block_r ?_ | refine block_e ?_ | refine block_o rfl ?_ | refine wp_cond_t rfl ?_ | refine wp_cond_f rfl ?_
     | refine Run.call rfl rfl rfl (indexFI_t l g hg cs p hp hl) rfl rfl ?_ | (refine wp_cond_k rfl rfl rfl ?_ ?_ <;> intro _) | (refine wp_cond_i rfl ?_ ?_ <;> intro _))
  all_goals (refine ret_m [] rfl rfl ?_; rw [← hi])
def k_indexFIns : List (Nat × List Nat) := [(0, [0, 1]), (1, [0, 1, 7, 8]), (2, [0, 1, 7, 8, 9]), (3, [0, 1, 5, 7, 8]), (4, [0, 1, 5, 7, 8, 16]), (5, [4]), (6, [0, 1, 7, 8]), (7, [4])]
theorem indexFIns_t (l : List Ins) (g : FuncId) (hg : modeOf E0.md g = []) (cs : List T) (p : Ins → Bool) (hp : ∀ x ∈ l, Tells Try.prog E0 X g [x.a false, .t (.pt cs)] (bA (p x))) (hl : l.length ≤ 1048576) : Tells Try.prog E0 X 60 [.t (.sl false (l.map (Ins.c false))), .t (.fn g [.pt cs])] (iA (idx p l 0)) := by
  refine Tells.by Try.func60 (by simp [Try.f60]) (Body.i rfl rfl rfl (fun _ => rfl) fun f => ?_)
  repeat' (first
     | refine wp_seq_i ?_ | refine wp_region_t k_indexFIns rfl ?_ | refine Run.done rfl ?_ | refine then_n ?_ | refine then_r ?_ | refine then_e ?_ | refine Run.go1 rfl ?_ | refine wp_skip_i ?_ | refine wp_ret_i ?_
     | refine wp_exit_i ?_ | refine wp_block_i ?_ | refine block_n ?_ | refine block_r ?_ | refine block_e ?_ | refine block_o rfl ?_ | refine wp_cond_t rfl ?_ | refine wp_cond_f rfl ?_
     | (refine wp_cond_k rfl rfl rfl ?_ ?_ <;> intro _) | (refine wp_cond_i rfl ?_ ?_ <;> intro _))
  refine wp_loop_k (α := Nat) [.keep [0, 1, 7, 8] []] (fun k => [(8, iA k)]) (fun _ => []) (fun _ => []) (fun k => k ≤ l.length ∧ idx p (l.drop k) k = idx p l 0) (fun k => l.length - k) 0 rfl (fun _ => rfl) rfl ⟨by simp, rfl⟩ ?_
  rintro k ⟨hk, hI⟩
  by_cases hlt : k < l.length
  · have hx : (l.map (Ins.c false))[k]? = some ((Ins.c false) l[k]) := map_at hlt
    rw [idx_step hlt] at hI
    repeat' (first
       | refine wp_seq_i ?_ | refine wp_region_t k_indexFIns rfl ?_ | refine Run.done rfl ?_ | refine then_n ?_ | refine then_r ?_ | refine then_e ?_ | refine Run.go1 rfl ?_ | refine wp_skip_i ?_ | refine wp_ret_i ?_
       | refine wp_exit_i ?_ | refine wp_block_i ?_ | refine block_n ?_ | refine block_r ?_ | refine block_e ?_ | refine block_o rfl ?_ | refine wp_cond_t rfl ?_ | refine wp_cond_f rfl ?_
       | refine Run.ix rfl rfl rfl rfl rfl rfl rfl hx rfl rfl rfl ?_ | refine Run.callF rfl rfl rfl hg rfl (hp _ (List.getElem_mem hlt)) rfl rfl ?_ | (refine wp_cond_k rfl rfl rfl ?_ ?_ <;> intro _)
       | (refine wp_cond_i rfl ?_ ?_ <;> intro _))
    · rename_i h1 h2
      refine ret_m [] rfl rfl ?_
      rw [← hI, if_pos h2]
    · rename_i h1 h2
      refine back_i [.keep [0, 1, 7, 8] []] (k + 1) rfl ?_ ⟨by omega, ?_⟩ (by omega)
      · simp only [w_succ hlt (by omega)]
      · rw [← hI, if_neg (by simpa using h2)]
    · rename_i h; simp [hlt] at h
  · have hk : k = l.length := by omega
    subst hk
    simp [idx] at hI
    repeat' (first
       | refine wp_seq_i ?_ | refine wp_region_t k_indexFIns rfl ?_ | refine Run.done rfl ?_ | refine then_n ?_ | refine then_r ?_ | refine then_e ?_ | refine Run.go1 rfl ?_ | refine wp_skip_i ?_ | refine wp_ret_i ?_
       | refine wp_exit_i ?_ | refine wp_block_i ?_ | refine block_n ?_ | refine block_r ?_ | refine block_e ?_ | refine block_o rfl ?_ | refine wp_cond_t rfl ?_ | refine wp_cond_f rfl ?_
       | (refine wp_cond_k rfl rfl rfl ?_ ?_ <;> intro _) | (refine wp_cond_i rfl ?_ ?_ <;> intro _))
    · rename_i h; simp at h
    · refine ret_m [] rfl rfl ?_; rw [hI]
theorem containsFIns_t (l : List Ins) (g : FuncId) (hg : modeOf E0.md g = []) (cs : List T) (p : Ins → Bool) (hp : ∀ x ∈ l, Tells Try.prog E0 X g [x.a false, .t (.pt cs)] (bA (p x))) (hl : l.length ≤ 1048576) : Tells Try.prog E0 X 39 [.t (.sl false (l.map (Ins.c false))), .t (.fn g [.pt cs])] (bA (l.any p)) := by
  have hi := idx_any (f := p) (l := l) (k := 0)
  refine Tells.by Try.func39 (by simp [Try.f39]) (Body.i rfl rfl rfl (fun _ => rfl) fun f => ?_)
  repeat' (first
     | refine wp_seq_i ?_ | refine wp_region_i ?_ | refine Run.done rfl ?_ | refine then_n ?_ | refine then_r ?_ | refine then_e ?_ | refine Run.go1 rfl ?_ | refine wp_skip_i ?_ | refine wp_ret_i ?_ | refine wp_exit_i ?_
     | refine wp_block_i ?_ | refine block_n ?_ | refine block_r ?_ | refine block_e ?_ | refine block_o rfl ?_ | refine wp_cond_t rfl ?_ | refine wp_cond_f rfl ?_
     | refine Run.call rfl rfl rfl (indexFIns_t l g hg cs p hp hl) rfl rfl ?_ | (refine wp_cond_k rfl rfl rfl ?_ ?_ <;> intro _) | (refine wp_cond_i rfl ?_ ?_ <;> intro _))
  all_goals (refine ret_m [] rfl rfl ?_; rw [← hi])
def k_indexFP : List (Nat × List Nat) := [(0, [0, 1]), (1, [0, 1, 7, 8]), (2, [0, 1, 7, 8, 9]), (3, [0, 1, 5, 7, 8]), (4, [0, 1, 5, 7, 8, 16]), (5, [4]), (6, [0, 1, 7, 8]), (7, [4])]
end Go.Proofs

set_option linter.unusedVariables false
set_option linter.unusedSimpArgs false
set_option maxHeartbeats 4000000
namespace Go.Proofs
open Go Go.Ev
set_option maxRecDepth 100000
variable {X : Rel3}
theorem insOk1_t (p : Piece) (r : Int) (hr : 0 ≤ p.regs ∧ p.regs ≤ 400) : Tells Try.prog E0 X 66 [iA r, .t (.pt (Piece.c false p))] (bA (!rng r 0 (p.regs - 1))) := by
  have hw : IntKind.i64.wrap (p.regs - 1) = p.regs - 1 := w_pred (by omega) (by omega)
  refine Tells.by Try.func66 (by simp [Try.f66]) (Body.i rfl rfl rfl (fun _ => rfl) fun f => ?_)
  repeat' (first
     | refine wp_seq_i ?_ | refine wp_region_i ?_ | refine Run.done rfl ?_ | refine then_n ?_ | refine then_r ?_ | refine then_e ?_ | refine Run.go1 rfl ?_ | refine wp_skip_i ?_ | refine wp_ret_i ?_ | refine wp_exit_i ?_
     | refine wp_block_i ?_ | refine block_n ?_ | refine block_r ?_ | refine block_e ?_ | refine block_o rfl ?_ | refine wp_cond_t rfl ?_ | refine wp_cond_f rfl ?_ | refine Run.call rfl rfl rfl (in_t _ _ _) rfl rfl ?_
     | (refine wp_cond_k rfl rfl rfl ?_ ?_ <;> intro _) | (refine wp_cond_i rfl ?_ ?_ <;> intro _))
  all_goals (refine ret_m [] rfl rfl ?_; simp [hw])
theorem allR_any {l : List Int} {hi : Int} : (!(l.any fun r => !rng r 0 hi)) = allR l hi := by
  simp only [allR, List.all_eq_not_any_not]
theorem numO_false (regs : Int) (i : Ins) (h : numO i = false) : numB regs i = false := by
  revert h; unfold numB numO; repeat' split
  all_goals simp_all
def k_insOk : List (Nat × List Nat) := [(0, [2, 3]), (1, [2, 3, 6]), (2, [2, 3, 33]), (3, [4]), (4, [2, 3, 64]), (5, [4]), (6, [2, 3, 67]), (7, [4]), (8, [3, 74, 75, 76]), (9, [3, 74, 75, 76, 77]), (10, [3, 7, 8, 74, 75, 76]), (11, [3, 74, 75, 76, 103]), (12, [4]), (13, [3, 74, 75, 76]), (14, [4])]
theorem insOk_t (p : Piece) (i : Ins) (hr : 0 ≤ p.regs ∧ p.regs ≤ 400) (hn : p.ins.length ≤ 600) (hl : i.l.length ≤ 1048576) : Tells Try.prog E0 X 41 [p.a false, i.a false] (bA (insB p.regs p.ins.length i)) := by
  have har := allR_any (l := i.l) (hi := p.regs - 1)
  have hT : regB (uT i.op) i.to_ p.ins.length = (if uT i.op then rng i.to_ 0 (p.ins.length - 1) else i.to_ == 0) := rfl
  refine Tells.by Try.func41 (by simp [Try.f41]) (Body.i rfl rfl rfl (fun _ => rfl) fun f => ?_)
  repeat' (first
     | refine wp_seq_i ?_ | refine wp_region_t k_insOk rfl ?_ | refine Run.done rfl ?_ | refine then_n ?_ | refine then_r ?_ | refine then_e ?_ | refine Run.go1 rfl ?_ | refine wp_skip_i ?_ | refine wp_ret_i ?_
     | refine wp_exit_i ?_ | refine wp_block_i ?_ | refine block_n ?_ | refine block_r ?_ | refine block_e ?_ | refine block_o rfl ?_ | refine wp_cond_t rfl ?_ | refine wp_cond_f rfl ?_
     | refine wp_region_qt k_insOk rfl 19 (by decide +kernel) rfl rfl ?_ | refine wp_region_qt k_insOk rfl 31 (by decide +kernel) rfl rfl ?_ | refine RunQ.go1 rfl ?_ | refine RunQ.done rfl ?_ | refine Run.gT rfl rfl rfl rfl ?_
     | refine Run.pT rfl rfl ?_ | (refine Run.splitG rfl rfl rfl rfl rfl rfl ?_ ?_ <;> intro _) | (refine Run.splitP rfl rfl rfl rfl ?_ ?_ <;> intro _) | refine RunQ.gT rfl rfl rfl rfl ?_ | refine RunQ.pT rfl rfl ?_
     | (refine RunQ.splitG rfl rfl rfl rfl rfl rfl ?_ ?_ <;> intro _) | (refine RunQ.splitP rfl rfl rfl rfl ?_ ?_ <;> intro _) | refine Run.call rfl rfl rfl (insForm_t _) rfl rfl ?_
     | refine Run.call rfl rfl rfl (numOk_t i) rfl rfl ?_ | refine Run.call rfl rfl rfl (hasT_t _) rfl rfl ?_ | refine Run.call rfl rfl rfl (hasD_t _) rfl rfl ?_ | refine Run.call rfl rfl rfl (hasX_t _) rfl rfl ?_
     | refine Run.call rfl rfl rfl (hasY_t _) rfl rfl ?_ | refine Run.call rfl rfl rfl (fieldOk_t _ _ _) rfl rfl ?_ | refine RunQ.call rfl rfl rfl rfl rfl rfl (insForm_t _) (.inl rfl) rfl rfl ?_
     | refine RunQ.call rfl rfl rfl rfl rfl rfl (numOk_t i) (.inl rfl) rfl rfl ?_ | refine RunQ.call rfl rfl rfl rfl rfl rfl (hasT_t _) (.inl rfl) rfl rfl ?_
     | refine RunQ.call rfl rfl rfl rfl rfl rfl (hasD_t _) (.inl rfl) rfl rfl ?_ | refine RunQ.call rfl rfl rfl rfl rfl rfl (hasX_t _) (.inl rfl) rfl rfl ?_
     | refine RunQ.call rfl rfl rfl rfl rfl rfl (hasY_t _) (.inl rfl) rfl rfl ?_ | refine RunQ.call rfl rfl rfl rfl rfl rfl (fieldOk_t _ _ _) (.inl rfl) rfl rfl ?_
     | refine Run.callB rfl rfl rfl (containsFI_t i.l 66 rfl (Piece.c false p) (fun r => !rng r 0 (p.regs - 1)) (fun r _ => insOk1_t p r hr) hl) (by simp [AV.own, T.own]) rfl ?_
     | (refine wp_cond_k rfl rfl rfl ?_ ?_ <;> intro _) | (refine wp_cond_i rfl ?_ ?_ <;> intro _))
  any_goals (refine ret_m [] rfl rfl ?_; simp only [har]; clear har; simp_all [insB, numB, numO]; done)
  any_goals (refine ret_m [] rfl rfl ?_; clear har; first | (simp_all [insB]; done) | (cases hu : uT i.op <;> simp_all [insB]; done) | (have := numO_false p.regs i; simp_all [insB]; done) | (simp_all [insB, numB, numO]; done))
  all_goals try (exfalso; simp_all; done)
  all_goals (
    have hA0 : i.l.length = 0 → asc i.l = true := by intro h; have : i.l = [] := List.eq_nil_of_length_eq_zero h; simp [this, asc]
    refine wp_loop_k (α := Nat) [.keep [2, 3, 74, 75, 76] [2, 3]] (fun k => [(76, iA k)]) (fun _ => []) (fun _ => []) (fun k => k ≤ i.l.length ∧ asc (i.l.drop (k - 1)) = asc i.l ∧ (0 < k → i.op = 14 ∧ (i.l.length : Int) ≤ 200)) (fun k => i.l.length - k) 0 rfl (fun _ => rfl) rfl ⟨by simp, by simp, by simp⟩ ?_
    rintro k ⟨hk, hA, hB⟩
    by_cases hlt : k < i.l.length
    · have hx : (i.l.map iR)[k]? = some (iR i.l[k]) := map_at hlt
      have hy : (i.l.map iR)[k - 1]? = some (iR (i.l[k - 1]'(by omega))) := map_at (by omega)
      have hkk : decide ((k : Int) > 0) = true → IntKind.i64.wrap ((k : Int) - 1) = ((k - 1 : Nat) : Int) := by intro h; simp at h; rw [w_pred] <;> omega
      have hA1 : 0 < k → asc i.l = (decide ((i.l[k - 1]'(by omega)) < i.l[k]) && asc (i.l.drop k)) := by
        intro h
        obtain ⟨j, rfl⟩ : ∃ j, k = j + 1 := ⟨k - 1, by omega⟩
        rw [← hA]; exact asc_step hlt
      have hA2 : k = 0 → asc (i.l.drop k) = asc i.l := by rintro rfl; simp
      repeat' (first
         | refine wp_seq_i ?_ | refine wp_region_t k_insOk rfl ?_ | refine Run.done rfl ?_ | refine then_n ?_ | refine then_r ?_ | refine then_e ?_ | refine Run.go1 rfl ?_ | refine wp_skip_i ?_ | refine wp_ret_i ?_
         | refine wp_exit_i ?_ | refine wp_block_i ?_ | refine block_n ?_ | refine block_r ?_ | refine block_e ?_ | refine block_o rfl ?_ | refine wp_cond_t rfl ?_ | refine wp_cond_f rfl ?_ | refine Run.gT rfl rfl rfl rfl ?_
         | refine Run.pT rfl rfl ?_ | (refine Run.splitG rfl rfl rfl rfl rfl rfl ?_ ?_ <;> intro _) | (refine Run.splitP rfl rfl rfl rfl ?_ ?_ <;> intro _) | refine Run.ix rfl rfl rfl rfl rfl rfl rfl hx rfl rfl rfl ?_
         | refine Run.ix rfl rfl rfl rfl rfl rfl (hkk (by assumption)) hy rfl rfl rfl ?_ | (refine wp_cond_k rfl rfl rfl ?_ ?_ <;> intro _) | (refine wp_cond_i rfl ?_ ?_ <;> intro _))
      all_goals first
      | (rename_i h; simp [hlt] at h; done)
      | (exfalso; clear hA hA0 hA1 hA2 hB har; simp_all; done)
      | (refine ret_m [] rfl rfl ?_
         have hl : (0 < k ∧ ¬ (i.l[k - 1]'(by omega)) < i.l[k]) ∨ i.op ≠ 14 ∨ 200 < (i.l.length : Int) := by
           clear hA hA0 hA1 hA2 hB har
           rcases Nat.eq_zero_or_pos k with h0 | h0 <;> simp_all
         have hlp : (0 : Int) < i.l.length := by omega
         have hnb : numB p.regs i = false ∨ i.op ≠ 14 := by
           by_cases h14 : i.op = 14
           · left
             rcases hl with ⟨h0, hl⟩ | hl | hl
             · have := hA1 h0; simp [hl] at this; simp [numB, h14, this]
             · exact absurd h14 hl
             · simp [numB, h14]; omega
           · exact .inr h14
         clear hA hA0 hA1 hA2 hB har hl
         rcases hnb with h | h <;> simp_all [insB])
      | (refine back_i [.keep [2, 3, 74, 75, 76] [2, 3]] (k + 1) rfl ?_ ⟨by omega, ?_, ?_⟩ (by omega)
         · simp only [w_succ hlt (by omega)]
         · rcases Nat.eq_zero_or_pos k with h0 | h0
           · exact hA2 h0
           · have hq := hA1 h0
             have hl : (i.l[k - 1]'(by omega)) < i.l[k] := by clear hA0 hA1 hA2 hA hB har hq; simp_all
             rw [hq]; simp [hl]
         · intro _; clear hA0 hA1 hA2 hA hB har; simp_all)
    · have hk : k = i.l.length := by omega
      subst hk
      have hA : asc i.l = true := by rw [← hA]; exact asc_end (by omega)
      repeat' (first
         | refine wp_seq_i ?_ | refine wp_region_t k_insOk rfl ?_ | refine Run.done rfl ?_ | refine then_n ?_ | refine then_r ?_ | refine then_e ?_ | refine Run.go1 rfl ?_ | refine wp_skip_i ?_ | refine wp_ret_i ?_
         | refine wp_exit_i ?_ | refine wp_block_i ?_ | refine block_n ?_ | refine block_r ?_ | refine block_e ?_ | refine block_o rfl ?_ | refine wp_cond_t rfl ?_ | refine wp_cond_f rfl ?_
         | (refine wp_cond_k rfl rfl rfl ?_ ?_ <;> intro _) | (refine wp_cond_i rfl ?_ ?_ <;> intro _))
      · rename_i h; simp at h
      · refine ret_m [] rfl rfl ?_
        clear har hA0
        rcases Nat.eq_zero_or_pos i.l.length with h0 | h0
        · have hnil : i.l = [] := List.eq_nil_of_length_eq_zero h0
          clear hB
          simp_all [insB, numB, numO]
        · have := hB h0
          clear hB
          simp_all [insB, numB, numO])
end Go.Proofs

set_option linter.unusedVariables false
set_option linter.unusedSimpArgs false
set_option maxHeartbeats 4000000
namespace Go.Proofs
open Go Go.Ev
set_option maxRecDepth 100000
variable {X : Rel3}
theorem pieceOk1_t (p : Piece) (i : Ins) (hr : 0 ≤ p.regs ∧ p.regs ≤ 400) (hn : p.ins.length ≤ 600) (hl : i.l.length ≤ 1048576) : Tells Try.prog E0 X 40 [i.a false, .t (.pt (Piece.c false p))] (bA (!insB p.regs p.ins.length i)) := by
  refine Tells.by Try.func40 (by simp [Try.f40]) (Body.i rfl rfl rfl (fun _ => rfl) fun f => ?_)
  repeat' (first
     | refine wp_seq_i ?_ | refine wp_region_i ?_ | refine Run.done rfl ?_ | refine then_n ?_ | refine then_r ?_ | refine then_e ?_ | refine Run.go1 rfl ?_ | refine wp_skip_i ?_ | refine wp_ret_i ?_ | refine wp_exit_i ?_
     | refine wp_block_i ?_ | refine block_n ?_ | refine block_r ?_ | refine block_e ?_ | refine block_o rfl ?_ | refine wp_cond_t rfl ?_ | refine wp_cond_f rfl ?_ | refine Run.call rfl rfl rfl (insOk_t p i hr hn hl) rfl rfl ?_
     | (refine wp_cond_k rfl rfl rfl ?_ ?_ <;> intro _) | (refine wp_cond_i rfl ?_ ?_ <;> intro _))
  all_goals (refine ret_m [] rfl rfl ?_; rfl)
theorem allI_any {l : List Ins} {r n : Int} : (l.any fun i => !insB r n i) = !allI r n l := by
  simp only [allI, List.all_eq_not_any_not, Bool.not_not]
def k_pieceOk : List (Nat × List Nat) := [(0, [1]), (1, [1, 3]), (2, [1, 3, 28]), (3, [2]), (4, [2])]
theorem pieceOk_t (p : Piece) (hp : p.ok) : Tells Try.prog E0 X 21 [p.a false] (bA (pieceB p)) := by
  have hany := allI_any (l := p.ins) (r := p.regs) (n := p.ins.length)
  by_cases hh : headB p = true
  · have hh' := headB_iff.1 hh
    have hreg : 0 ≤ p.regs ∧ p.regs ≤ 400 := by omega
    have hin : p.ins.length ≤ 600 := by omega
    have hv : IntKind.i64.wrap (((p.ins.map (Ins.c false)).length : Int) - 1) = ((p.ins.length - 1 : Nat) : Int) := by rw [List.length_map, w_pred] <;> omega
    have hx : (p.ins.map (Ins.c false))[p.ins.length - 1]? = some (Ins.c false (p.ins[p.ins.length - 1]'(by omega))) := map_at (by omega)
    have hl := lastB_eq (l := p.ins) (by omega)
    have hcf := containsFIns_t (X := X) p.ins 40 rfl (Piece.c false p) (fun i => !insB p.regs p.ins.length i) (fun i hi => pieceOk1_t p i hreg hin (hp.2 _ hi)) hp.1
    rw [hany] at hcf
    refine Tells.by Try.func21 (by simp [Try.f21]) (Body.i rfl rfl rfl (fun _ => rfl) fun f => ?_)
    repeat' (first
       | refine wp_seq_i ?_ | refine wp_region_t k_pieceOk rfl ?_ | refine Run.done rfl ?_ | refine then_n ?_ | refine then_r ?_ | refine then_e ?_ | refine Run.go1 rfl ?_ | refine wp_skip_i ?_ | refine wp_ret_i ?_
       | refine wp_exit_i ?_ | refine wp_block_i ?_ | refine block_n ?_ | refine block_r ?_ | refine block_e ?_ | refine block_o rfl ?_ | refine wp_cond_t rfl ?_ | refine wp_cond_f rfl ?_ | refine Run.gT rfl rfl rfl rfl ?_
       | refine Run.pT rfl rfl ?_ | (refine Run.splitG rfl rfl rfl rfl rfl rfl ?_ ?_ <;> intro _) | (refine Run.splitP rfl rfl rfl rfl ?_ ?_ <;> intro _) | refine Run.call rfl rfl rfl (in_t _ _ _) rfl rfl ?_
       | refine Run.call rfl rfl rfl (lamOk_t p) rfl rfl ?_ | refine Run.callB rfl rfl rfl (hcf) (by simp [AV.own, T.own]) rfl ?_ | refine Run.ix rfl rfl rfl rfl rfl rfl hv hx rfl rfl rfl ?_
       | (refine wp_cond_k rfl rfl rfl ?_ ?_ <;> intro _) | (refine wp_cond_i rfl ?_ ?_ <;> intro _))
    all_goals clear hcf hany
    all_goals (refine ret_m [] rfl rfl ?_)
    any_goals (simp_all [pieceB, headB]; done)
  · have hh0 : headB p = false := by simpa using hh
    have hb : pieceB p = false := by simp [pieceB, hh0]
    rw [hb]
    refine Tells.by Try.func21 (by simp [Try.f21]) (Body.i rfl rfl rfl (fun _ => rfl) fun f => ?_)
    repeat' (first
       | refine wp_seq_i ?_ | refine wp_region_t k_pieceOk rfl ?_ | refine Run.done rfl ?_ | refine then_n ?_ | refine then_r ?_ | refine then_e ?_ | refine Run.go1 rfl ?_ | refine wp_skip_i ?_ | refine wp_ret_i ?_
       | refine wp_exit_i ?_ | refine wp_block_i ?_ | refine block_n ?_ | refine block_r ?_ | refine block_e ?_ | refine block_o rfl ?_ | refine wp_cond_t rfl ?_ | refine wp_cond_f rfl ?_ | refine Run.gT rfl rfl rfl rfl ?_
       | refine Run.pT rfl rfl ?_ | (refine Run.splitG rfl rfl rfl rfl rfl rfl ?_ ?_ <;> intro _) | (refine Run.splitP rfl rfl rfl rfl ?_ ?_ <;> intro _) | refine Run.call rfl rfl rfl (in_t _ _ _) rfl rfl ?_
       | refine Run.call rfl rfl rfl (lamOk_t p) rfl rfl ?_ | (refine wp_cond_k rfl rfl rfl ?_ ?_ <;> intro _) | (refine wp_cond_i rfl ?_ ?_ <;> intro _))
    any_goals (refine ret_m [] rfl rfl ?_; rfl)
    all_goals (exfalso; clear hany; simp_all [headB])
end Go.Proofs

set_option linter.unusedVariables false
set_option linter.unusedSimpArgs false
set_option maxHeartbeats 4000000
namespace Go.Proofs
open Go Go.Ev
set_option maxRecDepth 100000
variable {X : Rel3}
def k_LeadI : List (Nat × List Nat) := [(0, [1]), (1, [1, 9]), (2, [2]), (3, [1, 3]), (4, [1, 3, 12, 13, 14]), (5, [1, 3, 12, 13, 14, 15]), (6, [1, 3, 4, 5, 12, 13, 14]), (7, [1, 3, 4, 5, 6, 12, 13, 14]), (8, [1, 3, 4, 5, 6, 12, 13, 14, 22]), (9, [1, 3, 4, 5, 6, 12, 13, 14]), (10, [1, 3, 4, 12, 13, 14, 51]), (11, [1, 3, 12, 13, 14]), (12, [1, 3, 12, 13, 14]), (13, [2])]
def k_BlockI : List (Nat × List Nat) := [(0, [1, 2]), (1, [1, 2, 5]), (2, [1, 5, 19]), (3, [4]), (4, [4])]
end Go.Proofs

