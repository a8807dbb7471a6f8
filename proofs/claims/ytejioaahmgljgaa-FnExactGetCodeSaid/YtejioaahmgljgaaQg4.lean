import Derived.Test.YtejioaahmgljgaaQg3
import Derived.ChangeSlices
import Derived.ChangeArms
import Derived.Test.YtejioaahmgljgaaProg
set_option linter.unusedVariables false
set_option linter.unusedSimpArgs false
namespace Go.Ev
open Go Go.ChangeShapes Go.WideShapes

/-- a kind: the cells of its values as trees -/
structure Kt (α : Type) where
  cells : α → List T
  sz : Nat
  len : ∀ x, (cells x).length = sz
def Kt.K {α : Type} (d : Kt α) (W : World) (x : α) (cs : List Value) : Prop := cs.length = d.sz ∧ ∀ (k : Nat) (y : T) (v : Value), (d.cells x)[k]? = some y → cs[k]? = some v → Rep W (fun b => b < W.heap.size) y v
def Kt.int (k : IntKind) : Kt Int := ⟨fun n => [.sc (.int k n)], 1, fun _ => rfl⟩
def Kt.bool : Kt Bool := ⟨fun n => [.sc (.bool n)], 1, fun _ => rfl⟩
def Kt.string : Kt ByteArray := ⟨fun n => [.sc (.string n)], 1, fun _ => rfl⟩
def Kt.slice {α : Type} (d : Kt α) : Kt (List α) := ⟨fun l => [.sl false (l.map d.cells)], 1, fun _ => rfl⟩
def Kt.pair {α β : Type} (d : Kt α) (d' : Kt β) : Kt (α × β) := ⟨fun x => d.cells x.1 ++ d'.cells x.2, d.sz + d'.sz, fun x => by rw [List.length_append, d.len, d'.len]⟩
def Kt.iso {α β : Type} (d : Kt α) (f : β → α) : Kt β := ⟨fun y => d.cells (f y), d.sz, fun y => d.len (f y)⟩

/-- Whatever reads as type t, with no more fuel than N, is of kind d, and its value is ok. -/
structure OpensAt (P : Program) (N : Nat) (t : TypeId) {α : Type} (d : Kt α) (ok : α → Prop) : Prop where
  get : ∀ {H : Type} (enc : TypeId × Value → H) (W : World) (base : Nat) (held : Bool) (fuel : Nat) (cs : List Value) (y : DataW H × List MemPlace),
    fuel ≤ N → DataW.trod enc P W base (fun _ => true) held fuel t cs = some y → ∃ x, d.K W x cs ∧ ok x

section
variable {P : Program} {N : Nat} {t e : TypeId} {α β : Type}
theorem opens_int {k : IntKind} (ht : P.underlying t = some (.int k)) : OpensAt P N t (Kt.int k) (fun x => (Lit.int k x).wf = true) := by
  constructor
  intro H enc W base held fuel cs y _ h
  obtain ⟨n, rfl, rfl, hw⟩ := DataW.trod_int ht h
  refine ⟨n, ⟨rfl, fun k y v h1 h2 => ?_⟩, hw⟩
  cases k with
  | zero => simp [Kt.int] at h1 h2; subst h1; subst h2; exact .sc _
  | succ k => simp at h2
theorem opens_bool (ht : P.underlying t = some .bool) : OpensAt P N t Kt.bool (fun _ => True) := by
  constructor
  intro H enc W base held fuel cs y _ h
  obtain ⟨n, rfl, rfl⟩ := DataW.trod_bool ht h
  refine ⟨n, ⟨rfl, fun k y v h1 h2 => ?_⟩, trivial⟩
  cases k with
  | zero => simp [Kt.bool] at h1 h2; subst h1; subst h2; exact .sc _
  | succ k => simp at h2
theorem opens_string (ht : P.underlying t = some .string) : OpensAt P N t Kt.string (fun s => s.size ≤ maxLen) := by
  constructor
  intro H enc W base held fuel cs y _ h
  obtain ⟨n, rfl, rfl, hs⟩ := DataW.trod_string ht h
  refine ⟨n, ⟨rfl, fun k y v h1 h2 => ?_⟩, hs⟩
  cases k with
  | zero => simp [Kt.string] at h1 h2; subst h1; subst h2; exact .sc _
  | succ k => simp at h2
theorem add_add (a : Addr) (i j : Nat) : (a.add i).add j = a.add (i + j) := by
  unfold Addr.add
  by_cases h1 : i = 0 <;> by_cases h2 : j = 0 <;> simp [h1, h2, Nat.add_assoc]
theorem cell_lt {W : World} {a : Addr} {u : Value} (h : W.cell? a = some u) : a.block < W.heap.size ∧ a.spot = none := by
  unfold World.cell? at h
  split at h
  · rename_i hh
    split at h
    · cases h
    · rename_i hs
      exact ⟨(Array.getElem?_eq_some_iff.1 hh).1, by simpa using hs⟩
  · cases h

theorem opens_slice {d : Kt α} {ok : α → Prop} (ht : P.underlying t = some (.slice e)) (hc : P.cellsOf e = d.sz) (hpos : 0 < d.sz) (h : OpensAt P N e d ok) :
    OpensAt P (N + 1) t (Kt.slice d) (fun xs => xs.length ≤ maxLen ∧ ∀ x ∈ xs, ok x) := by
  constructor
  intro H enc W base held fuel cs y hf hr
  have one : ∀ {z : T} {u : Value}, Rep W (fun b => b < W.heap.size) z u → ∀ (k : Nat) (y : T) (v : Value), [z][k]? = some y → [u][k]? = some v → Rep W (fun b => b < W.heap.size) y v := by
    intro z u hz k y v h1 h2
    cases k with
    | zero => simp at h1 h2; subst h1; subst h2; exact hz
    | succ k => simp at h2
  rcases DataW.trod_slice ht hr with ⟨rfl, rfl⟩ | ⟨a, len, cap, elems, rest, n, rfl, rfl, rfl, hb, hl, hm, hlen, hel, hsp, _⟩
  · exact ⟨[], ⟨rfl, one (.nil _)⟩, by simp, by simp⟩
  · have each : ∀ i, i < len → ∃ x c, d.K W x c ∧ ok x ∧ ∀ j u, c[j]? = some u → W.cell? (a.add (i * d.sz + j)) = some u := by
      intro i hi
      have h1 := hel i hi
      rw [List.getElem?_eq_getElem (by omega), Option.bind_eq_some_iff] at h1
      obtain ⟨c, hcs, hy⟩ := h1
      obtain ⟨x, hk, hx⟩ := h.get enc W base held n c _ (by omega) hy
      obtain ⟨_, h2, h3⟩ := World.cells?_some hcs
      refine ⟨x, c, hk, hx, fun j u hu => ?_⟩
      have hj : j < P.cellsOf e := by
        rw [← h2]
        exact (List.getElem?_eq_some_iff.1 hu).1
      rw [← hu, ← h3 j hj, add_add, hc]
    by_cases hl0 : len = 0
    · subst hl0
      exact ⟨[], ⟨rfl, one (.em _ _ _)⟩, by simp, by simp⟩
    have hx : ∀ i : Fin len, ∃ x c, d.K W x c ∧ ok x ∧ ∀ j u, c[j]? = some u → W.cell? (a.add (i.1 * d.sz + j)) = some u := fun i => each i.1 i.2
    let xs := List.ofFn (fun i => (hx i).choose)
    have hxl : xs.length = len := by simp [xs]
    have hsp0 : a.block < W.heap.size ∧ a.spot = none := by
      obtain ⟨x, c, hk, _, hcell⟩ := each 0 (by omega)
      have h0 : 0 < c.length := by rw [hk.1]; exact hpos
      have := cell_lt (hcell 0 _ (List.getElem?_eq_getElem h0))
      simpa [Addr.add] using this
    obtain ⟨ab, ao, asp⟩ := a
    obtain ⟨hab, rfl⟩ := hsp0
    let us : Nat → Nat → Value := fun i k => (W.cell? ⟨ab, ao + (i * d.sz + k), none⟩).getD undef
    have hadd : ∀ n, (⟨ab, ao, none⟩ : Addr).add n = ⟨ab, ao + n, none⟩ := fun n => by
      unfold Addr.add
      by_cases h : n = 0 <;> simp [h]
    refine ⟨xs, ⟨rfl, one ?_⟩, by rw [hxl]; exact Nat.le_trans hl hm, fun p hp => ?_⟩
    · have e : len = (xs.map d.cells).length := by rw [List.length_map, hxl]
      rw [e]
      have row : ∀ (i : Nat) (r : List T), (xs.map d.cells)[i]? = some r → ∃ x c, r = d.cells x ∧ d.K W x c ∧ ∀ j u, c[j]? = some u → W.cell? ⟨ab, ao + (i * d.sz + j), none⟩ = some u := by
        intro i r hi
        rw [List.getElem?_map, Option.map_eq_some_iff] at hi
        obtain ⟨x, hxi, rfl⟩ := hi
        obtain ⟨hj1, hj2⟩ := List.getElem?_eq_some_iff.1 hxi
        have e1 : x = (hx ⟨i, by omega⟩).choose := by rw [← hj2]; simp [xs]
        obtain ⟨c, hk, _, hcell⟩ := (hx ⟨i, by omega⟩).choose_spec
        rw [← e1] at hk
        exact ⟨x, c, rfl, hk, fun j u hu => by rw [← hadd]; exact hcell j u hu⟩
      refine .sl _ _ ab ao cap d.sz us (fun _ => hab) (by rw [← e]; exact hl) ?_ ?_ ?_
      · intro i r hi; obtain ⟨x, c, rfl, _⟩ := row i r hi; exact d.len x
      · intro i r k y hi hk
        obtain ⟨x, c, rfl, hK, hcell⟩ := row i r hi
        have hkl : k < c.length := by rw [hK.1, ← d.len x]; exact nth_lt hk
        have := hcell k _ (List.getElem?_eq_getElem hkl)
        simp only [us, this, Option.getD_some]
      · intro i r k y hi hk
        obtain ⟨x, c, rfl, hK, hcell⟩ := row i r hi
        have hkl : k < c.length := by rw [hK.1, ← d.len x]; exact nth_lt hk
        have := hcell k _ (List.getElem?_eq_getElem hkl)
        simp only [us, this, Option.getD_some]
        exact hK.2 k y _ hk (List.getElem?_eq_getElem hkl)
    · obtain ⟨j, hj1, hj2⟩ := List.getElem_of_mem hp
      have e1 : p = (hx ⟨j, by omega⟩).choose := by rw [← hj2]; simp [xs]
      obtain ⟨c, _, ho, _⟩ := (hx ⟨j, by omega⟩).choose_spec
      rw [e1]; exact ho

/-- The fields from a place on. -/
structure OpensFrom (P : Program) (N : Nat) (off : Nat) (fs : List Field) {α : Type} (d : Kt α) (ok : α → Prop) : Prop where
  get : ∀ {H : Type} (enc : TypeId × Value → H) (W : World) (base : Nat) (held : Bool) (n : Nat) (cs : List Value),
    n ≤ N → (∀ f ∈ fs, ∃ y : DataW H × List MemPlace, DataW.trod enc P W base (fun _ => true) held n f.type ((cs.drop f.offset).take (P.cellsOf f.type)) = some y) → cs.length = off + d.sz → ∃ x, d.K W x (cs.drop off) ∧ ok x
theorem from_one {off : Nat} {f : Field} {d : Kt α} {ok : α → Prop} (ho : f.offset = off) (hc : P.cellsOf f.type = d.sz) (h : OpensAt P N f.type d ok) : OpensFrom P N off [f] d ok := by
  constructor
  intro H enc W base held n cs hn hf hl
  obtain ⟨y, hy⟩ := hf f (by simp)
  obtain ⟨x, hk, hx⟩ := h.get enc W base held n _ y hn hy
  rw [ho, hc, List.take_of_length_le (by simp; omega)] at hk
  exact ⟨x, hk, hx⟩
theorem K_pair {d : Kt α} {d' : Kt β} {W : World} {x : α} {x' : β} {cs cs' : List Value} (h : d.K W x cs) (h' : d'.K W x' cs') : (Kt.pair d d').K W (x, x') (cs ++ cs') := by
  refine ⟨by simp [Kt.pair, h.1, h'.1], fun k y v h1 h2 => ?_⟩
  simp only [Kt.pair] at h1
  rw [List.getElem?_append] at h1 h2
  rw [d.len] at h1
  rw [h.1] at h2
  by_cases hk : k < d.sz
  · rw [if_pos hk] at h1 h2; exact h.2 k y v h1 h2
  · rw [if_neg hk] at h1 h2; exact h'.2 _ y v h1 h2
theorem from_cons {off : Nat} {f : Field} {fs : List Field} {d : Kt α} {d' : Kt β} {ok : α → Prop} {ok' : β → Prop} (ho : f.offset = off) (hc : P.cellsOf f.type = d.sz) (h : OpensAt P N f.type d ok) (h' : OpensFrom P N (off + d.sz) fs d' ok') :
    OpensFrom P N off (f :: fs) (Kt.pair d d') (fun x => ok x.1 ∧ ok' x.2) := by
  constructor
  intro H enc W base held n cs hn hf hl
  have hl2 : cs.length = off + (d.sz + d'.sz) := hl
  obtain ⟨y, hy⟩ := hf f (by simp)
  obtain ⟨x, hk, hx⟩ := h.get enc W base held n _ y hn hy
  obtain ⟨x', hk', hx'⟩ := h'.get enc W base held n cs hn (fun g hg => hf g (by simp [hg])) (by omega)
  rw [ho, hc] at hk
  refine ⟨(x, x'), ?_, hx, hx'⟩
  have := K_pair hk hk'
  rwa [← List.drop_drop, List.take_append_drop] at this
theorem opens_struct {fs : List Field} {d : Kt α} {ok : α → Prop} (ht : P.underlying t = some (.struct fs.toArray)) (hc : P.cellsOf t = d.sz) (h : OpensFrom P N 0 fs d ok) : OpensAt P (N + 1) t d ok := by
  constructor
  intro H enc W base held fuel cs y hf hr
  obtain ⟨xs, n, rfl, rfl, hl, hxl, hx⟩ := DataW.trod_struct ht hr
  obtain ⟨x, hk, ho⟩ := h.get enc W base held n cs (by omega) (fun f hfm => by
    obtain ⟨i, hi⟩ := List.getElem?_of_mem hfm
    have h1 := hx i f (by simpa using hi)
    have hi2 : i < fs.length := (List.getElem?_eq_some_iff.1 hi).1
    rw [List.getElem?_eq_getElem (by simp at hxl; omega)] at h1
    exact ⟨_, h1⟩) (by omega)
  exact ⟨x, by simpa using hk, ho⟩
theorem opens_iso {d : Kt α} {ok : α → Prop} {f : β → α} (g : α → β) (hg : ∀ y, f (g y) = y) (h : OpensAt P N t d ok) : OpensAt P N t (Kt.iso d f) (fun x => ok (f x)) := by
  constructor
  intro H enc W base held fuel cs y hf hr
  obtain ⟨x, hk, hx⟩ := h.get enc W base held fuel cs y hf hr
  refine ⟨g x, ?_, ?_⟩
  · show d.K W (f (g x)) cs
    rw [hg]; exact hk
  · show ok (f (g x))
    rw [hg]; exact hx
end
end Go.Ev

set_option linter.unusedVariables false
set_option linter.unusedSimpArgs false
namespace Go.Ev
open Go
theorem tabOk {P : Program} {tab : Tab} (h : ∀ p ∈ tab, tiOf P p.1 = some p.2) (hm : P.follows .mixedOrders = true) : TabOk P tab := by
  refine ⟨?_, hm⟩
  intro id ti hl
  induction tab with
  | nil => cases hl
  | cons p r ih =>
    obtain ⟨k, v⟩ := p
    rw [lk_cons] at hl
    split at hl
    · rename_i e; subst e; cases hl; exact h (k, _) (List.mem_cons_self ..)
    · exact ih (fun p hp => h p (List.mem_cons_of_mem _ hp)) hl
end Go.Ev
namespace Go.Proofs
open Go Go.Ev
set_option maxRecDepth 100000
def tab : Tab := [
  (0, ⟨TD.other, 1, 0, some [T.sc (Value.tuple { toList := [] })]⟩),
  (1, ⟨TD.other, 1, 8, some [T.sc Value.nilFunc]⟩),
  (2, ⟨TD.int IntKind.i64, 1, 8, some [T.sc (Value.int IntKind.i64 0)]⟩),
  (3, ⟨TD.int IntKind.i64, 1, 8, some [T.sc (Value.int IntKind.i64 0)]⟩),
  (4, ⟨TD.bool, 1, 1, some [T.sc (Value.bool false)]⟩),
  (5, ⟨TD.int IntKind.u8, 1, 1, some [T.sc (Value.int IntKind.u8 0)]⟩),
  (6, ⟨TD.int IntKind.u8, 1, 1, some [T.sc (Value.int IntKind.u8 0)]⟩),
  (7, ⟨TD.st [(0, 2), (1, 3), (2, 4), (3, 6)], 4, 24, some [T.sc (Value.int IntKind.i64 0), T.sc (Value.int IntKind.i64 0), T.sc (Value.bool false), T.sc (Value.int IntKind.u8 0)]⟩),
  (8, ⟨TD.st [(0, 2), (1, 3), (2, 4), (3, 6)], 4, 24, some [T.sc (Value.int IntKind.i64 0), T.sc (Value.int IntKind.i64 0), T.sc (Value.bool false), T.sc (Value.int IntKind.u8 0)]⟩),
  (9, ⟨TD.str, 1, 16, some [T.sc (Value.string { data := { toList := [] } })]⟩),
  (10, ⟨TD.str, 1, 16, some [T.sc (Value.string { data := { toList := [] } })]⟩),
  (11, ⟨TD.str, 1, 16, some [T.sc (Value.string { data := { toList := [] } })]⟩),
  (12, ⟨TD.int IntKind.u64, 1, 8, some [T.sc (Value.int IntKind.u64 0)]⟩),
  (13, ⟨TD.st [(0, 9), (1, 12)], 2, 24, some [T.sc (Value.string { data := { toList := [] } }), T.sc (Value.int IntKind.u64 0)]⟩),
  (14, ⟨TD.st [(0, 9), (1, 12)], 2, 24, some [T.sc (Value.string { data := { toList := [] } }), T.sc (Value.int IntKind.u64 0)]⟩),
  (15, ⟨TD.other, 1, 8, some [T.sc (Value.pointer none)]⟩),
  (16, ⟨TD.other, 1, 8, some [T.sc (Value.pointer none)]⟩),
  (17, ⟨TD.other, 1, 8, some [T.sc (Value.pointer none)]⟩),
  (18, ⟨TD.st [(0, 17)], 1, 8, some [T.sc (Value.pointer none)]⟩),
  (19, ⟨TD.st [(0, 17)], 1, 8, some [T.sc (Value.pointer none)]⟩),
  (20, ⟨TD.other, 1, 16, some [T.sc Value.nilIface]⟩),
  (21, ⟨TD.int IntKind.i32, 1, 4, some [T.sc (Value.int IntKind.i32 0)]⟩),
  (22, ⟨TD.sl 25, 1, 24, some [T.sc (Value.slice none 0 0)]⟩),
  (23, ⟨TD.sl 94, 1, 24, some [T.sc (Value.slice none 0 0)]⟩),
  (24, ⟨TD.st [(0, 3), (1, 3), (2, 3), (3, 23)], 4, 48, some [T.sc (Value.int IntKind.i64 0), T.sc (Value.int IntKind.i64 0), T.sc (Value.int IntKind.i64 0), T.sc (Value.slice none 0 0)]⟩),
  (25, ⟨TD.st [(0, 3), (1, 3), (2, 3), (3, 23)], 4, 48, some [T.sc (Value.int IntKind.i64 0), T.sc (Value.int IntKind.i64 0), T.sc (Value.int IntKind.i64 0), T.sc (Value.slice none 0 0)]⟩),
  (26, ⟨TD.st [(0, 22), (1, 25)], 5, 72, some [T.sc (Value.slice none 0 0), T.sc (Value.int IntKind.i64 0), T.sc (Value.int IntKind.i64 0), T.sc (Value.int IntKind.i64 0), T.sc (Value.slice none 0 0)]⟩),
  (27, ⟨TD.st [(0, 22), (1, 25)], 5, 72, some [T.sc (Value.slice none 0 0), T.sc (Value.int IntKind.i64 0), T.sc (Value.int IntKind.i64 0), T.sc (Value.int IntKind.i64 0), T.sc (Value.slice none 0 0)]⟩),
  (28, ⟨TD.other, 1, 8, some [T.sc Value.nilFunc]⟩),
  (29, ⟨TD.sl 5, 1, 24, some [T.sc (Value.slice none 0 0)]⟩),
  (30, ⟨TD.other, 1, 8, some [T.sc Value.nilFunc]⟩),
  (31, ⟨TD.sl 34, 1, 24, some [T.sc (Value.slice none 0 0)]⟩),
  (32, ⟨TD.sl 67, 1, 24, some [T.sc (Value.slice none 0 0)]⟩),
  (33, ⟨TD.st [(0, 3), (1, 3), (2, 3), (3, 32)], 4, 48, some [T.sc (Value.int IntKind.i64 0), T.sc (Value.int IntKind.i64 0), T.sc (Value.int IntKind.i64 0), T.sc (Value.slice none 0 0)]⟩),
  (34, ⟨TD.st [(0, 3), (1, 3), (2, 3), (3, 32)], 4, 48, some [T.sc (Value.int IntKind.i64 0), T.sc (Value.int IntKind.i64 0), T.sc (Value.int IntKind.i64 0), T.sc (Value.slice none 0 0)]⟩),
  (35, ⟨TD.st [(0, 31), (1, 34)], 5, 72, some [T.sc (Value.slice none 0 0), T.sc (Value.int IntKind.i64 0), T.sc (Value.int IntKind.i64 0), T.sc (Value.int IntKind.i64 0), T.sc (Value.slice none 0 0)]⟩),
  (36, ⟨TD.st [(0, 31), (1, 34)], 5, 72, some [T.sc (Value.slice none 0 0), T.sc (Value.int IntKind.i64 0), T.sc (Value.int IntKind.i64 0), T.sc (Value.int IntKind.i64 0), T.sc (Value.slice none 0 0)]⟩),
  (37, ⟨TD.other, 1, 8, some [T.sc Value.nilFunc]⟩),
  (38, ⟨TD.other, 1, 8, some [T.sc Value.nilFunc]⟩),
  (39, ⟨TD.other, 1, 8, some [T.sc Value.nilFunc]⟩),
  (40, ⟨TD.other, 1, 8, some [T.sc Value.nilFunc]⟩),
  (41, ⟨TD.other, 1, 8, some [T.sc Value.nilFunc]⟩),
  (42, ⟨TD.other, 1, 8, some [T.sc Value.nilFunc]⟩),
  (43, ⟨TD.other, 1, 0, some [T.sc (Value.tuple { toList := [Value.agg { toList := [Value.slice none 0 0, Value.int IntKind.i64 0, Value.int IntKind.i64 0, Value.int IntKind.i64 0, Value.slice none 0 0] }, Value.int IntKind.i64 0] })]⟩),
  (44, ⟨TD.other, 1, 8, some [T.sc Value.nilFunc]⟩),
  (45, ⟨TD.other, 1, 8, some [T.sc Value.nilFunc]⟩),
  (46, ⟨TD.other, 1, 8, some [T.sc Value.nilFunc]⟩),
  (47, ⟨TD.other, 1, 8, some [T.sc Value.nilFunc]⟩),
  (48, ⟨TD.other, 1, 8, some [T.sc Value.nilFunc]⟩),
  (49, ⟨TD.other, 1, 8, some [T.sc Value.nilFunc]⟩),
  (50, ⟨TD.other, 1, 8, some [T.sc Value.nilFunc]⟩),
  (51, ⟨TD.other, 1, 8, some [T.sc Value.nilFunc]⟩),
  (52, ⟨TD.sl 3, 1, 24, some [T.sc (Value.slice none 0 0)]⟩),
  (53, ⟨TD.other, 1, 8, some [T.sc Value.nilFunc]⟩),
  (54, ⟨TD.other, 1, 8, some [T.sc Value.nilFunc]⟩),
  (55, ⟨TD.other, 1, 8, some [T.sc Value.nilFunc]⟩),
  (56, ⟨TD.other, 1, 8, some [T.sc Value.nilFunc]⟩),
  (57, ⟨TD.other, 1, 8, some [T.sc Value.nilFunc]⟩),
  (58, ⟨TD.other, 1, 8, some [T.sc Value.nilFunc]⟩),
  (59, ⟨TD.other, 1, 8, some [T.sc Value.nilFunc]⟩),
  (60, ⟨TD.other, 1, 8, some [T.sc Value.nilFunc]⟩),
  (61, ⟨TD.other, 1, 8, some [T.sc Value.nilFunc]⟩),
  (62, ⟨TD.int IntKind.u64, 1, 8, some [T.sc (Value.int IntKind.u64 0)]⟩),
  (63, ⟨TD.other, 1, 8, some [T.sc Value.nilFunc]⟩),
  (64, ⟨TD.other, 1, 8, some [T.sc Value.nilFunc]⟩),
  (65, ⟨TD.other, 1, 8, some [T.sc Value.nilFunc]⟩),
  (66, ⟨TD.st [(0, 3), (1, 3), (2, 3), (3, 3), (4, 3), (5, 52), (6, 3)], 7, 72, some [T.sc (Value.int IntKind.i64 0), T.sc (Value.int IntKind.i64 0), T.sc (Value.int IntKind.i64 0), T.sc (Value.int IntKind.i64 0), T.sc (Value.int IntKind.i64 0), T.sc (Value.slice none 0 0), T.sc (Value.int IntKind.i64 0)]⟩),
  (67, ⟨TD.st [(0, 3), (1, 3), (2, 3), (3, 3), (4, 3), (5, 52), (6, 3)], 7, 72, some [T.sc (Value.int IntKind.i64 0), T.sc (Value.int IntKind.i64 0), T.sc (Value.int IntKind.i64 0), T.sc (Value.int IntKind.i64 0), T.sc (Value.int IntKind.i64 0), T.sc (Value.slice none 0 0), T.sc (Value.int IntKind.i64 0)]⟩),
  (68, ⟨TD.other, 1, 8, some [T.sc Value.nilFunc]⟩),
  (69, ⟨TD.other, 1, 8, some [T.sc Value.nilFunc]⟩),
  (70, ⟨TD.other, 1, 8, some [T.sc (Value.pointer none)]⟩),
  (71, ⟨TD.st [(0, 29), (1, 3), (2, 4)], 3, 40, some [T.sc (Value.slice none 0 0), T.sc (Value.int IntKind.i64 0), T.sc (Value.bool false)]⟩),
  (72, ⟨TD.st [(0, 29), (1, 3), (2, 4)], 3, 40, some [T.sc (Value.slice none 0 0), T.sc (Value.int IntKind.i64 0), T.sc (Value.bool false)]⟩),
  (73, ⟨TD.other, 1, 8, some [T.sc Value.nilFunc]⟩),
  (74, ⟨TD.other, 1, 8, some [T.sc Value.nilFunc]⟩),
  (75, ⟨TD.other, 1, 8, some [T.sc (Value.pointer none)]⟩),
  (76, ⟨TD.st [(0, 29), (1, 3), (2, 4)], 3, 40, some [T.sc (Value.slice none 0 0), T.sc (Value.int IntKind.i64 0), T.sc (Value.bool false)]⟩),
  (77, ⟨TD.st [(0, 29), (1, 3), (2, 4)], 3, 40, some [T.sc (Value.slice none 0 0), T.sc (Value.int IntKind.i64 0), T.sc (Value.bool false)]⟩),
  (78, ⟨TD.other, 1, 8, some [T.sc Value.nilFunc]⟩),
  (79, ⟨TD.other, 1, 8, some [T.sc Value.nilFunc]⟩),
  (80, ⟨TD.other, 1, 8, some [T.sc Value.nilFunc]⟩),
  (81, ⟨TD.other, 1, 8, some [T.sc Value.nilFunc]⟩),
  (82, ⟨TD.other, 1, 8, some [T.sc Value.nilFunc]⟩),
  (83, ⟨TD.other, 1, 8, some [T.sc Value.nilFunc]⟩),
  (84, ⟨TD.other, 1, 8, some [T.sc Value.nilFunc]⟩),
  (85, ⟨TD.other, 1, 8, some [T.sc Value.nilFunc]⟩),
  (86, ⟨TD.other, 1, 8, some [T.sc Value.nilFunc]⟩),
  (87, ⟨TD.other, 1, 8, some [T.sc Value.nilFunc]⟩),
  (88, ⟨TD.other, 1, 8, some [T.sc Value.nilFunc]⟩),
  (89, ⟨TD.other, 1, 8, some [T.sc Value.nilFunc]⟩),
  (90, ⟨TD.other, 1, 0, some [T.sc (Value.tuple { toList := [Value.int IntKind.i64 0, Value.int IntKind.i64 0, Value.bool false] })]⟩),
  (91, ⟨TD.other, 1, 8, some [T.sc Value.nilFunc]⟩),
  (92, ⟨TD.other, 1, 8, some [T.sc Value.nilFunc]⟩),
  (93, ⟨TD.other, 1, 8, some [T.sc Value.nilFunc]⟩),
  (94, ⟨TD.st [(0, 3), (1, 3), (2, 3), (3, 3), (4, 3), (5, 52), (6, 3)], 7, 72, some [T.sc (Value.int IntKind.i64 0), T.sc (Value.int IntKind.i64 0), T.sc (Value.int IntKind.i64 0), T.sc (Value.int IntKind.i64 0), T.sc (Value.int IntKind.i64 0), T.sc (Value.slice none 0 0), T.sc (Value.int IntKind.i64 0)]⟩),
  (95, ⟨TD.other, 1, 8, some [T.sc Value.nilFunc]⟩),
  (96, ⟨TD.ar 4 4, 4, 4, some [T.sc (Value.bool false), T.sc (Value.bool false), T.sc (Value.bool false), T.sc (Value.bool false)]⟩),
  (97, ⟨TD.other, 1, 8, some [T.sc Value.nilFunc]⟩),
  (98, ⟨TD.other, 1, 8, some [T.sc Value.nilFunc]⟩),
  (99, ⟨TD.other, 1, 8, some [T.sc Value.nilFunc]⟩),
  (100, ⟨TD.other, 1, 8, some [T.sc Value.nilFunc]⟩),
  (101, ⟨TD.other, 1, 8, some [T.sc Value.nilFunc]⟩),
  (102, ⟨TD.other, 1, 8, some [T.sc Value.nilFunc]⟩),
  (103, ⟨TD.other, 1, 0, some [T.sc (Value.tuple { toList := [Value.string { data := { toList := [] } }, Value.bool false] })]⟩),
  (104, ⟨TD.other, 1, 8, some [T.sc Value.nilFunc]⟩),
  (105, ⟨TD.other, 1, 8, some [T.sc Value.nilFunc]⟩),
  (106, ⟨TD.other, 1, 8, some [T.sc Value.nilFunc]⟩),
  (107, ⟨TD.other, 1, 8, some [T.sc Value.nilFunc]⟩),
  (108, ⟨TD.other, 1, 8, some [T.sc Value.nilFunc]⟩),
  (109, ⟨TD.other, 1, 8, some [T.sc Value.nilFunc]⟩),
  (110, ⟨TD.other, 1, 8, some [T.sc Value.nilFunc]⟩),
  (111, ⟨TD.other, 1, 8, some [T.sc Value.nilFunc]⟩),
  (112, ⟨TD.other, 1, 8, some [T.sc Value.nilFunc]⟩),
  (113, ⟨TD.other, 1, 8, some [T.sc Value.nilFunc]⟩),
  (114, ⟨TD.other, 1, 8, some [T.sc Value.nilFunc]⟩),
  (115, ⟨TD.other, 1, 8, some [T.sc Value.nilFunc]⟩),
  (116, ⟨TD.other, 1, 8, some [T.sc Value.nilFunc]⟩),
  (117, ⟨TD.other, 1, 8, some [T.sc Value.nilFunc]⟩),
  (118, ⟨TD.int IntKind.i64, 1, 8, some [T.sc (Value.int IntKind.i64 0)]⟩),
  (119, ⟨TD.other, 1, 0, some [T.sc (Value.tuple { toList := [Value.int IntKind.i64 0, Value.int IntKind.i64 0] })]⟩),
  (120, ⟨TD.other, 1, 8, some [T.sc Value.nilFunc]⟩),
  (121, ⟨TD.other, 1, 8, some [T.sc Value.nilFunc]⟩),
  (122, ⟨TD.other, 1, 8, some [T.sc Value.nilFunc]⟩),
  (123, ⟨TD.other, 1, 8, some [T.sc Value.nilFunc]⟩),
  (124, ⟨TD.other, 1, 0, some [T.sc (Value.tuple { toList := [Value.int IntKind.i64 0, Value.bool false] })]⟩),
  (125, ⟨TD.other, 1, 8, some [T.sc Value.nilFunc]⟩),
  (126, ⟨TD.other, 1, 8, some [T.sc Value.nilFunc]⟩),
  (127, ⟨TD.int IntKind.u32, 1, 4, some [T.sc (Value.int IntKind.u32 0)]⟩),
  (128, ⟨TD.other, 1, 8, some [T.sc Value.nilFunc]⟩),
  (129, ⟨TD.int IntKind.u64, 1, 8, some [T.sc (Value.int IntKind.u64 0)]⟩),
  (130, ⟨TD.int IntKind.u64, 1, 8, some [T.sc (Value.int IntKind.u64 0)]⟩),
  (131, ⟨TD.other, 1, 8, some [T.sc Value.nilFunc]⟩),
  (132, ⟨TD.other, 1, 8, some [T.sc Value.nilFunc]⟩),
  (133, ⟨TD.other, 1, 8, some [T.sc Value.nilFunc]⟩),
  (134, ⟨TD.other, 1, 8, some [T.sc (Value.pointer none)]⟩),
  (135, ⟨TD.other, 1, 8, some [T.sc Value.nilFunc]⟩),
  (136, ⟨TD.other, 1, 8, some [T.sc (Value.pointer none)]⟩),
  (137, ⟨TD.other, 1, 0, some [T.sc (Value.tuple { toList := [Value.int IntKind.i64 0, Value.int IntKind.i64 0] })]⟩),
  (138, ⟨TD.other, 1, 8, some [T.sc Value.nilFunc]⟩),
  (139, ⟨TD.other, 1, 8, some [T.sc Value.nilFunc]⟩),
  (140, ⟨TD.st [(0, 17), (1, 17), (2, 17), (3, 9)], 4, 40, some [T.sc (Value.pointer none), T.sc (Value.pointer none), T.sc (Value.pointer none), T.sc (Value.string { data := { toList := [] } })]⟩),
  (141, ⟨TD.st [(0, 17), (1, 17), (2, 17), (3, 9)], 4, 40, some [T.sc (Value.pointer none), T.sc (Value.pointer none), T.sc (Value.pointer none), T.sc (Value.string { data := { toList := [] } })]⟩),
  (142, ⟨TD.ar 0 16, 0, 0, some []⟩),
  (143, ⟨TD.st [(0, 142)], 0, 0, some []⟩),
  (144, ⟨TD.st [(0, 142)], 0, 0, some []⟩),
  (145, ⟨TD.int IntKind.u8, 1, 1, some [T.sc (Value.int IntKind.u8 0)]⟩),
  (146, ⟨TD.int IntKind.u8, 1, 1, some [T.sc (Value.int IntKind.u8 0)]⟩),
  (147, ⟨TD.other, 1, 8, some [T.sc Value.nilFunc]⟩),
  (148, ⟨TD.other, 1, 8, some [T.sc (Value.pointer none)]⟩),
  (149, ⟨TD.int IntKind.i32, 1, 4, some [T.sc (Value.int IntKind.i32 0)]⟩),
  (150, ⟨TD.int IntKind.i32, 1, 4, some [T.sc (Value.int IntKind.i32 0)]⟩),
  (151, ⟨TD.st [(0, 12), (1, 12), (2, 127), (3, 145), (4, 5), (5, 5), (6, 146), (7, 147), (8, 148), (9, 149), (10, 150)], 11, 48, some [T.sc (Value.int IntKind.u64 0), T.sc (Value.int IntKind.u64 0), T.sc (Value.int IntKind.u32 0), T.sc (Value.int IntKind.u8 0), T.sc (Value.int IntKind.u8 0), T.sc (Value.int IntKind.u8 0), T.sc (Value.int IntKind.u8 0), T.sc Value.nilFunc, T.sc (Value.pointer none), T.sc (Value.int IntKind.i32 0), T.sc (Value.int IntKind.i32 0)]⟩),
  (152, ⟨TD.st [(0, 12), (1, 12), (2, 127), (3, 145), (4, 5), (5, 5), (6, 146), (7, 147), (8, 148), (9, 149), (10, 150)], 11, 48, some [T.sc (Value.int IntKind.u64 0), T.sc (Value.int IntKind.u64 0), T.sc (Value.int IntKind.u32 0), T.sc (Value.int IntKind.u8 0), T.sc (Value.int IntKind.u8 0), T.sc (Value.int IntKind.u8 0), T.sc (Value.int IntKind.u8 0), T.sc Value.nilFunc, T.sc (Value.pointer none), T.sc (Value.int IntKind.i32 0), T.sc (Value.int IntKind.i32 0)]⟩),
  (153, ⟨TD.other, 1, 8, some [T.sc (Value.pointer none)]⟩)]
theorem tab_ok : TabOk Try.prog tab := by
  refine tabOk ?_ rfl
  simp only [tab, List.forall_mem_cons]
  refine ⟨?_, ?_, ?_, ?_, ?_, ?_, ?_, ?_, ?_, ?_, ?_, ?_, ?_, ?_, ?_, ?_, ?_, ?_, ?_, ?_, ?_, ?_, ?_, ?_, ?_, ?_, ?_, ?_, ?_, ?_, ?_, ?_, ?_, ?_, ?_, ?_, ?_, ?_, ?_, ?_, ?_, ?_, ?_, ?_, ?_, ?_, ?_, ?_, ?_, ?_, ?_, ?_, ?_, ?_, ?_, ?_, ?_, ?_, ?_, ?_, ?_, ?_, ?_, ?_, ?_, ?_, ?_, ?_, ?_, ?_, ?_, ?_, ?_, ?_, ?_, ?_, ?_, ?_, ?_, ?_, ?_, ?_, ?_, ?_, ?_, ?_, ?_, ?_, ?_, ?_, ?_, ?_, ?_, ?_, ?_, ?_, ?_, ?_, ?_, ?_, ?_, ?_, ?_, ?_, ?_, ?_, ?_, ?_, ?_, ?_, ?_, ?_, ?_, ?_, ?_, ?_, ?_, ?_, ?_, ?_, ?_, ?_, ?_, ?_, ?_, ?_, ?_, ?_, ?_, ?_, ?_, ?_, ?_, ?_, ?_, ?_, ?_, ?_, ?_, ?_, ?_, ?_, ?_, ?_, ?_, ?_, ?_, ?_, ?_, ?_, ?_, ?_, ?_, ?_, fun _ h => by cases h⟩ <;> rfl
abbrev E0 : Env := ⟨tab, [(29, [true]), (63, [true]), (42, [true]), (28, [true]), (13, [true]), (14, [true]), (65, [true, false]), (34, [true, false]), (38, [true, false]), (84, [true]), (85, [true]), (62, [true]), (43, [true]), (69, [true]), (44, [true]), (70, [true]), (47, [true]), (48, [true])]⟩
end Go.Proofs

set_option linter.unusedVariables false
set_option linter.unusedSimpArgs false
namespace Go.Proofs
open Go Go.Ev
set_option maxRecDepth 100000
abbrev iT (n : Int) : T := .sc (.int .i64 n)
abbrev iA (n : Int) : AV := .t (iT n)
abbrev bA (b : Bool) : AV := .t (.sc (.bool b))
abbrev iR (n : Int) : List T := [iT n]
structure Ins where
  op : Int
  d : Int
  x : Int
  y : Int
  n : Int
  l : List Int
  to_ : Int
  deriving DecidableEq
abbrev Ins.c (o : Bool) (i : Ins) : List T := [iT i.op, iT i.d, iT i.x, iT i.y, iT i.n, .sl o (i.l.map iR), iT i.to_]
abbrev Ins.a (o : Bool) (i : Ins) : AV := .ag [iA i.op, iA i.d, iA i.x, iA i.y, iA i.n, .t (.sl o (i.l.map iR)), iA i.to_]
variable {X : Rel3}
theorem w64 {n : Int} (h0 : -9223372036854775808 ≤ n) (h1 : n ≤ 9223372036854775807) : IntKind.i64.wrap n = n := by
  simp [IntKind.wrap, IntKind.bits, IntKind.signed]; omega
theorem w_succ {k n : Nat} (h : k < n) (hn : n ≤ 9223372036854775807) : IntKind.i64.wrap ((k : Int) + 1) = ((k + 1 : Nat) : Int) := by
  rw [w64] <;> omega

def mk : List Int → Int → List Int × Int
  | [], k => ([], k)
  | _ :: r, k => (k :: (mk r (IntKind.i64.wrap (k + 1))).1, (mk r (IntKind.i64.wrap (k + 1))).2)
theorem mk_snoc (l : List Int) (x k : Int) : mk (l ++ [x]) k = ((mk l k).1 ++ [(mk l k).2], IntKind.i64.wrap ((mk l k).2 + 1)) := by
  induction l generalizing k with
  | nil => rfl
  | cons y l ih => simp [mk, ih]
theorem mk_len (l : List Int) (k : Int) : (mk l k).1.length = l.length := by
  induction l generalizing k with
  | nil => rfl
  | cons y l ih => simp [mk, ih]
theorem markIntS_t (l : List Int) (k : Int) (hl : l.length ≤ 9223372036854775807) : Tells Try.prog E0 X 29 [.t (.sl true (l.map iR)), iA k] (.io [iA (mk l k).2, .t (.sl true ((mk l k).1.map iR)), .u]) := by
  refine Tells.by Try.func29 (by simp [Try.f29]) (Body.i rfl rfl rfl (fun _ => rfl) fun f => ?_)
  repeat' (first
    | refine wp_seq_i ?_ | refine wp_region_i ?_ | refine Run.done rfl ?_ | refine then_n ?_ | refine then_r ?_ | refine then_e ?_ | refine Run.go1 rfl ?_
    | refine wp_skip_i ?_ | refine wp_ret_i ?_ | refine wp_exit_i ?_ | refine wp_block_i ?_ | refine block_n ?_ | refine block_r ?_ | refine block_e ?_ | refine block_o rfl ?_
    | refine wp_cond_t rfl ?_ | refine wp_cond_f rfl ?_
    | (refine wp_cond_i rfl ?_ ?_ <;> intro _))
  refine wp_loop_k (α := Nat × Int × List Int) [.keep [0, 1, 4, 5] [100000]] (fun p => [(1, iA p.2.1), (5, iA p.1)]) (fun _ => []) (fun p => [(100000, ⟨0, some (f 100000)⟩, p.2.2.map iR)]) (fun p => p.1 ≤ l.length ∧ p.2.1 = (mk (l.take p.1) k).2 ∧ p.2.2 = (mk (l.take p.1) k).1 ++ l.drop p.1) (fun p => l.length - p.1) (0, k, l) rfl (fun _ => rfl) rfl ⟨by simp, by simp [mk], by simp [mk]⟩ ?_
  rintro ⟨j, c, m⟩ ⟨hj, hc, hm⟩
  simp only at hj hc hm
  have hml : m.length = l.length := by rw [hm]; simp [mk_len]; omega
  by_cases hlt : j < l.length
  · have ht : l.take (j + 1) = l.take j ++ [l[j]] := by simp
    have hx : (m.map iR)[j]? = some (iR (m[j]'(by omega))) := by simp [hml, hlt]
    repeat' (first
      | refine wp_seq_i ?_ | refine wp_region_i ?_ | refine Run.done rfl ?_ | refine then_n ?_ | refine then_r ?_ | refine then_e ?_ | refine Run.go1 rfl ?_
      | refine wp_skip_i ?_ | refine wp_ret_i ?_ | refine wp_exit_i ?_ | refine wp_block_i ?_ | refine block_n ?_ | refine block_r ?_ | refine block_e ?_ | refine block_o rfl ?_
      | refine wp_cond_t rfl ?_ | refine wp_cond_f rfl ?_ | refine Run.ix rfl rfl rfl rfl rfl rfl rfl hx rfl rfl rfl ?_ | refine Run.str rfl rfl rfl rfl rfl rfl hx rfl rfl ?_
      | (refine wp_cond_i rfl ?_ ?_ <;> intro _))
    · refine back_i [.keep [0, 1, 4, 5] [100000]] (j + 1, IntKind.i64.wrap (c + 1), m.set j c) rfl ?_ ⟨by simp; omega, ?_, ?_⟩ (by simp; omega)
      · simp only [List.map_set, w_succ hlt hl]
      · rw [ht, mk_snoc, hc]
      · rw [ht, mk_snoc, hm, List.drop_eq_getElem_cons hlt, hc]
        rw [List.set_append_right _ _ (by simp [mk_len]; omega)]
        simp only [mk_len, List.length_take, Nat.min_eq_left hj, Nat.sub_self, List.set_cons_zero, List.append_assoc, List.singleton_append]
    · rename_i h; simp [hml, hlt] at h
  · have hjl : j = l.length := by omega
    repeat' (first
      | refine wp_seq_i ?_ | refine wp_region_i ?_ | refine Run.done rfl ?_ | refine then_n ?_ | refine then_r ?_ | refine then_e ?_ | refine Run.go1 rfl ?_
      | refine wp_skip_i ?_ | refine wp_ret_i ?_ | refine wp_exit_i ?_ | refine wp_block_i ?_ | refine block_n ?_ | refine block_r ?_ | refine block_e ?_ | refine block_o rfl ?_
      | refine wp_cond_t rfl ?_ | refine wp_cond_f rfl ?_
      | (refine wp_cond_i rfl ?_ ?_ <;> intro _))
    · rename_i h; simp [hml, hjl] at h
    · refine ret_o [true] [] rfl rfl rfl ⟨rfl, trivial⟩ ?_
      subst hjl
      simp [hc, hm]
end Go.Proofs

set_option linter.unusedVariables false
set_option linter.unusedSimpArgs false
namespace Go.Proofs
open Go Go.Ev
set_option maxRecDepth 100000
variable {X : Rel3}
theorem set_hit {rows : List (List T)} {j : Nat} {r : List T} (h : j < rows.length) : (rows.set j r)[j]? = some r := by simp [h]
def nx (k : Int) : Int := IntKind.i64.wrap (k + 1)
def mkIns (i : Ins) (k : Int) : Ins × Int :=
  (⟨k, nx k, nx (nx k), nx (nx (nx k)), nx (nx (nx (nx k))), (mk i.l (nx (nx (nx (nx (nx k)))))).1, (mk i.l (nx (nx (nx (nx (nx k)))))).2⟩, nx (mk i.l (nx (nx (nx (nx (nx k)))))).2)
def mkInsS : List Ins → Int → List Ins × Int
  | [], k => ([], k)
  | i :: r, k => ((mkIns i k).1 :: (mkInsS r (mkIns i k).2).1, (mkInsS r (mkIns i k).2).2)
theorem mkInsS_snoc (l : List Ins) (x : Ins) (k : Int) : mkInsS (l ++ [x]) k = ((mkInsS l k).1 ++ [(mkIns x (mkInsS l k).2).1], (mkIns x (mkInsS l k).2).2) := by
  induction l generalizing k with
  | nil => rfl
  | cons y l ih => simp [mkInsS, ih]
theorem mkInsS_len (l : List Ins) (k : Int) : (mkInsS l k).1.length = l.length := by
  induction l generalizing k with
  | nil => rfl
  | cons y l ih => simp [mkInsS, ih]
theorem markInsS_t (l : List Ins) (k : Int) (hl : l.length ≤ 9223372036854775807) (hll : ∀ i ∈ l, i.l.length ≤ 9223372036854775807) : Tells Try.prog E0 X 63 [.t (.sl true (l.map (Ins.c true))), iA k] (.io [iA (mkInsS l k).2, .t (.sl true ((mkInsS l k).1.map (Ins.c true))), .u]) := by
  refine Tells.by Try.func63 (by simp [Try.f63]) (Body.i rfl rfl rfl (fun _ => rfl) fun f => ?_)
  repeat' (first
    | refine wp_seq_i ?_ | refine wp_region_i ?_ | refine Run.done rfl ?_ | refine then_n ?_ | refine then_r ?_ | refine then_e ?_ | refine Run.go1 rfl ?_
    | refine wp_skip_i ?_ | refine wp_ret_i ?_ | refine wp_exit_i ?_ | refine wp_block_i ?_ | refine block_n ?_ | refine block_r ?_ | refine block_e ?_ | refine block_o rfl ?_
    | refine wp_cond_t rfl ?_ | refine wp_cond_f rfl ?_
    | (refine wp_cond_i rfl ?_ ?_ <;> intro _))
  refine wp_loop_k (α := Nat × Int × List Ins) [.keep [0, 1, 4, 5] [100000]] (fun p => [(1, iA p.2.1), (5, iA p.1)]) (fun _ => []) (fun p => [(100000, ⟨0, some (f 100000)⟩, p.2.2.map (Ins.c true))]) (fun p => p.1 ≤ l.length ∧ p.2.1 = (mkInsS (l.take p.1) k).2 ∧ p.2.2 = (mkInsS (l.take p.1) k).1 ++ l.drop p.1) (fun p => l.length - p.1) (0, k, l) rfl (fun _ => rfl) rfl ⟨by simp, by simp [mkInsS], by simp [mkInsS]⟩ ?_
  rintro ⟨j, c, m⟩ ⟨hj, hc, hm⟩
  simp only at hj hc hm
  have hml : m.length = l.length := by rw [hm]; simp [mkInsS_len]; omega
  by_cases hlt : j < l.length
  · have hj' : j < m.length := by omega
    have hx : (m.map (Ins.c true))[j]? = some (Ins.c true m[j]) := by simp [hj']
    have ht : l.take (j + 1) = l.take j ++ [l[j]] := by simp
    have hmj : m[j] = l[j] := by subst hm; rw [List.getElem_append_right (by simp [mkInsS_len]; omega)]; simp [mkInsS_len, Nat.min_eq_left hj]
    have hlj : m[j].l.length ≤ 9223372036854775807 := by rw [hmj]; exact hll _ (List.getElem_mem _)
    repeat' (first
      | refine wp_seq_i ?_ | refine wp_region_i ?_ | refine Run.done rfl ?_ | refine then_n ?_ | refine then_r ?_ | refine then_e ?_ | refine Run.go1 rfl ?_
      | refine wp_skip_i ?_ | refine wp_ret_i ?_ | refine wp_exit_i ?_ | refine wp_block_i ?_ | refine block_n ?_ | refine block_r ?_ | refine block_e ?_ | refine block_o rfl ?_
      | refine wp_cond_t rfl ?_ | refine wp_cond_f rfl ?_
      | refine Run.ix rfl rfl rfl rfl rfl rfl rfl hx rfl rfl rfl ?_ | refine Run.str rfl rfl rfl rfl rfl rfl hx rfl rfl ?_ | refine Run.ix rfl rfl rfl rfl rfl rfl rfl (set_hit (by simp [hj'])) rfl rfl rfl ?_ | refine Run.str rfl rfl rfl rfl rfl rfl (set_hit (by simp [hj'])) rfl rfl ?_
      | refine Run.adjw (.hole 100000 j 5 900000 _ _ _ _ _ _ rfl (set_hit (by simp [hj'])) rfl (fun _ => rfl) fun u => .done _ (Run.ldr rfl rfl rfl (set_hit (by simp [hj'])) rfl rfl (Run.go1 rfl (Run.adjw (.tell 51 900000 _ _ _ _ _ rfl rfl rfl rfl (.done _ (Run.call rfl rfl rfl (markIntS_t _ _ hlj) rfl rfl (Run.adjw (.fill 100000 j 5 900000 _ _ _ _ _ _ _ rfl (set_hit (by simp [hj'])) rfl rfl rfl (.done _ ?_))))))))))
      | (refine wp_cond_i rfl ?_ ?_ <;> intro _))
    · refine back_i [.keep [0, 1, 4, 5] [100000]] (j + 1, (mkIns m[j] c).2, m.set j (mkIns m[j] c).1) rfl ?_ ⟨by simp; omega, ?_, ?_⟩ (by simp; omega)
      · simp only [List.map_set, List.set_set, w_succ hlt hl, mkIns, nx]
      · rw [ht, mkInsS_snoc, hmj, hc]
      · rw [ht, mkInsS_snoc, hmj, ← hc]
        conv => lhs; rw [hm]
        rw [List.drop_eq_getElem_cons hlt, List.set_append_right _ _ (by simp [mkInsS_len]; omega)]
        simp only [mkInsS_len, List.length_take, Nat.min_eq_left hj, Nat.sub_self, List.set_cons_zero, List.append_assoc, List.singleton_append]
    · rename_i h; simp [hml, hlt] at h
  · have hjl : j = l.length := by omega
    repeat' (first
      | refine wp_seq_i ?_ | refine wp_region_i ?_ | refine Run.done rfl ?_ | refine then_n ?_ | refine then_r ?_ | refine then_e ?_ | refine Run.go1 rfl ?_
      | refine wp_skip_i ?_ | refine wp_ret_i ?_ | refine wp_exit_i ?_ | refine wp_block_i ?_ | refine block_n ?_ | refine block_r ?_ | refine block_e ?_ | refine block_o rfl ?_
      | refine wp_cond_t rfl ?_ | refine wp_cond_f rfl ?_
      | (refine wp_cond_i rfl ?_ ?_ <;> intro _))
    · rename_i h; simp [hml, hjl] at h
    · refine ret_o [true] [] rfl rfl rfl ⟨rfl, trivial⟩ ?_
      subst hjl
      simp [hc, hm]
end Go.Proofs

set_option linter.unusedVariables false
set_option linter.unusedSimpArgs false
namespace Go.Proofs
open Go Go.Ev
set_option maxRecDepth 100000
variable {X : Rel3}
abbrev uR (n : Int) : List T := [.sc (.int .u8 n)]
def mkB : List Int → Int → List Int × Int
  | [], k => ([], k)
  | _ :: r, k => (IntKind.u8.wrap k :: (mkB r (nx k)).1, (mkB r (nx k)).2)
theorem mkB_snoc (l : List Int) (x k : Int) : mkB (l ++ [x]) k = ((mkB l k).1 ++ [IntKind.u8.wrap (mkB l k).2], nx (mkB l k).2) := by
  induction l generalizing k with
  | nil => rfl
  | cons y l ih => simp [mkB, ih]
theorem mkB_len (l : List Int) (k : Int) : (mkB l k).1.length = l.length := by
  induction l generalizing k with
  | nil => rfl
  | cons y l ih => simp [mkB, ih]
theorem markByteS_t (l : List Int) (k : Int) (hl : l.length ≤ 9223372036854775807) : Tells Try.prog E0 X 14 [.t (.sl true (l.map uR)), iA k] (.io [iA (mkB l k).2, .t (.sl true ((mkB l k).1.map uR)), .u]) := by
  refine Tells.by Try.func14 (by simp [Try.f14]) (Body.i rfl rfl rfl (fun _ => rfl) fun f => ?_)
  repeat' (first
     | refine wp_seq_i ?_ | refine wp_region_i ?_ | refine Run.done rfl ?_ | refine then_n ?_ | refine then_r ?_ | refine then_e ?_ | refine Run.go1 rfl ?_ | refine wp_skip_i ?_ | refine wp_ret_i ?_ | refine wp_exit_i ?_
     | refine wp_block_i ?_ | refine block_n ?_ | refine block_r ?_ | refine block_e ?_ | refine block_o rfl ?_ | refine wp_cond_t rfl ?_ | refine wp_cond_f rfl ?_ | (refine wp_cond_i rfl ?_ ?_ <;> intro _))
  refine wp_loop_k (α := Nat × Int × List Int) [.keep [0, 1, 4, 5] [100000]] (fun p => [(1, iA p.2.1), (5, iA p.1)]) (fun _ => []) (fun p => [(100000, ⟨0, some (f 100000)⟩, p.2.2.map uR)]) (fun p => p.1 ≤ l.length ∧ p.2.1 = (mkB (l.take p.1) k).2 ∧ p.2.2 = (mkB (l.take p.1) k).1 ++ l.drop p.1) (fun p => l.length - p.1) (0, k, l) rfl (fun _ => rfl) rfl ⟨by simp, by simp [mkB], by simp [mkB]⟩ ?_
  rintro ⟨j, c, m⟩ ⟨hj, hc, hm⟩
  simp only at hj hc hm
  have hml : m.length = l.length := by rw [hm]; simp [mkB_len]; omega
  by_cases hlt : j < l.length
  · have ht : l.take (j + 1) = l.take j ++ [l[j]] := by simp
    have hx : (m.map uR)[j]? = some (uR (m[j]'(by omega))) := by simp [hml, hlt]
    repeat' (first
       | refine wp_seq_i ?_ | refine wp_region_i ?_ | refine Run.done rfl ?_ | refine then_n ?_ | refine then_r ?_ | refine then_e ?_ | refine Run.go1 rfl ?_ | refine wp_skip_i ?_ | refine wp_ret_i ?_ | refine wp_exit_i ?_
       | refine wp_block_i ?_ | refine block_n ?_ | refine block_r ?_ | refine block_e ?_ | refine block_o rfl ?_ | refine wp_cond_t rfl ?_ | refine wp_cond_f rfl ?_ | refine Run.ix rfl rfl rfl rfl rfl rfl rfl hx rfl rfl rfl ?_
       | refine Run.str rfl rfl rfl rfl rfl rfl hx rfl rfl ?_ | (refine wp_cond_i rfl ?_ ?_ <;> intro _))
    · refine back_i [.keep [0, 1, 4, 5] [100000]] (j + 1, nx c, m.set j (IntKind.u8.wrap c)) rfl ?_ ⟨by simp; omega, ?_, ?_⟩ (by simp; omega)
      · simp only [List.map_set, w_succ hlt hl, nx]
      · rw [ht, mkB_snoc, hc]
      · rw [ht, mkB_snoc, hm, List.drop_eq_getElem_cons hlt, hc]
        rw [List.set_append_right _ _ (by simp [mkB_len]; omega)]
        simp only [mkB_len, List.length_take, Nat.min_eq_left hj, Nat.sub_self, List.set_cons_zero, List.append_assoc, List.singleton_append]
    · rename_i h; simp [hml, hlt] at h
  · have hjl : j = l.length := by omega
    repeat' (first
       | refine wp_seq_i ?_ | refine wp_region_i ?_ | refine Run.done rfl ?_ | refine then_n ?_ | refine then_r ?_ | refine then_e ?_ | refine Run.go1 rfl ?_ | refine wp_skip_i ?_ | refine wp_ret_i ?_ | refine wp_exit_i ?_
       | refine wp_block_i ?_ | refine block_n ?_ | refine block_r ?_ | refine block_e ?_ | refine block_o rfl ?_ | refine wp_cond_t rfl ?_ | refine wp_cond_f rfl ?_ | (refine wp_cond_i rfl ?_ ?_ <;> intro _))
    · rename_i h; simp [hml, hjl] at h
    · refine ret_o [true] [] rfl rfl rfl ⟨rfl, trivial⟩ ?_
      subst hjl
      simp [hc, hm]
/-- what is marked is held -/
def heB : List Int → Int → Int
  | [], k => k
  | x :: r, k => if x = IntKind.u8.wrap k then heB r (nx k) else -1
theorem heldByteS_t (l : List Int) (k : Int) (hl : l.length ≤ 9223372036854775807) : Tells Try.prog E0 X 15 [.t (.sl false (l.map uR)), iA k] (iA (heB l k)) := by
  refine Tells.by Try.func15 (by simp [Try.f15]) (Body.i rfl rfl rfl (fun _ => rfl) fun f => ?_)
  repeat' (first
     | refine wp_seq_i ?_ | refine wp_region_i ?_ | refine Run.done rfl ?_ | refine then_n ?_ | refine then_r ?_ | refine then_e ?_ | refine Run.go1 rfl ?_ | refine wp_skip_i ?_ | refine wp_ret_i ?_ | refine wp_exit_i ?_
     | refine wp_block_i ?_ | refine block_n ?_ | refine block_r ?_ | refine block_e ?_ | refine block_o rfl ?_ | refine wp_cond_t rfl ?_ | refine wp_cond_f rfl ?_ | (refine wp_cond_i rfl ?_ ?_ <;> intro _))
  refine wp_loop_k (α := Nat × Int) [.keep [0, 1, 4, 5] []] (fun p => [(1, iA p.2), (5, iA p.1)]) (fun _ => []) (fun _ => []) (fun p => p.1 ≤ l.length ∧ heB (l.drop p.1) p.2 = heB l k) (fun p => l.length - p.1) (0, k) rfl (fun _ => rfl) rfl ⟨by simp, by simp⟩ ?_
  rintro ⟨j, c⟩ ⟨hj, hc⟩
  simp only at hj hc
  by_cases hlt : j < l.length
  · have hx : (l.map uR)[j]? = some (uR l[j]) := by simp [hlt]
    rw [List.drop_eq_getElem_cons hlt, heB] at hc
    repeat' (first
       | refine wp_seq_i ?_ | refine wp_region_i ?_ | refine Run.done rfl ?_ | refine then_n ?_ | refine then_r ?_ | refine then_e ?_ | refine Run.go1 rfl ?_ | refine wp_skip_i ?_ | refine wp_ret_i ?_ | refine wp_exit_i ?_
       | refine wp_block_i ?_ | refine block_n ?_ | refine block_r ?_ | refine block_e ?_ | refine block_o rfl ?_ | refine wp_cond_t rfl ?_ | refine wp_cond_f rfl ?_ | refine Run.ix rfl rfl rfl rfl rfl rfl rfl hx rfl rfl rfl ?_
       | (refine wp_cond_i rfl ?_ ?_ <;> intro _))
    · rename_i h
      rw [if_neg (by simpa using h)] at hc
      refine ret_m [] rfl rfl ?_
      rw [← hc]
    · rename_i h
      rw [if_pos (by simpa using h)] at hc
      refine back_i [.keep [0, 1, 4, 5] []] (j + 1, nx c) rfl ?_ ⟨by simp; omega, hc⟩ (by simp; omega)
      simp only [w_succ hlt hl, nx]
    · rename_i h; simp [hlt] at h
  · have hjl : j = l.length := by omega
    repeat' (first
       | refine wp_seq_i ?_ | refine wp_region_i ?_ | refine Run.done rfl ?_ | refine then_n ?_ | refine then_r ?_ | refine then_e ?_ | refine Run.go1 rfl ?_ | refine wp_skip_i ?_ | refine wp_ret_i ?_ | refine wp_exit_i ?_
       | refine wp_block_i ?_ | refine block_n ?_ | refine block_r ?_ | refine block_e ?_ | refine block_o rfl ?_ | refine wp_cond_t rfl ?_ | refine wp_cond_f rfl ?_ | (refine wp_cond_i rfl ?_ ?_ <;> intro _))
    · rename_i h; simp [hjl] at h
    · refine ret_m [] rfl rfl ?_
      rw [← hc, hjl, List.drop_length]; rfl
structure Piece where
  lam : Int
  in_ : Int
  regs : Int
  ins : List Ins
  deriving DecidableEq
abbrev Piece.c (o : Bool) (p : Piece) : List T := [iT p.lam, iT p.in_, iT p.regs, .sl o (p.ins.map (Ins.c o))]
abbrev Piece.a (o : Bool) (p : Piece) : AV := .ag [iA p.lam, iA p.in_, iA p.regs, .t (.sl o (p.ins.map (Ins.c o)))]
theorem markPiece_t (p : Piece) (k : Int) (hl : p.ins.length ≤ 9223372036854775807) (hll : ∀ i ∈ p.ins, i.l.length ≤ 9223372036854775807) : Tells Try.prog E0 X 28 [p.a true, iA k] (.io [iA (mkInsS p.ins k).2, ({ p with ins := (mkInsS p.ins k).1 } : Piece).a true, .u]) := by
  refine Tells.by Try.func28 (by simp [Try.f28]) (Body.i rfl rfl rfl (fun _ => rfl) fun f => ?_)
  repeat' (first
     | refine wp_seq_i ?_ | refine wp_region_i ?_ | refine Run.done rfl ?_ | refine then_n ?_ | refine then_r ?_ | refine then_e ?_ | refine Run.go1 rfl ?_ | refine wp_skip_i ?_ | refine wp_ret_i ?_ | refine wp_exit_i ?_
     | refine wp_block_i ?_ | refine block_n ?_ | refine block_r ?_ | refine block_e ?_ | refine block_o rfl ?_ | refine wp_cond_t rfl ?_ | refine wp_cond_f rfl ?_ | refine Run.call rfl rfl rfl (markInsS_t _ _ hl hll) rfl rfl ?_
     | (refine wp_cond_i rfl ?_ ?_ <;> intro _))
  all_goals (refine ret_o [true] [] rfl rfl rfl ⟨?_, ?_⟩ rfl <;> simp)
end Go.Proofs

set_option linter.unusedVariables false
set_option linter.unusedSimpArgs false
namespace Go.Proofs
open Go Go.Ev
set_option maxRecDepth 100000
variable {X : Rel3}
def rng (a lo hi : Int) : Bool := decide (lo ≤ a) && decide (a ≤ hi)
theorem rng_iff {a lo hi : Int} : rng a lo hi = true ↔ lo ≤ a ∧ a ≤ hi := by simp [rng]
theorem in_t (a lo hi : Int) : Tells Try.prog E0 X 57 [iA a, iA lo, iA hi] (bA (rng a lo hi)) := by
  refine Tells.by Try.func57 (by simp [Try.f57]) (Body.i rfl rfl rfl (fun _ => rfl) fun f => ?_)
  repeat' (first
     | refine wp_seq_i ?_ | refine wp_region_i ?_ | refine Run.done rfl ?_ | refine then_n ?_ | refine then_r ?_ | refine then_e ?_ | refine Run.go1 rfl ?_ | refine wp_skip_i ?_ | refine wp_ret_i ?_ | refine wp_exit_i ?_
     | refine wp_block_i ?_ | refine block_n ?_ | refine block_r ?_ | refine block_e ?_ | refine block_o rfl ?_ | refine wp_cond_t rfl ?_ | refine wp_cond_f rfl ?_ | (refine Run.splitG rfl rfl rfl rfl rfl rfl ?_ ?_ <;> intro _)
     | (refine Run.splitP rfl rfl rfl rfl ?_ ?_ <;> intro _) | (refine wp_cond_i rfl ?_ ?_ <;> intro _))
  all_goals (refine ret_m [] rfl rfl ?_; simp_all [rng] <;> omega)
theorem l1In_t (a lo hi : Int) : Tells Try.prog E0 X 53 [iA a, iA lo, iA hi] (bA (rng a lo hi)) := by
  refine Tells.by Try.func53 (by simp [Try.f53]) (Body.i rfl rfl rfl (fun _ => rfl) fun f => ?_)
  repeat' (first
     | refine wp_seq_i ?_ | refine wp_region_i ?_ | refine Run.done rfl ?_ | refine then_n ?_ | refine then_r ?_ | refine then_e ?_ | refine Run.go1 rfl ?_ | refine wp_skip_i ?_ | refine wp_ret_i ?_ | refine wp_exit_i ?_
     | refine wp_block_i ?_ | refine block_n ?_ | refine block_r ?_ | refine block_e ?_ | refine block_o rfl ?_ | refine wp_cond_t rfl ?_ | refine wp_cond_f rfl ?_ | (refine Run.splitG rfl rfl rfl rfl rfl rfl ?_ ?_ <;> intro _)
     | (refine Run.splitP rfl rfl rfl rfl ?_ ?_ <;> intro _) | (refine wp_cond_i rfl ?_ ?_ <;> intro _))
  all_goals (refine ret_m [] rfl rfl ?_; simp_all [rng] <;> omega)
def lamOk (p : Piece) : Bool := (p.lam == -1 && p.in_ == 0) || (rng p.lam 0 149 && decide (1 ≤ p.in_))
theorem lamOk_t (p : Piece) : Tells Try.prog E0 X 78 [p.a false] (bA (lamOk p)) := by
  refine Tells.by Try.func78 (by simp [Try.f78]) (Body.i rfl rfl rfl (fun _ => rfl) fun f => ?_)
  repeat' (first
     | refine wp_seq_i ?_ | refine wp_region_i ?_ | refine Run.done rfl ?_ | refine then_n ?_ | refine then_r ?_ | refine then_e ?_ | refine Run.go1 rfl ?_ | refine wp_skip_i ?_ | refine wp_ret_i ?_ | refine wp_exit_i ?_
     | refine wp_block_i ?_ | refine block_n ?_ | refine block_r ?_ | refine block_e ?_ | refine block_o rfl ?_ | refine wp_cond_t rfl ?_ | refine wp_cond_f rfl ?_ | refine Run.call rfl rfl rfl (in_t _ _ _) rfl rfl ?_
     | (refine Run.splitG rfl rfl rfl rfl rfl rfl ?_ ?_ <;> intro _) | (refine Run.splitP rfl rfl rfl rfl ?_ ?_ <;> intro _) | (refine wp_cond_i rfl ?_ ?_ <;> intro _))
  all_goals (refine ret_m [] rfl rfl ?_; simp_all [lamOk])
end Go.Proofs

set_option linter.unusedVariables false
set_option linter.unusedSimpArgs false
set_option maxHeartbeats 4000000
namespace Go.Proofs
open Go Go.Ev
set_option maxRecDepth 100000
variable {X : Rel3}
/-- a group of seven bits put above what is there -/
def gAcc (x c : Int) (j : Nat) : Int := x + (c % 128) * 2 ^ (7 * j)
/-- the number that is kept as m -/
def decN (m : Int) : Int := if m % 2 = 1 then -((m + 1) / 2) else m / 2
/-- the number at a place, and the place behind it -/
def gLp (l : List Int) (a : Nat) : Nat → Nat → Int → Option (Int × Int)
  | 0, _, _ => none
  | d + 1, j, x => match l[a + j]? with
    | none => none
    | some c => if c > 127 then gLp l a d (j + 1) (gAcc x c j) else if (c = 0 ∧ 0 < j) ∨ ¬ rng (decN (gAcc x c j)) (-1000000000) 1000000000 = true then none else some (decN (gAcc x c j), ((a + j + 1 : Nat) : Int))
def gNum (l : List Int) (a : Int) : Option (Int × Int) := if a < 0 then none else gLp l a.toNat 5 0 0
def gTup (o : Option (Int × Int)) : AV := match o with
  | some (n, e) => .tp [iA n, iA e, bA true]
  | none => .tp [iA 0, iA 0, bA false]
theorem and127 (c : Int) (h0 : 0 ≤ c) (h1 : c < 256) : IntKind.i64.wrap (BitVec.ofInt IntKind.i64.bits c &&& BitVec.ofInt IntKind.i64.bits 127).toNat = c % 128 := by
  obtain ⟨n, rfl⟩ := Int.eq_ofNat_of_zero_le h0
  have hn : n < 256 := by omega
  have e : (BitVec.ofInt IntKind.i64.bits (n : Int) &&& BitVec.ofInt IntKind.i64.bits 127).toNat = n % 128 := by
    show (BitVec.ofInt 64 (n : Int) &&& BitVec.ofInt 64 127).toNat = n % 128
    rw [BitVec.toNat_and]
    have e1 : (BitVec.ofInt 64 (n : Int)).toNat = n := by simp; omega
    have e2 : (BitVec.ofInt 64 127).toNat = 2 ^ 7 - 1 := by decide
    rw [e1, e2, Nat.and_two_pow_sub_one_eq_mod]
  rw [e, w64 (by omega) (by omega)]
  omega
theorem or_acc (x m : Int) (j : Nat) (hj : j ≤ 28) (h0 : 0 ≤ x) (h1 : x < 2 ^ j) (m0 : 0 ≤ m) (m1 : m < 128) :
    IntKind.i64.wrap (BitVec.ofInt IntKind.i64.bits x ||| BitVec.ofInt IntKind.i64.bits (m * 2 ^ j)).toNat = x + m * 2 ^ j := by
  obtain ⟨a, rfl⟩ := Int.eq_ofNat_of_zero_le h0
  obtain ⟨c, rfl⟩ := Int.eq_ofNat_of_zero_le m0
  have ha : a < 2 ^ j := by exact_mod_cast h1
  have hc : c < 128 := by omega
  have hp : 2 ^ j ≤ 2 ^ 28 := Nat.pow_le_pow_right (by decide) hj
  have hm : c * 2 ^ j ≤ 127 * 2 ^ 28 := Nat.mul_le_mul (by omega) hp
  have em : ((c : Int) * 2 ^ j) = ((c * 2 ^ j : Nat) : Int) := by simp
  rw [em]
  have e : (BitVec.ofInt IntKind.i64.bits (a : Int) ||| BitVec.ofInt IntKind.i64.bits ((c * 2 ^ j : Nat) : Int)).toNat = a + c * 2 ^ j := by
    show (BitVec.ofInt 64 (a : Int) ||| BitVec.ofInt 64 ((c * 2 ^ j : Nat) : Int)).toNat = a + c * 2 ^ j
    rw [BitVec.toNat_or, BitVec.ofInt_natCast, BitVec.ofInt_natCast, BitVec.toNat_ofNat, BitVec.toNat_ofNat, Nat.mod_eq_of_lt (by omega), Nat.mod_eq_of_lt (by omega)]
    have := Nat.shiftLeft_add_eq_or_of_lt ha c
    rw [Nat.shiftLeft_eq] at this
    rw [Nat.or_comm, ← this]; omega
  rw [e, w64 (by omega) (by omega)]
  simp
theorem acc_raw (x c : Int) (j : Nat) (hj : j ≤ 4) (h0 : 0 ≤ x) (h1 : x < 2 ^ (7 * j)) (c0 : 0 ≤ c) (c1 : c < 256) :
    IntKind.i64.wrap (BitVec.ofInt IntKind.i64.bits x ||| BitVec.ofInt IntKind.i64.bits (IntKind.i64.wrap (IntKind.i64.wrap (BitVec.ofInt IntKind.i64.bits (IntKind.i64.wrap c) &&& BitVec.ofInt IntKind.i64.bits 127).toNat * 2 ^ min (IntKind.u64.wrap (IntKind.i64.wrap (7 * (j : Int)))).toNat IntKind.i64.bits))).toNat = gAcc x c j := by
  have e1 : IntKind.i64.wrap c = c := by rw [w64] <;> omega
  have e2 : IntKind.i64.wrap (7 * (j : Int)) = 7 * (j : Int) := by rw [w64] <;> omega
  have e3 : IntKind.u64.wrap (7 * (j : Int)) = 7 * (j : Int) := by simp [IntKind.wrap, IntKind.bits, IntKind.signed]; omega
  have e4 : min (7 * (j : Int)).toNat IntKind.i64.bits = 7 * j := by simp [IntKind.bits]; omega
  rw [e1, e2, e3, e4, and127 c c0 c1]
  have hp : (2 : Int) ^ (7 * j) ≤ 2 ^ 28 := by exact_mod_cast Nat.pow_le_pow_right (by decide : 0 < 2) (by omega : 7 * j ≤ 28)
  have hp0 : (0 : Int) < 2 ^ (7 * j) := Int.pow_pos (by decide)
  have hb : c % 128 * 2 ^ (7 * j) ≤ 127 * 2 ^ 28 := Int.mul_le_mul (by omega) hp (by omega) (by omega)
  have hb0 : 0 ≤ c % 128 * 2 ^ (7 * j) := Int.mul_nonneg (by omega) (by omega)
  rw [w64 (n := c % 128 * 2 ^ (7 * j)) (by omega) (by omega)]
  exact or_acc x (c % 128) (7 * j) (by omega) h0 h1 (by omega) (by omega)
theorem acc_raw' (x c : Int) (j : Nat) (hj : j ≤ 4) (h0 : 0 ≤ x) (h1 : x < 2 ^ (7 * j)) (c0 : 0 ≤ c) (c1 : c < 256) :
    IntKind.i64.wrap (BitVec.ofInt IntKind.i64.bits x ||| BitVec.ofInt IntKind.i64.bits (IntKind.i64.wrap (IntKind.i64.wrap (BitVec.ofInt IntKind.i64.bits (IntKind.i64.wrap c) &&& BitVec.ofInt IntKind.i64.bits 127).toNat * 2 ^ min (IntKind.i64.wrap (7 * (j : Int))).toNat IntKind.i64.bits))).toNat = gAcc x c j := by
  have := acc_raw x c j hj h0 h1 c0 c1
  have e3 : IntKind.u64.wrap (IntKind.i64.wrap (7 * (j : Int))) = IntKind.i64.wrap (7 * (j : Int)) := by
    rw [w64 (by omega) (by omega)]; simp [IntKind.wrap, IntKind.bits, IntKind.signed]; omega
  rw [e3] at this; exact this
theorem gAcc_lt (x c : Int) (j : Nat) (h0 : 0 ≤ x) (h1 : x < 2 ^ (7 * j)) : 0 ≤ gAcc x c j ∧ gAcc x c j < 2 ^ (7 * (j + 1)) := by
  have hp0 : (0 : Int) < 2 ^ (7 * j) := Int.pow_pos (by decide)
  have e : (2 : Int) ^ (7 * (j + 1)) = 128 * 2 ^ (7 * j) := by rw [show 7 * (j + 1) = 7 * j + 7 by omega, Int.pow_add]; omega
  have hb : c % 128 * 2 ^ (7 * j) ≤ 127 * 2 ^ (7 * j) := Int.mul_le_mul_of_nonneg_right (by omega) (by omega)
  have hb0 : 0 ≤ c % 128 * 2 ^ (7 * j) := Int.mul_nonneg (by omega) (by omega)
  unfold gAcc; rw [e]; omega
theorem gAcc_small (x c : Int) (j : Nat) (hj : j ≤ 4) (h0 : 0 ≤ x) (h1 : x < 2 ^ (7 * j)) : 0 ≤ gAcc x c j ∧ gAcc x c j < 34359738368 := by
  obtain ⟨a, b⟩ := gAcc_lt x c j h0 h1
  have hp : (2 : Int) ^ (7 * (j + 1)) ≤ 2 ^ 35 := by exact_mod_cast Nat.pow_le_pow_right (by decide : 0 < 2) (by omega : 7 * (j + 1) ≤ 35)
  omega
theorem and1 (M : Int) (h0 : 0 ≤ M) (h1 : M < 34359738368) : IntKind.i64.wrap (BitVec.ofInt IntKind.i64.bits M &&& BitVec.ofInt IntKind.i64.bits 1).toNat = M % 2 := by
  obtain ⟨n, rfl⟩ := Int.eq_ofNat_of_zero_le h0
  have e : (BitVec.ofInt IntKind.i64.bits (n : Int) &&& BitVec.ofInt IntKind.i64.bits 1).toNat = n % 2 := by
    show (BitVec.ofInt 64 (n : Int) &&& BitVec.ofInt 64 1).toNat = n % 2
    rw [BitVec.toNat_and]
    have e1 : (BitVec.ofInt 64 (n : Int)).toNat = n := by simp; omega
    have e2 : (BitVec.ofInt 64 1).toNat = 2 ^ 1 - 1 := by decide
    rw [e1, e2, Nat.and_two_pow_sub_one_eq_mod]
  rw [e, w64 (by omega) (by omega)]
  omega
theorem half (M : Int) (h0 : 0 ≤ M) : M.fdiv (2 ^ min (Int.toNat 1) IntKind.i64.bits) = M / 2 := by
  have e : (2 : Int) ^ min (Int.toNat 1) IntKind.i64.bits = 2 := by decide
  rw [e, Int.fdiv_eq_ediv_of_nonneg _ (by omega)]
theorem decO {M : Int} (h0 : 0 ≤ M) (h1 : M < 34359738368) (h : M % 2 = 1) : IntKind.i64.wrap (IntKind.i64.wrap (0 - M / 2) - 1) = decN M := by
  rw [w64 (n := 0 - M / 2) (by omega) (by omega), w64 (by omega) (by omega), decN, if_pos h]; omega
theorem decE {M : Int} (h : ¬ M % 2 = 1) : M / 2 = decN M := by rw [decN, if_neg h]
theorem GetNumS_t (l : List Int) (a : Int) (hl : l.length ≤ 1000000000000) (hb : ∀ c ∈ l, 0 ≤ c ∧ c < 256) : Tells Try.prog E0 X 68 [.t (.sl false (l.map uR)), iA a] (gTup (gNum l a)) := by
  refine Tells.by Try.func68 (by simp [Try.f68]) (Body.i rfl rfl rfl (fun _ => rfl) fun f => ?_)
  repeat' (first
     | refine wp_seq_i ?_ | refine wp_region_i ?_ | refine Run.done rfl ?_ | refine then_n ?_ | refine then_r ?_ | refine then_e ?_ | refine Run.go1 rfl ?_ | refine wp_skip_i ?_ | refine wp_ret_i ?_ | refine wp_exit_i ?_
     | refine wp_block_i ?_ | refine block_n ?_ | refine block_r ?_ | refine block_e ?_ | refine block_o rfl ?_ | refine wp_cond_t rfl ?_ | refine wp_cond_f rfl ?_ | refine Run.gT rfl rfl rfl rfl ?_ | refine Run.pT rfl rfl ?_
     | (refine Run.splitG rfl rfl rfl rfl rfl rfl ?_ ?_ <;> intro _) | (refine Run.splitP rfl rfl rfl rfl ?_ ?_ <;> intro _) | (refine wp_cond_k rfl rfl rfl ?_ ?_ <;> intro _) | (refine wp_cond_i rfl ?_ ?_ <;> intro _))
  refine wp_loop_k (α := Nat × Int) [.keep [0, 1, 4, 5, 6, 7, 8] []] (fun z => [(7, iA z.2), (8, iA z.1)]) (fun _ => []) (fun _ => []) (fun z => (z.1 ≤ 5 ∧ 0 ≤ z.2 ∧ z.2 < 2 ^ (7 * z.1)) ∧ (0 ≤ a → gLp l a.toNat 5 0 0 = gLp l a.toNat (5 - z.1) z.1 z.2)) (fun z => 5 - z.1) (0, 0) rfl (fun _ => rfl) rfl ⟨by simp, fun _ => rfl⟩ ?_
  rintro ⟨j, x⟩ ⟨⟨hj, hx0, hx1⟩, hg⟩
  simp only at hj hx0 hx1 hg
  by_cases ha : a < 0
  · have hgn : gNum l a = none := if_pos ha
    repeat' (first
       | refine wp_seq_i ?_ | refine wp_region_i ?_ | refine Run.done rfl ?_ | refine then_n ?_ | refine then_r ?_ | refine then_e ?_ | refine Run.go1 rfl ?_ | refine wp_skip_i ?_ | refine wp_ret_i ?_ | refine wp_exit_i ?_
       | refine wp_block_i ?_ | refine block_n ?_ | refine block_r ?_ | refine block_e ?_ | refine block_o rfl ?_ | refine wp_cond_t rfl ?_ | refine wp_cond_f rfl ?_ | refine Run.gT rfl rfl rfl rfl ?_ | refine Run.pT rfl rfl ?_
       | (refine Run.splitG rfl rfl rfl rfl rfl rfl ?_ ?_ <;> intro _) | (refine Run.splitP rfl rfl rfl rfl ?_ ?_ <;> intro _) | (refine wp_cond_k rfl rfl rfl ?_ ?_ <;> intro _) | (refine wp_cond_i rfl ?_ ?_ <;> intro _))
    all_goals first
    | (refine ret_m [] rfl rfl ?_; rw [hgn]; rfl)
    | (exfalso; rename_i h; simp at h; omega)
    | (exfalso; simp_all; omega)
    | trace_state
  obtain ⟨n, rfl⟩ := Int.eq_ofNat_of_zero_le (show 0 ≤ a by omega)
  have hgn : gNum l (n : Int) = gLp l n (5 - j) j x := by
    have := hg (by omega)
    rw [gNum, if_neg ha]; simpa using this
  by_cases h5 : j = 5
  · subst h5
    have hgz : gLp l n (5 - 5) 5 x = none := rfl
    repeat' (first
       | refine wp_seq_i ?_ | refine wp_region_i ?_ | refine Run.done rfl ?_ | refine then_n ?_ | refine then_r ?_ | refine then_e ?_ | refine Run.go1 rfl ?_ | refine wp_skip_i ?_ | refine wp_ret_i ?_ | refine wp_exit_i ?_
       | refine wp_block_i ?_ | refine block_n ?_ | refine block_r ?_ | refine block_e ?_ | refine block_o rfl ?_ | refine wp_cond_t rfl ?_ | refine wp_cond_f rfl ?_ | refine Run.gT rfl rfl rfl rfl ?_ | refine Run.pT rfl rfl ?_
       | (refine Run.splitG rfl rfl rfl rfl rfl rfl ?_ ?_ <;> intro _) | (refine Run.splitP rfl rfl rfl rfl ?_ ?_ <;> intro _) | (refine wp_cond_k rfl rfl rfl ?_ ?_ <;> intro _) | (refine wp_cond_i rfl ?_ ?_ <;> intro _))
    all_goals first
    | (refine ret_m [] rfl rfl ?_; rw [hgn, hgz]; rfl)
    | (exfalso; simp_all; done)
    | trace_state
  have h4 : j ≤ 4 := by omega
  cases hget : l[n + j]? with
  | none =>
    have hlen : l.length ≤ n + j := List.getElem?_eq_none_iff.1 hget
    have hgz : gLp l n (5 - j) j x = none := by
      rw [show 5 - j = (4 - j) + 1 by omega, gLp, hget]
    have hj5 : j = 0 ∨ j = 1 ∨ j = 2 ∨ j = 3 ∨ j = 4 := by omega
    rcases hj5 with rfl | rfl | rfl | rfl | rfl
    all_goals (
    repeat' (first
       | refine wp_seq_i ?_ | refine wp_region_i ?_ | refine Run.done rfl ?_ | refine then_n ?_ | refine then_r ?_ | refine then_e ?_ | refine Run.go1 rfl ?_ | refine wp_skip_i ?_ | refine wp_ret_i ?_ | refine wp_exit_i ?_
       | refine wp_block_i ?_ | refine block_n ?_ | refine block_r ?_ | refine block_e ?_ | refine block_o rfl ?_ | refine wp_cond_t rfl ?_ | refine wp_cond_f rfl ?_ | refine Run.gT rfl rfl rfl rfl ?_ | refine Run.pT rfl rfl ?_
       | (refine Run.splitG rfl rfl rfl rfl rfl rfl ?_ ?_ <;> intro _) | (refine Run.splitP rfl rfl rfl rfl ?_ ?_ <;> intro _) | (refine wp_cond_k rfl rfl rfl ?_ ?_ <;> intro _) | (refine wp_cond_i rfl ?_ ?_ <;> intro _)))
    all_goals first
    | (refine ret_m [] rfl rfl ?_; rw [hgn, hgz]; rfl)
    | (exfalso; rename_i h1 h2; have h3 := of_decide_eq_true h1; have h4 := of_decide_eq_true h2; simp only [List.length_map] at h3 h4; rw [w64 (by omega) (by omega)] at h4; omega)
    | (exfalso; simp_all; done)
    | (exfalso; simp_all; omega)
    | trace_state
  | some c =>
    have hlen : n + j < l.length := (List.getElem?_eq_some_iff.1 hget).1
    have hc := hb c (List.mem_of_getElem? hget)
    have hx : (l.map uR)[n + j]? = some (uR c) := by rw [List.getElem?_map, hget]; rfl
    have hidx : IntKind.i64.wrap ((n : Int) + (j : Int)) = ((n + j : Nat) : Int) := by rw [w64] <;> omega
    have hgl : gLp l n (5 - j) j x = if c > 127 then gLp l n (5 - (j + 1)) (j + 1) (gAcc x c j) else if (c = 0 ∧ 0 < j) ∨ ¬ rng (decN (gAcc x c j)) (-1000000000) 1000000000 = true then none else some (decN (gAcc x c j), ((n + j + 1 : Nat) : Int)) := by
      rw [show 5 - j = (4 - j) + 1 by omega, gLp, hget, show 5 - (j + 1) = 4 - j by omega]
    have hacc := acc_raw x c j h4 hx0 hx1 hc.1 hc.2
    have hlt := gAcc_lt x c j hx0 hx1
    have hsm := gAcc_small x c j h4 hx0 hx1
    have hwc : IntKind.i64.wrap c = c := by rw [w64] <;> omega
    rw [hwc] at hacc
    have hA := and1 _ hsm.1 hsm.2
    have hH := half _ hsm.1
    have hO := decO hsm.1 hsm.2
    have hE := @decE (gAcc x c j)
    have hnx : IntKind.i64.wrap (((n + j : Nat) : Int) + 1) = ((n + j + 1 : Nat) : Int) := by rw [w64] <;> omega
    have hjx : IntKind.i64.wrap ((j : Int) + 1) = ((j + 1 : Nat) : Int) := by rw [w64] <;> omega
    have hj5 : j = 0 ∨ j = 1 ∨ j = 2 ∨ j = 3 ∨ j = 4 := by omega
    rcases hj5 with rfl | rfl | rfl | rfl | rfl
    ·
      repeat' (first
         | refine wp_seq_i ?_ | refine wp_region_i ?_ | refine Run.done rfl ?_ | refine then_n ?_ | refine then_r ?_ | refine then_e ?_ | refine Run.go1 rfl ?_ | refine wp_skip_i ?_ | refine wp_ret_i ?_ | refine wp_exit_i ?_
         | refine wp_block_i ?_ | refine block_n ?_ | refine block_r ?_ | refine block_e ?_ | refine block_o rfl ?_ | refine wp_cond_t rfl ?_ | refine wp_cond_f rfl ?_ | refine Run.gT rfl rfl rfl rfl ?_ | refine Run.pT rfl rfl ?_
         | (refine Run.splitG rfl rfl rfl rfl rfl rfl ?_ ?_ <;> intro _) | (refine Run.splitP rfl rfl rfl rfl ?_ ?_ <;> intro _) | refine Run.ix rfl rfl rfl rfl rfl rfl hidx hx rfl rfl rfl ?_
         | refine Run.call rfl rfl rfl (l1In_t _ _ _) rfl rfl ?_ | (refine wp_cond_k rfl rfl rfl ?_ ?_ <;> intro _) | (refine wp_cond_i rfl ?_ ?_ <;> intro _))

      all_goals first
      | (refine back_i [.keep [0, 1, 4, 5, 6, 7, 8] []] (0 + 1, gAcc x c 0) rfl ?_ ⟨⟨by simp, hlt.1, hlt.2⟩, fun h0 => ?_⟩ (by simp)
         · simp only [hwc, hacc, hjx]; first | done | rfl
         · rename_i h; simp only [hwc] at h; have h := of_decide_eq_true h; rw [if_pos h] at hgl; rw [gNum, if_neg ha] at hgn; simpa using hgn.trans hgl)
      | (exfalso; rename_i h; have h := of_decide_eq_false h; simp only [List.length_map] at h; omega)
      | (exfalso; rename_i h; have h := of_decide_eq_false h; simp only [List.length_map, hidx] at h; omega)
      | (refine ret_m [] rfl rfl ?_
         simp only [hacc, hwc] at *
         generalize gAcc x c 0 = M at *
         simp only [hA, hH] at *
         rw [hgn, hgl]
         first
         | (simp_all [gTup]; done)
         | (rename_i hcf ho hr
            have hcf : ¬ c > 127 := of_decide_eq_false hcf
            first
            | (have e := hO (by simpa using ho); simp only [e] at hr ⊢; rw [if_neg hcf]; (first | rw [if_pos (by simp only [Bool.not_eq_true'] at hr; simp [hr])] | rw [if_neg (by simp_all)]); simp only [gTup, hidx, hnx]; done)
            | (have e := hE (by simpa using ho); simp only [e] at hr ⊢; rw [if_neg hcf]; (first | rw [if_pos (by simp only [Bool.not_eq_true'] at hr; simp [hr])] | rw [if_neg (by simp_all)]); simp only [gTup, hidx, hnx]; done))
         | (rename_i hcf hz ho hr
            have hcf : ¬ c > 127 := of_decide_eq_false hcf
            first
            | (have e := hO (by simpa using ho); simp only [e] at hr ⊢; rw [if_neg hcf]; (first | rw [if_pos (by simp only [Bool.not_eq_true'] at hr; simp [hr])] | rw [if_neg (by simp_all)]); simp only [gTup, hidx, hnx]; done)
            | (have e := hE (by simpa using ho); simp only [e] at hr ⊢; rw [if_neg hcf]; (first | rw [if_pos (by simp only [Bool.not_eq_true'] at hr; simp [hr])] | rw [if_neg (by simp_all)]); simp only [gTup, hidx, hnx]; done))
         | trace_state)
      | trace_state
    ·
      repeat' (first
         | refine wp_seq_i ?_ | refine wp_region_i ?_ | refine Run.done rfl ?_ | refine then_n ?_ | refine then_r ?_ | refine then_e ?_ | refine Run.go1 rfl ?_ | refine wp_skip_i ?_ | refine wp_ret_i ?_ | refine wp_exit_i ?_
         | refine wp_block_i ?_ | refine block_n ?_ | refine block_r ?_ | refine block_e ?_ | refine block_o rfl ?_ | refine wp_cond_t rfl ?_ | refine wp_cond_f rfl ?_ | refine Run.gT rfl rfl rfl rfl ?_ | refine Run.pT rfl rfl ?_
         | (refine Run.splitG rfl rfl rfl rfl rfl rfl ?_ ?_ <;> intro _) | (refine Run.splitP rfl rfl rfl rfl ?_ ?_ <;> intro _) | refine Run.ix rfl rfl rfl rfl rfl rfl hidx hx rfl rfl rfl ?_
         | refine Run.call rfl rfl rfl (l1In_t _ _ _) rfl rfl ?_ | (refine wp_cond_k rfl rfl rfl ?_ ?_ <;> intro _) | (refine wp_cond_i rfl ?_ ?_ <;> intro _))

      all_goals first
      | (refine back_i [.keep [0, 1, 4, 5, 6, 7, 8] []] (1 + 1, gAcc x c 1) rfl ?_ ⟨⟨by simp, hlt.1, hlt.2⟩, fun h0 => ?_⟩ (by simp)
         · simp only [hwc, hacc, hjx]; first | done | rfl
         · rename_i h; simp only [hwc] at h; have h := of_decide_eq_true h; rw [if_pos h] at hgl; rw [gNum, if_neg ha] at hgn; simpa using hgn.trans hgl)
      | (exfalso; rename_i h; have h := of_decide_eq_false h; simp only [List.length_map] at h; omega)
      | (exfalso; rename_i h; have h := of_decide_eq_false h; simp only [List.length_map, hidx] at h; omega)
      | (refine ret_m [] rfl rfl ?_
         simp only [hacc, hwc] at *
         generalize gAcc x c 1 = M at *
         simp only [hA, hH] at *
         rw [hgn, hgl]
         first
         | (simp_all [gTup]; done)
         | (rename_i hcf ho hr
            have hcf : ¬ c > 127 := of_decide_eq_false hcf
            first
            | (have e := hO (by simpa using ho); simp only [e] at hr ⊢; rw [if_neg hcf]; (first | rw [if_pos (by simp only [Bool.not_eq_true'] at hr; simp [hr])] | rw [if_neg (by simp_all)]); simp only [gTup, hidx, hnx]; done)
            | (have e := hE (by simpa using ho); simp only [e] at hr ⊢; rw [if_neg hcf]; (first | rw [if_pos (by simp only [Bool.not_eq_true'] at hr; simp [hr])] | rw [if_neg (by simp_all)]); simp only [gTup, hidx, hnx]; done))
         | (rename_i hcf hz ho hr
            have hcf : ¬ c > 127 := of_decide_eq_false hcf
            first
            | (have e := hO (by simpa using ho); simp only [e] at hr ⊢; rw [if_neg hcf]; (first | rw [if_pos (by simp only [Bool.not_eq_true'] at hr; simp [hr])] | rw [if_neg (by simp_all)]); simp only [gTup, hidx, hnx]; done)
            | (have e := hE (by simpa using ho); simp only [e] at hr ⊢; rw [if_neg hcf]; (first | rw [if_pos (by simp only [Bool.not_eq_true'] at hr; simp [hr])] | rw [if_neg (by simp_all)]); simp only [gTup, hidx, hnx]; done))
         | trace_state)
      | trace_state
    ·
      repeat' (first
         | refine wp_seq_i ?_ | refine wp_region_i ?_ | refine Run.done rfl ?_ | refine then_n ?_ | refine then_r ?_ | refine then_e ?_ | refine Run.go1 rfl ?_ | refine wp_skip_i ?_ | refine wp_ret_i ?_ | refine wp_exit_i ?_
         | refine wp_block_i ?_ | refine block_n ?_ | refine block_r ?_ | refine block_e ?_ | refine block_o rfl ?_ | refine wp_cond_t rfl ?_ | refine wp_cond_f rfl ?_ | refine Run.gT rfl rfl rfl rfl ?_ | refine Run.pT rfl rfl ?_
         | (refine Run.splitG rfl rfl rfl rfl rfl rfl ?_ ?_ <;> intro _) | (refine Run.splitP rfl rfl rfl rfl ?_ ?_ <;> intro _) | refine Run.ix rfl rfl rfl rfl rfl rfl hidx hx rfl rfl rfl ?_
         | refine Run.call rfl rfl rfl (l1In_t _ _ _) rfl rfl ?_ | (refine wp_cond_k rfl rfl rfl ?_ ?_ <;> intro _) | (refine wp_cond_i rfl ?_ ?_ <;> intro _))

      all_goals first
      | (refine back_i [.keep [0, 1, 4, 5, 6, 7, 8] []] (2 + 1, gAcc x c 2) rfl ?_ ⟨⟨by simp, hlt.1, hlt.2⟩, fun h0 => ?_⟩ (by simp)
         · simp only [hwc, hacc, hjx]; first | done | rfl
         · rename_i h; simp only [hwc] at h; have h := of_decide_eq_true h; rw [if_pos h] at hgl; rw [gNum, if_neg ha] at hgn; simpa using hgn.trans hgl)
      | (exfalso; rename_i h; have h := of_decide_eq_false h; simp only [List.length_map] at h; omega)
      | (exfalso; rename_i h; have h := of_decide_eq_false h; simp only [List.length_map, hidx] at h; omega)
      | (refine ret_m [] rfl rfl ?_
         simp only [hacc, hwc] at *
         generalize gAcc x c 2 = M at *
         simp only [hA, hH] at *
         rw [hgn, hgl]
         first
         | (simp_all [gTup]; done)
         | (rename_i hcf ho hr
            have hcf : ¬ c > 127 := of_decide_eq_false hcf
            first
            | (have e := hO (by simpa using ho); simp only [e] at hr ⊢; rw [if_neg hcf]; (first | rw [if_pos (by simp only [Bool.not_eq_true'] at hr; simp [hr])] | rw [if_neg (by simp_all)]); simp only [gTup, hidx, hnx]; done)
            | (have e := hE (by simpa using ho); simp only [e] at hr ⊢; rw [if_neg hcf]; (first | rw [if_pos (by simp only [Bool.not_eq_true'] at hr; simp [hr])] | rw [if_neg (by simp_all)]); simp only [gTup, hidx, hnx]; done))
         | (rename_i hcf hz ho hr
            have hcf : ¬ c > 127 := of_decide_eq_false hcf
            first
            | (have e := hO (by simpa using ho); simp only [e] at hr ⊢; rw [if_neg hcf]; (first | rw [if_pos (by simp only [Bool.not_eq_true'] at hr; simp [hr])] | rw [if_neg (by simp_all)]); simp only [gTup, hidx, hnx]; done)
            | (have e := hE (by simpa using ho); simp only [e] at hr ⊢; rw [if_neg hcf]; (first | rw [if_pos (by simp only [Bool.not_eq_true'] at hr; simp [hr])] | rw [if_neg (by simp_all)]); simp only [gTup, hidx, hnx]; done))
         | trace_state)
      | trace_state
    ·
      repeat' (first
         | refine wp_seq_i ?_ | refine wp_region_i ?_ | refine Run.done rfl ?_ | refine then_n ?_ | refine then_r ?_ | refine then_e ?_ | refine Run.go1 rfl ?_ | refine wp_skip_i ?_ | refine wp_ret_i ?_ | refine wp_exit_i ?_
         | refine wp_block_i ?_ | refine block_n ?_ | refine block_r ?_ | refine block_e ?_ | refine block_o rfl ?_ | refine wp_cond_t rfl ?_ | refine wp_cond_f rfl ?_ | refine Run.gT rfl rfl rfl rfl ?_ | refine Run.pT rfl rfl ?_
         | (refine Run.splitG rfl rfl rfl rfl rfl rfl ?_ ?_ <;> intro _) | (refine Run.splitP rfl rfl rfl rfl ?_ ?_ <;> intro _) | refine Run.ix rfl rfl rfl rfl rfl rfl hidx hx rfl rfl rfl ?_
         | refine Run.call rfl rfl rfl (l1In_t _ _ _) rfl rfl ?_ | (refine wp_cond_k rfl rfl rfl ?_ ?_ <;> intro _) | (refine wp_cond_i rfl ?_ ?_ <;> intro _))

      all_goals first
      | (refine back_i [.keep [0, 1, 4, 5, 6, 7, 8] []] (3 + 1, gAcc x c 3) rfl ?_ ⟨⟨by simp, hlt.1, hlt.2⟩, fun h0 => ?_⟩ (by simp)
         · simp only [hwc, hacc, hjx]; first | done | rfl
         · rename_i h; simp only [hwc] at h; have h := of_decide_eq_true h; rw [if_pos h] at hgl; rw [gNum, if_neg ha] at hgn; simpa using hgn.trans hgl)
      | (exfalso; rename_i h; have h := of_decide_eq_false h; simp only [List.length_map] at h; omega)
      | (exfalso; rename_i h; have h := of_decide_eq_false h; simp only [List.length_map, hidx] at h; omega)
      | (refine ret_m [] rfl rfl ?_
         simp only [hacc, hwc] at *
         generalize gAcc x c 3 = M at *
         simp only [hA, hH] at *
         rw [hgn, hgl]
         first
         | (simp_all [gTup]; done)
         | (rename_i hcf ho hr
            have hcf : ¬ c > 127 := of_decide_eq_false hcf
            first
            | (have e := hO (by simpa using ho); simp only [e] at hr ⊢; rw [if_neg hcf]; (first | rw [if_pos (by simp only [Bool.not_eq_true'] at hr; simp [hr])] | rw [if_neg (by simp_all)]); simp only [gTup, hidx, hnx]; done)
            | (have e := hE (by simpa using ho); simp only [e] at hr ⊢; rw [if_neg hcf]; (first | rw [if_pos (by simp only [Bool.not_eq_true'] at hr; simp [hr])] | rw [if_neg (by simp_all)]); simp only [gTup, hidx, hnx]; done))
         | (rename_i hcf hz ho hr
            have hcf : ¬ c > 127 := of_decide_eq_false hcf
            first
            | (have e := hO (by simpa using ho); simp only [e] at hr ⊢; rw [if_neg hcf]; (first | rw [if_pos (by simp only [Bool.not_eq_true'] at hr; simp [hr])] | rw [if_neg (by simp_all)]); simp only [gTup, hidx, hnx]; done)
            | (have e := hE (by simpa using ho); simp only [e] at hr ⊢; rw [if_neg hcf]; (first | rw [if_pos (by simp only [Bool.not_eq_true'] at hr; simp [hr])] | rw [if_neg (by simp_all)]); simp only [gTup, hidx, hnx]; done))
         | trace_state)
      | trace_state
    ·
      repeat' (first
         | refine wp_seq_i ?_ | refine wp_region_i ?_ | refine Run.done rfl ?_ | refine then_n ?_ | refine then_r ?_ | refine then_e ?_ | refine Run.go1 rfl ?_ | refine wp_skip_i ?_ | refine wp_ret_i ?_ | refine wp_exit_i ?_
         | refine wp_block_i ?_ | refine block_n ?_ | refine block_r ?_ | refine block_e ?_ | refine block_o rfl ?_ | refine wp_cond_t rfl ?_ | refine wp_cond_f rfl ?_ | refine Run.gT rfl rfl rfl rfl ?_ | refine Run.pT rfl rfl ?_
         | (refine Run.splitG rfl rfl rfl rfl rfl rfl ?_ ?_ <;> intro _) | (refine Run.splitP rfl rfl rfl rfl ?_ ?_ <;> intro _) | refine Run.ix rfl rfl rfl rfl rfl rfl hidx hx rfl rfl rfl ?_
         | refine Run.call rfl rfl rfl (l1In_t _ _ _) rfl rfl ?_ | (refine wp_cond_k rfl rfl rfl ?_ ?_ <;> intro _) | (refine wp_cond_i rfl ?_ ?_ <;> intro _))

      all_goals first
      | (refine back_i [.keep [0, 1, 4, 5, 6, 7, 8] []] (4 + 1, gAcc x c 4) rfl ?_ ⟨⟨by simp, hlt.1, hlt.2⟩, fun h0 => ?_⟩ (by simp)
         · simp only [hwc, hacc, hjx]; first | done | rfl
         · rename_i h; simp only [hwc] at h; have h := of_decide_eq_true h; rw [if_pos h] at hgl; rw [gNum, if_neg ha] at hgn; simpa using hgn.trans hgl)
      | (exfalso; rename_i h; have h := of_decide_eq_false h; simp only [List.length_map] at h; omega)
      | (exfalso; rename_i h; have h := of_decide_eq_false h; simp only [List.length_map, hidx] at h; omega)
      | (refine ret_m [] rfl rfl ?_
         simp only [hacc, hwc] at *
         generalize gAcc x c 4 = M at *
         simp only [hA, hH] at *
         rw [hgn, hgl]
         first
         | (simp_all [gTup]; done)
         | (rename_i hcf ho hr
            have hcf : ¬ c > 127 := of_decide_eq_false hcf
            first
            | (have e := hO (by simpa using ho); simp only [e] at hr ⊢; rw [if_neg hcf]; (first | rw [if_pos (by simp only [Bool.not_eq_true'] at hr; simp [hr])] | rw [if_neg (by simp_all)]); simp only [gTup, hidx, hnx]; done)
            | (have e := hE (by simpa using ho); simp only [e] at hr ⊢; rw [if_neg hcf]; (first | rw [if_pos (by simp only [Bool.not_eq_true'] at hr; simp [hr])] | rw [if_neg (by simp_all)]); simp only [gTup, hidx, hnx]; done))
         | (rename_i hcf hz ho hr
            have hcf : ¬ c > 127 := of_decide_eq_false hcf
            first
            | (have e := hO (by simpa using ho); simp only [e] at hr ⊢; rw [if_neg hcf]; (first | rw [if_pos (by simp only [Bool.not_eq_true'] at hr; simp [hr])] | rw [if_neg (by simp_all)]); simp only [gTup, hidx, hnx]; done)
            | (have e := hE (by simpa using ho); simp only [e] at hr ⊢; rw [if_neg hcf]; (first | rw [if_pos (by simp only [Bool.not_eq_true'] at hr; simp [hr])] | rw [if_neg (by simp_all)]); simp only [gTup, hidx, hnx]; done))
         | trace_state)
      | trace_state
end Go.Proofs

set_option linter.unusedVariables false
set_option linter.unusedSimpArgs false
set_option maxHeartbeats 4000000
namespace Go.Proofs
open Go Go.Ev
set_option maxRecDepth 100000
variable {X : Rel3}
theorem tmod2 (M : Int) (h0 : 0 ≤ M) : M.tmod 2 = M % 2 := Int.tmod_eq_emod_of_nonneg h0
theorem tdiv2 (M : Int) (h0 : 0 ≤ M) (h1 : M < 34359738368) : IntKind.i64.wrap (M.tdiv 2) = M / 2 := by
  rw [Int.tdiv_eq_ediv_of_nonneg h0, w64 (by omega) (by omega)]
theorem decO' {M : Int} (h0 : 0 ≤ M) (h1 : M < 34359738368) (h : M % 2 = 1) : IntKind.i64.wrap ((IntKind.i64.wrap (0 - IntKind.i64.wrap (M + 1))).tdiv 2) = decN M := by
  rw [w64 (n := M + 1) (by omega) (by omega), w64 (n := 0 - (M + 1)) (by omega) (by omega), show 0 - (M + 1) = -(M + 1) by omega, Int.neg_tdiv, Int.tdiv_eq_ediv_of_nonneg (by omega), w64 (by omega) (by omega), decN, if_pos h]
theorem GetNumI_t (l : List Int) (a : Int) (ha0 : a ≤ 9223372036854775807) (hl : l.length ≤ 1000000000000) (hb : ∀ c ∈ l, 0 ≤ c ∧ c < 256) : Tells Try.prog E0 X 90 [.t (.sl false (l.map uR)), iA a] (gTup (gNum l a)) := by
  refine Tells.by Try.func90 (by simp [Try.f90]) (Body.i rfl rfl rfl (fun _ => rfl) fun f => ?_)
  repeat' (first
     | refine wp_seq_i ?_ | refine wp_region_i ?_ | refine Run.done rfl ?_ | refine then_n ?_ | refine then_r ?_ | refine then_e ?_ | refine Run.go1 rfl ?_ | refine wp_skip_i ?_ | refine wp_ret_i ?_ | refine wp_exit_i ?_
     | refine wp_block_i ?_ | refine block_n ?_ | refine block_r ?_ | refine block_e ?_ | refine block_o rfl ?_ | refine wp_cond_t rfl ?_ | refine wp_cond_f rfl ?_ | refine Run.gT rfl rfl rfl rfl ?_ | refine Run.pT rfl rfl ?_
     | (refine Run.splitG rfl rfl rfl rfl rfl rfl ?_ ?_ <;> intro _) | (refine Run.splitP rfl rfl rfl rfl ?_ ?_ <;> intro _) | (refine wp_cond_k rfl rfl rfl ?_ ?_ <;> intro _) | (refine wp_cond_i rfl ?_ ?_ <;> intro _))
  refine wp_loop_k (α := Nat × Int) [.keep [0, 1, 4, 5, 6, 7, 8] []] (fun z => [(7, iA z.2), (8, iA z.1)]) (fun _ => []) (fun _ => []) (fun z => (z.1 ≤ 5 ∧ 0 ≤ z.2 ∧ z.2 < 2 ^ (7 * z.1)) ∧ (0 ≤ a → gLp l a.toNat 5 0 0 = gLp l a.toNat (5 - z.1) z.1 z.2)) (fun z => 5 - z.1) (0, 0) rfl (fun _ => rfl) rfl ⟨by simp, fun _ => rfl⟩ ?_
  rintro ⟨j, x⟩ ⟨⟨hj, hx0, hx1⟩, hg⟩
  simp only at hj hx0 hx1 hg
  by_cases ha : a < 0
  · have hgn : gNum l a = none := if_pos ha
    repeat' (first
       | refine wp_seq_i ?_ | refine wp_region_i ?_ | refine Run.done rfl ?_ | refine then_n ?_ | refine then_r ?_ | refine then_e ?_ | refine Run.go1 rfl ?_ | refine wp_skip_i ?_ | refine wp_ret_i ?_ | refine wp_exit_i ?_
       | refine wp_block_i ?_ | refine block_n ?_ | refine block_r ?_ | refine block_e ?_ | refine block_o rfl ?_ | refine wp_cond_t rfl ?_ | refine wp_cond_f rfl ?_ | refine Run.gT rfl rfl rfl rfl ?_ | refine Run.pT rfl rfl ?_
       | (refine Run.splitG rfl rfl rfl rfl rfl rfl ?_ ?_ <;> intro _) | (refine Run.splitP rfl rfl rfl rfl ?_ ?_ <;> intro _) | (refine wp_cond_k rfl rfl rfl ?_ ?_ <;> intro _) | (refine wp_cond_i rfl ?_ ?_ <;> intro _))
    all_goals first
    | (refine ret_m [] rfl rfl ?_; rw [hgn]; rfl)
    | (exfalso; rename_i h; simp at h; omega)
    | (exfalso; simp_all; omega)
    | trace_state
  obtain ⟨n, rfl⟩ := Int.eq_ofNat_of_zero_le (show 0 ≤ a by omega)
  have hgn : gNum l (n : Int) = gLp l n (5 - j) j x := by
    have := hg (by omega)
    rw [gNum, if_neg ha]; simpa using this
  by_cases h5 : j = 5
  · subst h5
    have hgz : gLp l n (5 - 5) 5 x = none := rfl
    repeat' (first
       | refine wp_seq_i ?_ | refine wp_region_i ?_ | refine Run.done rfl ?_ | refine then_n ?_ | refine then_r ?_ | refine then_e ?_ | refine Run.go1 rfl ?_ | refine wp_skip_i ?_ | refine wp_ret_i ?_ | refine wp_exit_i ?_
       | refine wp_block_i ?_ | refine block_n ?_ | refine block_r ?_ | refine block_e ?_ | refine block_o rfl ?_ | refine wp_cond_t rfl ?_ | refine wp_cond_f rfl ?_ | refine Run.gT rfl rfl rfl rfl ?_ | refine Run.pT rfl rfl ?_
       | (refine Run.splitG rfl rfl rfl rfl rfl rfl ?_ ?_ <;> intro _) | (refine Run.splitP rfl rfl rfl rfl ?_ ?_ <;> intro _) | (refine wp_cond_k rfl rfl rfl ?_ ?_ <;> intro _) | (refine wp_cond_i rfl ?_ ?_ <;> intro _))
    all_goals first
    | (refine ret_m [] rfl rfl ?_; rw [hgn, hgz]; rfl)
    | (exfalso; simp_all; done)
    | trace_state
  have h4 : j ≤ 4 := by omega
  cases hget : l[n + j]? with
  | none =>
    have hlen : l.length ≤ n + j := List.getElem?_eq_none_iff.1 hget
    have hgz : gLp l n (5 - j) j x = none := by
      rw [show 5 - j = (4 - j) + 1 by omega, gLp, hget]
    have hj5 : j = 0 ∨ j = 1 ∨ j = 2 ∨ j = 3 ∨ j = 4 := by omega
    rcases hj5 with rfl | rfl | rfl | rfl | rfl
    all_goals (
    repeat' (first
       | refine wp_seq_i ?_ | refine wp_region_i ?_ | refine Run.done rfl ?_ | refine then_n ?_ | refine then_r ?_ | refine then_e ?_ | refine Run.go1 rfl ?_ | refine wp_skip_i ?_ | refine wp_ret_i ?_ | refine wp_exit_i ?_
       | refine wp_block_i ?_ | refine block_n ?_ | refine block_r ?_ | refine block_e ?_ | refine block_o rfl ?_ | refine wp_cond_t rfl ?_ | refine wp_cond_f rfl ?_ | refine Run.gT rfl rfl rfl rfl ?_ | refine Run.pT rfl rfl ?_
       | (refine Run.splitG rfl rfl rfl rfl rfl rfl ?_ ?_ <;> intro _) | (refine Run.splitP rfl rfl rfl rfl ?_ ?_ <;> intro _) | (refine wp_cond_k rfl rfl rfl ?_ ?_ <;> intro _) | (refine wp_cond_i rfl ?_ ?_ <;> intro _)))
    all_goals first
    | (refine ret_m [] rfl rfl ?_; rw [hgn, hgz]; rfl)
    | (exfalso; rename_i h; have h := of_decide_eq_true h; simp only [List.length_map] at h; rw [w64 (by omega) (by omega)] at h; omega)
    | (exfalso; rename_i h1 h2; have h3 := of_decide_eq_true h1; have h4 := of_decide_eq_true h2; simp only [List.length_map] at h3 h4; rw [w64 (by omega) (by omega)] at h4; omega)
    | (exfalso; simp_all; done)
    | (exfalso; simp_all; omega)
    | trace_state
  | some c =>
    have hlen : n + j < l.length := (List.getElem?_eq_some_iff.1 hget).1
    have hc := hb c (List.mem_of_getElem? hget)
    have hx : (l.map uR)[n + j]? = some (uR c) := by rw [List.getElem?_map, hget]; rfl
    have hidx : IntKind.i64.wrap ((n : Int) + (j : Int)) = ((n + j : Nat) : Int) := by rw [w64] <;> omega
    have hgl : gLp l n (5 - j) j x = if c > 127 then gLp l n (5 - (j + 1)) (j + 1) (gAcc x c j) else if (c = 0 ∧ 0 < j) ∨ ¬ rng (decN (gAcc x c j)) (-1000000000) 1000000000 = true then none else some (decN (gAcc x c j), ((n + j + 1 : Nat) : Int)) := by
      rw [show 5 - j = (4 - j) + 1 by omega, gLp, hget, show 5 - (j + 1) = 4 - j by omega]
    have hacc := acc_raw' x c j h4 hx0 hx1 hc.1 hc.2
    have hlt := gAcc_lt x c j hx0 hx1
    have hsm := gAcc_small x c j h4 hx0 hx1
    have hwc : IntKind.i64.wrap c = c := by rw [w64] <;> omega
    rw [hwc] at hacc
    have hA := tmod2 _ hsm.1
    have hH := tdiv2 _ hsm.1 hsm.2
    have hO := decO' hsm.1 hsm.2
    have hE := @decE (gAcc x c j)
    have hnx : IntKind.i64.wrap (((n + j : Nat) : Int) + 1) = ((n + j + 1 : Nat) : Int) := by rw [w64] <;> omega
    have hjx : IntKind.i64.wrap ((j : Int) + 1) = ((j + 1 : Nat) : Int) := by rw [w64] <;> omega
    have hj5 : j = 0 ∨ j = 1 ∨ j = 2 ∨ j = 3 ∨ j = 4 := by omega
    rcases hj5 with rfl | rfl | rfl | rfl | rfl
    ·
      repeat' (first
         | refine wp_seq_i ?_ | refine wp_region_i ?_ | refine Run.done rfl ?_ | refine then_n ?_ | refine then_r ?_ | refine then_e ?_ | refine Run.go1 rfl ?_ | refine wp_skip_i ?_ | refine wp_ret_i ?_ | refine wp_exit_i ?_
         | refine wp_block_i ?_ | refine block_n ?_ | refine block_r ?_ | refine block_e ?_ | refine block_o rfl ?_ | refine wp_cond_t rfl ?_ | refine wp_cond_f rfl ?_ | refine Run.gT rfl rfl rfl rfl ?_ | refine Run.pT rfl rfl ?_
         | (refine Run.splitG rfl rfl rfl rfl rfl rfl ?_ ?_ <;> intro _) | (refine Run.splitP rfl rfl rfl rfl ?_ ?_ <;> intro _) | refine Run.ix rfl rfl rfl rfl rfl rfl hidx hx rfl rfl rfl ?_
         | refine Run.call rfl rfl rfl (in_t _ _ _) rfl rfl ?_ | (refine wp_cond_k rfl rfl rfl ?_ ?_ <;> intro _) | (refine wp_cond_i rfl ?_ ?_ <;> intro _))

      all_goals first
      | (refine back_i [.keep [0, 1, 4, 5, 6, 7, 8] []] (0 + 1, gAcc x c 0) rfl ?_ ⟨⟨by simp, hlt.1, hlt.2⟩, fun h0 => ?_⟩ (by simp)
         · simp only [hwc, hacc, hjx]; first | done | rfl
         · rename_i h; simp only [hwc] at h; have h := of_decide_eq_true h; rw [if_pos h] at hgl; rw [gNum, if_neg ha] at hgn; simpa using hgn.trans hgl)
      | (exfalso; rename_i h; have h := of_decide_eq_false h; simp only [List.length_map] at h; omega)
      | (exfalso; rename_i h; have h := of_decide_eq_false h; simp only [List.length_map, hidx] at h; omega)
      | (exfalso; rename_i h; have h := of_decide_eq_false h; simp only [List.length_map] at h; rw [w64 (by omega) (by omega)] at h; omega)
      | (refine ret_m [] rfl rfl ?_
         simp only [hacc, hwc] at *
         generalize gAcc x c 0 = M at *
         simp only [hA, hH] at *
         rw [hgn, hgl]
         first
         | (simp_all [gTup]; done)
         | (rename_i hcf ho hr
            have hcf : ¬ c > 127 := of_decide_eq_false hcf
            first
            | (have e := hO (by simpa using ho); simp only [e] at hr ⊢; rw [if_neg hcf]; (first | rw [if_pos (by simp only [Bool.not_eq_true'] at hr; simp [hr])] | rw [if_neg (by simp_all)]); simp only [gTup, hidx, hnx]; done)
            | (have e := hE (by simpa using ho); simp only [e] at hr ⊢; rw [if_neg hcf]; (first | rw [if_pos (by simp only [Bool.not_eq_true'] at hr; simp [hr])] | rw [if_neg (by simp_all)]); simp only [gTup, hidx, hnx]; done))
         | (rename_i hcf hz ho hr
            have hcf : ¬ c > 127 := of_decide_eq_false hcf
            first
            | (have e := hO (by simpa using ho); simp only [e] at hr ⊢; rw [if_neg hcf]; (first | rw [if_pos (by simp only [Bool.not_eq_true'] at hr; simp [hr])] | rw [if_neg (by simp_all)]); simp only [gTup, hidx, hnx]; done)
            | (have e := hE (by simpa using ho); simp only [e] at hr ⊢; rw [if_neg hcf]; (first | rw [if_pos (by simp only [Bool.not_eq_true'] at hr; simp [hr])] | rw [if_neg (by simp_all)]); simp only [gTup, hidx, hnx]; done))
         | (rename_i hcf hr ho
            have hcf : ¬ c > 127 := of_decide_eq_false hcf
            first
            | (have e := hO (by simpa using ho); simp only [e] at hr ⊢; rw [if_neg hcf]; (first | rw [if_pos (by simp only [Bool.not_eq_true'] at hr; simp [hr])] | rw [if_neg (by simp_all)]); simp only [gTup, hidx, hnx]; done)
            | (have e := hE (by simpa using ho); simp only [e] at hr ⊢; rw [if_neg hcf]; (first | rw [if_pos (by simp only [Bool.not_eq_true'] at hr; simp [hr])] | rw [if_neg (by simp_all)]); simp only [gTup, hidx, hnx]; done))
         | (rename_i hcf hz hr ho
            have hcf : ¬ c > 127 := of_decide_eq_false hcf
            first
            | (have e := hO (by simpa using ho); simp only [e] at hr ⊢; rw [if_neg hcf]; (first | rw [if_pos (by simp only [Bool.not_eq_true'] at hr; simp [hr])] | rw [if_neg (by simp_all)]); simp only [gTup, hidx, hnx]; done)
            | (have e := hE (by simpa using ho); simp only [e] at hr ⊢; rw [if_neg hcf]; (first | rw [if_pos (by simp only [Bool.not_eq_true'] at hr; simp [hr])] | rw [if_neg (by simp_all)]); simp only [gTup, hidx, hnx]; done))
         | trace_state)
      | trace_state
    ·
      repeat' (first
         | refine wp_seq_i ?_ | refine wp_region_i ?_ | refine Run.done rfl ?_ | refine then_n ?_ | refine then_r ?_ | refine then_e ?_ | refine Run.go1 rfl ?_ | refine wp_skip_i ?_ | refine wp_ret_i ?_ | refine wp_exit_i ?_
         | refine wp_block_i ?_ | refine block_n ?_ | refine block_r ?_ | refine block_e ?_ | refine block_o rfl ?_ | refine wp_cond_t rfl ?_ | refine wp_cond_f rfl ?_ | refine Run.gT rfl rfl rfl rfl ?_ | refine Run.pT rfl rfl ?_
         | (refine Run.splitG rfl rfl rfl rfl rfl rfl ?_ ?_ <;> intro _) | (refine Run.splitP rfl rfl rfl rfl ?_ ?_ <;> intro _) | refine Run.ix rfl rfl rfl rfl rfl rfl hidx hx rfl rfl rfl ?_
         | refine Run.call rfl rfl rfl (in_t _ _ _) rfl rfl ?_ | (refine wp_cond_k rfl rfl rfl ?_ ?_ <;> intro _) | (refine wp_cond_i rfl ?_ ?_ <;> intro _))

      all_goals first
      | (refine back_i [.keep [0, 1, 4, 5, 6, 7, 8] []] (1 + 1, gAcc x c 1) rfl ?_ ⟨⟨by simp, hlt.1, hlt.2⟩, fun h0 => ?_⟩ (by simp)
         · simp only [hwc, hacc, hjx]; first | done | rfl
         · rename_i h; simp only [hwc] at h; have h := of_decide_eq_true h; rw [if_pos h] at hgl; rw [gNum, if_neg ha] at hgn; simpa using hgn.trans hgl)
      | (exfalso; rename_i h; have h := of_decide_eq_false h; simp only [List.length_map] at h; omega)
      | (exfalso; rename_i h; have h := of_decide_eq_false h; simp only [List.length_map, hidx] at h; omega)
      | (exfalso; rename_i h; have h := of_decide_eq_false h; simp only [List.length_map] at h; rw [w64 (by omega) (by omega)] at h; omega)
      | (refine ret_m [] rfl rfl ?_
         simp only [hacc, hwc] at *
         generalize gAcc x c 1 = M at *
         simp only [hA, hH] at *
         rw [hgn, hgl]
         first
         | (simp_all [gTup]; done)
         | (rename_i hcf ho hr
            have hcf : ¬ c > 127 := of_decide_eq_false hcf
            first
            | (have e := hO (by simpa using ho); simp only [e] at hr ⊢; rw [if_neg hcf]; (first | rw [if_pos (by simp only [Bool.not_eq_true'] at hr; simp [hr])] | rw [if_neg (by simp_all)]); simp only [gTup, hidx, hnx]; done)
            | (have e := hE (by simpa using ho); simp only [e] at hr ⊢; rw [if_neg hcf]; (first | rw [if_pos (by simp only [Bool.not_eq_true'] at hr; simp [hr])] | rw [if_neg (by simp_all)]); simp only [gTup, hidx, hnx]; done))
         | (rename_i hcf hz ho hr
            have hcf : ¬ c > 127 := of_decide_eq_false hcf
            first
            | (have e := hO (by simpa using ho); simp only [e] at hr ⊢; rw [if_neg hcf]; (first | rw [if_pos (by simp only [Bool.not_eq_true'] at hr; simp [hr])] | rw [if_neg (by simp_all)]); simp only [gTup, hidx, hnx]; done)
            | (have e := hE (by simpa using ho); simp only [e] at hr ⊢; rw [if_neg hcf]; (first | rw [if_pos (by simp only [Bool.not_eq_true'] at hr; simp [hr])] | rw [if_neg (by simp_all)]); simp only [gTup, hidx, hnx]; done))
         | (rename_i hcf hr ho
            have hcf : ¬ c > 127 := of_decide_eq_false hcf
            first
            | (have e := hO (by simpa using ho); simp only [e] at hr ⊢; rw [if_neg hcf]; (first | rw [if_pos (by simp only [Bool.not_eq_true'] at hr; simp [hr])] | rw [if_neg (by simp_all)]); simp only [gTup, hidx, hnx]; done)
            | (have e := hE (by simpa using ho); simp only [e] at hr ⊢; rw [if_neg hcf]; (first | rw [if_pos (by simp only [Bool.not_eq_true'] at hr; simp [hr])] | rw [if_neg (by simp_all)]); simp only [gTup, hidx, hnx]; done))
         | (rename_i hcf hz hr ho
            have hcf : ¬ c > 127 := of_decide_eq_false hcf
            first
            | (have e := hO (by simpa using ho); simp only [e] at hr ⊢; rw [if_neg hcf]; (first | rw [if_pos (by simp only [Bool.not_eq_true'] at hr; simp [hr])] | rw [if_neg (by simp_all)]); simp only [gTup, hidx, hnx]; done)
            | (have e := hE (by simpa using ho); simp only [e] at hr ⊢; rw [if_neg hcf]; (first | rw [if_pos (by simp only [Bool.not_eq_true'] at hr; simp [hr])] | rw [if_neg (by simp_all)]); simp only [gTup, hidx, hnx]; done))
         | trace_state)
      | trace_state
    ·
      repeat' (first
         | refine wp_seq_i ?_ | refine wp_region_i ?_ | refine Run.done rfl ?_ | refine then_n ?_ | refine then_r ?_ | refine then_e ?_ | refine Run.go1 rfl ?_ | refine wp_skip_i ?_ | refine wp_ret_i ?_ | refine wp_exit_i ?_
         | refine wp_block_i ?_ | refine block_n ?_ | refine block_r ?_ | refine block_e ?_ | refine block_o rfl ?_ | refine wp_cond_t rfl ?_ | refine wp_cond_f rfl ?_ | refine Run.gT rfl rfl rfl rfl ?_ | refine Run.pT rfl rfl ?_
         | (refine Run.splitG rfl rfl rfl rfl rfl rfl ?_ ?_ <;> intro _) | (refine Run.splitP rfl rfl rfl rfl ?_ ?_ <;> intro _) | refine Run.ix rfl rfl rfl rfl rfl rfl hidx hx rfl rfl rfl ?_
         | refine Run.call rfl rfl rfl (in_t _ _ _) rfl rfl ?_ | (refine wp_cond_k rfl rfl rfl ?_ ?_ <;> intro _) | (refine wp_cond_i rfl ?_ ?_ <;> intro _))

      all_goals first
      | (refine back_i [.keep [0, 1, 4, 5, 6, 7, 8] []] (2 + 1, gAcc x c 2) rfl ?_ ⟨⟨by simp, hlt.1, hlt.2⟩, fun h0 => ?_⟩ (by simp)
         · simp only [hwc, hacc, hjx]; first | done | rfl
         · rename_i h; simp only [hwc] at h; have h := of_decide_eq_true h; rw [if_pos h] at hgl; rw [gNum, if_neg ha] at hgn; simpa using hgn.trans hgl)
      | (exfalso; rename_i h; have h := of_decide_eq_false h; simp only [List.length_map] at h; omega)
      | (exfalso; rename_i h; have h := of_decide_eq_false h; simp only [List.length_map, hidx] at h; omega)
      | (exfalso; rename_i h; have h := of_decide_eq_false h; simp only [List.length_map] at h; rw [w64 (by omega) (by omega)] at h; omega)
      | (refine ret_m [] rfl rfl ?_
         simp only [hacc, hwc] at *
         generalize gAcc x c 2 = M at *
         simp only [hA, hH] at *
         rw [hgn, hgl]
         first
         | (simp_all [gTup]; done)
         | (rename_i hcf ho hr
            have hcf : ¬ c > 127 := of_decide_eq_false hcf
            first
            | (have e := hO (by simpa using ho); simp only [e] at hr ⊢; rw [if_neg hcf]; (first | rw [if_pos (by simp only [Bool.not_eq_true'] at hr; simp [hr])] | rw [if_neg (by simp_all)]); simp only [gTup, hidx, hnx]; done)
            | (have e := hE (by simpa using ho); simp only [e] at hr ⊢; rw [if_neg hcf]; (first | rw [if_pos (by simp only [Bool.not_eq_true'] at hr; simp [hr])] | rw [if_neg (by simp_all)]); simp only [gTup, hidx, hnx]; done))
         | (rename_i hcf hz ho hr
            have hcf : ¬ c > 127 := of_decide_eq_false hcf
            first
            | (have e := hO (by simpa using ho); simp only [e] at hr ⊢; rw [if_neg hcf]; (first | rw [if_pos (by simp only [Bool.not_eq_true'] at hr; simp [hr])] | rw [if_neg (by simp_all)]); simp only [gTup, hidx, hnx]; done)
            | (have e := hE (by simpa using ho); simp only [e] at hr ⊢; rw [if_neg hcf]; (first | rw [if_pos (by simp only [Bool.not_eq_true'] at hr; simp [hr])] | rw [if_neg (by simp_all)]); simp only [gTup, hidx, hnx]; done))
         | (rename_i hcf hr ho
            have hcf : ¬ c > 127 := of_decide_eq_false hcf
            first
            | (have e := hO (by simpa using ho); simp only [e] at hr ⊢; rw [if_neg hcf]; (first | rw [if_pos (by simp only [Bool.not_eq_true'] at hr; simp [hr])] | rw [if_neg (by simp_all)]); simp only [gTup, hidx, hnx]; done)
            | (have e := hE (by simpa using ho); simp only [e] at hr ⊢; rw [if_neg hcf]; (first | rw [if_pos (by simp only [Bool.not_eq_true'] at hr; simp [hr])] | rw [if_neg (by simp_all)]); simp only [gTup, hidx, hnx]; done))
         | (rename_i hcf hz hr ho
            have hcf : ¬ c > 127 := of_decide_eq_false hcf
            first
            | (have e := hO (by simpa using ho); simp only [e] at hr ⊢; rw [if_neg hcf]; (first | rw [if_pos (by simp only [Bool.not_eq_true'] at hr; simp [hr])] | rw [if_neg (by simp_all)]); simp only [gTup, hidx, hnx]; done)
            | (have e := hE (by simpa using ho); simp only [e] at hr ⊢; rw [if_neg hcf]; (first | rw [if_pos (by simp only [Bool.not_eq_true'] at hr; simp [hr])] | rw [if_neg (by simp_all)]); simp only [gTup, hidx, hnx]; done))
         | trace_state)
      | trace_state
    ·
      repeat' (first
         | refine wp_seq_i ?_ | refine wp_region_i ?_ | refine Run.done rfl ?_ | refine then_n ?_ | refine then_r ?_ | refine then_e ?_ | refine Run.go1 rfl ?_ | refine wp_skip_i ?_ | refine wp_ret_i ?_ | refine wp_exit_i ?_
         | refine wp_block_i ?_ | refine block_n ?_ | refine block_r ?_ | refine block_e ?_ | refine block_o rfl ?_ | refine wp_cond_t rfl ?_ | refine wp_cond_f rfl ?_ | refine Run.gT rfl rfl rfl rfl ?_ | refine Run.pT rfl rfl ?_
         | (refine Run.splitG rfl rfl rfl rfl rfl rfl ?_ ?_ <;> intro _) | (refine Run.splitP rfl rfl rfl rfl ?_ ?_ <;> intro _) | refine Run.ix rfl rfl rfl rfl rfl rfl hidx hx rfl rfl rfl ?_
         | refine Run.call rfl rfl rfl (in_t _ _ _) rfl rfl ?_ | (refine wp_cond_k rfl rfl rfl ?_ ?_ <;> intro _) | (refine wp_cond_i rfl ?_ ?_ <;> intro _))

      all_goals first
      | (refine back_i [.keep [0, 1, 4, 5, 6, 7, 8] []] (3 + 1, gAcc x c 3) rfl ?_ ⟨⟨by simp, hlt.1, hlt.2⟩, fun h0 => ?_⟩ (by simp)
         · simp only [hwc, hacc, hjx]; first | done | rfl
         · rename_i h; simp only [hwc] at h; have h := of_decide_eq_true h; rw [if_pos h] at hgl; rw [gNum, if_neg ha] at hgn; simpa using hgn.trans hgl)
      | (exfalso; rename_i h; have h := of_decide_eq_false h; simp only [List.length_map] at h; omega)
      | (exfalso; rename_i h; have h := of_decide_eq_false h; simp only [List.length_map, hidx] at h; omega)
      | (exfalso; rename_i h; have h := of_decide_eq_false h; simp only [List.length_map] at h; rw [w64 (by omega) (by omega)] at h; omega)
      | (refine ret_m [] rfl rfl ?_
         simp only [hacc, hwc] at *
         generalize gAcc x c 3 = M at *
         simp only [hA, hH] at *
         rw [hgn, hgl]
         first
         | (simp_all [gTup]; done)
         | (rename_i hcf ho hr
            have hcf : ¬ c > 127 := of_decide_eq_false hcf
            first
            | (have e := hO (by simpa using ho); simp only [e] at hr ⊢; rw [if_neg hcf]; (first | rw [if_pos (by simp only [Bool.not_eq_true'] at hr; simp [hr])] | rw [if_neg (by simp_all)]); simp only [gTup, hidx, hnx]; done)
            | (have e := hE (by simpa using ho); simp only [e] at hr ⊢; rw [if_neg hcf]; (first | rw [if_pos (by simp only [Bool.not_eq_true'] at hr; simp [hr])] | rw [if_neg (by simp_all)]); simp only [gTup, hidx, hnx]; done))
         | (rename_i hcf hz ho hr
            have hcf : ¬ c > 127 := of_decide_eq_false hcf
            first
            | (have e := hO (by simpa using ho); simp only [e] at hr ⊢; rw [if_neg hcf]; (first | rw [if_pos (by simp only [Bool.not_eq_true'] at hr; simp [hr])] | rw [if_neg (by simp_all)]); simp only [gTup, hidx, hnx]; done)
            | (have e := hE (by simpa using ho); simp only [e] at hr ⊢; rw [if_neg hcf]; (first | rw [if_pos (by simp only [Bool.not_eq_true'] at hr; simp [hr])] | rw [if_neg (by simp_all)]); simp only [gTup, hidx, hnx]; done))
         | (rename_i hcf hr ho
            have hcf : ¬ c > 127 := of_decide_eq_false hcf
            first
            | (have e := hO (by simpa using ho); simp only [e] at hr ⊢; rw [if_neg hcf]; (first | rw [if_pos (by simp only [Bool.not_eq_true'] at hr; simp [hr])] | rw [if_neg (by simp_all)]); simp only [gTup, hidx, hnx]; done)
            | (have e := hE (by simpa using ho); simp only [e] at hr ⊢; rw [if_neg hcf]; (first | rw [if_pos (by simp only [Bool.not_eq_true'] at hr; simp [hr])] | rw [if_neg (by simp_all)]); simp only [gTup, hidx, hnx]; done))
         | (rename_i hcf hz hr ho
            have hcf : ¬ c > 127 := of_decide_eq_false hcf
            first
            | (have e := hO (by simpa using ho); simp only [e] at hr ⊢; rw [if_neg hcf]; (first | rw [if_pos (by simp only [Bool.not_eq_true'] at hr; simp [hr])] | rw [if_neg (by simp_all)]); simp only [gTup, hidx, hnx]; done)
            | (have e := hE (by simpa using ho); simp only [e] at hr ⊢; rw [if_neg hcf]; (first | rw [if_pos (by simp only [Bool.not_eq_true'] at hr; simp [hr])] | rw [if_neg (by simp_all)]); simp only [gTup, hidx, hnx]; done))
         | trace_state)
      | trace_state
    ·
      repeat' (first
         | refine wp_seq_i ?_ | refine wp_region_i ?_ | refine Run.done rfl ?_ | refine then_n ?_ | refine then_r ?_ | refine then_e ?_ | refine Run.go1 rfl ?_ | refine wp_skip_i ?_ | refine wp_ret_i ?_ | refine wp_exit_i ?_
         | refine wp_block_i ?_ | refine block_n ?_ | refine block_r ?_ | refine block_e ?_ | refine block_o rfl ?_ | refine wp_cond_t rfl ?_ | refine wp_cond_f rfl ?_ | refine Run.gT rfl rfl rfl rfl ?_ | refine Run.pT rfl rfl ?_
         | (refine Run.splitG rfl rfl rfl rfl rfl rfl ?_ ?_ <;> intro _) | (refine Run.splitP rfl rfl rfl rfl ?_ ?_ <;> intro _) | refine Run.ix rfl rfl rfl rfl rfl rfl hidx hx rfl rfl rfl ?_
         | refine Run.call rfl rfl rfl (in_t _ _ _) rfl rfl ?_ | (refine wp_cond_k rfl rfl rfl ?_ ?_ <;> intro _) | (refine wp_cond_i rfl ?_ ?_ <;> intro _))

      all_goals first
      | (refine back_i [.keep [0, 1, 4, 5, 6, 7, 8] []] (4 + 1, gAcc x c 4) rfl ?_ ⟨⟨by simp, hlt.1, hlt.2⟩, fun h0 => ?_⟩ (by simp)
         · simp only [hwc, hacc, hjx]; first | done | rfl
         · rename_i h; simp only [hwc] at h; have h := of_decide_eq_true h; rw [if_pos h] at hgl; rw [gNum, if_neg ha] at hgn; simpa using hgn.trans hgl)
      | (exfalso; rename_i h; have h := of_decide_eq_false h; simp only [List.length_map] at h; omega)
      | (exfalso; rename_i h; have h := of_decide_eq_false h; simp only [List.length_map, hidx] at h; omega)
      | (exfalso; rename_i h; have h := of_decide_eq_false h; simp only [List.length_map] at h; rw [w64 (by omega) (by omega)] at h; omega)
      | (refine ret_m [] rfl rfl ?_
         simp only [hacc, hwc] at *
         generalize gAcc x c 4 = M at *
         simp only [hA, hH] at *
         rw [hgn, hgl]
         first
         | (simp_all [gTup]; done)
         | (rename_i hcf ho hr
            have hcf : ¬ c > 127 := of_decide_eq_false hcf
            first
            | (have e := hO (by simpa using ho); simp only [e] at hr ⊢; rw [if_neg hcf]; (first | rw [if_pos (by simp only [Bool.not_eq_true'] at hr; simp [hr])] | rw [if_neg (by simp_all)]); simp only [gTup, hidx, hnx]; done)
            | (have e := hE (by simpa using ho); simp only [e] at hr ⊢; rw [if_neg hcf]; (first | rw [if_pos (by simp only [Bool.not_eq_true'] at hr; simp [hr])] | rw [if_neg (by simp_all)]); simp only [gTup, hidx, hnx]; done))
         | (rename_i hcf hz ho hr
            have hcf : ¬ c > 127 := of_decide_eq_false hcf
            first
            | (have e := hO (by simpa using ho); simp only [e] at hr ⊢; rw [if_neg hcf]; (first | rw [if_pos (by simp only [Bool.not_eq_true'] at hr; simp [hr])] | rw [if_neg (by simp_all)]); simp only [gTup, hidx, hnx]; done)
            | (have e := hE (by simpa using ho); simp only [e] at hr ⊢; rw [if_neg hcf]; (first | rw [if_pos (by simp only [Bool.not_eq_true'] at hr; simp [hr])] | rw [if_neg (by simp_all)]); simp only [gTup, hidx, hnx]; done))
         | (rename_i hcf hr ho
            have hcf : ¬ c > 127 := of_decide_eq_false hcf
            first
            | (have e := hO (by simpa using ho); simp only [e] at hr ⊢; rw [if_neg hcf]; (first | rw [if_pos (by simp only [Bool.not_eq_true'] at hr; simp [hr])] | rw [if_neg (by simp_all)]); simp only [gTup, hidx, hnx]; done)
            | (have e := hE (by simpa using ho); simp only [e] at hr ⊢; rw [if_neg hcf]; (first | rw [if_pos (by simp only [Bool.not_eq_true'] at hr; simp [hr])] | rw [if_neg (by simp_all)]); simp only [gTup, hidx, hnx]; done))
         | (rename_i hcf hz hr ho
            have hcf : ¬ c > 127 := of_decide_eq_false hcf
            first
            | (have e := hO (by simpa using ho); simp only [e] at hr ⊢; rw [if_neg hcf]; (first | rw [if_pos (by simp only [Bool.not_eq_true'] at hr; simp [hr])] | rw [if_neg (by simp_all)]); simp only [gTup, hidx, hnx]; done)
            | (have e := hE (by simpa using ho); simp only [e] at hr ⊢; rw [if_neg hcf]; (first | rw [if_pos (by simp only [Bool.not_eq_true'] at hr; simp [hr])] | rw [if_neg (by simp_all)]); simp only [gTup, hidx, hnx]; done))
         | trace_state)
      | trace_state
end Go.Proofs

set_option linter.unusedVariables false
set_option linter.unusedSimpArgs false
namespace Go.Proofs
open Go Go.Ev
set_option maxRecDepth 100000
variable {X : Rel3}
def uD (op : Int) : Bool := op == 1 || op == 2 || op == 3 || op == 8 || op == 4 || op == 9 || op == 10 || op == 5 || op == 6 || op == 7 || op == 14 || op == 17
def uX (op : Int) : Bool := op == 4 || op == 9 || op == 10 || op == 5 || op == 6 || op == 7 || op == 14 || op == 11 || op == 12 || op == 15 || op == 16
def uY (op : Int) : Bool := op == 5 || op == 6 || op == 7 || op == 14
def uT (op : Int) : Bool := op == 11 || op == 12 || op == 13 || op == 17
theorem l9Uses_t (op : Int) : Tells Try.prog E0 X 74 [iA op] (.ag [bA (uD op), bA (uX op), bA (uY op), bA (uT op)]) := by
  refine Tells.by Try.func74 (by simp [Try.f74]) (Body.i rfl rfl rfl (fun _ => rfl) fun f => ?_)
  repeat' (first
     | refine wp_seq_i ?_ | refine wp_region_i ?_ | refine Run.done rfl ?_ | refine then_n ?_ | refine then_r ?_ | refine then_e ?_ | refine Run.go1 rfl ?_ | refine wp_skip_i ?_ | refine wp_ret_i ?_ | refine wp_exit_i ?_
     | refine wp_block_i ?_ | refine block_n ?_ | refine block_r ?_ | refine block_e ?_ | refine block_o rfl ?_ | refine wp_cond_t rfl ?_ | refine wp_cond_f rfl ?_ | (refine wp_cond_k rfl rfl rfl ?_ ?_ <;> intro _)
     | (refine wp_cond_i rfl ?_ ?_ <;> intro _))
  all_goals (refine ret_m [] rfl rfl ?_; simp_all [uD, uX, uY, uT])
def l9Reg (has : Bool) (r regs : Int) : Bool := if has then rng r 0 (IntKind.i64.wrap (regs - 1)) else r == 0
theorem l9Reg_t (has : Bool) (r regs : Int) : Tells Try.prog E0 X 92 [bA has, iA r, iA regs] (bA (l9Reg has r regs)) := by
  refine Tells.by Try.func92 (by simp [Try.f92]) (Body.i rfl rfl rfl (fun _ => rfl) fun f => ?_)
  repeat' (first
     | refine wp_seq_i ?_ | refine wp_region_i ?_ | refine Run.done rfl ?_ | refine then_n ?_ | refine then_r ?_ | refine then_e ?_ | refine Run.go1 rfl ?_ | refine wp_skip_i ?_ | refine wp_ret_i ?_ | refine wp_exit_i ?_
     | refine wp_block_i ?_ | refine block_n ?_ | refine block_r ?_ | refine block_e ?_ | refine block_o rfl ?_ | refine wp_cond_t rfl ?_ | refine wp_cond_f rfl ?_ | refine Run.call rfl rfl rfl (l1In_t _ _ _) rfl rfl ?_
     | (refine wp_cond_k rfl rfl rfl ?_ ?_ <;> intro _) | (refine wp_cond_i rfl ?_ ?_ <;> intro _))
  all_goals (refine ret_m [] rfl rfl ?_; simp_all [l9Reg])
end Go.Proofs

set_option linter.unusedVariables false
set_option linter.unusedSimpArgs false
namespace Go.Proofs
open Go Go.Ev
set_option maxRecDepth 100000
variable {X : Rel3}
theorem eqIntS_t (a b : List Int) (hl : a.length ≤ 1048576) : Tells Try.prog E0 X 27 [.t (.sl false (a.map (iR))), .t (.sl false (b.map (iR)))] (bA (decide (a = b))) := by
  refine Tells.by Try.func27 (by simp [Try.f27]) (Body.i rfl rfl rfl (fun _ => rfl) fun f => ?_)
  repeat' (first
     | refine wp_seq_i ?_ | refine wp_region_i ?_ | refine Run.done rfl ?_ | refine then_n ?_ | refine then_r ?_ | refine then_e ?_ | refine Run.go1 rfl ?_ | refine wp_skip_i ?_ | refine wp_ret_i ?_ | refine wp_exit_i ?_
     | refine wp_block_i ?_ | refine block_n ?_ | refine block_r ?_ | refine block_e ?_ | refine block_o rfl ?_ | refine wp_cond_t rfl ?_ | refine wp_cond_f rfl ?_ | (refine wp_cond_k rfl rfl rfl ?_ ?_ <;> intro _)
     | (refine wp_cond_i rfl ?_ ?_ <;> intro _))
  · rename_i h
    refine ret_m [] rfl rfl ?_
    simp at h
    simp; intro e; exact h (by rw [e])
  rename_i h
  have hab : a.length = b.length := by
    have : (a.length : Int) = b.length := by simpa using h
    omega
  refine wp_loop_k (α := Nat) [.keep [0, 1, 4, 5] []] (fun p => [(5, iA p)]) (fun _ => []) (fun _ => []) (fun p => p ≤ a.length ∧ a.take p = b.take p) (fun p => a.length - p) 0 rfl (fun _ => rfl) rfl ⟨by simp, by simp⟩ ?_
  rintro j ⟨hj, he⟩
  by_cases hlt : j < a.length
  · have hx : (a.map (iR))[j]? = some ((iR) a[j]) := by simp [hlt]
    have hy : (b.map (iR))[j]? = some ((iR) (b[j]'(by omega))) := by simp [← hab, hlt]
    have ta : a.take (j + 1) = a.take j ++ [a[j]] := by simp
    have tb : b.take (j + 1) = b.take j ++ [b[j]'(by omega)] := by simp
    repeat' (first
       | refine wp_seq_i ?_ | refine wp_region_i ?_ | refine Run.done rfl ?_ | refine then_n ?_ | refine then_r ?_ | refine then_e ?_ | refine Run.go1 rfl ?_ | refine wp_skip_i ?_ | refine wp_ret_i ?_ | refine wp_exit_i ?_
       | refine wp_block_i ?_ | refine block_n ?_ | refine block_r ?_ | refine block_e ?_ | refine block_o rfl ?_ | refine wp_cond_t rfl ?_ | refine wp_cond_f rfl ?_ | refine wp_region_q 9 rfl rfl rfl ?_ | refine RunQ.go1 rfl ?_
       | refine RunQ.done rfl ?_ | refine RunQ.ix rfl rfl rfl rfl rfl rfl rfl hx rfl rfl rfl ?_ | refine RunQ.ix rfl rfl rfl rfl rfl rfl rfl hy rfl rfl rfl ?_ | refine Run.ix rfl rfl rfl rfl rfl rfl rfl hx rfl rfl rfl ?_
       | refine Run.ix rfl rfl rfl rfl rfl rfl rfl hy rfl rfl rfl ?_ | (refine wp_cond_k rfl rfl rfl ?_ ?_ <;> intro _) | (refine wp_cond_i rfl ?_ ?_ <;> intro _))
    · rename_i h2
      refine ret_m [] rfl rfl ?_
      simp at h2
      simp; intro e; subst e; exact h2 rfl
    · rename_i h2
      simp at h2
      refine back_i [.keep [0, 1, 4, 5] []] (j + 1) rfl ?_ ⟨by omega, ?_⟩ (by omega)
      · simp only [w_succ hlt (show a.length ≤ 9223372036854775807 by omega)]
      · rw [ta, tb, he, h2]
    · rename_i h2; simp [hlt] at h2
  · have hjl : j = a.length := by omega
    repeat' (first
       | refine wp_seq_i ?_ | refine wp_region_i ?_ | refine Run.done rfl ?_ | refine then_n ?_ | refine then_r ?_ | refine then_e ?_ | refine Run.go1 rfl ?_ | refine wp_skip_i ?_ | refine wp_ret_i ?_ | refine wp_exit_i ?_
       | refine wp_block_i ?_ | refine block_n ?_ | refine block_r ?_ | refine block_e ?_ | refine block_o rfl ?_ | refine wp_cond_t rfl ?_ | refine wp_cond_f rfl ?_ | (refine wp_cond_k rfl rfl rfl ?_ ?_ <;> intro _)
       | (refine wp_cond_i rfl ?_ ?_ <;> intro _))
    · rename_i h2; simp [hjl] at h2
    · refine ret_m [] rfl rfl ?_
      rw [hjl] at he
      have : a = b := by rw [List.take_length, hab, List.take_length] at he; exact he
      simp [this]

theorem eqIns_t (a b : Ins) (hl : a.l.length ≤ 1048576) : Tells Try.prog E0 X 77 [a.a false, b.a false] (bA (decide (a = b))) := by
  refine Tells.by Try.func77 (by simp [Try.f77]) (Body.i rfl rfl rfl (fun _ => rfl) fun f => ?_)
  repeat' (first
     | refine wp_seq_i ?_ | refine wp_region_i ?_ | refine Run.done rfl ?_ | refine then_n ?_ | refine then_r ?_ | refine then_e ?_ | refine Run.go1 rfl ?_ | refine wp_skip_i ?_ | refine wp_ret_i ?_ | refine wp_exit_i ?_
     | refine wp_block_i ?_ | refine block_n ?_ | refine block_r ?_ | refine block_e ?_ | refine block_o rfl ?_ | refine wp_cond_t rfl ?_ | refine wp_cond_f rfl ?_ | refine Run.call rfl rfl rfl (eqIntS_t _ _ hl) rfl rfl ?_
     | refine wp_region_q 5 rfl rfl rfl ?_ | refine RunQ.go1 rfl ?_ | refine RunQ.done rfl ?_ | (refine Run.splitG rfl rfl rfl rfl rfl rfl ?_ ?_ <;> intro _) | (refine Run.splitP rfl rfl rfl rfl ?_ ?_ <;> intro _)
     | (refine wp_cond_k rfl rfl rfl ?_ ?_ <;> intro _) | (refine wp_cond_i rfl ?_ ?_ <;> intro _))
  all_goals (refine ret_m [] rfl rfl ?_; obtain ⟨a1, a2, a3, a4, a5, a6, a7⟩ := a; obtain ⟨b1, b2, b3, b4, b5, b6, b7⟩ := b; simp_all)
theorem eqInsS_t (a b : List Ins) (hl : a.length ≤ 1048576) (hll : ∀ i ∈ a, i.l.length ≤ 1048576) : Tells Try.prog E0 X 59 [.t (.sl false (a.map (Ins.c false))), .t (.sl false (b.map (Ins.c false)))] (bA (decide (a = b))) := by
  refine Tells.by Try.func59 (by simp [Try.f59]) (Body.i rfl rfl rfl (fun _ => rfl) fun f => ?_)
  repeat' (first
     | refine wp_seq_i ?_ | refine wp_region_i ?_ | refine Run.done rfl ?_ | refine then_n ?_ | refine then_r ?_ | refine then_e ?_ | refine Run.go1 rfl ?_ | refine wp_skip_i ?_ | refine wp_ret_i ?_ | refine wp_exit_i ?_
     | refine wp_block_i ?_ | refine block_n ?_ | refine block_r ?_ | refine block_e ?_ | refine block_o rfl ?_ | refine wp_cond_t rfl ?_ | refine wp_cond_f rfl ?_ | (refine wp_cond_k rfl rfl rfl ?_ ?_ <;> intro _)
     | (refine wp_cond_i rfl ?_ ?_ <;> intro _))
  · rename_i h
    refine ret_m [] rfl rfl ?_
    simp at h
    simp; intro e; exact h (by rw [e])
  rename_i h
  have hab : a.length = b.length := by
    have : (a.length : Int) = b.length := by simpa using h
    omega
  refine wp_loop_k (α := Nat) [.keep [0, 1, 4, 5] []] (fun p => [(5, iA p)]) (fun _ => []) (fun _ => []) (fun p => p ≤ a.length ∧ a.take p = b.take p) (fun p => a.length - p) 0 rfl (fun _ => rfl) rfl ⟨by simp, by simp⟩ ?_
  rintro j ⟨hj, he⟩
  by_cases hlt : j < a.length
  · have hx : (a.map (Ins.c false))[j]? = some ((Ins.c false) a[j]) := by simp [hlt]
    have hy : (b.map (Ins.c false))[j]? = some ((Ins.c false) (b[j]'(by omega))) := by simp [← hab, hlt]
    have ta : a.take (j + 1) = a.take j ++ [a[j]] := by simp
    have tb : b.take (j + 1) = b.take j ++ [b[j]'(by omega)] := by simp
    repeat' (first
       | refine wp_seq_i ?_ | refine wp_region_i ?_ | refine Run.done rfl ?_ | refine then_n ?_ | refine then_r ?_ | refine then_e ?_ | refine Run.go1 rfl ?_ | refine wp_skip_i ?_ | refine wp_ret_i ?_ | refine wp_exit_i ?_
       | refine wp_block_i ?_ | refine block_n ?_ | refine block_r ?_ | refine block_e ?_ | refine block_o rfl ?_ | refine wp_cond_t rfl ?_ | refine wp_cond_f rfl ?_ | refine wp_region_q 10 rfl rfl rfl ?_ | refine RunQ.go1 rfl ?_
       | refine RunQ.done rfl ?_ | refine RunQ.ix rfl rfl rfl rfl rfl rfl rfl hx rfl rfl rfl ?_ | refine RunQ.ix rfl rfl rfl rfl rfl rfl rfl hy rfl rfl rfl ?_ | refine Run.ix rfl rfl rfl rfl rfl rfl rfl hx rfl rfl rfl ?_
       | refine Run.ix rfl rfl rfl rfl rfl rfl rfl hy rfl rfl rfl ?_ | refine Run.call rfl rfl rfl (eqIns_t _ _ (hll _ (List.getElem_mem hlt))) rfl rfl ?_
       | refine RunQ.call rfl rfl rfl rfl rfl rfl (eqIns_t _ _ (hll _ (List.getElem_mem hlt))) (.inl rfl) rfl rfl ?_ | (refine wp_cond_k rfl rfl rfl ?_ ?_ <;> intro _) | (refine wp_cond_i rfl ?_ ?_ <;> intro _))
    · rename_i h2
      refine ret_m [] rfl rfl ?_
      simp at h2
      simp; intro e; subst e; exact h2 rfl
    · rename_i h2
      simp at h2
      refine back_i [.keep [0, 1, 4, 5] []] (j + 1) rfl ?_ ⟨by omega, ?_⟩ (by omega)
      · simp only [w_succ hlt (show a.length ≤ 9223372036854775807 by omega)]
      · rw [ta, tb, he, h2]
    · rename_i h2; simp [hlt] at h2
  · have hjl : j = a.length := by omega
    repeat' (first
       | refine wp_seq_i ?_ | refine wp_region_i ?_ | refine Run.done rfl ?_ | refine then_n ?_ | refine then_r ?_ | refine then_e ?_ | refine Run.go1 rfl ?_ | refine wp_skip_i ?_ | refine wp_ret_i ?_ | refine wp_exit_i ?_
       | refine wp_block_i ?_ | refine block_n ?_ | refine block_r ?_ | refine block_e ?_ | refine block_o rfl ?_ | refine wp_cond_t rfl ?_ | refine wp_cond_f rfl ?_ | (refine wp_cond_k rfl rfl rfl ?_ ?_ <;> intro _)
       | (refine wp_cond_i rfl ?_ ?_ <;> intro _))
    · rename_i h2; simp [hjl] at h2
    · refine ret_m [] rfl rfl ?_
      rw [hjl] at he
      have : a = b := by rw [List.take_length, hab, List.take_length] at he; exact he
      simp [this]
end Go.Proofs

set_option linter.unusedVariables false
set_option linter.unusedSimpArgs false
namespace Go.Proofs
open Go Go.Ev
set_option maxRecDepth 100000
variable {X : Rel3}
theorem fill_step {α : Type} (l : List α) (z : α) {j : Nat} (h : j < l.length) : (l.take j ++ List.replicate (l.length - j) z).set j l[j] = l.take (j + 1) ++ List.replicate (l.length - (j + 1)) z := by
  have e : l.length - j = (l.length - (j + 1)) + 1 := by omega
  rw [e, List.replicate_succ, List.set_append_right _ _ (by simp; omega)]
  simp only [List.length_take, Nat.min_eq_left (Nat.le_of_lt h), Nat.sub_self, List.set_cons_zero]
  rw [show l.take (j + 1) = l.take j ++ [l[j]] by simp, List.append_assoc]
  rfl
theorem toIntS_t (l : List Int) (hl : l.length ≤ 1048576) : Tells Try.prog E0 X 93 [.t (.sl false (l.map iR))] (.t (.sl true (l.map iR))) := by
  refine Tells.by Try.func93 (by simp [Try.f93]) (Body.i rfl rfl rfl (fun _ => rfl) fun f => ?_)
  repeat' (first
     | refine wp_seq_i ?_ | refine wp_region_i ?_ | refine Run.done rfl ?_ | refine then_n ?_ | refine then_r ?_ | refine then_e ?_ | refine Run.go1 rfl ?_ | refine wp_skip_i ?_ | refine wp_ret_i ?_ | refine wp_exit_i ?_
     | refine wp_block_i ?_ | refine block_n ?_ | refine block_r ?_ | refine block_e ?_ | refine block_o rfl ?_ | refine wp_cond_t rfl ?_ | refine wp_cond_f rfl ?_
     | refine Run.cnd2 rfl rfl rfl ⟨by simp, rfl, by simp; omega, by simp; omega⟩ ?_ | (refine wp_cond_i rfl ?_ ?_ <;> intro _))
  refine wp_loop_k (α := Nat × List Int) [.keep [0, 2, 3, 4] [7]] (fun p => [(4, iA p.1)]) (fun _ => []) (fun p => [(7, 0, p.2.map iR)]) (fun p => p.1 ≤ l.length ∧ p.2 = l.take p.1 ++ List.replicate (l.length - p.1) 0) (fun p => l.length - p.1) (0, List.replicate l.length 0) rfl (fun _ => rfl) (by simp) ⟨by simp, by simp⟩ ?_
  rintro ⟨j, m⟩ ⟨hj, hm⟩
  simp only at hj hm
  have hml : m.length = l.length := by rw [hm]; simp; omega
  by_cases hlt : j < l.length
  · have hx : (l.map iR)[j]? = some (iR l[j]) := by simp [hlt]
    have hy : (m.map iR)[j]? = some (iR (m[j]'(by omega))) := by simp [hml, hlt]
    repeat' (first
       | refine wp_seq_i ?_ | refine wp_region_i ?_ | refine Run.done rfl ?_ | refine then_n ?_ | refine then_r ?_ | refine then_e ?_ | refine Run.go1 rfl ?_ | refine wp_skip_i ?_ | refine wp_ret_i ?_ | refine wp_exit_i ?_
       | refine wp_block_i ?_ | refine block_n ?_ | refine block_r ?_ | refine block_e ?_ | refine block_o rfl ?_ | refine wp_cond_t rfl ?_ | refine wp_cond_f rfl ?_ | refine Run.ix rfl rfl rfl rfl rfl rfl rfl hx rfl rfl rfl ?_
       | refine Run.ix rfl rfl rfl rfl rfl rfl rfl hy rfl rfl rfl ?_ | refine Run.str rfl rfl rfl rfl rfl rfl hy rfl rfl ?_ | (refine wp_cond_i rfl ?_ ?_ <;> intro _))
    · refine back_i [.keep [0, 2, 3, 4] [7]] (j + 1, m.set j l[j]) rfl ?_ ⟨by simp; omega, ?_⟩ (by simp; omega)
      · simp only [List.map_set, w_succ hlt (by omega)]
      · simp only; rw [hm, fill_step l 0 hlt]
    · rename_i h; simp [hlt] at h
  · have hjl : j = l.length := by omega
    repeat' (first
       | refine wp_seq_i ?_ | refine wp_region_i ?_ | refine Run.done rfl ?_ | refine then_n ?_ | refine then_r ?_ | refine then_e ?_ | refine Run.go1 rfl ?_ | refine wp_skip_i ?_ | refine wp_ret_i ?_ | refine wp_exit_i ?_
       | refine wp_block_i ?_ | refine block_n ?_ | refine block_r ?_ | refine block_e ?_ | refine block_o rfl ?_ | refine wp_cond_t rfl ?_ | refine wp_cond_f rfl ?_ | (refine wp_cond_i rfl ?_ ?_ <;> intro _))
    · rename_i h; simp [hjl] at h
    · refine ret_m [] rfl rfl ?_
      subst hjl; simp [hm]
theorem toIns_t (i : Ins) (hl : i.l.length ≤ 1048576) : Tells Try.prog E0 X 76 [i.a false] (i.a true) := by
  refine Tells.by Try.func76 (by simp [Try.f76]) (Body.i rfl rfl rfl (fun _ => rfl) fun f => ?_)
  repeat' (first
     | refine wp_seq_i ?_ | refine wp_region_i ?_ | refine Run.done rfl ?_ | refine then_n ?_ | refine then_r ?_ | refine then_e ?_ | refine Run.go1 rfl ?_ | refine wp_skip_i ?_ | refine wp_ret_i ?_ | refine wp_exit_i ?_
     | refine wp_block_i ?_ | refine block_n ?_ | refine block_r ?_ | refine block_e ?_ | refine block_o rfl ?_ | refine wp_cond_t rfl ?_ | refine wp_cond_f rfl ?_ | refine Run.call rfl rfl rfl (toIntS_t _ hl) rfl rfl ?_
     | (refine wp_cond_i rfl ?_ ?_ <;> intro _))
  all_goals (refine ret_m [] rfl rfl ?_; simp)
def Ins.z : Ins := ⟨0, 0, 0, 0, 0, [], 0⟩
theorem toInsS_t (l : List Ins) (hl : l.length ≤ 1048576) (hll : ∀ i ∈ l, i.l.length ≤ 1048576) : Tells Try.prog E0 X 56 [.t (.sl false (l.map (Ins.c false)))] (.t (.sl true (l.map (Ins.c true)))) := by
  refine Tells.by Try.func56 (by simp [Try.f56]) (Body.i rfl rfl rfl (fun _ => rfl) fun f => ?_)
  repeat' (first
     | refine wp_seq_i ?_ | refine wp_region_i ?_ | refine Run.done rfl ?_ | refine then_n ?_ | refine then_r ?_ | refine then_e ?_ | refine Run.go1 rfl ?_ | refine wp_skip_i ?_ | refine wp_ret_i ?_ | refine wp_exit_i ?_
     | refine wp_block_i ?_ | refine block_n ?_ | refine block_r ?_ | refine block_e ?_ | refine block_o rfl ?_ | refine wp_cond_t rfl ?_ | refine wp_cond_f rfl ?_
     | refine Run.cnd2 rfl rfl rfl ⟨by simp, rfl, by simp; omega, by simp; omega⟩ ?_ | (refine wp_cond_i rfl ?_ ?_ <;> intro _))
  refine wp_loop_k (α := Nat × List Ins) [.keep [0, 2, 3, 4] [7]] (fun p => [(4, iA p.1)]) (fun _ => []) (fun p => [(7, 0, p.2.map (Ins.c true))]) (fun p => p.1 ≤ l.length ∧ p.2 = l.take p.1 ++ List.replicate (l.length - p.1) Ins.z) (fun p => l.length - p.1) (0, List.replicate l.length Ins.z) rfl (fun _ => rfl) (by simp [Ins.z, Ins.c]) ⟨by simp, by simp⟩ ?_
  rintro ⟨j, m⟩ ⟨hj, hm⟩
  simp only at hj hm
  have hml : m.length = l.length := by rw [hm]; simp; omega
  by_cases hlt : j < l.length
  · have hx : (l.map (Ins.c false))[j]? = some (Ins.c false l[j]) := by simp [hlt]
    have hy : (m.map (Ins.c true))[j]? = some (Ins.c true (m[j]'(by omega))) := by simp [hml, hlt]
    repeat' (first
       | refine wp_seq_i ?_ | refine wp_region_i ?_ | refine Run.done rfl ?_ | refine then_n ?_ | refine then_r ?_ | refine then_e ?_ | refine Run.go1 rfl ?_ | refine wp_skip_i ?_ | refine wp_ret_i ?_ | refine wp_exit_i ?_
       | refine wp_block_i ?_ | refine block_n ?_ | refine block_r ?_ | refine block_e ?_ | refine block_o rfl ?_ | refine wp_cond_t rfl ?_ | refine wp_cond_f rfl ?_ | refine Run.ix rfl rfl rfl rfl rfl rfl rfl hx rfl rfl rfl ?_
       | refine Run.ix rfl rfl rfl rfl rfl rfl rfl hy rfl rfl rfl ?_ | refine Run.str rfl rfl rfl rfl rfl rfl hy rfl rfl ?_ | refine Run.call rfl rfl rfl (toIns_t _ (hll _ (List.getElem_mem hlt))) rfl rfl ?_
       | (refine wp_cond_i rfl ?_ ?_ <;> intro _))
    · refine back_i [.keep [0, 2, 3, 4] [7]] (j + 1, m.set j l[j]) rfl ?_ ⟨by simp; omega, ?_⟩ (by simp; omega)
      · simp only [List.map_set, w_succ hlt (by omega)]
      · simp only; rw [hm, fill_step l Ins.z hlt]
    · rename_i h; simp [hlt] at h
  · have hjl : j = l.length := by omega
    repeat' (first
       | refine wp_seq_i ?_ | refine wp_region_i ?_ | refine Run.done rfl ?_ | refine then_n ?_ | refine then_r ?_ | refine then_e ?_ | refine Run.go1 rfl ?_ | refine wp_skip_i ?_ | refine wp_ret_i ?_ | refine wp_exit_i ?_
       | refine wp_block_i ?_ | refine block_n ?_ | refine block_r ?_ | refine block_e ?_ | refine block_o rfl ?_ | refine wp_cond_t rfl ?_ | refine wp_cond_f rfl ?_ | (refine wp_cond_i rfl ?_ ?_ <;> intro _))
    · rename_i h; simp [hjl] at h
    · refine ret_m [] rfl rfl ?_
      subst hjl; simp [hm]
end Go.Proofs

set_option linter.unusedVariables false
set_option linter.unusedSimpArgs false
namespace Go.Proofs
open Go Go.Ev
set_option maxRecDepth 100000
variable {X : Rel3}
structure Code where
  funs : List Piece
  main : Piece
  deriving DecidableEq
abbrev Code.a (o : Bool) (c : Code) : AV := .ag [.t (.sl o (c.funs.map (Piece.c o))), iA c.main.lam, iA c.main.in_, iA c.main.regs, .t (.sl o (c.main.ins.map (Ins.c o)))]
def Piece.ok (p : Piece) : Prop := p.ins.length ≤ 1048576 ∧ ∀ i ∈ p.ins, i.l.length ≤ 1048576
def Code.ok (c : Code) : Prop := c.funs.length ≤ 1048576 ∧ (∀ p ∈ c.funs, p.ok) ∧ c.main.ok
theorem toPiece_t (p : Piece) (hp : p.ok) : Tells Try.prog E0 X 22 [p.a false] (p.a true) := by
  refine Tells.by Try.func22 (by simp [Try.f22]) (Body.i rfl rfl rfl (fun _ => rfl) fun f => ?_)
  repeat' (first
     | refine wp_seq_i ?_ | refine wp_region_i ?_ | refine Run.done rfl ?_ | refine then_n ?_ | refine then_r ?_ | refine then_e ?_ | refine Run.go1 rfl ?_ | refine wp_skip_i ?_ | refine wp_ret_i ?_ | refine wp_exit_i ?_
     | refine wp_block_i ?_ | refine block_n ?_ | refine block_r ?_ | refine block_e ?_ | refine block_o rfl ?_ | refine wp_cond_t rfl ?_ | refine wp_cond_f rfl ?_ | refine Run.call rfl rfl rfl (toInsS_t _ hp.1 hp.2) rfl rfl ?_
     | (refine wp_cond_k rfl rfl rfl ?_ ?_ <;> intro _) | (refine wp_cond_i rfl ?_ ?_ <;> intro _))
  all_goals (refine ret_m [] rfl rfl ?_; simp)
def Piece.z : Piece := ⟨0, 0, 0, []⟩
theorem toPieceS_t (l : List Piece) (hl : l.length ≤ 1048576) (hll : ∀ p ∈ l, p.ok) : Tells Try.prog E0 X 36 [.t (.sl false (l.map (Piece.c false)))] (.t (.sl true (l.map (Piece.c true)))) := by
  refine Tells.by Try.func36 (by simp [Try.f36]) (Body.i rfl rfl rfl (fun _ => rfl) fun f => ?_)
  repeat' (first
     | refine wp_seq_i ?_ | refine wp_region_i ?_ | refine Run.done rfl ?_ | refine then_n ?_ | refine then_r ?_ | refine then_e ?_ | refine Run.go1 rfl ?_ | refine wp_skip_i ?_ | refine wp_ret_i ?_ | refine wp_exit_i ?_
     | refine wp_block_i ?_ | refine block_n ?_ | refine block_r ?_ | refine block_e ?_ | refine block_o rfl ?_ | refine wp_cond_t rfl ?_ | refine wp_cond_f rfl ?_
     | refine Run.cnd2 rfl rfl rfl ⟨by simp, rfl, by simp; omega, by simp; omega⟩ ?_ | (refine wp_cond_k rfl rfl rfl ?_ ?_ <;> intro _) | (refine wp_cond_i rfl ?_ ?_ <;> intro _))
  refine wp_loop_k (α := Nat × List Piece) [.keep [0, 2, 3, 4] [7]] (fun p => [(4, iA p.1)]) (fun _ => []) (fun p => [(7, 0, p.2.map (Piece.c true))]) (fun p => p.1 ≤ l.length ∧ p.2 = l.take p.1 ++ List.replicate (l.length - p.1) Piece.z) (fun p => l.length - p.1) (0, List.replicate l.length Piece.z) rfl (fun _ => rfl) (by simp [Piece.z, Piece.c]) ⟨by simp, by simp⟩ ?_
  rintro ⟨j, m⟩ ⟨hj, hm⟩
  simp only at hj hm
  have hml : m.length = l.length := by rw [hm]; simp; omega
  by_cases hlt : j < l.length
  · have hx : (l.map (Piece.c false))[j]? = some (Piece.c false l[j]) := by simp [hlt]
    have hy : (m.map (Piece.c true))[j]? = some (Piece.c true (m[j]'(by omega))) := by simp [hml, hlt]
    repeat' (first
       | refine wp_seq_i ?_ | refine wp_region_i ?_ | refine Run.done rfl ?_ | refine then_n ?_ | refine then_r ?_ | refine then_e ?_ | refine Run.go1 rfl ?_ | refine wp_skip_i ?_ | refine wp_ret_i ?_ | refine wp_exit_i ?_
       | refine wp_block_i ?_ | refine block_n ?_ | refine block_r ?_ | refine block_e ?_ | refine block_o rfl ?_ | refine wp_cond_t rfl ?_ | refine wp_cond_f rfl ?_ | refine Run.ix rfl rfl rfl rfl rfl rfl rfl hx rfl rfl rfl ?_
       | refine Run.ix rfl rfl rfl rfl rfl rfl rfl hy rfl rfl rfl ?_ | refine Run.str rfl rfl rfl rfl rfl rfl hy rfl rfl ?_ | refine Run.call rfl rfl rfl (toPiece_t _ (hll _ (List.getElem_mem hlt))) rfl rfl ?_
       | (refine wp_cond_k rfl rfl rfl ?_ ?_ <;> intro _) | (refine wp_cond_i rfl ?_ ?_ <;> intro _))
    · refine back_i [.keep [0, 2, 3, 4] [7]] (j + 1, m.set j l[j]) rfl ?_ ⟨by simp; omega, ?_⟩ (by simp; omega)
      · simp only [List.map_set, w_succ hlt (by omega)]
      · simp only; rw [hm, fill_step l Piece.z hlt]
    · rename_i h; simp [hlt] at h
  · have hjl : j = l.length := by omega
    repeat' (first
       | refine wp_seq_i ?_ | refine wp_region_i ?_ | refine Run.done rfl ?_ | refine then_n ?_ | refine then_r ?_ | refine then_e ?_ | refine Run.go1 rfl ?_ | refine wp_skip_i ?_ | refine wp_ret_i ?_ | refine wp_exit_i ?_
       | refine wp_block_i ?_ | refine block_n ?_ | refine block_r ?_ | refine block_e ?_ | refine block_o rfl ?_ | refine wp_cond_t rfl ?_ | refine wp_cond_f rfl ?_ | (refine wp_cond_k rfl rfl rfl ?_ ?_ <;> intro _)
       | (refine wp_cond_i rfl ?_ ?_ <;> intro _))
    · rename_i h; simp [hjl] at h
    · refine ret_m [] rfl rfl ?_
      subst hjl; simp [hm]
theorem toCode_t (c : Code) (hc : c.ok) : Tells Try.prog E0 X 9 [c.a false] (c.a true) := by
  refine Tells.by Try.func9 (by simp [Try.f9]) (Body.i rfl rfl rfl (fun _ => rfl) fun f => ?_)
  repeat' (first
     | refine wp_seq_i ?_ | refine wp_region_i ?_ | refine Run.done rfl ?_ | refine then_n ?_ | refine then_r ?_ | refine then_e ?_ | refine Run.go1 rfl ?_ | refine wp_skip_i ?_ | refine wp_ret_i ?_ | refine wp_exit_i ?_
     | refine wp_block_i ?_ | refine block_n ?_ | refine block_r ?_ | refine block_e ?_ | refine block_o rfl ?_ | refine wp_cond_t rfl ?_ | refine wp_cond_f rfl ?_
     | refine Run.call rfl rfl rfl (toPieceS_t _ hc.1 hc.2.1) rfl rfl ?_ | refine Run.call rfl rfl rfl (toPiece_t c.main hc.2.2) rfl rfl ?_ | (refine wp_cond_k rfl rfl rfl ?_ ?_ <;> intro _)
     | (refine wp_cond_i rfl ?_ ?_ <;> intro _))
  all_goals (refine ret_m [] rfl rfl ?_; simp)
end Go.Proofs

set_option linter.unusedVariables false
set_option linter.unusedSimpArgs false
namespace Go.Proofs
open Go Go.Ev
set_option maxRecDepth 100000
variable {X : Rel3}
theorem eqPiece_t (a b : Piece) (ha : a.ok) : Tells Try.prog E0 X 24 [a.a false, b.a false] (bA (decide (a = b))) := by
  refine Tells.by Try.func24 (by simp [Try.f24]) (Body.i rfl rfl rfl (fun _ => rfl) fun f => ?_)
  repeat' (first
     | refine wp_seq_i ?_ | refine wp_region_i ?_ | refine Run.done rfl ?_ | refine then_n ?_ | refine then_r ?_ | refine then_e ?_ | refine Run.go1 rfl ?_ | refine wp_skip_i ?_ | refine wp_ret_i ?_ | refine wp_exit_i ?_
     | refine wp_block_i ?_ | refine block_n ?_ | refine block_r ?_ | refine block_e ?_ | refine block_o rfl ?_ | refine wp_cond_t rfl ?_ | refine wp_cond_f rfl ?_ | refine Run.call rfl rfl rfl (eqInsS_t _ _ ha.1 ha.2) rfl rfl ?_
     | (refine Run.splitG rfl rfl rfl rfl rfl rfl ?_ ?_ <;> intro _) | (refine Run.splitP rfl rfl rfl rfl ?_ ?_ <;> intro _) | (refine wp_cond_k rfl rfl rfl ?_ ?_ <;> intro _) | (refine wp_cond_i rfl ?_ ?_ <;> intro _))
  all_goals (refine ret_m [] rfl rfl ?_; obtain ⟨a1, a2, a3, a4⟩ := a; obtain ⟨b1, b2, b3, b4⟩ := b; simp_all)
theorem eqPieceS_t (a b : List Piece) (hl : a.length ≤ 1048576) (hll : ∀ p ∈ a, p.ok) : Tells Try.prog E0 X 41 [.t (.sl false (a.map (Piece.c false))), .t (.sl false (b.map (Piece.c false)))] (bA (decide (a = b))) := by
  refine Tells.by Try.func41 (by simp [Try.f41]) (Body.i rfl rfl rfl (fun _ => rfl) fun f => ?_)
  repeat' (first
     | refine wp_seq_i ?_ | refine wp_region_i ?_ | refine Run.done rfl ?_ | refine then_n ?_ | refine then_r ?_ | refine then_e ?_ | refine Run.go1 rfl ?_ | refine wp_skip_i ?_ | refine wp_ret_i ?_ | refine wp_exit_i ?_
     | refine wp_block_i ?_ | refine block_n ?_ | refine block_r ?_ | refine block_e ?_ | refine block_o rfl ?_ | refine wp_cond_t rfl ?_ | refine wp_cond_f rfl ?_ | (refine wp_cond_k rfl rfl rfl ?_ ?_ <;> intro _)
     | (refine wp_cond_i rfl ?_ ?_ <;> intro _))
  · rename_i h
    refine ret_m [] rfl rfl ?_
    simp at h
    simp; intro e; exact h (by rw [e])
  rename_i h
  have hab : a.length = b.length := by
    have : (a.length : Int) = b.length := by simpa using h
    omega
  refine wp_loop_k (α := Nat) [.keep [0, 1, 4, 5] []] (fun p => [(5, iA p)]) (fun _ => []) (fun _ => []) (fun p => p ≤ a.length ∧ a.take p = b.take p) (fun p => a.length - p) 0 rfl (fun _ => rfl) rfl ⟨by simp, by simp⟩ ?_
  rintro j ⟨hj, he⟩
  by_cases hlt : j < a.length
  · have hx : (a.map (Piece.c false))[j]? = some ((Piece.c false) a[j]) := by simp [hlt]
    have hy : (b.map (Piece.c false))[j]? = some ((Piece.c false) (b[j]'(by omega))) := by simp [← hab, hlt]
    have ta : a.take (j + 1) = a.take j ++ [a[j]] := by simp
    have tb : b.take (j + 1) = b.take j ++ [b[j]'(by omega)] := by simp
    repeat' (first
       | refine wp_seq_i ?_ | refine wp_region_i ?_ | refine Run.done rfl ?_ | refine then_n ?_ | refine then_r ?_ | refine then_e ?_ | refine Run.go1 rfl ?_ | refine wp_skip_i ?_ | refine wp_ret_i ?_ | refine wp_exit_i ?_
       | refine wp_block_i ?_ | refine block_n ?_ | refine block_r ?_ | refine block_e ?_ | refine block_o rfl ?_ | refine wp_cond_t rfl ?_ | refine wp_cond_f rfl ?_ | refine wp_region_q 10 rfl rfl rfl ?_ | refine RunQ.go1 rfl ?_
       | refine RunQ.done rfl ?_ | refine RunQ.ix rfl rfl rfl rfl rfl rfl rfl hx rfl rfl rfl ?_ | refine RunQ.ix rfl rfl rfl rfl rfl rfl rfl hy rfl rfl rfl ?_ | refine Run.ix rfl rfl rfl rfl rfl rfl rfl hx rfl rfl rfl ?_
       | refine Run.ix rfl rfl rfl rfl rfl rfl rfl hy rfl rfl rfl ?_ | refine Run.call rfl rfl rfl (eqPiece_t _ _ (hll _ (List.getElem_mem hlt))) rfl rfl ?_
       | refine RunQ.call rfl rfl rfl rfl rfl rfl (eqPiece_t _ _ (hll _ (List.getElem_mem hlt))) (.inl rfl) rfl rfl ?_ | (refine wp_cond_k rfl rfl rfl ?_ ?_ <;> intro _) | (refine wp_cond_i rfl ?_ ?_ <;> intro _))
    · rename_i h2
      refine ret_m [] rfl rfl ?_
      simp at h2
      simp; intro e; subst e; exact h2 rfl
    · rename_i h2
      simp at h2
      refine back_i [.keep [0, 1, 4, 5] []] (j + 1) rfl ?_ ⟨by omega, ?_⟩ (by omega)
      · simp only [w_succ hlt (show a.length ≤ 9223372036854775807 by omega)]
      · rw [ta, tb, he, h2]
    · rename_i h2; simp [hlt] at h2
  · have hjl : j = a.length := by omega
    repeat' (first
       | refine wp_seq_i ?_ | refine wp_region_i ?_ | refine Run.done rfl ?_ | refine then_n ?_ | refine then_r ?_ | refine then_e ?_ | refine Run.go1 rfl ?_ | refine wp_skip_i ?_ | refine wp_ret_i ?_ | refine wp_exit_i ?_
       | refine wp_block_i ?_ | refine block_n ?_ | refine block_r ?_ | refine block_e ?_ | refine block_o rfl ?_ | refine wp_cond_t rfl ?_ | refine wp_cond_f rfl ?_ | (refine wp_cond_k rfl rfl rfl ?_ ?_ <;> intro _)
       | (refine wp_cond_i rfl ?_ ?_ <;> intro _))
    · rename_i h2; simp [hjl] at h2
    · refine ret_m [] rfl rfl ?_
      rw [hjl] at he
      have : a = b := by rw [List.take_length, hab, List.take_length] at he; exact he
      simp [this]

theorem eqCode_t (a b : Code) (ha : a.ok) : Tells Try.prog E0 X 12 [a.a false, b.a false] (bA (decide (a = b))) := by
  refine Tells.by Try.func12 (by simp [Try.f12]) (Body.i rfl rfl rfl (fun _ => rfl) fun f => ?_)
  repeat' (first
     | refine wp_seq_i ?_ | refine wp_region_i ?_ | refine Run.done rfl ?_ | refine then_n ?_ | refine then_r ?_ | refine then_e ?_ | refine Run.go1 rfl ?_ | refine wp_skip_i ?_ | refine wp_ret_i ?_ | refine wp_exit_i ?_
     | refine wp_block_i ?_ | refine block_n ?_ | refine block_r ?_ | refine block_e ?_ | refine block_o rfl ?_ | refine wp_cond_t rfl ?_ | refine wp_cond_f rfl ?_
     | refine Run.call rfl rfl rfl (eqPieceS_t _ _ ha.1 ha.2.1) rfl rfl ?_ | refine Run.call rfl rfl rfl (eqPiece_t a.main b.main ha.2.2) rfl rfl ?_ | (refine Run.splitG rfl rfl rfl rfl rfl rfl ?_ ?_ <;> intro _)
     | (refine Run.splitP rfl rfl rfl rfl ?_ ?_ <;> intro _) | (refine wp_cond_k rfl rfl rfl ?_ ?_ <;> intro _) | (refine wp_cond_i rfl ?_ ?_ <;> intro _))
  all_goals (refine ret_m [] rfl rfl ?_; obtain ⟨a1, a2⟩ := a; obtain ⟨b1, b2⟩ := b; simp_all)
end Go.Proofs

set_option linter.unusedVariables false
set_option linter.unusedSimpArgs false
namespace Go.Proofs
open Go Go.Ev
set_option maxRecDepth 100000
variable {X : Rel3}
def mkPiece (p : Piece) (k : Int) : Piece × Int :=
  (⟨k, nx k, nx (nx k), (mkInsS p.ins (nx (nx (nx k)))).1⟩, (mkInsS p.ins (nx (nx (nx k)))).2)
def mkPieceS : List Piece → Int → List Piece × Int
  | [], k => ([], k)
  | i :: r, k => ((mkPiece i k).1 :: (mkPieceS r (mkPiece i k).2).1, (mkPieceS r (mkPiece i k).2).2)
theorem mkPieceS_snoc (l : List Piece) (x : Piece) (k : Int) : mkPieceS (l ++ [x]) k = ((mkPieceS l k).1 ++ [(mkPiece x (mkPieceS l k).2).1], (mkPiece x (mkPieceS l k).2).2) := by
  induction l generalizing k with
  | nil => rfl
  | cons y l ih => simp [mkPieceS, ih]
theorem mkPieceS_len (l : List Piece) (k : Int) : (mkPieceS l k).1.length = l.length := by
  induction l generalizing k with
  | nil => rfl
  | cons y l ih => simp [mkPieceS, ih]
theorem markPieceS_t (l : List Piece) (k : Int) (hl : l.length ≤ 1048576) (hll : ∀ p ∈ l, p.ok) : Tells Try.prog E0 X 42 [.t (.sl true (l.map (Piece.c true))), iA k] (.io [iA (mkPieceS l k).2, .t (.sl true ((mkPieceS l k).1.map (Piece.c true))), .u]) := by
  refine Tells.by Try.func42 (by simp [Try.f42]) (Body.i rfl rfl rfl (fun _ => rfl) fun f => ?_)
  repeat' (first
     | refine wp_seq_i ?_ | refine wp_region_i ?_ | refine Run.done rfl ?_ | refine then_n ?_ | refine then_r ?_ | refine then_e ?_ | refine Run.go1 rfl ?_ | refine wp_skip_i ?_ | refine wp_ret_i ?_ | refine wp_exit_i ?_
     | refine wp_block_i ?_ | refine block_n ?_ | refine block_r ?_ | refine block_e ?_ | refine block_o rfl ?_ | refine wp_cond_t rfl ?_ | refine wp_cond_f rfl ?_ | (refine wp_cond_k rfl rfl rfl ?_ ?_ <;> intro _)
     | (refine wp_cond_i rfl ?_ ?_ <;> intro _))
  refine wp_loop_k (α := Nat × Int × List Piece) [.keep [0, 1, 4, 5] [100000]] (fun p => [(1, iA p.2.1), (5, iA p.1)]) (fun _ => []) (fun p => [(100000, ⟨0, some (f 100000)⟩, p.2.2.map (Piece.c true))]) (fun p => p.1 ≤ l.length ∧ p.2.1 = (mkPieceS (l.take p.1) k).2 ∧ p.2.2 = (mkPieceS (l.take p.1) k).1 ++ l.drop p.1) (fun p => l.length - p.1) (0, k, l) rfl (fun _ => rfl) rfl ⟨by simp, by simp [mkPieceS], by simp [mkPieceS]⟩ ?_
  rintro ⟨j, c, m⟩ ⟨hj, hc, hm⟩
  simp only at hj hc hm
  have hml : m.length = l.length := by rw [hm]; simp [mkPieceS_len]; omega
  by_cases hlt : j < l.length
  · have hj' : j < m.length := by omega
    have hx : (m.map (Piece.c true))[j]? = some (Piece.c true m[j]) := by simp [hj']
    have ht : l.take (j + 1) = l.take j ++ [l[j]] := by simp
    have hmj : m[j] = l[j] := by subst hm; rw [List.getElem_append_right (by simp [mkPieceS_len]; omega)]; simp [mkPieceS_len, Nat.min_eq_left hj]
    have hok : m[j].ok := by rw [hmj]; exact hll _ (List.getElem_mem _)
    have h1 : m[j].ins.length ≤ 9223372036854775807 := Nat.le_trans hok.1 (by decide)
    have h2 : ∀ i ∈ m[j].ins, i.l.length ≤ 9223372036854775807 := fun i hi => Nat.le_trans (hok.2 i hi) (by decide)
    repeat' (first
       | refine wp_seq_i ?_ | refine wp_region_i ?_ | refine Run.done rfl ?_ | refine then_n ?_ | refine then_r ?_ | refine then_e ?_ | refine Run.go1 rfl ?_ | refine wp_skip_i ?_ | refine wp_ret_i ?_ | refine wp_exit_i ?_
       | refine wp_block_i ?_ | refine block_n ?_ | refine block_r ?_ | refine block_e ?_ | refine block_o rfl ?_ | refine wp_cond_t rfl ?_ | refine wp_cond_f rfl ?_ | refine Run.ix rfl rfl rfl rfl rfl rfl rfl hx rfl rfl rfl ?_
       | refine Run.str rfl rfl rfl rfl rfl rfl hx rfl rfl ?_ | refine Run.ix rfl rfl rfl rfl rfl rfl rfl (set_hit (by simp [hj'])) rfl rfl rfl ?_ | refine Run.str rfl rfl rfl rfl rfl rfl (set_hit (by simp [hj'])) rfl rfl ?_
       | refine Run.adjw (.hole 100000 j 3 900000 _ _ _ _ _ _ rfl (set_hit (by simp [hj'])) rfl (fun _ => rfl) fun u => .done _ (Run.ldr rfl rfl rfl (set_hit (by simp [hj'])) rfl rfl (Run.go1 rfl (Run.adjw (.tell 37 900000 _ _ _ _ _ rfl rfl rfl rfl (.done _ (Run.call rfl rfl rfl (markInsS_t _ _ h1 h2) rfl rfl (Run.adjw (.fill 100000 j 3 900000 _ _ _ _ _ _ _ rfl (set_hit (by simp [hj'])) rfl rfl rfl (.done _ ?_))))))))))
       | (refine wp_cond_k rfl rfl rfl ?_ ?_ <;> intro _) | (refine wp_cond_i rfl ?_ ?_ <;> intro _))
    · refine back_i [.keep [0, 1, 4, 5] [100000]] (j + 1, (mkPiece m[j] c).2, m.set j (mkPiece m[j] c).1) rfl ?_ ⟨by simp; omega, ?_, ?_⟩ (by simp; omega)
      · simp only [List.map_set, List.set_set, w_succ hlt (by omega), mkPiece, nx]
      · rw [ht, mkPieceS_snoc, hmj, hc]
      · rw [ht, mkPieceS_snoc, hmj, ← hc]
        conv => lhs; rw [hm]
        rw [List.drop_eq_getElem_cons hlt, List.set_append_right _ _ (by simp [mkPieceS_len]; omega)]
        simp only [mkPieceS_len, List.length_take, Nat.min_eq_left hj, Nat.sub_self, List.set_cons_zero, List.append_assoc, List.singleton_append]
    · rename_i h; simp [hml, hlt] at h
  · have hjl : j = l.length := by omega
    repeat' (first
       | refine wp_seq_i ?_ | refine wp_region_i ?_ | refine Run.done rfl ?_ | refine then_n ?_ | refine then_r ?_ | refine then_e ?_ | refine Run.go1 rfl ?_ | refine wp_skip_i ?_ | refine wp_ret_i ?_ | refine wp_exit_i ?_
       | refine wp_block_i ?_ | refine block_n ?_ | refine block_r ?_ | refine block_e ?_ | refine block_o rfl ?_ | refine wp_cond_t rfl ?_ | refine wp_cond_f rfl ?_ | (refine wp_cond_k rfl rfl rfl ?_ ?_ <;> intro _)
       | (refine wp_cond_i rfl ?_ ?_ <;> intro _))
    · rename_i h; simp [hml, hjl] at h
    · refine ret_o [true] [] rfl rfl rfl ⟨rfl, trivial⟩ ?_
      subst hjl
      simp [hc, hm]
theorem markCode_t (c : Code) (k : Int) (hc : c.ok) : Tells Try.prog E0 X 13 [c.a true, iA k] (.io [iA (mkInsS c.main.ins (mkPieceS c.funs k).2).2, .ag [.t (.sl true ((mkPieceS c.funs k).1.map (Piece.c true))), iA c.main.lam, iA c.main.in_, iA c.main.regs, .t (.sl true ((mkInsS c.main.ins (mkPieceS c.funs k).2).1.map (Ins.c true)))], .u]) := by
  have h1 : c.main.ins.length ≤ 9223372036854775807 := Nat.le_trans hc.2.2.1 (by decide)
  have h2 : ∀ i ∈ c.main.ins, i.l.length ≤ 9223372036854775807 := fun i hi => Nat.le_trans (hc.2.2.2 i hi) (by decide)
  refine Tells.by Try.func13 (by simp [Try.f13]) (Body.i rfl rfl rfl (fun _ => rfl) fun f => ?_)
  repeat' (first
     | refine wp_seq_i ?_ | refine wp_region_i ?_ | refine Run.done rfl ?_ | refine then_n ?_ | refine then_r ?_ | refine then_e ?_ | refine Run.go1 rfl ?_ | refine wp_skip_i ?_ | refine wp_ret_i ?_ | refine wp_exit_i ?_
     | refine wp_block_i ?_ | refine block_n ?_ | refine block_r ?_ | refine block_e ?_ | refine block_o rfl ?_ | refine wp_cond_t rfl ?_ | refine wp_cond_f rfl ?_
     | refine Run.call rfl rfl rfl (markPieceS_t _ _ hc.1 hc.2.1) rfl rfl ?_ | refine Run.call rfl rfl rfl (markPiece_t c.main _ h1 h2) rfl rfl ?_ | (refine wp_cond_k rfl rfl rfl ?_ ?_ <;> intro _)
     | (refine wp_cond_i rfl ?_ ?_ <;> intro _))
  all_goals (refine ret_o [true] [] rfl rfl rfl ⟨?_, ?_⟩ rfl <;> simp)
end Go.Proofs

set_option linter.unusedVariables false
set_option linter.unusedSimpArgs false
namespace Go.Proofs
open Go Go.Ev
set_option maxRecDepth 100000
variable {X : Rel3}
theorem eqByteS_t (a b : List Int) (hl : a.length ≤ 9223372036854775807) : Tells Try.prog E0 X 11 [.t (.sl false (a.map (uR))), .t (.sl false (b.map (uR)))] (bA (decide (a = b))) := by
  refine Tells.by Try.func11 (by simp [Try.f11]) (Body.i rfl rfl rfl (fun _ => rfl) fun f => ?_)
  repeat' (first
     | refine wp_seq_i ?_ | refine wp_region_i ?_ | refine Run.done rfl ?_ | refine then_n ?_ | refine then_r ?_ | refine then_e ?_ | refine Run.go1 rfl ?_ | refine wp_skip_i ?_ | refine wp_ret_i ?_ | refine wp_exit_i ?_
     | refine wp_block_i ?_ | refine block_n ?_ | refine block_r ?_ | refine block_e ?_ | refine block_o rfl ?_ | refine wp_cond_t rfl ?_ | refine wp_cond_f rfl ?_ | (refine wp_cond_k rfl rfl rfl ?_ ?_ <;> intro _)
     | (refine wp_cond_i rfl ?_ ?_ <;> intro _))
  · rename_i h
    refine ret_m [] rfl rfl ?_
    simp at h
    simp; intro e; exact h (by rw [e])
  rename_i h
  have hab : a.length = b.length := by
    have : (a.length : Int) = b.length := by simpa using h
    omega
  refine wp_loop_k (α := Nat) [.keep [0, 1, 4, 5] []] (fun p => [(5, iA p)]) (fun _ => []) (fun _ => []) (fun p => p ≤ a.length ∧ a.take p = b.take p) (fun p => a.length - p) 0 rfl (fun _ => rfl) rfl ⟨by simp, by simp⟩ ?_
  rintro j ⟨hj, he⟩
  by_cases hlt : j < a.length
  · have hx : (a.map (uR))[j]? = some ((uR) a[j]) := by simp [hlt]
    have hy : (b.map (uR))[j]? = some ((uR) (b[j]'(by omega))) := by simp [← hab, hlt]
    have ta : a.take (j + 1) = a.take j ++ [a[j]] := by simp
    have tb : b.take (j + 1) = b.take j ++ [b[j]'(by omega)] := by simp
    repeat' (first
       | refine wp_seq_i ?_ | refine wp_region_i ?_ | refine Run.done rfl ?_ | refine then_n ?_ | refine then_r ?_ | refine then_e ?_ | refine Run.go1 rfl ?_ | refine wp_skip_i ?_ | refine wp_ret_i ?_ | refine wp_exit_i ?_
       | refine wp_block_i ?_ | refine block_n ?_ | refine block_r ?_ | refine block_e ?_ | refine block_o rfl ?_ | refine wp_cond_t rfl ?_ | refine wp_cond_f rfl ?_ | refine wp_region_q 9 rfl rfl rfl ?_ | refine RunQ.go1 rfl ?_
       | refine RunQ.done rfl ?_ | refine RunQ.ix rfl rfl rfl rfl rfl rfl rfl hx rfl rfl rfl ?_ | refine RunQ.ix rfl rfl rfl rfl rfl rfl rfl hy rfl rfl rfl ?_ | refine Run.ix rfl rfl rfl rfl rfl rfl rfl hx rfl rfl rfl ?_
       | refine Run.ix rfl rfl rfl rfl rfl rfl rfl hy rfl rfl rfl ?_ | (refine wp_cond_k rfl rfl rfl ?_ ?_ <;> intro _) | (refine wp_cond_i rfl ?_ ?_ <;> intro _))
    · rename_i h2
      refine ret_m [] rfl rfl ?_
      simp at h2
      simp; intro e; subst e; exact h2 rfl
    · rename_i h2
      simp at h2
      refine back_i [.keep [0, 1, 4, 5] []] (j + 1) rfl ?_ ⟨by omega, ?_⟩ (by omega)
      · simp only [w_succ hlt (show a.length ≤ 9223372036854775807 by omega)]
      · rw [ta, tb, he, h2]
    · rename_i h2; simp [hlt] at h2
  · have hjl : j = a.length := by omega
    repeat' (first
       | refine wp_seq_i ?_ | refine wp_region_i ?_ | refine Run.done rfl ?_ | refine then_n ?_ | refine then_r ?_ | refine then_e ?_ | refine Run.go1 rfl ?_ | refine wp_skip_i ?_ | refine wp_ret_i ?_ | refine wp_exit_i ?_
       | refine wp_block_i ?_ | refine block_n ?_ | refine block_r ?_ | refine block_e ?_ | refine block_o rfl ?_ | refine wp_cond_t rfl ?_ | refine wp_cond_f rfl ?_ | (refine wp_cond_k rfl rfl rfl ?_ ?_ <;> intro _)
       | (refine wp_cond_i rfl ?_ ?_ <;> intro _))
    · rename_i h2; simp [hjl] at h2
    · refine ret_m [] rfl rfl ?_
      rw [hjl] at he
      have : a = b := by rw [List.take_length, hab, List.take_length] at he; exact he
      simp [this]
def szIntS (l : List Int) (left : Int) : Int := if IntKind.i64.wrap (left - l.length) < 0 then -1 else IntKind.i64.wrap (left - l.length)
theorem szIntS_t (l : List Int) (left : Int) : Tells Try.prog E0 X 91 [.t (.sl false (l.map iR)), iA left] (iA (szIntS l left)) := by
  refine Tells.by Try.func91 (by simp [Try.f91]) (Body.i rfl rfl rfl (fun _ => rfl) fun f => ?_)
  repeat' (first
     | refine wp_seq_i ?_ | refine wp_region_i ?_ | refine Run.done rfl ?_ | refine then_n ?_ | refine then_r ?_ | refine then_e ?_ | refine Run.go1 rfl ?_ | refine wp_skip_i ?_ | refine wp_ret_i ?_ | refine wp_exit_i ?_
     | refine wp_block_i ?_ | refine block_n ?_ | refine block_r ?_ | refine block_e ?_ | refine block_o rfl ?_ | refine wp_cond_t rfl ?_ | refine wp_cond_f rfl ?_ | (refine wp_cond_k rfl rfl rfl ?_ ?_ <;> intro _)
     | (refine wp_cond_i rfl ?_ ?_ <;> intro _))
  all_goals (refine ret_m [] rfl rfl ?_; simp_all [szIntS] <;> omega)
def szIns (i : Ins) (left : Int) : Int := if szIntS i.l left < 0 then -1 else szIntS i.l left
theorem szIns_t (i : Ins) (left : Int) : Tells Try.prog E0 X 72 [i.a false, iA left] (iA (szIns i left)) := by
  refine Tells.by Try.func72 (by simp [Try.f72]) (Body.i rfl rfl rfl (fun _ => rfl) fun f => ?_)
  repeat' (first
     | refine wp_seq_i ?_ | refine wp_region_i ?_ | refine Run.done rfl ?_ | refine then_n ?_ | refine then_r ?_ | refine then_e ?_ | refine Run.go1 rfl ?_ | refine wp_skip_i ?_ | refine wp_ret_i ?_ | refine wp_exit_i ?_
     | refine wp_block_i ?_ | refine block_n ?_ | refine block_r ?_ | refine block_e ?_ | refine block_o rfl ?_ | refine wp_cond_t rfl ?_ | refine wp_cond_f rfl ?_ | refine Run.call rfl rfl rfl (szIntS_t _ _) rfl rfl ?_
     | (refine wp_cond_k rfl rfl rfl ?_ ?_ <;> intro _) | (refine wp_cond_i rfl ?_ ?_ <;> intro _))
  all_goals (refine ret_m [] rfl rfl ?_; simp_all [szIns] <;> omega)
def szL {α : Type} (f : α → Int → Int) : List α → Int → Int
  | [], left => left
  | x :: r, left => if f x left < 0 then -1 else szL f r (f x left)
def szInsS (l : List Ins) (left : Int) : Int := if IntKind.i64.wrap (left - l.length) < 0 then -1 else szL szIns l (IntKind.i64.wrap (left - l.length))
theorem szInsS_t (l : List Ins) (left : Int) (hl : l.length ≤ 9223372036854775807) : Tells Try.prog E0 X 51 [.t (.sl false (l.map (Ins.c false))), iA left] (iA (szInsS l left)) := by
  refine Tells.by Try.func51 (by simp [Try.f51]) (Body.i rfl rfl rfl (fun _ => rfl) fun f => ?_)
  repeat' (first
     | refine wp_seq_i ?_ | refine wp_region_i ?_ | refine Run.done rfl ?_ | refine then_n ?_ | refine then_r ?_ | refine then_e ?_ | refine Run.go1 rfl ?_ | refine wp_skip_i ?_ | refine wp_ret_i ?_ | refine wp_exit_i ?_
     | refine wp_block_i ?_ | refine block_n ?_ | refine block_r ?_ | refine block_e ?_ | refine block_o rfl ?_ | refine wp_cond_t rfl ?_ | refine wp_cond_f rfl ?_ | (refine wp_cond_k rfl rfl rfl ?_ ?_ <;> intro _)
     | (refine wp_cond_i rfl ?_ ?_ <;> intro _))
  · refine ret_m [] rfl rfl ?_; simp_all [szInsS]
  rename_i h0
  have h0 : ¬ IntKind.i64.wrap (left - l.length) < 0 := by simpa using h0
  refine wp_loop_k (α := Nat × Int) [.keep [0, 1, 4, 5] []] (fun p => [(1, iA p.2), (5, iA p.1)]) (fun _ => []) (fun _ => []) (fun p => p.1 ≤ l.length ∧ szL szIns (l.drop p.1) p.2 = szL szIns l (IntKind.i64.wrap (left - l.length))) (fun p => l.length - p.1) (0, IntKind.i64.wrap (left - (l.map (Ins.c false)).length)) rfl (fun _ => rfl) rfl ⟨by simp, by simp⟩ ?_
  rintro ⟨k, r⟩ ⟨hk, hI⟩
  simp only at hk hI
  have hgoal : szInsS l left = szL szIns l (IntKind.i64.wrap (left - l.length)) := if_neg h0
  by_cases hlt : k < l.length
  · have hx : (l.map (Ins.c false))[k]? = some ((Ins.c false) l[k]) := by simp [hlt]
    rw [List.drop_eq_getElem_cons hlt, szL] at hI
    repeat' (first
       | refine wp_seq_i ?_ | refine wp_region_i ?_ | refine Run.done rfl ?_ | refine then_n ?_ | refine then_r ?_ | refine then_e ?_ | refine Run.go1 rfl ?_ | refine wp_skip_i ?_ | refine wp_ret_i ?_ | refine wp_exit_i ?_
       | refine wp_block_i ?_ | refine block_n ?_ | refine block_r ?_ | refine block_e ?_ | refine block_o rfl ?_ | refine wp_cond_t rfl ?_ | refine wp_cond_f rfl ?_ | refine Run.ix rfl rfl rfl rfl rfl rfl rfl hx rfl rfl rfl ?_
       | refine Run.call rfl rfl rfl (szIns_t _ _) rfl rfl ?_ | (refine wp_cond_k rfl rfl rfl ?_ ?_ <;> intro _) | (refine wp_cond_i rfl ?_ ?_ <;> intro _))
    · rename_i h
      rw [if_pos (by simpa using h)] at hI
      refine ret_m [] rfl rfl ?_; rw [hgoal, ← hI]
    · rename_i h
      rw [if_neg (by simpa using h)] at hI
      refine back_i [.keep [0, 1, 4, 5] []] (k + 1, szIns l[k] r) rfl ?_ ⟨by simp; omega, hI⟩ (by simp; omega)
      simp only [w_succ hlt hl]
    · rename_i h; simp [hlt] at h
  · have hkl : k = l.length := by omega
    repeat' (first
       | refine wp_seq_i ?_ | refine wp_region_i ?_ | refine Run.done rfl ?_ | refine then_n ?_ | refine then_r ?_ | refine then_e ?_ | refine Run.go1 rfl ?_ | refine wp_skip_i ?_ | refine wp_ret_i ?_ | refine wp_exit_i ?_
       | refine wp_block_i ?_ | refine block_n ?_ | refine block_r ?_ | refine block_e ?_ | refine block_o rfl ?_ | refine wp_cond_t rfl ?_ | refine wp_cond_f rfl ?_ | (refine wp_cond_k rfl rfl rfl ?_ ?_ <;> intro _)
       | (refine wp_cond_i rfl ?_ ?_ <;> intro _))
    · rename_i h; simp [hkl] at h
    · refine ret_m [] rfl rfl ?_
      rw [hgoal, ← hI, hkl, List.drop_length]; rfl
def szPiece (p : Piece) (left : Int) : Int := if szInsS p.ins left < 0 then -1 else szInsS p.ins left
theorem szPiece_t (p : Piece) (left : Int) (hl : p.ins.length ≤ 9223372036854775807) : Tells Try.prog E0 X 20 [p.a false, iA left] (iA (szPiece p left)) := by
  refine Tells.by Try.func20 (by simp [Try.f20]) (Body.i rfl rfl rfl (fun _ => rfl) fun f => ?_)
  repeat' (first
     | refine wp_seq_i ?_ | refine wp_region_i ?_ | refine Run.done rfl ?_ | refine then_n ?_ | refine then_r ?_ | refine then_e ?_ | refine Run.go1 rfl ?_ | refine wp_skip_i ?_ | refine wp_ret_i ?_ | refine wp_exit_i ?_
     | refine wp_block_i ?_ | refine block_n ?_ | refine block_r ?_ | refine block_e ?_ | refine block_o rfl ?_ | refine wp_cond_t rfl ?_ | refine wp_cond_f rfl ?_ | refine Run.call rfl rfl rfl (szInsS_t _ _ hl) rfl rfl ?_
     | (refine wp_cond_k rfl rfl rfl ?_ ?_ <;> intro _) | (refine wp_cond_i rfl ?_ ?_ <;> intro _))
  all_goals (refine ret_m [] rfl rfl ?_; simp_all [szPiece] <;> omega)
def szPieceS (l : List Piece) (left : Int) : Int := if IntKind.i64.wrap (left - l.length) < 0 then -1 else szL szPiece l (IntKind.i64.wrap (left - l.length))
theorem szPieceS_t (l : List Piece) (left : Int) (hl : l.length ≤ 9223372036854775807) (hll : ∀ p ∈ l, p.ins.length ≤ 9223372036854775807) : Tells Try.prog E0 X 31 [.t (.sl false (l.map (Piece.c false))), iA left] (iA (szPieceS l left)) := by
  refine Tells.by Try.func31 (by simp [Try.f31]) (Body.i rfl rfl rfl (fun _ => rfl) fun f => ?_)
  repeat' (first
     | refine wp_seq_i ?_ | refine wp_region_i ?_ | refine Run.done rfl ?_ | refine then_n ?_ | refine then_r ?_ | refine then_e ?_ | refine Run.go1 rfl ?_ | refine wp_skip_i ?_ | refine wp_ret_i ?_ | refine wp_exit_i ?_
     | refine wp_block_i ?_ | refine block_n ?_ | refine block_r ?_ | refine block_e ?_ | refine block_o rfl ?_ | refine wp_cond_t rfl ?_ | refine wp_cond_f rfl ?_ | (refine wp_cond_k rfl rfl rfl ?_ ?_ <;> intro _)
     | (refine wp_cond_i rfl ?_ ?_ <;> intro _))
  · refine ret_m [] rfl rfl ?_; simp_all [szPieceS]
  rename_i h0
  have h0 : ¬ IntKind.i64.wrap (left - l.length) < 0 := by simpa using h0
  refine wp_loop_k (α := Nat × Int) [.keep [0, 1, 4, 5] []] (fun p => [(1, iA p.2), (5, iA p.1)]) (fun _ => []) (fun _ => []) (fun p => p.1 ≤ l.length ∧ szL szPiece (l.drop p.1) p.2 = szL szPiece l (IntKind.i64.wrap (left - l.length))) (fun p => l.length - p.1) (0, IntKind.i64.wrap (left - (l.map (Piece.c false)).length)) rfl (fun _ => rfl) rfl ⟨by simp, by simp⟩ ?_
  rintro ⟨k, r⟩ ⟨hk, hI⟩
  simp only at hk hI
  have hgoal : szPieceS l left = szL szPiece l (IntKind.i64.wrap (left - l.length)) := if_neg h0
  by_cases hlt : k < l.length
  · have hx : (l.map (Piece.c false))[k]? = some ((Piece.c false) l[k]) := by simp [hlt]
    rw [List.drop_eq_getElem_cons hlt, szL] at hI
    repeat' (first
       | refine wp_seq_i ?_ | refine wp_region_i ?_ | refine Run.done rfl ?_ | refine then_n ?_ | refine then_r ?_ | refine then_e ?_ | refine Run.go1 rfl ?_ | refine wp_skip_i ?_ | refine wp_ret_i ?_ | refine wp_exit_i ?_
       | refine wp_block_i ?_ | refine block_n ?_ | refine block_r ?_ | refine block_e ?_ | refine block_o rfl ?_ | refine wp_cond_t rfl ?_ | refine wp_cond_f rfl ?_ | refine Run.ix rfl rfl rfl rfl rfl rfl rfl hx rfl rfl rfl ?_
       | refine Run.call rfl rfl rfl (szPiece_t _ _ (hll _ (List.getElem_mem hlt))) rfl rfl ?_ | (refine wp_cond_k rfl rfl rfl ?_ ?_ <;> intro _) | (refine wp_cond_i rfl ?_ ?_ <;> intro _))
    · rename_i h
      rw [if_pos (by simpa using h)] at hI
      refine ret_m [] rfl rfl ?_; rw [hgoal, ← hI]
    · rename_i h
      rw [if_neg (by simpa using h)] at hI
      refine back_i [.keep [0, 1, 4, 5] []] (k + 1, szPiece l[k] r) rfl ?_ ⟨by simp; omega, hI⟩ (by simp; omega)
      simp only [w_succ hlt hl]
    · rename_i h; simp [hlt] at h
  · have hkl : k = l.length := by omega
    repeat' (first
       | refine wp_seq_i ?_ | refine wp_region_i ?_ | refine Run.done rfl ?_ | refine then_n ?_ | refine then_r ?_ | refine then_e ?_ | refine Run.go1 rfl ?_ | refine wp_skip_i ?_ | refine wp_ret_i ?_ | refine wp_exit_i ?_
       | refine wp_block_i ?_ | refine block_n ?_ | refine block_r ?_ | refine block_e ?_ | refine block_o rfl ?_ | refine wp_cond_t rfl ?_ | refine wp_cond_f rfl ?_ | (refine wp_cond_k rfl rfl rfl ?_ ?_ <;> intro _)
       | (refine wp_cond_i rfl ?_ ?_ <;> intro _))
    · rename_i h; simp [hkl] at h
    · refine ret_m [] rfl rfl ?_
      rw [hgoal, ← hI, hkl, List.drop_length]; rfl
def szCode (c : Code) (left : Int) : Int := if szPieceS c.funs left < 0 then -1 else if szPiece c.main (szPieceS c.funs left) < 0 then -1 else szPiece c.main (szPieceS c.funs left)
theorem szCode_t (c : Code) (left : Int) (hl : c.funs.length ≤ 9223372036854775807) (hll : ∀ p ∈ c.funs, p.ins.length ≤ 9223372036854775807) (hm : c.main.ins.length ≤ 9223372036854775807) : Tells Try.prog E0 X 7 [c.a false, iA left] (iA (szCode c left)) := by
  refine Tells.by Try.func7 (by simp [Try.f7]) (Body.i rfl rfl rfl (fun _ => rfl) fun f => ?_)
  repeat' (first
     | refine wp_seq_i ?_ | refine wp_region_i ?_ | refine Run.done rfl ?_ | refine then_n ?_ | refine then_r ?_ | refine then_e ?_ | refine Run.go1 rfl ?_ | refine wp_skip_i ?_ | refine wp_ret_i ?_ | refine wp_exit_i ?_
     | refine wp_block_i ?_ | refine block_n ?_ | refine block_r ?_ | refine block_e ?_ | refine block_o rfl ?_ | refine wp_cond_t rfl ?_ | refine wp_cond_f rfl ?_ | refine Run.call rfl rfl rfl (szPieceS_t _ _ hl hll) rfl rfl ?_
     | refine Run.call rfl rfl rfl (szPiece_t c.main _ hm) rfl rfl ?_ | (refine wp_cond_k rfl rfl rfl ?_ ?_ <;> intro _) | (refine wp_cond_i rfl ?_ ?_ <;> intro _))
  all_goals (refine ret_m [] rfl rfl ?_; simp_all [szCode] <;> omega)
end Go.Proofs

set_option linter.unusedVariables false
set_option linter.unusedSimpArgs false
namespace Go.Proofs
open Go Go.Ev
set_option maxRecDepth 100000
variable {X : Rel3}
def sumB : List Int → Int → Int
  | [], n => n
  | x :: r, n => sumB r ((IntKind.i64.wrap (IntKind.i64.wrap (n * 31) + IntKind.i64.wrap x)).tmod 65521)
theorem l16Sum_t (l : List Int) (hl : l.length ≤ 9223372036854775807) : Tells Try.prog E0 X 35 [.t (.sl false (l.map uR))] (iA (sumB l 0)) := by
  refine Tells.by Try.func35 (by simp [Try.f35]) (Body.i rfl rfl rfl (fun _ => rfl) fun f => ?_)
  repeat' (first
     | refine wp_seq_i ?_ | refine wp_region_i ?_ | refine Run.done rfl ?_ | refine then_n ?_ | refine then_r ?_ | refine then_e ?_ | refine Run.go1 rfl ?_ | refine wp_skip_i ?_ | refine wp_ret_i ?_ | refine wp_exit_i ?_
     | refine wp_block_i ?_ | refine block_n ?_ | refine block_r ?_ | refine block_e ?_ | refine block_o rfl ?_ | refine wp_cond_t rfl ?_ | refine wp_cond_f rfl ?_ | (refine wp_cond_k rfl rfl rfl ?_ ?_ <;> intro _)
     | (refine wp_cond_i rfl ?_ ?_ <;> intro _))
  refine wp_loop_k (α := Nat × Int) [.keep [0, 2, 3, 4] []] (fun p => [(3, iA p.2), (4, iA p.1)]) (fun _ => []) (fun _ => []) (fun p => p.1 ≤ l.length ∧ sumB (l.drop p.1) p.2 = sumB l 0) (fun p => l.length - p.1) (0, 0) rfl (fun _ => rfl) rfl ⟨by simp, by simp⟩ ?_
  rintro ⟨j, c⟩ ⟨hj, hc⟩
  simp only at hj hc
  by_cases hlt : j < l.length
  · have hx : (l.map uR)[j]? = some (uR l[j]) := by simp [hlt]
    repeat' (first
       | refine wp_seq_i ?_ | refine wp_region_i ?_ | refine Run.done rfl ?_ | refine then_n ?_ | refine then_r ?_ | refine then_e ?_ | refine Run.go1 rfl ?_ | refine wp_skip_i ?_ | refine wp_ret_i ?_ | refine wp_exit_i ?_
       | refine wp_block_i ?_ | refine block_n ?_ | refine block_r ?_ | refine block_e ?_ | refine block_o rfl ?_ | refine wp_cond_t rfl ?_ | refine wp_cond_f rfl ?_ | refine Run.ix rfl rfl rfl rfl rfl rfl rfl hx rfl rfl rfl ?_
       | (refine wp_cond_k rfl rfl rfl ?_ ?_ <;> intro _) | (refine wp_cond_i rfl ?_ ?_ <;> intro _))
    · rw [List.drop_eq_getElem_cons hlt, sumB] at hc
      refine back_i [.keep [0, 2, 3, 4] []] (j + 1, _) rfl ?_ ⟨by simp; omega, hc⟩ (by simp; omega)
      simp only [w_succ hlt hl]
      rfl
    · rename_i h; simp [hlt] at h
  · have hjl : j = l.length := by omega
    repeat' (first
       | refine wp_seq_i ?_ | refine wp_region_i ?_ | refine Run.done rfl ?_ | refine then_n ?_ | refine then_r ?_ | refine then_e ?_ | refine Run.go1 rfl ?_ | refine wp_skip_i ?_ | refine wp_ret_i ?_ | refine wp_exit_i ?_
       | refine wp_block_i ?_ | refine block_n ?_ | refine block_r ?_ | refine block_e ?_ | refine block_o rfl ?_ | refine wp_cond_t rfl ?_ | refine wp_cond_f rfl ?_ | (refine wp_cond_k rfl rfl rfl ?_ ?_ <;> intro _)
       | (refine wp_cond_i rfl ?_ ?_ <;> intro _))
    · rename_i h; simp [hjl] at h
    · refine ret_m [] rfl rfl ?_
      rw [← hc, hjl, List.drop_length]; rfl
end Go.Proofs

set_option linter.unusedVariables false
set_option linter.unusedSimpArgs false
set_option maxHeartbeats 4000000
namespace Go.Proofs
open Go Go.Ev
set_option maxRecDepth 100000
variable {X : Rel3}
theorem w_pred {n : Int} (h0 : -9223372036854775807 ≤ n) (h1 : n ≤ 9223372036854775807) : IntKind.i64.wrap (n - 1) = n - 1 := by rw [w64] <;> omega
theorem map_at {α β : Type} {f : α → β} {l : List α} {k : Nat} (h : k < l.length) : (l.map f)[k]? = some (f l[k]) := by simp [h]
theorem all_step {α : Type} {f : α → Bool} {l : List α} {k : Nat} (h : k < l.length) : (l.drop k).all f = (f l[k] && (l.drop (k + 1)).all f) := by
  rw [List.drop_eq_getElem_cons h, List.all_cons]
def asc : List Int → Bool
  | [] => true
  | [_] => true
  | x :: y :: r => decide (x < y) && asc (y :: r)
theorem asc_step {l : List Int} {k : Nat} (h : k + 1 < l.length) : asc (l.drop k) = (decide (l[k] < l[k + 1]) && asc (l.drop (k + 1))) := by
  rw [List.drop_eq_getElem_cons (show k < l.length by omega), List.drop_eq_getElem_cons h, asc]
theorem asc_end {l : List Int} {k : Nat} (h : l.length ≤ k + 1) : asc (l.drop k) = true := by
  have : (l.drop k).length ≤ 1 := by simp; omega
  match h : l.drop k with
  | [] => rfl
  | [_] => rfl
  | _ :: _ :: _ => rw [h] at this; simp at this
def regB (has : Bool) (r regs : Int) : Bool := if has then rng r 0 (regs - 1) else r == 0
def allR (l : List Int) (hi : Int) : Bool := l.all fun r => rng r 0 hi
theorem allR_step {l : List Int} {hi : Int} {k : Nat} (h : k < l.length) : allR (l.drop k) hi = (rng l[k] 0 hi && allR (l.drop (k + 1)) hi) := all_step h
def numB (regs : Int) (i : Ins) : Bool :=
  if i.op = 1 then rng i.n (-1000000) 1000000
  else if i.op = 2 then rng i.n 0 1
  else if i.op = 5 then rng i.n 1 5
  else if i.op = 8 then allR i.l (regs - 1) && (rng i.n 0 149 && decide ((i.l.length : Int) < 100))
  else if i.op = 14 then asc i.l && (i.n == 0 && decide ((i.l.length : Int) ≤ 200))
  else i.n == 0
def insB (regs n : Int) (i : Ins) : Bool :=
  rng i.op 1 18 && regB (uD i.op) i.d regs && regB (uX i.op) i.x regs && regB (uY i.op) i.y regs && (if uT i.op then rng i.to_ 0 (n - 1) else i.to_ == 0) &&
  (i.op == 8 || i.op == 14 || !decide (0 < (i.l.length : Int))) && numB regs i
def k_l9Ins : List (Nat × List Nat) := [(0, [2, 3]), (1, [2, 3, 5]), (2, [2, 3, 68]), (3, [4]), (4, [2, 3, 82]), (5, [4]), (6, [2, 3, 84]), (7, [2, 3, 84, 85]), (8, [4]), (9, [2, 3, 84, 90]), (10, [4]), (11, [2, 3, 84, 95]), (12, [4]), (13, [2, 3, 84, 100]), (14, [2, 3, 6]), (15, [2, 3, 6, 106]), (16, [2, 3, 6]), (17, [2, 3, 6, 118]), (18, [4]), (19, [4]), (20, [3, 128]), (21, [3, 7]), (22, [3, 7, 134]), (23, [3, 7]), (24, [3, 7, 148]), (25, [4]), (26, [4]), (27, [4])]
theorem l9Ins_t (p : Piece) (i : Ins) (hr : 0 ≤ p.regs ∧ p.regs ≤ 400) (hn : p.ins.length ≤ 600) (hl : i.l.length ≤ 1048576) : Tells Try.prog E0 X 73 [p.a false, i.a false] (bA (insB p.regs p.ins.length i)) := by
  have hw : IntKind.i64.wrap (p.regs - 1) = p.regs - 1 := w_pred (by omega) (by omega)
  have hv : IntKind.i64.wrap ((p.ins.length : Int) - 1) = p.ins.length - 1 := w_pred (by omega) (by omega)
  have hreg : ∀ b r, Tells Try.prog E0 X 92 [bA b, iA r, iA p.regs] (bA (regB b r p.regs)) := by intro b r; have := l9Reg_t (X := X) b r p.regs; simpa only [l9Reg, regB, hw] using this
  refine Tells.by Try.func73 (by simp [Try.f73]) (Body.i rfl rfl rfl (fun _ => rfl) fun f => ?_)
  repeat' (first
     | refine wp_seq_i ?_ | refine wp_region_t k_l9Ins rfl ?_ | refine Run.done rfl ?_ | refine then_n ?_ | refine then_r ?_ | refine then_e ?_ | refine Run.go1 rfl ?_ | refine wp_skip_i ?_ | refine wp_ret_i ?_
     | refine wp_exit_i ?_ | refine wp_block_i ?_ | refine block_n ?_ | refine block_r ?_ | refine block_e ?_ | refine block_o rfl ?_ | refine wp_cond_t rfl ?_ | refine wp_cond_f rfl ?_ | refine Run.gT rfl rfl rfl rfl ?_
     | refine Run.pT rfl rfl ?_ | (refine Run.splitG rfl rfl rfl rfl rfl rfl ?_ ?_ <;> intro _) | (refine Run.splitP rfl rfl rfl rfl ?_ ?_ <;> intro _) | refine Run.call rfl rfl rfl (l1In_t _ _ _) rfl rfl ?_
     | refine Run.call rfl rfl rfl (l9Uses_t _) rfl rfl ?_ | refine Run.call rfl rfl rfl (hreg _ _) rfl rfl ?_ | refine Run.one rfl rfl rfl ?_ | (refine wp_cond_k rfl rfl rfl ?_ ?_ <;> intro _)
     | (refine wp_cond_i rfl ?_ ?_ <;> intro _))
  any_goals (refine ret_m [] rfl rfl ?_; first | (simp_all [insB]; done) | (simp_all [insB, numB]; done))
  any_goals (exfalso; clear hreg hw hv; simp_all [uT]; done)
  · refine wp_loop_k (α := Nat) [.keep [3, 7] [3]] (fun k => [(7, iA k)]) (fun _ => []) (fun _ => []) (fun k => (1 ≤ k ∧ k ≤ i.l.length + 1) ∧ asc (i.l.drop (k - 1)) = asc i.l) (fun k => i.l.length - k) 1 rfl (fun _ => rfl) rfl ?_ ?_
    · simp
    rintro k ⟨hk, hI⟩
    by_cases hlt : k < i.l.length
    · have hx : (i.l.map iR)[k]? = some (iR i.l[k]) := by simp [hlt]
      have hy : (i.l.map iR)[k - 1]? = some (iR (i.l[k - 1]'(by omega))) := by simp [hlt] <;> omega
      have hkk : IntKind.i64.wrap ((k : Int) - 1) = ((k - 1 : Nat) : Int) := by rw [w_pred] <;> omega
      have hst := asc_step (l := i.l) (k := k - 1) (by omega)
      have e1 : k - 1 + 1 = k := by omega
      simp only [e1] at hst
      repeat' (first
         | refine wp_seq_i ?_ | refine wp_region_t k_l9Ins rfl ?_ | refine Run.done rfl ?_ | refine then_n ?_ | refine then_r ?_ | refine then_e ?_ | refine Run.go1 rfl ?_ | refine wp_skip_i ?_ | refine wp_ret_i ?_
         | refine wp_exit_i ?_ | refine wp_block_i ?_ | refine block_n ?_ | refine block_r ?_ | refine block_e ?_ | refine block_o rfl ?_ | refine wp_cond_t rfl ?_ | refine wp_cond_f rfl ?_
         | refine wp_region_qt k_l9Ins rfl 12 rfl rfl rfl ?_ | refine RunQ.go1 rfl ?_ | refine RunQ.done rfl ?_ | refine RunQ.ix rfl rfl rfl rfl rfl rfl rfl hx rfl rfl rfl ?_
         | refine RunQ.ix rfl rfl rfl rfl rfl rfl hkk hy rfl rfl rfl ?_ | (refine wp_cond_k rfl rfl rfl ?_ ?_ <;> intro _) | (refine wp_cond_i rfl ?_ ?_ <;> intro _))
      · rename_i h1 h2
        refine ret_m [] rfl rfl ?_
        have : asc i.l = false := by rw [← hI, hst]; simp at h2; simp; omega
        simp_all [insB, numB]
      · rename_i h1 h2
        refine back_i [.keep [3, 7] [3]] (k + 1) rfl ?_ ⟨by omega, ?_⟩ (by omega)
        · simp only [w_succ hlt (by omega)]
        · rw [← hI, hst]; simp at h2; simp; omega
      · rename_i h; simp [hlt] at h
    · have hend := asc_end (l := i.l) (k := k - 1) (by omega)
      repeat' (first
         | refine wp_seq_i ?_ | refine wp_region_t k_l9Ins rfl ?_ | refine Run.done rfl ?_ | refine then_n ?_ | refine then_r ?_ | refine then_e ?_ | refine Run.go1 rfl ?_ | refine wp_skip_i ?_ | refine wp_ret_i ?_
         | refine wp_exit_i ?_ | refine wp_block_i ?_ | refine block_n ?_ | refine block_r ?_ | refine block_e ?_ | refine block_o rfl ?_ | refine wp_cond_t rfl ?_ | refine wp_cond_f rfl ?_ | refine Run.gT rfl rfl rfl rfl ?_
         | refine Run.pT rfl rfl ?_ | (refine Run.splitG rfl rfl rfl rfl rfl rfl ?_ ?_ <;> intro _) | (refine Run.splitP rfl rfl rfl rfl ?_ ?_ <;> intro _) | (refine wp_cond_k rfl rfl rfl ?_ ?_ <;> intro _)
         | (refine wp_cond_i rfl ?_ ?_ <;> intro _))
      · rename_i h; simp [hlt] at h
      all_goals (refine ret_m [] rfl rfl ?_; simp_all [insB, numB])
  · refine wp_loop_k (α := Nat) [.keep [2, 3, 6] [2, 3]] (fun k => [(6, iA k)]) (fun _ => []) (fun _ => []) (fun k => k ≤ i.l.length ∧ allR (i.l.drop k) (p.regs - 1) = allR i.l (p.regs - 1)) (fun k => i.l.length - k) 0 rfl (fun _ => rfl) rfl ?_ ?_
    · simp
    rintro k ⟨hk, hI⟩
    by_cases hlt : k < i.l.length
    · have hx : (i.l.map iR)[k]? = some (iR i.l[k]) := by simp [hlt]
      rw [allR_step hlt] at hI
      repeat' (first
         | refine wp_seq_i ?_ | refine wp_region_t k_l9Ins rfl ?_ | refine Run.done rfl ?_ | refine then_n ?_ | refine then_r ?_ | refine then_e ?_ | refine Run.go1 rfl ?_ | refine wp_skip_i ?_ | refine wp_ret_i ?_
         | refine wp_exit_i ?_ | refine wp_block_i ?_ | refine block_n ?_ | refine block_r ?_ | refine block_e ?_ | refine block_o rfl ?_ | refine wp_cond_t rfl ?_ | refine wp_cond_f rfl ?_
         | refine wp_region_qt k_l9Ins rfl 10 rfl rfl rfl ?_ | refine RunQ.go1 rfl ?_ | refine RunQ.done rfl ?_ | refine RunQ.ix rfl rfl rfl rfl rfl rfl rfl hx rfl rfl rfl ?_
         | refine RunQ.call rfl rfl rfl rfl rfl rfl (l1In_t _ _ _) (.inl rfl) rfl rfl ?_ | (refine wp_cond_k rfl rfl rfl ?_ ?_ <;> intro _) | (refine wp_cond_i rfl ?_ ?_ <;> intro _))
      · rename_i h1 h2
        refine ret_m [] rfl rfl ?_
        rw [hw] at h2
        have : allR i.l (p.regs - 1) = false := by rw [← hI]; simp at h2; simp [h2]
        simp_all [insB, numB]
      · rename_i h1 h2
        refine back_i [.keep [2, 3, 6] [2, 3]] (k + 1) rfl ?_ ⟨by omega, ?_⟩ (by omega)
        · simp only [w_succ hlt (by omega)]
        · rw [hw] at h2; rw [← hI]; simp at h2; simp [h2]
      · rename_i h; simp [hlt] at h
    · have hk : k = i.l.length := by omega
      subst hk
      have hI : allR i.l (p.regs - 1) = true := by rw [← hI]; simp [allR]
      repeat' (first
         | refine wp_seq_i ?_ | refine wp_region_t k_l9Ins rfl ?_ | refine Run.done rfl ?_ | refine then_n ?_ | refine then_r ?_ | refine then_e ?_ | refine Run.go1 rfl ?_ | refine wp_skip_i ?_ | refine wp_ret_i ?_
         | refine wp_exit_i ?_ | refine wp_block_i ?_ | refine block_n ?_ | refine block_r ?_ | refine block_e ?_ | refine block_o rfl ?_ | refine wp_cond_t rfl ?_ | refine wp_cond_f rfl ?_ | refine Run.gT rfl rfl rfl rfl ?_
         | refine Run.pT rfl rfl ?_ | (refine Run.splitG rfl rfl rfl rfl rfl rfl ?_ ?_ <;> intro _) | (refine Run.splitP rfl rfl rfl rfl ?_ ?_ <;> intro _) | refine Run.call rfl rfl rfl (l1In_t _ _ _) rfl rfl ?_
         | (refine wp_cond_k rfl rfl rfl ?_ ?_ <;> intro _) | (refine wp_cond_i rfl ?_ ?_ <;> intro _))
      · rename_i h; simp at h
      all_goals (refine ret_m [] rfl rfl ?_; simp_all [insB, numB])
end Go.Proofs

set_option linter.unusedVariables false
set_option linter.unusedSimpArgs false
set_option maxHeartbeats 4000000
namespace Go.Proofs
open Go Go.Ev
set_option maxRecDepth 100000
variable {X : Rel3}
def headB (p : Piece) : Bool := lamOk p && rng p.regs p.in_ 400 && rng p.ins.length 1 600
theorem headB_iff {p : Piece} : headB p = true ↔ ((p.lam = -1 ∧ p.in_ = 0) ∨ (0 ≤ p.lam ∧ p.lam ≤ 149 ∧ 1 ≤ p.in_)) ∧ p.in_ ≤ p.regs ∧ p.regs ≤ 400 ∧ 1 ≤ p.ins.length ∧ p.ins.length ≤ 600 := by
  simp [headB, lamOk, rng]; omega
def lastB (l : List Ins) : Bool := match l.getLast? with
  | some i => i.op == 15 || i.op == 13
  | none => false
theorem lastB_eq {l : List Ins} (h : 0 < l.length) : lastB l = (l[l.length - 1].op == 15 || l[l.length - 1].op == 13) := by
  simp only [lastB, List.getLast?_eq_getElem?, List.getElem?_eq_getElem (show l.length - 1 < l.length by omega)]
def allI (regs n : Int) (l : List Ins) : Bool := l.all (insB regs n)
theorem allI_step {regs n : Int} {l : List Ins} {k : Nat} (h : k < l.length) : allI regs n (l.drop k) = (insB regs n l[k] && allI regs n (l.drop (k + 1))) := all_step h
def pieceB (p : Piece) : Bool := headB p && (allI p.regs p.ins.length p.ins && lastB p.ins)
def k_l9Piece : List (Nat × List Nat) := [(0, [1]), (1, [1, 3]), (2, [1, 3, 49]), (3, [2]), (4, [1, 3, 4]), (5, [1, 3, 4, 52]), (6, [1, 3, 4]), (7, [1, 3, 4, 62]), (8, [2]), (9, [2])]
theorem l9Piece_t (p : Piece) (hp : p.ok) : Tells Try.prog E0 X 52 [p.a false] (bA (pieceB p)) := by
  refine Tells.by Try.func52 (by simp [Try.f52]) (Body.i rfl rfl rfl (fun _ => rfl) fun f => ?_)
  repeat' (first
     | refine wp_seq_i ?_ | refine wp_region_t k_l9Piece rfl ?_ | refine Run.done rfl ?_ | refine then_n ?_ | refine then_r ?_ | refine then_e ?_ | refine Run.go1 rfl ?_ | refine wp_skip_i ?_ | refine wp_ret_i ?_
     | refine wp_exit_i ?_ | refine wp_block_i ?_ | refine block_n ?_ | refine block_r ?_ | refine block_e ?_ | refine block_o rfl ?_ | refine wp_cond_t rfl ?_ | refine wp_cond_f rfl ?_ | refine Run.gT rfl rfl rfl rfl ?_
     | refine Run.pT rfl rfl ?_ | (refine Run.splitG rfl rfl rfl rfl rfl rfl ?_ ?_ <;> intro _) | (refine Run.splitP rfl rfl rfl rfl ?_ ?_ <;> intro _) | refine Run.call rfl rfl rfl (l1In_t _ _ _) rfl rfl ?_
     | (refine wp_cond_k rfl rfl rfl ?_ ?_ <;> intro _) | (refine wp_cond_i rfl ?_ ?_ <;> intro _))
  any_goals (refine ret_m [] rfl rfl ?_; have : headB p = false := Bool.eq_false_iff.2 (fun h => by have := headB_iff.1 h; simp [rng] at *; omega); simp [pieceB, this])
  all_goals (
    have hh : headB p = true := by (refine headB_iff.2 ?_; simp [rng] at *; omega)
    have hh' := headB_iff.1 hh
    have hv : IntKind.i64.wrap (((p.ins.map (Ins.c false)).length : Int) - 1) = ((p.ins.length - 1 : Nat) : Int) := by rw [List.length_map, w_pred] <;> omega
    refine wp_loop_k (α := Nat) [.keep [1, 3, 4] [1]] (fun k => [(4, iA k)]) (fun _ => []) (fun _ => []) (fun k => k ≤ p.ins.length ∧ allI p.regs p.ins.length (p.ins.drop k) = allI p.regs p.ins.length p.ins) (fun k => p.ins.length - k) 0 rfl (fun _ => rfl) (by simp) ?_ ?_
    · simp
    rintro k ⟨hk, hI⟩
    by_cases hlt : k < p.ins.length
    · have hx : (p.ins.map (Ins.c false))[k]? = some (Ins.c false p.ins[k]) := by simp [hlt]
      rw [allI_step hlt] at hI
      repeat' (first
         | refine wp_seq_i ?_ | refine wp_region_t k_l9Piece rfl ?_ | refine Run.done rfl ?_ | refine then_n ?_ | refine then_r ?_ | refine then_e ?_ | refine Run.go1 rfl ?_ | refine wp_skip_i ?_ | refine wp_ret_i ?_
         | refine wp_exit_i ?_ | refine wp_block_i ?_ | refine block_n ?_ | refine block_r ?_ | refine block_e ?_ | refine block_o rfl ?_ | refine wp_cond_t rfl ?_ | refine wp_cond_f rfl ?_
         | refine wp_region_qt k_l9Piece rfl 8 rfl rfl rfl ?_ | refine RunQ.go1 rfl ?_ | refine RunQ.done rfl ?_ | refine RunQ.ix rfl rfl rfl rfl rfl rfl rfl hx rfl rfl rfl ?_
         | refine RunQ.call rfl rfl rfl rfl rfl rfl (l9Ins_t p p.ins[k] (by omega) (by omega) (hp.2 _ (List.getElem_mem hlt))) (.inl rfl) rfl rfl ?_ | (refine wp_cond_k rfl rfl rfl ?_ ?_ <;> intro _)
         | (refine wp_cond_i rfl ?_ ?_ <;> intro _))
      · rename_i h1 h2
        refine ret_m [] rfl rfl ?_
        have : allI p.regs p.ins.length p.ins = false := by rw [← hI]; simp at h2; simp [h2]
        simp [pieceB, this]
      · rename_i h1 h2
        refine back_i [.keep [1, 3, 4] [1]] (k + 1) rfl ?_ ⟨by omega, ?_⟩ (by omega)
        · simp only [w_succ hlt (by omega)]
        · rw [← hI]; simp at h2; simp [h2]
      · rename_i h; simp [hlt] at h
    · have hk : k = p.ins.length := by omega
      subst hk
      have hI : allI p.regs p.ins.length p.ins = true := by rw [← hI]; simp [allI]
      have hx : (p.ins.map (Ins.c false))[p.ins.length - 1]? = some (Ins.c false (p.ins[p.ins.length - 1]'(by omega))) := map_at (by omega)
      have hl := lastB_eq (l := p.ins) (by omega)
      repeat' (first
         | refine wp_seq_i ?_ | refine wp_region_t k_l9Piece rfl ?_ | refine Run.done rfl ?_ | refine then_n ?_ | refine then_r ?_ | refine then_e ?_ | refine Run.go1 rfl ?_ | refine wp_skip_i ?_ | refine wp_ret_i ?_
         | refine wp_exit_i ?_ | refine wp_block_i ?_ | refine block_n ?_ | refine block_r ?_ | refine block_e ?_ | refine block_o rfl ?_ | refine wp_cond_t rfl ?_ | refine wp_cond_f rfl ?_ | refine Run.gT rfl rfl rfl rfl ?_
         | refine Run.pT rfl rfl ?_ | (refine Run.splitG rfl rfl rfl rfl rfl rfl ?_ ?_ <;> intro _) | (refine Run.splitP rfl rfl rfl rfl ?_ ?_ <;> intro _) | refine Run.ix rfl rfl rfl rfl rfl rfl hv hx rfl rfl rfl ?_
         | (refine wp_cond_k rfl rfl rfl ?_ ?_ <;> intro _) | (refine wp_cond_i rfl ?_ ?_ <;> intro _))
      any_goals (refine ret_m [] rfl rfl ?_; simp_all [pieceB]; done)
      all_goals (rename_i h; simp at h))
end Go.Proofs

set_option linter.unusedVariables false
set_option linter.unusedSimpArgs false
set_option maxHeartbeats 4000000
namespace Go.Proofs
open Go Go.Ev
set_option maxRecDepth 100000
variable {X : Rel3}
/-- the first place where something is so -/
def idx {α : Type} (f : α → Bool) : List α → Nat → Int
  | [], _ => -1
  | x :: r, k => if f x then k else idx f r (k + 1)
theorem idx_step {α : Type} {f : α → Bool} {l : List α} {k j : Nat} (h : k < l.length) : idx f (l.drop k) j = if f l[k] then (j : Int) else idx f (l.drop (k + 1)) (j + 1) := by
  rw [List.drop_eq_getElem_cons h, idx]
theorem idx_any {α : Type} {f : α → Bool} {l : List α} {k : Nat} : decide (0 ≤ idx f l k) = l.any f := by
  induction l generalizing k with
  | nil => simp [idx]
  | cons x r ih => simp only [idx, List.any_cons]; split <;> simp_all
theorem idx_lt {α : Type} {f : α → Bool} {l : List α} {k : Nat} : idx f l k < k + l.length := by
  induction l generalizing k with
  | nil => simp [idx]; omega
  | cons x r ih => simp only [idx]; split <;> simp <;> have := ih (k := k + 1) <;> omega
def funAt (l : List Piece) (lam : Int) : Int := idx (fun p => p.lam == lam) l 0
def k_l9Fun : List (Nat × List Nat) := [(0, [1, 2]), (1, [1, 2, 5]), (2, [1, 2, 5, 10]), (3, [1, 2, 5]), (4, [1, 2, 5, 20]), (5, [4]), (6, [4])]
theorem l9Fun_t (c : Code) (lam : Int) (hc : c.funs.length ≤ 1048576) : Tells Try.prog E0 X 86 [c.a false, iA lam] (iA (funAt c.funs lam)) := by
  refine Tells.by Try.func86 (by simp [Try.f86]) (Body.i rfl rfl rfl (fun _ => rfl) fun f => ?_)
  repeat' (first
     | refine wp_seq_i ?_ | refine wp_region_t k_l9Fun rfl ?_ | refine Run.done rfl ?_ | refine then_n ?_ | refine then_r ?_ | refine then_e ?_ | refine Run.go1 rfl ?_ | refine wp_skip_i ?_ | refine wp_ret_i ?_
     | refine wp_exit_i ?_ | refine wp_block_i ?_ | refine block_n ?_ | refine block_r ?_ | refine block_e ?_ | refine block_o rfl ?_ | refine wp_cond_t rfl ?_ | refine wp_cond_f rfl ?_
     | (refine wp_cond_k rfl rfl rfl ?_ ?_ <;> intro _) | (refine wp_cond_i rfl ?_ ?_ <;> intro _))
  refine wp_loop_k (α := Nat) [.keep [1, 2, 5] [2]] (fun k => [(5, iA k)]) (fun _ => []) (fun _ => []) (fun k => k ≤ c.funs.length ∧ idx (fun p => p.lam == lam) (c.funs.drop k) k = funAt c.funs lam) (fun k => c.funs.length - k) 0 rfl (fun _ => rfl) rfl ⟨by simp, rfl⟩ ?_
  rintro k ⟨hk, hI⟩
  by_cases hlt : k < c.funs.length
  · have hx : (c.funs.map (Piece.c false))[k]? = some (Piece.c false c.funs[k]) := by simp [hlt]
    rw [idx_step hlt] at hI
    repeat' (first
       | refine wp_seq_i ?_ | refine wp_region_t k_l9Fun rfl ?_ | refine Run.done rfl ?_ | refine then_n ?_ | refine then_r ?_ | refine then_e ?_ | refine Run.go1 rfl ?_ | refine wp_skip_i ?_ | refine wp_ret_i ?_
       | refine wp_exit_i ?_ | refine wp_block_i ?_ | refine block_n ?_ | refine block_r ?_ | refine block_e ?_ | refine block_o rfl ?_ | refine wp_cond_t rfl ?_ | refine wp_cond_f rfl ?_
       | refine Run.ix rfl rfl rfl rfl rfl rfl rfl hx rfl rfl rfl ?_ | (refine wp_cond_k rfl rfl rfl ?_ ?_ <;> intro _) | (refine wp_cond_i rfl ?_ ?_ <;> intro _))
    · rename_i h1 h2
      refine ret_m [] rfl rfl ?_
      rw [← hI, if_pos h2]
    · rename_i h1 h2
      refine back_i [.keep [1, 2, 5] [2]] (k + 1) rfl ?_ ⟨by omega, ?_⟩ (by omega)
      · simp only [w_succ hlt (by omega)]
      · rw [← hI, if_neg (by simpa using h2)]
    · rename_i h; simp [hlt] at h
  · have hk : k = c.funs.length := by omega
    subst hk
    simp [idx] at hI
    repeat' (first
       | refine wp_seq_i ?_ | refine wp_region_t k_l9Fun rfl ?_ | refine Run.done rfl ?_ | refine then_n ?_ | refine then_r ?_ | refine then_e ?_ | refine Run.go1 rfl ?_ | refine wp_skip_i ?_ | refine wp_ret_i ?_
       | refine wp_exit_i ?_ | refine wp_block_i ?_ | refine block_n ?_ | refine block_r ?_ | refine block_e ?_ | refine block_o rfl ?_ | refine wp_cond_t rfl ?_ | refine wp_cond_f rfl ?_
       | (refine wp_cond_k rfl rfl rfl ?_ ?_ <;> intro _) | (refine wp_cond_i rfl ?_ ?_ <;> intro _))
    · rename_i h; simp at h
    · refine ret_m [] rfl rfl ?_; rw [hI]
end Go.Proofs

set_option linter.unusedVariables false
set_option linter.unusedSimpArgs false
set_option maxHeartbeats 4000000
namespace Go.Proofs
open Go Go.Ev
set_option maxRecDepth 100000
variable {X : Rel3}
def formL (op : Int) : List UInt8 :=
  if op == 1 || op == 2 then [68, 78] else
  if op == 3 then [68] else
  if op == 4 || op == 9 || op == 10 then [68, 88] else
  if op == 5 then [68, 88, 89, 78] else
  if op == 6 || op == 7 then [68, 88, 89] else
  if op == 8 then [68, 78, 76] else
  if op == 11 || op == 12 then [88, 84] else
  if op == 13 then [84] else
  if op == 14 then [68, 88, 89, 76] else
  if op == 15 || op == 16 then [88] else
  if op == 17 then [68, 84] else
  []
def form (op : Int) : ByteArray := ⟨⟨formL op⟩⟩
def k_insForm : List (Nat × List Nat) := [(0, [0]), (1, [0, 4]), (2, [0, 4, 5]), (3, [0, 4, 5]), (4, [2, 3]), (5, [0, 4, 8]), (6, [2, 3]), (7, [0, 4, 10]), (8, [0, 4, 10]), (9, [0, 4, 10]), (10, [2, 3]), (11, [0, 4, 14]), (12, [2, 3]), (13, [0, 4, 16]), (14, [0, 4, 16]), (15, [2, 3]), (16, [0, 4, 19]), (17, [2, 3]), (18, [0, 4, 21]), (19, [0, 4, 21]), (20, [2, 3]), (21, [0, 4, 24]), (22, [2, 3]), (23, [0, 4, 26]), (24, [2, 3]), (25, [0, 4, 28]), (26, [0, 4, 28]), (27, [2, 3]), (28, [0, 31]), (29, [2, 3]), (30, [2, 3])]
theorem insForm_t (op : Int) : Tells Try.prog E0 X 82 [iA op] (.tp [.t (.sc (.string (form op))), bA (rng op 1 18)]) := by
  refine Tells.by Try.func82 (by simp [Try.f82]) (Body.i rfl rfl rfl (fun _ => rfl) fun f => ?_)
  repeat' (first
     | refine wp_seq_i ?_ | refine wp_region_t k_insForm rfl ?_ | refine Run.done rfl ?_ | refine then_n ?_ | refine then_r ?_ | refine then_e ?_ | refine Run.go1 rfl ?_ | refine wp_skip_i ?_ | refine wp_ret_i ?_
     | refine wp_exit_i ?_ | refine wp_block_i ?_ | refine block_n ?_ | refine block_r ?_ | refine block_e ?_ | refine block_o rfl ?_ | refine wp_cond_t rfl ?_ | refine wp_cond_f rfl ?_
     | (refine wp_cond_k rfl rfl rfl ?_ ?_ <;> intro _) | (refine wp_cond_i rfl ?_ ?_ <;> intro _))
  all_goals (refine ret_m [] rfl rfl ?_)
  any_goals (simp_all [form, formL, rng]; done)
  have e1 : formL op = [] := by simp_all [formL]
  have e2 : rng op 1 18 = (op == 18) := by rw [Bool.eq_iff_iff]; simp [rng]; simp at *; omega
  rw [e2, form, e1]
abbrev uA (n : Int) : AV := .t (.sc (.int .u8 n))
def k_indexB : List (Nat × List Nat) := [(0, [0, 1]), (1, [0, 1, 7, 8]), (2, [0, 1, 7, 8, 9]), (3, [0, 1, 5, 7, 8]), (4, [0, 1, 5, 7, 8, 16]), (5, [4]), (6, [0, 1, 7, 8]), (7, [4])]
theorem indexB_t (l : List Int) (v : Int) (hl : l.length ≤ 1048576) : Tells Try.prog E0 X 99 [.t (.sl false (l.map uR)), uA v] (iA (idx (fun x => v == x) l 0)) := by
  refine Tells.by Try.func99 (by simp [Try.f99]) (Body.i rfl rfl rfl (fun _ => rfl) fun f => ?_)
  repeat' (first
     | refine wp_seq_i ?_ | refine wp_region_t k_indexB rfl ?_ | refine Run.done rfl ?_ | refine then_n ?_ | refine then_r ?_ | refine then_e ?_ | refine Run.go1 rfl ?_ | refine wp_skip_i ?_ | refine wp_ret_i ?_
     | refine wp_exit_i ?_ | refine wp_block_i ?_ | refine block_n ?_ | refine block_r ?_ | refine block_e ?_ | refine block_o rfl ?_ | refine wp_cond_t rfl ?_ | refine wp_cond_f rfl ?_
     | (refine wp_cond_k rfl rfl rfl ?_ ?_ <;> intro _) | (refine wp_cond_i rfl ?_ ?_ <;> intro _))
  refine wp_loop_k (α := Nat) [.keep [0, 1, 7, 8] []] (fun k => [(8, iA k)]) (fun _ => []) (fun _ => []) (fun k => k ≤ l.length ∧ idx (fun x => v == x) (l.drop k) k = idx (fun x => v == x) l 0) (fun k => l.length - k) 0 rfl (fun _ => rfl) rfl ⟨by simp, rfl⟩ ?_
  rintro k ⟨hk, hI⟩
  by_cases hlt : k < l.length
  · have hx : (l.map uR)[k]? = some (uR l[k]) := map_at hlt
    rw [idx_step hlt] at hI
    repeat' (first
       | refine wp_seq_i ?_ | refine wp_region_t k_indexB rfl ?_ | refine Run.done rfl ?_ | refine then_n ?_ | refine then_r ?_ | refine then_e ?_ | refine Run.go1 rfl ?_ | refine wp_skip_i ?_ | refine wp_ret_i ?_
       | refine wp_exit_i ?_ | refine wp_block_i ?_ | refine block_n ?_ | refine block_r ?_ | refine block_e ?_ | refine block_o rfl ?_ | refine wp_cond_t rfl ?_ | refine wp_cond_f rfl ?_
       | refine Run.ix rfl rfl rfl rfl rfl rfl rfl hx rfl rfl rfl ?_ | (refine wp_cond_k rfl rfl rfl ?_ ?_ <;> intro _) | (refine wp_cond_i rfl ?_ ?_ <;> intro _))
    · rename_i h1 h2
      refine ret_m [] rfl rfl ?_
      rw [← hI, if_pos h2]
    · rename_i h1 h2
      refine back_i [.keep [0, 1, 7, 8] []] (k + 1) rfl ?_ ⟨by omega, ?_⟩ (by omega)
      · simp only [w_succ hlt (by omega)]
      · rw [← hI, if_neg (by simpa using h2)]
    · rename_i h; simp [hlt] at h
  · have hk : k = l.length := by omega
    subst hk
    simp [idx] at hI
    repeat' (first
       | refine wp_seq_i ?_ | refine wp_region_t k_indexB rfl ?_ | refine Run.done rfl ?_ | refine then_n ?_ | refine then_r ?_ | refine then_e ?_ | refine Run.go1 rfl ?_ | refine wp_skip_i ?_ | refine wp_ret_i ?_
       | refine wp_exit_i ?_ | refine wp_block_i ?_ | refine block_n ?_ | refine block_r ?_ | refine block_e ?_ | refine block_o rfl ?_ | refine wp_cond_t rfl ?_ | refine wp_cond_f rfl ?_
       | (refine wp_cond_k rfl rfl rfl ?_ ?_ <;> intro _) | (refine wp_cond_i rfl ?_ ?_ <;> intro _))
    · rename_i h; simp at h
    · refine ret_m [] rfl rfl ?_; rw [hI]
def hasB (b : List UInt8) (v : Int) : Bool := b.any fun c => v == (c.toNat : Int)
theorem containsB_t (b : ByteArray) (v : Int) (hl : b.data.toList.length ≤ 1048576) : Tells Try.prog E0 X 83 [.t (.sl false (byteRows b)), uA v] (bA (hasB b.data.toList v)) := by
  have e : byteRows b = (b.data.toList.map fun c => (c.toNat : Int)).map uR := by simp [byteRows]
  have hc := indexB_t (X := X) (b.data.toList.map fun c => (c.toNat : Int)) v (by simpa using hl)
  have hi : decide (0 ≤ idx (fun x => v == x) (b.data.toList.map fun c => (c.toNat : Int)) 0) = hasB b.data.toList v := by rw [idx_any, List.any_map]; rfl
  rw [← e] at hc
  refine Tells.by Try.func83 (by simp [Try.f83]) (Body.i rfl rfl rfl (fun _ => rfl) fun f => ?_)
  repeat' (first
     | refine wp_seq_i ?_ | refine wp_region_i ?_ | refine Run.done rfl ?_ | refine then_n ?_ | refine then_r ?_ | refine then_e ?_ | refine Run.go1 rfl ?_ | refine wp_skip_i ?_ | refine wp_ret_i ?_ | refine wp_exit_i ?_
     | refine wp_block_i ?_ | refine block_n ?_ | refine block_r ?_ | refine block_e ?_ | refine block_o rfl ?_ | refine wp_cond_t rfl ?_ | refine wp_cond_f rfl ?_ | refine Run.call rfl rfl rfl (hc) rfl rfl ?_
     | (refine wp_cond_k rfl rfl rfl ?_ ?_ <;> intro _) | (refine wp_cond_i rfl ?_ ?_ <;> intro _))
  all_goals (refine ret_m [] rfl rfl ?_; rw [← hi])
theorem form_len (op : Int) : (formL op).length ≤ 1048576 := by
  unfold formL
  repeat' split
  all_goals simp only [List.length_cons, List.length_nil] <;> omega
theorem hasPart_t (op v : Int) : Tells Try.prog E0 X 61 [iA op, uA v] (bA (hasB (formL op) v)) := by
  refine Tells.by Try.func61 (by simp [Try.f61]) (Body.i rfl rfl rfl (fun _ => rfl) fun f => ?_)
  repeat' (first
     | refine wp_seq_i ?_ | refine wp_region_i ?_ | refine Run.done rfl ?_ | refine then_n ?_ | refine then_r ?_ | refine then_e ?_ | refine Run.go1 rfl ?_ | refine wp_skip_i ?_ | refine wp_ret_i ?_ | refine wp_exit_i ?_
     | refine wp_block_i ?_ | refine block_n ?_ | refine block_r ?_ | refine block_e ?_ | refine block_o rfl ?_ | refine wp_cond_t rfl ?_ | refine wp_cond_f rfl ?_ | refine Run.call rfl rfl rfl (insForm_t _) rfl rfl ?_
     | refine Run.call rfl rfl rfl (containsB_t (form op) v (form_len op)) rfl rfl ?_ | refine Run.cnd3 rfl rfl rfl trivial ?_ | (refine wp_cond_k rfl rfl rfl ?_ ?_ <;> intro _) | (refine wp_cond_i rfl ?_ ?_ <;> intro _))
  all_goals (refine ret_m [] rfl rfl ?_; rfl)
theorem partD (op : Int) : hasB (formL op) 68 = uD op := by
  unfold formL
  repeat' split
  all_goals (simp_all [hasB, uD] <;> omega)
theorem hasD_t (op : Int) : Tells Try.prog E0 X 61 [iA op, uA 68] (bA (uD op)) := by have := hasPart_t (X := X) op 68; rwa [partD] at this
theorem partX (op : Int) : hasB (formL op) 88 = uX op := by
  unfold formL
  repeat' split
  all_goals (simp_all [hasB, uX] <;> omega)
theorem hasX_t (op : Int) : Tells Try.prog E0 X 61 [iA op, uA 88] (bA (uX op)) := by have := hasPart_t (X := X) op 88; rwa [partX] at this
theorem partY (op : Int) : hasB (formL op) 89 = uY op := by
  unfold formL
  repeat' split
  all_goals (simp_all [hasB, uY] <;> omega)
theorem hasY_t (op : Int) : Tells Try.prog E0 X 61 [iA op, uA 89] (bA (uY op)) := by have := hasPart_t (X := X) op 89; rwa [partY] at this
theorem partT (op : Int) : hasB (formL op) 84 = uT op := by
  unfold formL
  repeat' split
  all_goals (simp_all [hasB, uT] <;> omega)
theorem hasT_t (op : Int) : Tells Try.prog E0 X 61 [iA op, uA 84] (bA (uT op)) := by have := hasPart_t (X := X) op 84; rwa [partT] at this
theorem fieldOk_t (v : Int) (had : Bool) (n : Int) : Tells Try.prog E0 X 96 [iA v, bA had, iA n] (bA (regB had v n)) := by
  refine Tells.by Try.func96 (by simp [Try.f96]) (Body.i rfl rfl rfl (fun _ => rfl) fun f => ?_)
  repeat' (first
     | refine wp_seq_i ?_ | refine wp_region_i ?_ | refine Run.done rfl ?_ | refine then_n ?_ | refine then_r ?_ | refine then_e ?_ | refine Run.go1 rfl ?_ | refine wp_skip_i ?_ | refine wp_ret_i ?_ | refine wp_exit_i ?_
     | refine wp_block_i ?_ | refine block_n ?_ | refine block_r ?_ | refine block_e ?_ | refine block_o rfl ?_ | refine wp_cond_t rfl ?_ | refine wp_cond_f rfl ?_ | refine Run.gT rfl rfl rfl rfl ?_ | refine Run.pT rfl rfl ?_
     | (refine Run.splitG rfl rfl rfl rfl rfl rfl ?_ ?_ <;> intro _) | (refine Run.splitP rfl rfl rfl rfl ?_ ?_ <;> intro _) | (refine wp_cond_k rfl rfl rfl ?_ ?_ <;> intro _) | (refine wp_cond_i rfl ?_ ?_ <;> intro _))
  all_goals (refine ret_m [] rfl rfl ?_)
  all_goals (simp_all [regB, rng] <;> omega)
def numO (i : Ins) : Bool :=
  if i.op = 1 then rng i.n (-1000000) 1000000
  else if i.op = 2 then rng i.n 0 1
  else if i.op = 5 then rng i.n 1 5
  else if i.op = 8 then rng i.n 0 149 && decide ((i.l.length : Int) < 100)
  else i.n == 0
def k_numOk : List (Nat × List Nat) := [(0, [1]), (1, [1, 4]), (2, [1, 4, 5]), (3, [2]), (4, [1, 4, 10]), (5, [2]), (6, [1, 4, 15]), (7, [2]), (8, [1, 20]), (9, [2]), (10, [2])]
theorem numOk_t (i : Ins) : Tells Try.prog E0 X 95 [i.a false] (bA (numO i)) := by
  refine Tells.by Try.func95 (by simp [Try.f95]) (Body.i rfl rfl rfl (fun _ => rfl) fun f => ?_)
  repeat' (first
     | refine wp_seq_i ?_ | refine wp_region_t k_numOk rfl ?_ | refine Run.done rfl ?_ | refine then_n ?_ | refine then_r ?_ | refine then_e ?_ | refine Run.go1 rfl ?_ | refine wp_skip_i ?_ | refine wp_ret_i ?_
     | refine wp_exit_i ?_ | refine wp_block_i ?_ | refine block_n ?_ | refine block_r ?_ | refine block_e ?_ | refine block_o rfl ?_ | refine wp_cond_t rfl ?_ | refine wp_cond_f rfl ?_ | refine Run.gT rfl rfl rfl rfl ?_
     | refine Run.pT rfl rfl ?_ | (refine Run.splitG rfl rfl rfl rfl rfl rfl ?_ ?_ <;> intro _) | (refine Run.splitP rfl rfl rfl rfl ?_ ?_ <;> intro _) | refine Run.call rfl rfl rfl (in_t _ _ _) rfl rfl ?_
     | (refine wp_cond_k rfl rfl rfl ?_ ?_ <;> intro _) | (refine wp_cond_i rfl ?_ ?_ <;> intro _))
  all_goals (refine ret_m [] rfl rfl ?_; simp_all [numO])
end Go.Proofs

set_option linter.unusedVariables false
set_option linter.unusedSimpArgs false
set_option maxHeartbeats 4000000
namespace Go.Proofs
open Go Go.Ev
set_option maxRecDepth 100000
variable {X : Rel3}
def inOf (l : List Piece) (k : Int) : Int := match l[k.toNat]? with
  | some p => p.in_
  | none => 0
def allF (funs : List Piece) (l : List Int) : Bool := l.all fun lam => !decide (funAt funs lam < 0)
theorem allF_step {funs : List Piece} {l : List Int} {k : Nat} (h : k < l.length) : allF funs (l.drop k) = (!decide (funAt funs l[k] < 0) && allF funs (l.drop (k + 1))) := all_step h
def lamI (funs : List Piece) (i : Ins) : Bool :=
  if i.op = 8 then !decide (funAt funs i.n < 0) && ((i.l.length : Int) == IntKind.i64.wrap (inOf funs (funAt funs i.n) - 1))
  else if i.op = 14 then allF funs i.l else true
def lamsB (funs : List Piece) (l : List Ins) : Bool := l.all (lamI funs)
theorem lamsB_step {funs : List Piece} {l : List Ins} {k : Nat} (h : k < l.length) : lamsB funs (l.drop k) = (lamI funs l[k] && lamsB funs (l.drop (k + 1))) := all_step h
theorem funAt_row {l : List Piece} {n : Int} (h : ¬ funAt l n < 0) : funAt l n = ((funAt l n).toNat : Int) ∧ (l.map (Piece.c false))[(funAt l n).toNat]? = some (Piece.c false ⟨(l[(funAt l n).toNat]?.getD ⟨0, 0, 0, []⟩).lam, inOf l (funAt l n), (l[(funAt l n).toNat]?.getD ⟨0, 0, 0, []⟩).regs, (l[(funAt l n).toNat]?.getD ⟨0, 0, 0, []⟩).ins⟩) := by
  have h1 : funAt l n < l.length := by have := idx_lt (f := fun p : Piece => p.lam == n) (l := l) (k := 0); unfold funAt; omega
  have h2 : (funAt l n).toNat < l.length := by omega
  refine ⟨by omega, ?_⟩
  rw [List.getElem?_map, inOf, List.getElem?_eq_getElem h2]
  rfl
def k_l9Lams : List (Nat × List Nat) := [(0, [2, 3]), (1, [2, 3, 5]), (2, [2, 3, 5, 13]), (3, [2, 3, 5]), (4, [2, 3, 5, 6]), (5, [2, 3, 5, 6, 23]), (6, [2, 3, 5, 6, 7]), (7, [2, 3, 5, 6, 42]), (8, [4]), (9, [2, 3, 5, 6, 8]), (10, [2, 3, 5, 6, 8, 52]), (11, [2, 3, 5, 6, 8]), (12, [2, 3, 5, 6, 8, 62]), (13, [4]), (14, [4])]
theorem l9Lams_t (c : Code) (p : Piece) (hc : c.funs.length ≤ 1048576) (hp : p.ok) : Tells Try.prog E0 X 64 [c.a false, p.a false] (bA (lamsB c.funs p.ins)) := by
  refine Tells.by Try.func64 (by simp [Try.f64]) (Body.i rfl rfl rfl (fun _ => rfl) fun f => ?_)
  repeat' (first
     | refine wp_seq_i ?_ | refine wp_region_t k_l9Lams rfl ?_ | refine Run.done rfl ?_ | refine then_n ?_ | refine then_r ?_ | refine then_e ?_ | refine Run.go1 rfl ?_ | refine wp_skip_i ?_ | refine wp_ret_i ?_
     | refine wp_exit_i ?_ | refine wp_block_i ?_ | refine block_n ?_ | refine block_r ?_ | refine block_e ?_ | refine block_o rfl ?_ | refine wp_cond_t rfl ?_ | refine wp_cond_f rfl ?_
     | (refine wp_cond_k rfl rfl rfl ?_ ?_ <;> intro _) | (refine wp_cond_i rfl ?_ ?_ <;> intro _))
  refine wp_loop_k (α := Nat) [.keep [2, 3, 5] [2, 3]] (fun k => [(5, iA k)]) (fun _ => []) (fun _ => []) (fun k => k ≤ p.ins.length ∧ lamsB c.funs (p.ins.drop k) = lamsB c.funs p.ins) (fun k => p.ins.length - k) 0 rfl (fun _ => rfl) rfl ⟨by simp, by simp⟩ ?_
  have hpl := hp.1
  rintro k ⟨hk, hI⟩
  by_cases hlt : k < p.ins.length
  · have hx : (p.ins.map (Ins.c false))[k]? = some (Ins.c false p.ins[k]) := map_at hlt
    have hil := hp.2 _ (List.getElem_mem hlt)
    rw [lamsB_step hlt] at hI
    generalize hi : p.ins[k] = i at hx hil hI
    repeat' (first
       | refine wp_seq_i ?_ | refine wp_region_t k_l9Lams rfl ?_ | refine Run.done rfl ?_ | refine then_n ?_ | refine then_r ?_ | refine then_e ?_ | refine Run.go1 rfl ?_ | refine wp_skip_i ?_ | refine wp_ret_i ?_
       | refine wp_exit_i ?_ | refine wp_block_i ?_ | refine block_n ?_ | refine block_r ?_ | refine block_e ?_ | refine block_o rfl ?_ | refine wp_cond_t rfl ?_ | refine wp_cond_f rfl ?_
       | refine wp_region_qt k_l9Lams rfl 15 (by decide +kernel) rfl rfl ?_ | refine RunQ.go1 rfl ?_ | refine RunQ.done rfl ?_ | refine Run.gT rfl rfl rfl rfl ?_ | refine Run.pT rfl rfl ?_
       | (refine Run.splitG rfl rfl rfl rfl rfl rfl ?_ ?_ <;> intro _) | (refine Run.splitP rfl rfl rfl rfl ?_ ?_ <;> intro _) | refine RunQ.gT rfl rfl rfl rfl ?_ | refine RunQ.pT rfl rfl ?_
       | (refine RunQ.splitG rfl rfl rfl rfl rfl rfl ?_ ?_ <;> intro _) | (refine RunQ.splitP rfl rfl rfl rfl ?_ ?_ <;> intro _) | refine Run.ix rfl rfl rfl rfl rfl rfl rfl hx rfl rfl rfl ?_
       | refine Run.call rfl rfl rfl (l9Fun_t c _ hc) rfl rfl ?_
       | refine RunQ.ix rfl rfl rfl rfl rfl rfl (funAt_row (by simpa using ‹decide (funAt c.funs i.n < 0) = false›)).1 (funAt_row (by simpa using ‹decide (funAt c.funs i.n < 0) = false›)).2 rfl rfl rfl ?_
       | (refine wp_cond_k rfl rfl rfl ?_ ?_ <;> intro _) | (refine wp_cond_i rfl ?_ ?_ <;> intro _))
    any_goals (
      refine ret_m [] rfl rfl ?_
      have hl : lamI c.funs i = false := by simp_all [lamI]
      rw [← hI, hl]; rfl)
    any_goals (rename_i h; simp [hlt] at h; done)
    all_goals (
      refine wp_loop_k (α := Nat) [.keep [2, 3, 5, 6, 8] [2, 3, 6]] (fun k => [(8, iA k)]) (fun _ => []) (fun _ => []) (fun k => k ≤ i.l.length ∧ (allF c.funs (i.l.drop k) = allF c.funs i.l)) (fun k => i.l.length - k) 0 rfl (fun _ => rfl) rfl ⟨by simp, by simp⟩ ?_
      rintro k2 ⟨hk2, hI2⟩
      by_cases hlt2 : k2 < i.l.length
      · have hx2 : (i.l.map iR)[k2]? = some (iR i.l[k2]) := map_at hlt2
        rw [allF_step hlt2] at hI2
        repeat' (first
           | refine wp_seq_i ?_ | refine wp_region_t k_l9Lams rfl ?_ | refine Run.done rfl ?_ | refine then_n ?_ | refine then_r ?_ | refine then_e ?_ | refine Run.go1 rfl ?_ | refine wp_skip_i ?_ | refine wp_ret_i ?_
           | refine wp_exit_i ?_ | refine wp_block_i ?_ | refine block_n ?_ | refine block_r ?_ | refine block_e ?_ | refine block_o rfl ?_ | refine wp_cond_t rfl ?_ | refine wp_cond_f rfl ?_
           | refine wp_region_qt k_l9Lams rfl 8 (by decide +kernel) rfl rfl ?_ | refine RunQ.go1 rfl ?_ | refine RunQ.done rfl ?_ | refine Run.gT rfl rfl rfl rfl ?_ | refine Run.pT rfl rfl ?_
           | (refine Run.splitG rfl rfl rfl rfl rfl rfl ?_ ?_ <;> intro _) | (refine Run.splitP rfl rfl rfl rfl ?_ ?_ <;> intro _) | refine RunQ.gT rfl rfl rfl rfl ?_ | refine RunQ.pT rfl rfl ?_
           | (refine RunQ.splitG rfl rfl rfl rfl rfl rfl ?_ ?_ <;> intro _) | (refine RunQ.splitP rfl rfl rfl rfl ?_ ?_ <;> intro _) | refine RunQ.ix rfl rfl rfl rfl rfl rfl rfl hx2 rfl rfl rfl ?_
           | refine RunQ.call rfl rfl rfl rfl rfl rfl (l9Fun_t c _ hc) (.inl rfl) rfl rfl ?_ | (refine wp_cond_k rfl rfl rfl ?_ ?_ <;> intro _) | (refine wp_cond_i rfl ?_ ?_ <;> intro _))
        all_goals first
        | (rename_i h; simp [hlt2] at h; done)
        | (exfalso; simp_all; done)
        | (refine ret_m [] rfl rfl ?_
           have hf : allF c.funs i.l = false := by rw [← hI2]; simp_all
           have hl : lamI c.funs i = false := by simp_all [lamI]
           rw [← hI, hl]; rfl)
        | (refine back_i [.keep [2, 3, 5, 6, 8] [2, 3, 6]] (k2 + 1) rfl ?_ ⟨by omega, ?_⟩ (by omega)
           · simp only [w_succ hlt2 (by omega)]
           · rw [← hI2]; simp_all)
        | (refine back_i [.keep [2, 3, 5] [2, 3]] (k + 1) rfl ?_ ⟨by omega, ?_⟩ (by omega)
           · simp only [w_succ hlt (by omega)]
           · have hl : lamI c.funs i = true := by simp_all [lamI]
             rw [← hI, hl, Bool.true_and])
      · have hk2 : k2 = i.l.length := by omega
        subst hk2
        repeat' (first
           | refine wp_seq_i ?_ | refine wp_region_t k_l9Lams rfl ?_ | refine Run.done rfl ?_ | refine then_n ?_ | refine then_r ?_ | refine then_e ?_ | refine Run.go1 rfl ?_ | refine wp_skip_i ?_ | refine wp_ret_i ?_
           | refine wp_exit_i ?_ | refine wp_block_i ?_ | refine block_n ?_ | refine block_r ?_ | refine block_e ?_ | refine block_o rfl ?_ | refine wp_cond_t rfl ?_ | refine wp_cond_f rfl ?_ | refine Run.gT rfl rfl rfl rfl ?_
           | refine Run.pT rfl rfl ?_ | (refine Run.splitG rfl rfl rfl rfl rfl rfl ?_ ?_ <;> intro _) | (refine Run.splitP rfl rfl rfl rfl ?_ ?_ <;> intro _) | (refine wp_cond_k rfl rfl rfl ?_ ?_ <;> intro _)
           | (refine wp_cond_i rfl ?_ ?_ <;> intro _))
        all_goals first
        | (rename_i h; simp at h; done)
        | (exfalso; simp_all; done)
        | (refine back_i [.keep [2, 3, 5] [2, 3]] (k + 1) rfl ?_ ⟨by omega, ?_⟩ (by omega)
           · simp only [w_succ hlt (by omega)]
           · have hf : allF c.funs i.l = true := by rw [← hI2]; simp [allF]
             have hl : lamI c.funs i = true := by simp_all [lamI]
             rw [← hI, hl, Bool.true_and]))
  · have hk : k = p.ins.length := by omega
    subst hk
    simp [lamsB] at hI
    repeat' (first
       | refine wp_seq_i ?_ | refine wp_region_t k_l9Lams rfl ?_ | refine Run.done rfl ?_ | refine then_n ?_ | refine then_r ?_ | refine then_e ?_ | refine Run.go1 rfl ?_ | refine wp_skip_i ?_ | refine wp_ret_i ?_
       | refine wp_exit_i ?_ | refine wp_block_i ?_ | refine block_n ?_ | refine block_r ?_ | refine block_e ?_ | refine block_o rfl ?_ | refine wp_cond_t rfl ?_ | refine wp_cond_f rfl ?_
       | (refine wp_cond_k rfl rfl rfl ?_ ?_ <;> intro _) | (refine wp_cond_i rfl ?_ ?_ <;> intro _))
    · rename_i h; simp at h
    · refine ret_m [] rfl rfl ?_; simp [lamsB]; exact hI
def fB (funs : List Piece) (p : Piece) : Bool := !decide (p.lam < 0) && (pieceB p && lamsB funs p.ins)
def allP (funs : List Piece) (l : List Piece) : Bool := l.all (fB funs)
theorem allP_step {funs l : List Piece} {k : Nat} (h : k < l.length) : allP funs (l.drop k) = (fB funs l[k] && allP funs (l.drop (k + 1))) := all_step h
abbrev lamsL (l : List Piece) : List Int := l.map fun p => p.lam
def codeB (c : Code) : Bool := (decide ((c.funs.length : Int) ≤ 200) && c.main.lam == -1) && ((pieceB c.main && lamsB c.funs c.main.ins) && (asc (lamsL c.funs) && allP c.funs c.funs))
theorem lams_step {l : List Piece} {k : Nat} (h : k + 1 < l.length) : asc ((lamsL l).drop k) = (decide (l[k].lam < l[k + 1].lam) && asc ((lamsL l).drop (k + 1))) := by
  rw [asc_step (by simpa using h)]; simp
def k_CodeOkS : List (Nat × List Nat) := [(0, [1]), (1, [1, 27]), (2, [2]), (3, [1, 3]), (4, [1, 3, 32]), (5, [1, 3]), (6, [1, 3, 4]), (7, [1, 3, 69]), (8, [2]), (9, [2])]
theorem CodeOkS_t (c : Code) (hc : c.ok) : Tells Try.prog E0 X 32 [c.a false] (bA (codeB c)) := by
  refine Tells.by Try.func32 (by simp [Try.f32]) (Body.i rfl rfl rfl (fun _ => rfl) fun f => ?_)
  repeat' (first
     | refine wp_seq_i ?_ | refine wp_region_t k_CodeOkS rfl ?_ | refine Run.done rfl ?_ | refine then_n ?_ | refine then_r ?_ | refine then_e ?_ | refine Run.go1 rfl ?_ | refine wp_skip_i ?_ | refine wp_ret_i ?_
     | refine wp_exit_i ?_ | refine wp_block_i ?_ | refine block_n ?_ | refine block_r ?_ | refine block_e ?_ | refine block_o rfl ?_ | refine wp_cond_t rfl ?_ | refine wp_cond_f rfl ?_ | refine Run.gT rfl rfl rfl rfl ?_
     | refine Run.pT rfl rfl ?_ | (refine Run.splitG rfl rfl rfl rfl rfl rfl ?_ ?_ <;> intro _) | (refine Run.splitP rfl rfl rfl rfl ?_ ?_ <;> intro _) | refine Run.call rfl rfl rfl (l9Piece_t c.main hc.2.2) rfl rfl ?_
     | refine Run.call rfl rfl rfl (l9Lams_t c c.main hc.1 hc.2.2) rfl rfl ?_ | (refine wp_cond_k rfl rfl rfl ?_ ?_ <;> intro _) | (refine wp_cond_i rfl ?_ ?_ <;> intro _))
  any_goals (refine ret_m [] rfl rfl ?_; simp_all [codeB]; done)
  any_goals (refine ret_m [] rfl rfl ?_; simp_all [codeB]; omega)
  have hcl := hc.1
  refine wp_loop_k (α := Nat) [.keep [1, 3] [1]] (fun k => [(3, iA k)]) (fun _ => []) (fun _ => []) (fun k => k ≤ c.funs.length ∧ asc ((lamsL c.funs).drop (k - 1)) = asc (lamsL c.funs) ∧ allP c.funs (c.funs.drop k) = allP c.funs c.funs) (fun k => c.funs.length - k) 0 rfl (fun _ => rfl) rfl ⟨by simp, by simp, by simp⟩ ?_
  rintro k ⟨hk, hA, hI⟩
  by_cases hlt : k < c.funs.length
  · have hx : (c.funs.map (Piece.c false))[k]? = some (Piece.c false c.funs[k]) := map_at hlt
    have hy : (c.funs.map (Piece.c false))[k - 1]? = some (Piece.c false (c.funs[k - 1]'(by omega))) := map_at (by omega)
    have hpo := hc.2.1 _ (List.getElem_mem hlt)
    rw [allP_step hlt] at hI
    have hkk : decide ((k : Int) > 0) = true → IntKind.i64.wrap ((k : Int) - 1) = ((k - 1 : Nat) : Int) := by intro h; simp at h; rw [w_pred] <;> omega
    have hA1 : 0 < k → asc (lamsL c.funs) = (decide ((c.funs[k - 1]'(by omega)).lam < c.funs[k].lam) && asc ((lamsL c.funs).drop k)) := by
      intro h
      obtain ⟨j, rfl⟩ : ∃ j, k = j + 1 := ⟨k - 1, by omega⟩
      rw [← hA]; exact lams_step hlt
    have hA0 : k = 0 → asc ((lamsL c.funs).drop k) = asc (lamsL c.funs) := by rintro rfl; simp
    repeat' (first
       | refine wp_seq_i ?_ | refine wp_region_t k_CodeOkS rfl ?_ | refine Run.done rfl ?_ | refine then_n ?_ | refine then_r ?_ | refine then_e ?_ | refine Run.go1 rfl ?_ | refine wp_skip_i ?_ | refine wp_ret_i ?_
       | refine wp_exit_i ?_ | refine wp_block_i ?_ | refine block_n ?_ | refine block_r ?_ | refine block_e ?_ | refine block_o rfl ?_ | refine wp_cond_t rfl ?_ | refine wp_cond_f rfl ?_
       | refine wp_region_qt k_CodeOkS rfl 30 (by decide +kernel) rfl rfl ?_ | refine wp_region_qt k_CodeOkS rfl 29 (by decide +kernel) rfl rfl ?_ | refine wp_region_qt k_CodeOkS rfl 28 (by decide +kernel) rfl rfl ?_
       | refine wp_region_qt k_CodeOkS rfl 27 (by decide +kernel) rfl rfl ?_ | refine wp_region_qt k_CodeOkS rfl 26 (by decide +kernel) rfl rfl ?_ | refine wp_region_qt k_CodeOkS rfl 25 (by decide +kernel) rfl rfl ?_
       | refine wp_region_qt k_CodeOkS rfl 24 (by decide +kernel) rfl rfl ?_ | refine RunQ.go1 rfl ?_ | refine RunQ.done rfl ?_ | refine Run.gT rfl rfl rfl rfl ?_ | refine Run.pT rfl rfl ?_
       | (refine Run.splitG rfl rfl rfl rfl rfl rfl ?_ ?_ <;> intro _) | (refine Run.splitP rfl rfl rfl rfl ?_ ?_ <;> intro _) | refine RunQ.gT rfl rfl rfl rfl ?_ | refine RunQ.pT rfl rfl ?_
       | (refine RunQ.splitG rfl rfl rfl rfl rfl rfl ?_ ?_ <;> intro _) | (refine RunQ.splitP rfl rfl rfl rfl ?_ ?_ <;> intro _) | refine Run.ix rfl rfl rfl rfl rfl rfl rfl hx rfl rfl rfl ?_
       | refine RunQ.ix rfl rfl rfl rfl rfl rfl rfl hx rfl rfl rfl ?_ | refine RunQ.ix rfl rfl rfl rfl rfl rfl (hkk (by assumption)) hy rfl rfl rfl ?_ | refine Run.call rfl rfl rfl (l9Piece_t _ hpo) rfl rfl ?_
       | refine Run.call rfl rfl rfl (l9Lams_t c _ hcl hpo) rfl rfl ?_ | refine RunQ.call rfl rfl rfl rfl rfl rfl (l9Piece_t _ hpo) (.inl rfl) rfl rfl ?_
       | refine RunQ.call rfl rfl rfl rfl rfl rfl (l9Lams_t c _ hcl hpo) (.inl rfl) rfl rfl ?_ | (refine wp_cond_k rfl rfl rfl ?_ ?_ <;> intro _) | (refine wp_cond_i rfl ?_ ?_ <;> intro _))
    all_goals first
    | (rename_i h; simp [hlt] at h; done)
    | (exfalso; clear hA0 hA1 hA hI; simp_all; done)
    | (refine ret_m [] rfl rfl ?_
       have hl : (0 < k ∧ ¬ (c.funs[k - 1]'(by omega)).lam < c.funs[k].lam) ∨ fB c.funs c.funs[k] = false := by
         clear hA0 hA1 hA hI
         rcases Nat.eq_zero_or_pos k with h0 | h0
         · right; simp_all [fB]
         · simp_all [fB]
       rcases hl with ⟨h0, hl⟩ | hl
       · have := hA1 h0; simp [hl] at this; simp [codeB, this]
       · rw [hl] at hI; simp [codeB, ← hI])
    | (refine back_i [.keep [1, 3] [1]] (k + 1) rfl ?_ ⟨by omega, ?_, ?_⟩ (by omega)
       · simp only [w_succ hlt (by omega)]
       · rcases Nat.eq_zero_or_pos k with h0 | h0
         · exact hA0 h0
         · have hq := hA1 h0
           have hl : (c.funs[k - 1]'(by omega)).lam < c.funs[k].lam := by clear hA0 hA1 hA hI hq; simp_all
           rw [hq]; simp [hl]
       · have hl : fB c.funs c.funs[k] = true := by clear hA0 hA1 hA hI; simp_all [fB]
         rw [← hI, hl, Bool.true_and])
  · have hk : k = c.funs.length := by omega
    subst hk
    have hA : asc (lamsL c.funs) = true := by rw [← hA]; exact asc_end (by simp; omega)
    simp [allP] at hI
    repeat' (first
       | refine wp_seq_i ?_ | refine wp_region_t k_CodeOkS rfl ?_ | refine Run.done rfl ?_ | refine then_n ?_ | refine then_r ?_ | refine then_e ?_ | refine Run.go1 rfl ?_ | refine wp_skip_i ?_ | refine wp_ret_i ?_
       | refine wp_exit_i ?_ | refine wp_block_i ?_ | refine block_n ?_ | refine block_r ?_ | refine block_e ?_ | refine block_o rfl ?_ | refine wp_cond_t rfl ?_ | refine wp_cond_f rfl ?_
       | (refine wp_cond_k rfl rfl rfl ?_ ?_ <;> intro _) | (refine wp_cond_i rfl ?_ ?_ <;> intro _))
    · rename_i h; simp at h
    · refine ret_m [] rfl rfl ?_; simp_all [codeB, allP]
end Go.Proofs

set_option linter.unusedVariables false
set_option linter.unusedSimpArgs false
set_option maxHeartbeats 4000000
namespace Go.Proofs
open Go Go.Ev
set_option maxRecDepth 100000
variable {X : Rel3}
def k_indexFI : List (Nat × List Nat) := [(0, [0, 1]), (1, [0, 1, 7, 8]), (2, [0, 1, 7, 8, 9]), (3, [0, 1, 5, 7, 8]), (4, [0, 1, 5, 7, 8, 16]), (5, [4]), (6, [0, 1, 7, 8]), (7, [4])]
theorem indexFI_t (l : List Int) (g : FuncId) (hg : modeOf E0.md g = []) (cs : List T) (p : Int → Bool) (hp : ∀ x ∈ l, Tells Try.prog E0 X g [iA x, .t (.pt cs)] (bA (p x))) (hl : l.length ≤ 1048576) : Tells Try.prog E0 X 104 [.t (.sl false (l.map (iR))), .t (.fn g [.pt cs])] (iA (idx p l 0)) := by
  refine Tells.by Try.func104 (by simp [Try.f104]) (Body.i rfl rfl rfl (fun _ => rfl) fun f => ?_)
  repeat' (first
     | refine wp_seq_i ?_ | refine wp_region_t k_indexFI rfl ?_ | refine Run.done rfl ?_ | refine then_n ?_ | refine then_r ?_ | refine then_e ?_ | refine Run.go1 rfl ?_ | refine wp_skip_i ?_ | refine wp_ret_i ?_
     | refine wp_exit_i ?_ | refine wp_block_i ?_ | refine block_n ?_ | refine block_r ?_ | refine block_e ?_ | refine block_o rfl ?_ | refine wp_cond_t rfl ?_ | refine wp_cond_f rfl ?_
     | (refine wp_cond_k rfl rfl rfl ?_ ?_ <;> intro _) | (refine wp_cond_i rfl ?_ ?_ <;> intro _))
  refine wp_loop_k (α := Nat) [.keep [0, 1, 7, 8] []] (fun k => [(8, iA k)]) (fun _ => []) (fun _ => []) (fun k => k ≤ l.length ∧ idx p (l.drop k) k = idx p l 0) (fun k => l.length - k) 0 rfl (fun _ => rfl) rfl ⟨by simp, rfl⟩ ?_
  rintro k ⟨hk, hI⟩
  by_cases hlt : k < l.length
  · have hx : (l.map (iR))[k]? = some ((iR) l[k]) := map_at hlt
    rw [idx_step hlt] at hI
    repeat' (first
       | refine wp_seq_i ?_ | refine wp_region_t k_indexFI rfl ?_ | refine Run.done rfl ?_ | refine then_n ?_ | refine then_r ?_ | refine then_e ?_ | refine Run.go1 rfl ?_ | refine wp_skip_i ?_ | refine wp_ret_i ?_
       | refine wp_exit_i ?_ | refine wp_block_i ?_ | refine block_n ?_ | refine block_r ?_ | refine block_e ?_ | refine block_o rfl ?_ | refine wp_cond_t rfl ?_ | refine wp_cond_f rfl ?_
       | refine Run.ix rfl rfl rfl rfl rfl rfl rfl hx rfl rfl rfl ?_ | refine Run.callF rfl rfl rfl hg rfl (hp _ (List.getElem_mem hlt)) rfl rfl ?_ | (refine wp_cond_k rfl rfl rfl ?_ ?_ <;> intro _)
       | (refine wp_cond_i rfl ?_ ?_ <;> intro _))
    · rename_i h1 h2
      refine ret_m [] rfl rfl ?_
      rw [← hI, if_pos h2]
    · rename_i h1 h2
      refine back_i [.keep [0, 1, 7, 8] []] (k + 1) rfl ?_ ⟨by omega, ?_⟩ (by omega)
      · simp only [w_succ hlt (by omega)]
      · rw [← hI, if_neg (by simpa using h2)]
    · rename_i h; simp [hlt] at h
  · have hk : k = l.length := by omega
    subst hk
    simp [idx] at hI
    repeat' (first
       | refine wp_seq_i ?_ | refine wp_region_t k_indexFI rfl ?_ | refine Run.done rfl ?_ | refine then_n ?_ | refine then_r ?_ | refine then_e ?_ | refine Run.go1 rfl ?_ | refine wp_skip_i ?_ | refine wp_ret_i ?_
       | refine wp_exit_i ?_ | refine wp_block_i ?_ | refine block_n ?_ | refine block_r ?_ | refine block_e ?_ | refine block_o rfl ?_ | refine wp_cond_t rfl ?_ | refine wp_cond_f rfl ?_
       | (refine wp_cond_k rfl rfl rfl ?_ ?_ <;> intro _) | (refine wp_cond_i rfl ?_ ?_ <;> intro _))
    · rename_i h; simp at h
    · refine ret_m [] rfl rfl ?_; rw [hI]
theorem containsFI_t (l : List Int) (g : FuncId) (hg : modeOf E0.md g = []) (cs : List T) (p : Int → Bool) (hp : ∀ x ∈ l, Tells Try.prog E0 X g [iA x, .t (.pt cs)] (bA (p x))) (hl : l.length ≤ 1048576) : Tells Try.prog E0 X 97 [.t (.sl false (l.map (iR))), .t (.fn g [.pt cs])] (bA (l.any p)) := by
  have hi := idx_any (f := p) (l := l) (k := 0)
  refine Tells.by Try.func97 (by simp [Try.f97]) (Body.i rfl rfl rfl (fun _ => rfl) fun f => ?_)
  repeat' (first
     | refine wp_seq_i ?_ | refine wp_region_i ?_ | refine Run.done rfl ?_ | refine then_n ?_ | refine then_r ?_ | refine then_e ?_ | refine Run.go1 rfl ?_ | refine wp_skip_i ?_ | refine wp_ret_i ?_ | refine wp_exit_i ?_
     | refine wp_block_i ?_ | refine block_n ?_ | refine block_r ?_ | refine block_e ?_ | refine block_o rfl ?_ | refine wp_cond_t rfl ?_ | refine wp_cond_f rfl ?_
     | refine Run.call rfl rfl rfl (indexFI_t l g hg cs p hp hl) rfl rfl ?_ | (refine wp_cond_k rfl rfl rfl ?_ ?_ <;> intro _) | (refine wp_cond_i rfl ?_ ?_ <;> intro _))
  all_goals (refine ret_m [] rfl rfl ?_; rw [← hi])
def k_indexFIns : List (Nat × List Nat) := [(0, [0, 1]), (1, [0, 1, 7, 8]), (2, [0, 1, 7, 8, 9]), (3, [0, 1, 5, 7, 8]), (4, [0, 1, 5, 7, 8, 16]), (5, [4]), (6, [0, 1, 7, 8]), (7, [4])]
theorem indexFIns_t (l : List Ins) (g : FuncId) (hg : modeOf E0.md g = []) (cs : List T) (p : Ins → Bool) (hp : ∀ x ∈ l, Tells Try.prog E0 X g [x.a false, .t (.pt cs)] (bA (p x))) (hl : l.length ≤ 1048576) : Tells Try.prog E0 X 94 [.t (.sl false (l.map (Ins.c false))), .t (.fn g [.pt cs])] (iA (idx p l 0)) := by
  refine Tells.by Try.func94 (by simp [Try.f94]) (Body.i rfl rfl rfl (fun _ => rfl) fun f => ?_)
  repeat' (first
     | refine wp_seq_i ?_ | refine wp_region_t k_indexFIns rfl ?_ | refine Run.done rfl ?_ | refine then_n ?_ | refine then_r ?_ | refine then_e ?_ | refine Run.go1 rfl ?_ | refine wp_skip_i ?_ | refine wp_ret_i ?_
     | refine wp_exit_i ?_ | refine wp_block_i ?_ | refine block_n ?_ | refine block_r ?_ | refine block_e ?_ | refine block_o rfl ?_ | refine wp_cond_t rfl ?_ | refine wp_cond_f rfl ?_
     | (refine wp_cond_k rfl rfl rfl ?_ ?_ <;> intro _) | (refine wp_cond_i rfl ?_ ?_ <;> intro _))
  refine wp_loop_k (α := Nat) [.keep [0, 1, 7, 8] []] (fun k => [(8, iA k)]) (fun _ => []) (fun _ => []) (fun k => k ≤ l.length ∧ idx p (l.drop k) k = idx p l 0) (fun k => l.length - k) 0 rfl (fun _ => rfl) rfl ⟨by simp, rfl⟩ ?_
  rintro k ⟨hk, hI⟩
  by_cases hlt : k < l.length
  · have hx : (l.map (Ins.c false))[k]? = some ((Ins.c false) l[k]) := map_at hlt
    rw [idx_step hlt] at hI
    repeat' (first
       | refine wp_seq_i ?_ | refine wp_region_t k_indexFIns rfl ?_ | refine Run.done rfl ?_ | refine then_n ?_ | refine then_r ?_ | refine then_e ?_ | refine Run.go1 rfl ?_ | refine wp_skip_i ?_ | refine wp_ret_i ?_
       | refine wp_exit_i ?_ | refine wp_block_i ?_ | refine block_n ?_ | refine block_r ?_ | refine block_e ?_ | refine block_o rfl ?_ | refine wp_cond_t rfl ?_ | refine wp_cond_f rfl ?_
       | refine Run.ix rfl rfl rfl rfl rfl rfl rfl hx rfl rfl rfl ?_ | refine Run.callF rfl rfl rfl hg rfl (hp _ (List.getElem_mem hlt)) rfl rfl ?_ | (refine wp_cond_k rfl rfl rfl ?_ ?_ <;> intro _)
       | (refine wp_cond_i rfl ?_ ?_ <;> intro _))
    · rename_i h1 h2
      refine ret_m [] rfl rfl ?_
      rw [← hI, if_pos h2]
    · rename_i h1 h2
      refine back_i [.keep [0, 1, 7, 8] []] (k + 1) rfl ?_ ⟨by omega, ?_⟩ (by omega)
      · simp only [w_succ hlt (by omega)]
      · rw [← hI, if_neg (by simpa using h2)]
    · rename_i h; simp [hlt] at h
  · have hk : k = l.length := by omega
    subst hk
    simp [idx] at hI
    repeat' (first
       | refine wp_seq_i ?_ | refine wp_region_t k_indexFIns rfl ?_ | refine Run.done rfl ?_ | refine then_n ?_ | refine then_r ?_ | refine then_e ?_ | refine Run.go1 rfl ?_ | refine wp_skip_i ?_ | refine wp_ret_i ?_
       | refine wp_exit_i ?_ | refine wp_block_i ?_ | refine block_n ?_ | refine block_r ?_ | refine block_e ?_ | refine block_o rfl ?_ | refine wp_cond_t rfl ?_ | refine wp_cond_f rfl ?_
       | (refine wp_cond_k rfl rfl rfl ?_ ?_ <;> intro _) | (refine wp_cond_i rfl ?_ ?_ <;> intro _))
    · rename_i h; simp at h
    · refine ret_m [] rfl rfl ?_; rw [hI]
theorem containsFIns_t (l : List Ins) (g : FuncId) (hg : modeOf E0.md g = []) (cs : List T) (p : Ins → Bool) (hp : ∀ x ∈ l, Tells Try.prog E0 X g [x.a false, .t (.pt cs)] (bA (p x))) (hl : l.length ≤ 1048576) : Tells Try.prog E0 X 79 [.t (.sl false (l.map (Ins.c false))), .t (.fn g [.pt cs])] (bA (l.any p)) := by
  have hi := idx_any (f := p) (l := l) (k := 0)
  refine Tells.by Try.func79 (by simp [Try.f79]) (Body.i rfl rfl rfl (fun _ => rfl) fun f => ?_)
  repeat' (first
     | refine wp_seq_i ?_ | refine wp_region_i ?_ | refine Run.done rfl ?_ | refine then_n ?_ | refine then_r ?_ | refine then_e ?_ | refine Run.go1 rfl ?_ | refine wp_skip_i ?_ | refine wp_ret_i ?_ | refine wp_exit_i ?_
     | refine wp_block_i ?_ | refine block_n ?_ | refine block_r ?_ | refine block_e ?_ | refine block_o rfl ?_ | refine wp_cond_t rfl ?_ | refine wp_cond_f rfl ?_
     | refine Run.call rfl rfl rfl (indexFIns_t l g hg cs p hp hl) rfl rfl ?_ | (refine wp_cond_k rfl rfl rfl ?_ ?_ <;> intro _) | (refine wp_cond_i rfl ?_ ?_ <;> intro _))
  all_goals (refine ret_m [] rfl rfl ?_; rw [← hi])
def k_indexFP : List (Nat × List Nat) := [(0, [0, 1]), (1, [0, 1, 7, 8]), (2, [0, 1, 7, 8, 9]), (3, [0, 1, 5, 7, 8]), (4, [0, 1, 5, 7, 8, 16]), (5, [4]), (6, [0, 1, 7, 8]), (7, [4])]
theorem indexFP_t (l : List Piece) (g : FuncId) (hg : modeOf E0.md g = []) (cs : List T) (p : Piece → Bool) (hp : ∀ x ∈ l, Tells Try.prog E0 X g [x.a false, .t (.pt cs)] (bA (p x))) (hl : l.length ≤ 1048576) : Tells Try.prog E0 X 102 [.t (.sl false (l.map (Piece.c false))), .t (.fn g [.pt cs])] (iA (idx p l 0)) := by
  refine Tells.by Try.func102 (by simp [Try.f102]) (Body.i rfl rfl rfl (fun _ => rfl) fun f => ?_)
  repeat' (first
     | refine wp_seq_i ?_ | refine wp_region_t k_indexFP rfl ?_ | refine Run.done rfl ?_ | refine then_n ?_ | refine then_r ?_ | refine then_e ?_ | refine Run.go1 rfl ?_ | refine wp_skip_i ?_ | refine wp_ret_i ?_
     | refine wp_exit_i ?_ | refine wp_block_i ?_ | refine block_n ?_ | refine block_r ?_ | refine block_e ?_ | refine block_o rfl ?_ | refine wp_cond_t rfl ?_ | refine wp_cond_f rfl ?_
     | (refine wp_cond_k rfl rfl rfl ?_ ?_ <;> intro _) | (refine wp_cond_i rfl ?_ ?_ <;> intro _))
  refine wp_loop_k (α := Nat) [.keep [0, 1, 7, 8] []] (fun k => [(8, iA k)]) (fun _ => []) (fun _ => []) (fun k => k ≤ l.length ∧ idx p (l.drop k) k = idx p l 0) (fun k => l.length - k) 0 rfl (fun _ => rfl) rfl ⟨by simp, rfl⟩ ?_
  rintro k ⟨hk, hI⟩
  by_cases hlt : k < l.length
  · have hx : (l.map (Piece.c false))[k]? = some ((Piece.c false) l[k]) := map_at hlt
    rw [idx_step hlt] at hI
    repeat' (first
       | refine wp_seq_i ?_ | refine wp_region_t k_indexFP rfl ?_ | refine Run.done rfl ?_ | refine then_n ?_ | refine then_r ?_ | refine then_e ?_ | refine Run.go1 rfl ?_ | refine wp_skip_i ?_ | refine wp_ret_i ?_
       | refine wp_exit_i ?_ | refine wp_block_i ?_ | refine block_n ?_ | refine block_r ?_ | refine block_e ?_ | refine block_o rfl ?_ | refine wp_cond_t rfl ?_ | refine wp_cond_f rfl ?_
       | refine Run.ix rfl rfl rfl rfl rfl rfl rfl hx rfl rfl rfl ?_ | refine Run.callF rfl rfl rfl hg rfl (hp _ (List.getElem_mem hlt)) rfl rfl ?_ | (refine wp_cond_k rfl rfl rfl ?_ ?_ <;> intro _)
       | (refine wp_cond_i rfl ?_ ?_ <;> intro _))
    · rename_i h1 h2
      refine ret_m [] rfl rfl ?_
      rw [← hI, if_pos h2]
    · rename_i h1 h2
      refine back_i [.keep [0, 1, 7, 8] []] (k + 1) rfl ?_ ⟨by omega, ?_⟩ (by omega)
      · simp only [w_succ hlt (by omega)]
      · rw [← hI, if_neg (by simpa using h2)]
    · rename_i h; simp [hlt] at h
  · have hk : k = l.length := by omega
    subst hk
    simp [idx] at hI
    repeat' (first
       | refine wp_seq_i ?_ | refine wp_region_t k_indexFP rfl ?_ | refine Run.done rfl ?_ | refine then_n ?_ | refine then_r ?_ | refine then_e ?_ | refine Run.go1 rfl ?_ | refine wp_skip_i ?_ | refine wp_ret_i ?_
       | refine wp_exit_i ?_ | refine wp_block_i ?_ | refine block_n ?_ | refine block_r ?_ | refine block_e ?_ | refine block_o rfl ?_ | refine wp_cond_t rfl ?_ | refine wp_cond_f rfl ?_
       | (refine wp_cond_k rfl rfl rfl ?_ ?_ <;> intro _) | (refine wp_cond_i rfl ?_ ?_ <;> intro _))
    · rename_i h; simp at h
    · refine ret_m [] rfl rfl ?_; rw [hI]
end Go.Proofs

set_option linter.unusedVariables false
set_option linter.unusedSimpArgs false
set_option maxHeartbeats 4000000
namespace Go.Proofs
open Go Go.Ev
set_option maxRecDepth 100000
variable {X : Rel3}
theorem insOk1_t (p : Piece) (r : Int) (hr : 0 ≤ p.regs ∧ p.regs ≤ 400) : Tells Try.prog E0 X 98 [iA r, .t (.pt (Piece.c false p))] (bA (!rng r 0 (p.regs - 1))) := by
  have hw : IntKind.i64.wrap (p.regs - 1) = p.regs - 1 := w_pred (by omega) (by omega)
  refine Tells.by Try.func98 (by simp [Try.f98]) (Body.i rfl rfl rfl (fun _ => rfl) fun f => ?_)
  repeat' (first
     | refine wp_seq_i ?_ | refine wp_region_i ?_ | refine Run.done rfl ?_ | refine then_n ?_ | refine then_r ?_ | refine then_e ?_ | refine Run.go1 rfl ?_ | refine wp_skip_i ?_ | refine wp_ret_i ?_ | refine wp_exit_i ?_
     | refine wp_block_i ?_ | refine block_n ?_ | refine block_r ?_ | refine block_e ?_ | refine block_o rfl ?_ | refine wp_cond_t rfl ?_ | refine wp_cond_f rfl ?_ | refine Run.call rfl rfl rfl (in_t _ _ _) rfl rfl ?_
     | (refine wp_cond_k rfl rfl rfl ?_ ?_ <;> intro _) | (refine wp_cond_i rfl ?_ ?_ <;> intro _))
  all_goals (refine ret_m [] rfl rfl ?_; simp [hw])
theorem allR_any {l : List Int} {hi : Int} : (!(l.any fun r => !rng r 0 hi)) = allR l hi := by
  simp only [allR, List.all_eq_not_any_not]
theorem numO_false (regs : Int) (i : Ins) (h : numO i = false) : numB regs i = false := by
  revert h; unfold numB numO; repeat' split
  all_goals simp_all
def k_insOk : List (Nat × List Nat) := [(0, [2, 3]), (1, [2, 3, 6]), (2, [2, 3, 33]), (3, [4]), (4, [2, 3, 64]), (5, [4]), (6, [2, 3, 67]), (7, [4]), (8, [3, 74, 75, 76]), (9, [3, 74, 75, 76, 77]), (10, [3, 7, 8, 74, 75, 76]), (11, [3, 74, 75, 76, 103]), (12, [4]), (13, [3, 74, 75, 76]), (14, [4])]
theorem insOk_t (p : Piece) (i : Ins) (hr : 0 ≤ p.regs ∧ p.regs ≤ 400) (hn : p.ins.length ≤ 600) (hl : i.l.length ≤ 1048576) : Tells Try.prog E0 X 81 [p.a false, i.a false] (bA (insB p.regs p.ins.length i)) := by
  have har := allR_any (l := i.l) (hi := p.regs - 1)
  have hT : regB (uT i.op) i.to_ p.ins.length = (if uT i.op then rng i.to_ 0 (p.ins.length - 1) else i.to_ == 0) := rfl
  refine Tells.by Try.func81 (by simp [Try.f81]) (Body.i rfl rfl rfl (fun _ => rfl) fun f => ?_)
  repeat' (first
     | refine wp_seq_i ?_ | refine wp_region_t k_insOk rfl ?_ | refine Run.done rfl ?_ | refine then_n ?_ | refine then_r ?_ | refine then_e ?_ | refine Run.go1 rfl ?_ | refine wp_skip_i ?_ | refine wp_ret_i ?_
     | refine wp_exit_i ?_ | refine wp_block_i ?_ | refine block_n ?_ | refine block_r ?_ | refine block_e ?_ | refine block_o rfl ?_ | refine wp_cond_t rfl ?_ | refine wp_cond_f rfl ?_
     | refine wp_region_qt k_insOk rfl 19 (by decide +kernel) rfl rfl ?_ | refine wp_region_qt k_insOk rfl 31 (by decide +kernel) rfl rfl ?_ | refine RunQ.go1 rfl ?_ | refine RunQ.done rfl ?_ | refine Run.gT rfl rfl rfl rfl ?_
     | refine Run.pT rfl rfl ?_ | (refine Run.splitG rfl rfl rfl rfl rfl rfl ?_ ?_ <;> intro _) | (refine Run.splitP rfl rfl rfl rfl ?_ ?_ <;> intro _) | refine RunQ.gT rfl rfl rfl rfl ?_ | refine RunQ.pT rfl rfl ?_
     | (refine RunQ.splitG rfl rfl rfl rfl rfl rfl ?_ ?_ <;> intro _) | (refine RunQ.splitP rfl rfl rfl rfl ?_ ?_ <;> intro _) | refine Run.call rfl rfl rfl (insForm_t _) rfl rfl ?_
     | refine Run.call rfl rfl rfl (numOk_t i) rfl rfl ?_ | refine Run.call rfl rfl rfl (hasT_t _) rfl rfl ?_ | refine Run.call rfl rfl rfl (hasD_t _) rfl rfl ?_ | refine Run.call rfl rfl rfl (hasX_t _) rfl rfl ?_
     | refine Run.call rfl rfl rfl (hasY_t _) rfl rfl ?_ | refine Run.call rfl rfl rfl (fieldOk_t _ _ _) rfl rfl ?_ | refine RunQ.call rfl rfl rfl rfl rfl rfl (insForm_t _) (.inl rfl) rfl rfl ?_
     | refine RunQ.call rfl rfl rfl rfl rfl rfl (numOk_t i) (.inl rfl) rfl rfl ?_ | refine RunQ.call rfl rfl rfl rfl rfl rfl (hasT_t _) (.inl rfl) rfl rfl ?_
     | refine RunQ.call rfl rfl rfl rfl rfl rfl (hasD_t _) (.inl rfl) rfl rfl ?_ | refine RunQ.call rfl rfl rfl rfl rfl rfl (hasX_t _) (.inl rfl) rfl rfl ?_
     | refine RunQ.call rfl rfl rfl rfl rfl rfl (hasY_t _) (.inl rfl) rfl rfl ?_ | refine RunQ.call rfl rfl rfl rfl rfl rfl (fieldOk_t _ _ _) (.inl rfl) rfl rfl ?_
     | refine Run.callB rfl rfl rfl (containsFI_t i.l 98 rfl (Piece.c false p) (fun r => !rng r 0 (p.regs - 1)) (fun r _ => insOk1_t p r hr) hl) (by simp [AV.own, T.own]) rfl ?_
     | (refine wp_cond_k rfl rfl rfl ?_ ?_ <;> intro _) | (refine wp_cond_i rfl ?_ ?_ <;> intro _))
  any_goals (refine ret_m [] rfl rfl ?_; simp only [har]; clear har; simp_all [insB, numB, numO]; done)
  any_goals (refine ret_m [] rfl rfl ?_; clear har; first | (simp_all [insB]; done) | (cases hu : uT i.op <;> simp_all [insB]; done) | (have := numO_false p.regs i; simp_all [insB]; done) | (simp_all [insB, numB, numO]; done))
  all_goals try (exfalso; simp_all; done)
  all_goals (
    have hA0 : i.l.length = 0 → asc i.l = true := by intro h; have : i.l = [] := List.eq_nil_of_length_eq_zero h; simp [this, asc]
    refine wp_loop_k (α := Nat) [.keep [2, 3, 74, 75, 76] [2, 3]] (fun k => [(76, iA k)]) (fun _ => []) (fun _ => []) (fun k => k ≤ i.l.length ∧ asc (i.l.drop (k - 1)) = asc i.l ∧ (0 < k → i.op = 14 ∧ (i.l.length : Int) ≤ 200)) (fun k => i.l.length - k) 0 rfl (fun _ => rfl) rfl ⟨by simp, by simp, by simp⟩ ?_
    rintro k ⟨hk, hA, hB⟩
    by_cases hlt : k < i.l.length
    · have hx : (i.l.map iR)[k]? = some (iR i.l[k]) := map_at hlt
      have hy : (i.l.map iR)[k - 1]? = some (iR (i.l[k - 1]'(by omega))) := map_at (by omega)
      have hkk : decide ((k : Int) > 0) = true → IntKind.i64.wrap ((k : Int) - 1) = ((k - 1 : Nat) : Int) := by intro h; simp at h; rw [w_pred] <;> omega
      have hA1 : 0 < k → asc i.l = (decide ((i.l[k - 1]'(by omega)) < i.l[k]) && asc (i.l.drop k)) := by
        intro h
        obtain ⟨j, rfl⟩ : ∃ j, k = j + 1 := ⟨k - 1, by omega⟩
        rw [← hA]; exact asc_step hlt
      have hA2 : k = 0 → asc (i.l.drop k) = asc i.l := by rintro rfl; simp
      repeat' (first
         | refine wp_seq_i ?_ | refine wp_region_t k_insOk rfl ?_ | refine Run.done rfl ?_ | refine then_n ?_ | refine then_r ?_ | refine then_e ?_ | refine Run.go1 rfl ?_ | refine wp_skip_i ?_ | refine wp_ret_i ?_
         | refine wp_exit_i ?_ | refine wp_block_i ?_ | refine block_n ?_ | refine block_r ?_ | refine block_e ?_ | refine block_o rfl ?_ | refine wp_cond_t rfl ?_ | refine wp_cond_f rfl ?_ | refine Run.gT rfl rfl rfl rfl ?_
         | refine Run.pT rfl rfl ?_ | (refine Run.splitG rfl rfl rfl rfl rfl rfl ?_ ?_ <;> intro _) | (refine Run.splitP rfl rfl rfl rfl ?_ ?_ <;> intro _) | refine Run.ix rfl rfl rfl rfl rfl rfl rfl hx rfl rfl rfl ?_
         | refine Run.ix rfl rfl rfl rfl rfl rfl (hkk (by assumption)) hy rfl rfl rfl ?_ | (refine wp_cond_k rfl rfl rfl ?_ ?_ <;> intro _) | (refine wp_cond_i rfl ?_ ?_ <;> intro _))
      all_goals first
      | (rename_i h; simp [hlt] at h; done)
      | (exfalso; clear hA hA0 hA1 hA2 hB har; simp_all; done)
      | (refine ret_m [] rfl rfl ?_
         have hl : (0 < k ∧ ¬ (i.l[k - 1]'(by omega)) < i.l[k]) ∨ i.op ≠ 14 ∨ 200 < (i.l.length : Int) := by
           clear hA hA0 hA1 hA2 hB har
           rcases Nat.eq_zero_or_pos k with h0 | h0 <;> simp_all
         have hlp : (0 : Int) < i.l.length := by omega
         have hnb : numB p.regs i = false ∨ i.op ≠ 14 := by
           by_cases h14 : i.op = 14
           · left
             rcases hl with ⟨h0, hl⟩ | hl | hl
             · have := hA1 h0; simp [hl] at this; simp [numB, h14, this]
             · exact absurd h14 hl
             · simp [numB, h14]; omega
           · exact .inr h14
         clear hA hA0 hA1 hA2 hB har hl
         rcases hnb with h | h <;> simp_all [insB])
      | (refine back_i [.keep [2, 3, 74, 75, 76] [2, 3]] (k + 1) rfl ?_ ⟨by omega, ?_, ?_⟩ (by omega)
         · simp only [w_succ hlt (by omega)]
         · rcases Nat.eq_zero_or_pos k with h0 | h0
           · exact hA2 h0
           · have hq := hA1 h0
             have hl : (i.l[k - 1]'(by omega)) < i.l[k] := by clear hA0 hA1 hA2 hA hB har hq; simp_all
             rw [hq]; simp [hl]
         · intro _; clear hA0 hA1 hA2 hA hB har; simp_all)
    · have hk : k = i.l.length := by omega
      subst hk
      have hA : asc i.l = true := by rw [← hA]; exact asc_end (by omega)
      repeat' (first
         | refine wp_seq_i ?_ | refine wp_region_t k_insOk rfl ?_ | refine Run.done rfl ?_ | refine then_n ?_ | refine then_r ?_ | refine then_e ?_ | refine Run.go1 rfl ?_ | refine wp_skip_i ?_ | refine wp_ret_i ?_
         | refine wp_exit_i ?_ | refine wp_block_i ?_ | refine block_n ?_ | refine block_r ?_ | refine block_e ?_ | refine block_o rfl ?_ | refine wp_cond_t rfl ?_ | refine wp_cond_f rfl ?_
         | (refine wp_cond_k rfl rfl rfl ?_ ?_ <;> intro _) | (refine wp_cond_i rfl ?_ ?_ <;> intro _))
      · rename_i h; simp at h
      · refine ret_m [] rfl rfl ?_
        clear har hA0
        rcases Nat.eq_zero_or_pos i.l.length with h0 | h0
        · have hnil : i.l = [] := List.eq_nil_of_length_eq_zero h0
          clear hB
          simp_all [insB, numB, numO]
        · have := hB h0
          clear hB
          simp_all [insB, numB, numO])
end Go.Proofs

set_option linter.unusedVariables false
set_option linter.unusedSimpArgs false
set_option maxHeartbeats 4000000
namespace Go.Proofs
open Go Go.Ev
set_option maxRecDepth 100000
variable {X : Rel3}
theorem pieceOk1_t (p : Piece) (i : Ins) (hr : 0 ≤ p.regs ∧ p.regs ≤ 400) (hn : p.ins.length ≤ 600) (hl : i.l.length ≤ 1048576) : Tells Try.prog E0 X 80 [i.a false, .t (.pt (Piece.c false p))] (bA (!insB p.regs p.ins.length i)) := by
  refine Tells.by Try.func80 (by simp [Try.f80]) (Body.i rfl rfl rfl (fun _ => rfl) fun f => ?_)
  repeat' (first
     | refine wp_seq_i ?_ | refine wp_region_i ?_ | refine Run.done rfl ?_ | refine then_n ?_ | refine then_r ?_ | refine then_e ?_ | refine Run.go1 rfl ?_ | refine wp_skip_i ?_ | refine wp_ret_i ?_ | refine wp_exit_i ?_
     | refine wp_block_i ?_ | refine block_n ?_ | refine block_r ?_ | refine block_e ?_ | refine block_o rfl ?_ | refine wp_cond_t rfl ?_ | refine wp_cond_f rfl ?_ | refine Run.call rfl rfl rfl (insOk_t p i hr hn hl) rfl rfl ?_
     | (refine wp_cond_k rfl rfl rfl ?_ ?_ <;> intro _) | (refine wp_cond_i rfl ?_ ?_ <;> intro _))
  all_goals (refine ret_m [] rfl rfl ?_; rfl)
theorem allI_any {l : List Ins} {r n : Int} : (l.any fun i => !insB r n i) = !allI r n l := by
  simp only [allI, List.all_eq_not_any_not, Bool.not_not]
def k_pieceOk : List (Nat × List Nat) := [(0, [1]), (1, [1, 3]), (2, [1, 3, 28]), (3, [2]), (4, [2])]
theorem pieceOk_t (p : Piece) (hp : p.ok) : Tells Try.prog E0 X 60 [p.a false] (bA (pieceB p)) := by
  have hany := allI_any (l := p.ins) (r := p.regs) (n := p.ins.length)
  by_cases hh : headB p = true
  · have hh' := headB_iff.1 hh
    have hreg : 0 ≤ p.regs ∧ p.regs ≤ 400 := by omega
    have hin : p.ins.length ≤ 600 := by omega
    have hv : IntKind.i64.wrap (((p.ins.map (Ins.c false)).length : Int) - 1) = ((p.ins.length - 1 : Nat) : Int) := by rw [List.length_map, w_pred] <;> omega
    have hx : (p.ins.map (Ins.c false))[p.ins.length - 1]? = some (Ins.c false (p.ins[p.ins.length - 1]'(by omega))) := map_at (by omega)
    have hl := lastB_eq (l := p.ins) (by omega)
    have hcf := containsFIns_t (X := X) p.ins 80 rfl (Piece.c false p) (fun i => !insB p.regs p.ins.length i) (fun i hi => pieceOk1_t p i hreg hin (hp.2 _ hi)) hp.1
    rw [hany] at hcf
    refine Tells.by Try.func60 (by simp [Try.f60]) (Body.i rfl rfl rfl (fun _ => rfl) fun f => ?_)
    repeat' (first
       | refine wp_seq_i ?_ | refine wp_region_t k_pieceOk rfl ?_ | refine Run.done rfl ?_ | refine then_n ?_ | refine then_r ?_ | refine then_e ?_ | refine Run.go1 rfl ?_ | refine wp_skip_i ?_ | refine wp_ret_i ?_
       | refine wp_exit_i ?_ | refine wp_block_i ?_ | refine block_n ?_ | refine block_r ?_ | refine block_e ?_ | refine block_o rfl ?_ | refine wp_cond_t rfl ?_ | refine wp_cond_f rfl ?_ | refine Run.gT rfl rfl rfl rfl ?_
       | refine Run.pT rfl rfl ?_ | (refine Run.splitG rfl rfl rfl rfl rfl rfl ?_ ?_ <;> intro _) | (refine Run.splitP rfl rfl rfl rfl ?_ ?_ <;> intro _) | refine Run.call rfl rfl rfl (in_t _ _ _) rfl rfl ?_
       | refine Run.call rfl rfl rfl (lamOk_t p) rfl rfl ?_ | refine Run.callB rfl rfl rfl (hcf) (by simp [AV.own, T.own]) rfl ?_ | refine Run.ix rfl rfl rfl rfl rfl rfl hv hx rfl rfl rfl ?_
       | (refine wp_cond_k rfl rfl rfl ?_ ?_ <;> intro _) | (refine wp_cond_i rfl ?_ ?_ <;> intro _))
    all_goals clear hcf hany
    all_goals (refine ret_m [] rfl rfl ?_)
    any_goals (simp_all [pieceB, headB]; done)
  · have hh0 : headB p = false := by simpa using hh
    have hb : pieceB p = false := by simp [pieceB, hh0]
    rw [hb]
    refine Tells.by Try.func60 (by simp [Try.f60]) (Body.i rfl rfl rfl (fun _ => rfl) fun f => ?_)
    repeat' (first
       | refine wp_seq_i ?_ | refine wp_region_t k_pieceOk rfl ?_ | refine Run.done rfl ?_ | refine then_n ?_ | refine then_r ?_ | refine then_e ?_ | refine Run.go1 rfl ?_ | refine wp_skip_i ?_ | refine wp_ret_i ?_
       | refine wp_exit_i ?_ | refine wp_block_i ?_ | refine block_n ?_ | refine block_r ?_ | refine block_e ?_ | refine block_o rfl ?_ | refine wp_cond_t rfl ?_ | refine wp_cond_f rfl ?_ | refine Run.gT rfl rfl rfl rfl ?_
       | refine Run.pT rfl rfl ?_ | (refine Run.splitG rfl rfl rfl rfl rfl rfl ?_ ?_ <;> intro _) | (refine Run.splitP rfl rfl rfl rfl ?_ ?_ <;> intro _) | refine Run.call rfl rfl rfl (in_t _ _ _) rfl rfl ?_
       | refine Run.call rfl rfl rfl (lamOk_t p) rfl rfl ?_ | (refine wp_cond_k rfl rfl rfl ?_ ?_ <;> intro _) | (refine wp_cond_i rfl ?_ ?_ <;> intro _))
    any_goals (refine ret_m [] rfl rfl ?_; rfl)
    all_goals (exfalso; clear hany; simp_all [headB])
theorem pieceAt1_t (p : Piece) (n : Int) : Tells Try.prog E0 X 103 [p.a false, .t (.pt [iT n])] (bA (p.lam == n)) := by
  refine Tells.by Try.func103 (by simp [Try.f103]) (Body.i rfl rfl rfl (fun _ => rfl) fun f => ?_)
  repeat' (first
     | refine wp_seq_i ?_ | refine wp_region_i ?_ | refine Run.done rfl ?_ | refine then_n ?_ | refine then_r ?_ | refine then_e ?_ | refine Run.go1 rfl ?_ | refine wp_skip_i ?_ | refine wp_ret_i ?_ | refine wp_exit_i ?_
     | refine wp_block_i ?_ | refine block_n ?_ | refine block_r ?_ | refine block_e ?_ | refine block_o rfl ?_ | refine wp_cond_t rfl ?_ | refine wp_cond_f rfl ?_ | (refine wp_cond_k rfl rfl rfl ?_ ?_ <;> intro _)
     | (refine wp_cond_i rfl ?_ ?_ <;> intro _))
  all_goals (refine ret_m [] rfl rfl ?_; rfl)
theorem pieceAt_t (c : Code) (n : Int) (hc : c.funs.length ≤ 1048576) : Tells Try.prog E0 X 88 [c.a false, iA n] (iA (funAt c.funs n)) := by
  refine Tells.by Try.func88 (by simp [Try.f88]) (Body.i rfl rfl rfl (fun _ => rfl) fun f => ?_)
  repeat' (first
     | refine wp_seq_i ?_ | refine wp_region_i ?_ | refine Run.done rfl ?_ | refine then_n ?_ | refine then_r ?_ | refine then_e ?_ | refine Run.go1 rfl ?_ | refine wp_skip_i ?_ | refine wp_ret_i ?_ | refine wp_exit_i ?_
     | refine wp_block_i ?_ | refine block_n ?_ | refine block_r ?_ | refine block_e ?_ | refine block_o rfl ?_ | refine wp_cond_t rfl ?_ | refine wp_cond_f rfl ?_
     | refine Run.callB rfl rfl rfl (indexFP_t c.funs 103 rfl [iT n] (fun p => p.lam == n) (fun p _ => pieceAt1_t p n) hc) (by simp [AV.own, T.own]) rfl ?_ | (refine wp_cond_k rfl rfl rfl ?_ ?_ <;> intro _)
     | (refine wp_cond_i rfl ?_ ?_ <;> intro _))
  all_goals (refine ret_m [] rfl rfl ?_; rfl)
end Go.Proofs

set_option linter.unusedVariables false
set_option linter.unusedSimpArgs false
set_option maxHeartbeats 4000000
namespace Go.Proofs
open Go Go.Ev
set_option maxRecDepth 100000
variable {X : Rel3}
abbrev Code.c (o : Bool) (c : Code) : List T := [.sl o (c.funs.map (Piece.c o)), iT c.main.lam, iT c.main.in_, iT c.main.regs, .sl o (c.main.ins.map (Ins.c o))]
def lamI2 (funs : List Piece) (i : Ins) : Bool := lamI funs i && (i.op != 14 || asc i.l)
def k_lamsOk1 : List (Nat × List Nat) := [(0, [1, 2]), (1, [1, 2, 9]), (2, [1, 2, 4]), (3, [3]), (4, [1, 2, 30, 31, 32]), (5, [1, 2, 30, 31, 32, 33]), (6, [1, 2, 5, 6, 30, 31, 32]), (7, [1, 2, 30, 31, 32, 59]), (8, [3]), (9, [1, 2, 30, 31, 32]), (10, [3])]
theorem lamsOk1_t (c : Code) (i : Ins) (hc : c.funs.length ≤ 1048576) (hil : i.l.length ≤ 1048576) : Tells Try.prog E0 X 87 [i.a false, .t (.pt (Code.c false c))] (bA (!lamI2 c.funs i)) := by
  refine Tells.by Try.func87 (by simp [Try.f87]) (Body.i rfl rfl rfl (fun _ => rfl) fun f => ?_)
  repeat' (first
     | refine wp_seq_i ?_ | refine wp_region_t k_lamsOk1 rfl ?_ | refine Run.done rfl ?_ | refine then_n ?_ | refine then_r ?_ | refine then_e ?_ | refine Run.go1 rfl ?_ | refine wp_skip_i ?_ | refine wp_ret_i ?_
     | refine wp_exit_i ?_ | refine wp_block_i ?_ | refine block_n ?_ | refine block_r ?_ | refine block_e ?_ | refine block_o rfl ?_ | refine wp_cond_t rfl ?_ | refine wp_cond_f rfl ?_
     | refine wp_region_qt k_lamsOk1 rfl 16 (by decide +kernel) rfl rfl ?_ | refine RunQ.go1 rfl ?_ | refine RunQ.done rfl ?_ | refine Run.gT rfl rfl rfl rfl ?_ | refine Run.pT rfl rfl ?_
     | (refine Run.splitG rfl rfl rfl rfl rfl rfl ?_ ?_ <;> intro _) | (refine Run.splitP rfl rfl rfl rfl ?_ ?_ <;> intro _) | refine RunQ.gT rfl rfl rfl rfl ?_ | refine RunQ.pT rfl rfl ?_
     | (refine RunQ.splitG rfl rfl rfl rfl rfl rfl ?_ ?_ <;> intro _) | (refine RunQ.splitP rfl rfl rfl rfl ?_ ?_ <;> intro _) | refine Run.call rfl rfl rfl (pieceAt_t c _ hc) rfl rfl ?_
     | refine RunQ.ix rfl rfl rfl rfl rfl rfl (funAt_row (by simpa using ‹decide (funAt c.funs i.n < 0) = false›)).1 (funAt_row (by simpa using ‹decide (funAt c.funs i.n < 0) = false›)).2 rfl rfl rfl ?_
     | (refine wp_cond_k rfl rfl rfl ?_ ?_ <;> intro _) | (refine wp_cond_i rfl ?_ ?_ <;> intro _))
  any_goals (refine ret_m [] rfl rfl ?_; first | (simp_all [lamI2, lamI]; done) | (have h0 : decide (funAt c.funs i.n < 0) = false := (by assumption); have h8 : i.op = 8 := (by simp_all); simp only [lamI2, lamI, h8, h0, bne, List.length_map, if_true]; simp; done))
  have h8 : ¬ i.op = 8 := by simp_all
  refine wp_loop_k (α := Nat) [.keep [1, 2, 30, 31, 32] [2]] (fun k => [(32, iA k)]) (fun _ => []) (fun _ => []) (fun k => k ≤ i.l.length ∧ (i.op = 14 → asc (i.l.drop (k - 1)) = asc i.l ∧ allF c.funs (i.l.drop k) = allF c.funs i.l)) (fun k => i.l.length - k) 0 rfl (fun _ => rfl) rfl ⟨by simp, by simp⟩ ?_
  rintro k ⟨hk, hA⟩
  by_cases hlt : k < i.l.length
  · have hx : (i.l.map iR)[k]? = some (iR i.l[k]) := map_at hlt
    have hy : (i.l.map iR)[k - 1]? = some (iR (i.l[k - 1]'(by omega))) := map_at (by omega)
    have hkk : decide ((k : Int) > 0) = true → IntKind.i64.wrap ((k : Int) - 1) = ((k - 1 : Nat) : Int) := by intro h; simp at h; rw [w_pred] <;> omega
    have hA1 : 0 < k → i.op = 14 → asc i.l = (decide ((i.l[k - 1]'(by omega)) < i.l[k]) && asc (i.l.drop k)) := by
      intro h h14
      obtain ⟨j, rfl⟩ : ∃ j, k = j + 1 := ⟨k - 1, by omega⟩
      rw [← (hA h14).1]; exact asc_step hlt
    have hA2 : k = 0 → asc (i.l.drop k) = asc i.l := by rintro rfl; simp
    have hI : i.op = 14 → (!decide (funAt c.funs i.l[k] < 0) && allF c.funs (i.l.drop (k + 1))) = allF c.funs i.l := by intro h14; rw [← allF_step hlt]; exact (hA h14).2
    repeat' (first
       | refine wp_seq_i ?_ | refine wp_region_t k_lamsOk1 rfl ?_ | refine Run.done rfl ?_ | refine then_n ?_ | refine then_r ?_ | refine then_e ?_ | refine Run.go1 rfl ?_ | refine wp_skip_i ?_ | refine wp_ret_i ?_
       | refine wp_exit_i ?_ | refine wp_block_i ?_ | refine block_n ?_ | refine block_r ?_ | refine block_e ?_ | refine block_o rfl ?_ | refine wp_cond_t rfl ?_ | refine wp_cond_f rfl ?_ | refine Run.gT rfl rfl rfl rfl ?_
       | refine Run.pT rfl rfl ?_ | (refine Run.splitG rfl rfl rfl rfl rfl rfl ?_ ?_ <;> intro _) | (refine Run.splitP rfl rfl rfl rfl ?_ ?_ <;> intro _) | refine Run.ix rfl rfl rfl rfl rfl rfl rfl hx rfl rfl rfl ?_
       | refine Run.ix rfl rfl rfl rfl rfl rfl (hkk (by assumption)) hy rfl rfl rfl ?_ | refine Run.call rfl rfl rfl (pieceAt_t c _ hc) rfl rfl ?_ | (refine wp_cond_k rfl rfl rfl ?_ ?_ <;> intro _)
       | (refine wp_cond_i rfl ?_ ?_ <;> intro _))
    all_goals first
    | (rename_i h; simp [hlt] at h; done)
    | (exfalso; clear hA hA1 hA2 hI; simp_all; done)
    | (refine ret_m [] rfl rfl ?_
       have h14 : i.op = 14 := by clear hA hA1 hA2 hI; simp_all
       have hl : (0 < k ∧ ¬ (i.l[k - 1]'(by omega)) < i.l[k]) ∨ funAt c.funs i.l[k] < 0 := by
         clear hA hA1 hA2 hI
         rcases Nat.eq_zero_or_pos k with h0 | h0 <;> simp_all
       rcases hl with ⟨h0, hl⟩ | hl
       · have := hA1 h0 h14; simp [hl] at this; simp [lamI2, h14, this]
       · have hI := hI h14; simp [hl] at hI; simp [lamI2, lamI, h14, ← hI])
    | (refine back_i [.keep [1, 2, 30, 31, 32] [2]] (k + 1) rfl ?_ ⟨by omega, ?_⟩ (by omega)
       · simp only [w_succ hlt (by omega)]
       · intro h14
         refine ⟨?_, ?_⟩
         · rcases Nat.eq_zero_or_pos k with h0 | h0
           · exact hA2 h0
           · have hq := hA1 h0 h14
             have hl : (i.l[k - 1]'(by omega)) < i.l[k] := by clear hA1 hA2 hA hI hq; simp_all
             rw [hq]; simp [hl]
         · have hl : ¬ funAt c.funs i.l[k] < 0 := by clear hA1 hA2 hA hI; simp_all
           rw [← hI h14]; simp [hl])
  · have hk : k = i.l.length := by omega
    subst hk
    have hA : i.op = 14 → asc i.l = true ∧ allF c.funs i.l = true := by intro h; rw [← (hA h).1, ← (hA h).2]; exact ⟨asc_end (by omega), by simp [allF]⟩
    repeat' (first
       | refine wp_seq_i ?_ | refine wp_region_t k_lamsOk1 rfl ?_ | refine Run.done rfl ?_ | refine then_n ?_ | refine then_r ?_ | refine then_e ?_ | refine Run.go1 rfl ?_ | refine wp_skip_i ?_ | refine wp_ret_i ?_
       | refine wp_exit_i ?_ | refine wp_block_i ?_ | refine block_n ?_ | refine block_r ?_ | refine block_e ?_ | refine block_o rfl ?_ | refine wp_cond_t rfl ?_ | refine wp_cond_f rfl ?_
       | (refine wp_cond_k rfl rfl rfl ?_ ?_ <;> intro _) | (refine wp_cond_i rfl ?_ ?_ <;> intro _))
    · rename_i h; simp at h
    · refine ret_m [] rfl rfl ?_
      by_cases h14 : i.op = 14
      · simp [lamI2, lamI, h14, hA h14]
      · simp [lamI2, lamI, h14, h8]
def lams2 (funs : List Piece) (l : List Ins) : Bool := l.all (lamI2 funs)
theorem lams2_eq {funs : List Piece} {p : Piece} : (pieceB p && lams2 funs p.ins) = (pieceB p && lamsB funs p.ins) := by
  cases hp : pieceB p with
  | false => rfl
  | true =>
    simp only [Bool.true_and]
    have hi : allI p.regs p.ins.length p.ins = true := by simp [pieceB] at hp; exact hp.2.1
    rw [Bool.eq_iff_iff]
    simp only [lams2, lamsB, List.all_eq_true]
    simp only [allI, List.all_eq_true] at hi
    refine forall_congr' fun i => forall_congr' fun hm => ?_
    have hb := hi i hm
    by_cases h14 : i.op = 14
    · have ha : asc i.l = true := by simp [insB, numB, h14] at hb; exact hb.2.1
      simp [lamI2, ha]
    · simp [lamI2, h14]
theorem lamsOk_t (c : Code) (p : Piece) (hc : c.funs.length ≤ 1048576) (hp : p.ok) : Tells Try.prog E0 X 66 [c.a false, p.a false] (bA (lams2 c.funs p.ins)) := by
  have hcf := containsFIns_t (X := X) p.ins 87 rfl (Code.c false c) (fun i => !lamI2 c.funs i) (fun i hi => lamsOk1_t c i hc (hp.2 _ hi)) hp.1
  have e : (!(p.ins.any fun i => !lamI2 c.funs i)) = lams2 c.funs p.ins := by simp only [lams2, List.all_eq_not_any_not]
  refine Tells.by Try.func66 (by simp [Try.f66]) (Body.i rfl rfl rfl (fun _ => rfl) fun f => ?_)
  repeat' (first
     | refine wp_seq_i ?_ | refine wp_region_i ?_ | refine Run.done rfl ?_ | refine then_n ?_ | refine then_r ?_ | refine then_e ?_ | refine Run.go1 rfl ?_ | refine wp_skip_i ?_ | refine wp_ret_i ?_ | refine wp_exit_i ?_
     | refine wp_block_i ?_ | refine block_n ?_ | refine block_r ?_ | refine block_e ?_ | refine block_o rfl ?_ | refine wp_cond_t rfl ?_ | refine wp_cond_f rfl ?_
     | refine Run.callB rfl rfl rfl (hcf) (by simp [AV.own, T.own]) rfl ?_ | (refine wp_cond_k rfl rfl rfl ?_ ?_ <;> intro _) | (refine wp_cond_i rfl ?_ ?_ <;> intro _))
  all_goals (refine ret_m [] rfl rfl ?_; rw [e])
end Go.Proofs

set_option linter.unusedVariables false
set_option linter.unusedSimpArgs false
set_option maxHeartbeats 4000000
namespace Go.Proofs
open Go Go.Ev
set_option maxRecDepth 100000
variable {X : Rel3}
def gB (funs : List Piece) (p : Piece) : Bool := rng p.lam 0 149 && (!decide (p.in_ < 1) && (pieceB p && lams2 funs p.ins))
theorem gB_eq {funs : List Piece} {p : Piece} : gB funs p = fB funs p := by
  unfold gB fB
  rw [lams2_eq]
  cases hp : pieceB p with
  | false => simp
  | true =>
    have hh : headB p = true := by simp [pieceB] at hp; exact hp.1
    have := headB_iff.1 hh
    rw [Bool.eq_iff_iff]
    simp [rng]
    constructor
    · rintro ⟨h1, h2, h3⟩; exact ⟨h1.1, h3⟩
    · rintro ⟨h1, h3⟩; exact ⟨by omega, by omega, h3⟩
theorem mainB {funs : List Piece} {p : Piece} (h : p.lam = -1) (hp : pieceB p = true) : p.in_ = 0 := by
  have hh : headB p = true := by simp [pieceB] at hp; exact hp.1
  have := headB_iff.1 hh
  omega
def k_CodeOkI : List (Nat × List Nat) := [(0, [1]), (1, [1, 33]), (2, [2]), (3, [1, 35, 36, 37]), (4, [1, 35, 36, 37, 38]), (5, [1, 3, 4, 35, 36, 37]), (6, [1, 35, 36, 37, 77]), (7, [2]), (8, [1, 35, 36, 37]), (9, [2])]
theorem CodeOkI_t (c : Code) (hc : c.ok) : Tells Try.prog E0 X 37 [c.a false] (bA (codeB c)) := by
  have hcl := hc.1
  have hme := lams2_eq (funs := c.funs) (p := c.main)
  have hm0 := mainB (funs := c.funs) (p := c.main)
  refine Tells.by Try.func37 (by simp [Try.f37]) (Body.i rfl rfl rfl (fun _ => rfl) fun f => ?_)
  repeat' (first
     | refine wp_seq_i ?_ | refine wp_region_t k_CodeOkI rfl ?_ | refine Run.done rfl ?_ | refine then_n ?_ | refine then_r ?_ | refine then_e ?_ | refine Run.go1 rfl ?_ | refine wp_skip_i ?_ | refine wp_ret_i ?_
     | refine wp_exit_i ?_ | refine wp_block_i ?_ | refine block_n ?_ | refine block_r ?_ | refine block_e ?_ | refine block_o rfl ?_ | refine wp_cond_t rfl ?_ | refine wp_cond_f rfl ?_ | refine Run.gT rfl rfl rfl rfl ?_
     | refine Run.pT rfl rfl ?_ | (refine Run.splitG rfl rfl rfl rfl rfl rfl ?_ ?_ <;> intro _) | (refine Run.splitP rfl rfl rfl rfl ?_ ?_ <;> intro _) | refine Run.call rfl rfl rfl (pieceOk_t c.main hc.2.2) rfl rfl ?_
     | refine Run.call rfl rfl rfl (lamsOk_t c c.main hc.1 hc.2.2) rfl rfl ?_ | (refine wp_cond_k rfl rfl rfl ?_ ?_ <;> intro _) | (refine wp_cond_i rfl ?_ ?_ <;> intro _))
  any_goals (refine ret_m [] rfl rfl ?_; have hx : codeB c = ((decide ((c.funs.length : Int) ≤ 200) && c.main.lam == -1) && ((pieceB c.main && lams2 c.funs c.main.ins) && (asc (lamsL c.funs) && allP c.funs c.funs))) := (by rw [hme]; rfl); rw [hx]; clear hx hme; first | (simp_all; done) | (by_cases hq : pieceB c.main = true <;> simp_all; done) | (simp_all; omega))
  have hM : pieceB c.main = true ∧ lamsB c.funs c.main.ins = true ∧ c.main.lam = -1 ∧ (c.funs.length : Int) ≤ 200 := by clear hm0; simp_all
  clear hme hm0
  refine wp_loop_k (α := Nat) [.keep [1, 35, 36, 37] [1]] (fun k => [(37, iA k)]) (fun _ => []) (fun _ => []) (fun k => k ≤ c.funs.length ∧ asc ((lamsL c.funs).drop (k - 1)) = asc (lamsL c.funs) ∧ allP c.funs (c.funs.drop k) = allP c.funs c.funs) (fun k => c.funs.length - k) 0 rfl (fun _ => rfl) rfl ⟨by simp, by simp, by simp⟩ ?_
  rintro k ⟨hk, hA, hI⟩
  by_cases hlt : k < c.funs.length
  · have hx : (c.funs.map (Piece.c false))[k]? = some (Piece.c false c.funs[k]) := map_at hlt
    have hy : (c.funs.map (Piece.c false))[k - 1]? = some (Piece.c false (c.funs[k - 1]'(by omega))) := map_at (by omega)
    have hpo := hc.2.1 _ (List.getElem_mem hlt)
    rw [allP_step hlt, ← gB_eq] at hI
    have hkk : decide ((k : Int) > 0) = true → IntKind.i64.wrap ((k : Int) - 1) = ((k - 1 : Nat) : Int) := by intro h; simp at h; rw [w_pred] <;> omega
    have hA1 : 0 < k → asc (lamsL c.funs) = (decide ((c.funs[k - 1]'(by omega)).lam < c.funs[k].lam) && asc ((lamsL c.funs).drop k)) := by
      intro h
      obtain ⟨j, rfl⟩ : ∃ j, k = j + 1 := ⟨k - 1, by omega⟩
      rw [← hA]; exact lams_step hlt
    have hA0 : k = 0 → asc ((lamsL c.funs).drop k) = asc (lamsL c.funs) := by rintro rfl; simp
    repeat' (first
       | refine wp_seq_i ?_ | refine wp_region_t k_CodeOkI rfl ?_ | refine Run.done rfl ?_ | refine then_n ?_ | refine then_r ?_ | refine then_e ?_ | refine Run.go1 rfl ?_ | refine wp_skip_i ?_ | refine wp_ret_i ?_
       | refine wp_exit_i ?_ | refine wp_block_i ?_ | refine block_n ?_ | refine block_r ?_ | refine block_e ?_ | refine block_o rfl ?_ | refine wp_cond_t rfl ?_ | refine wp_cond_f rfl ?_
       | refine wp_region_qt k_CodeOkI rfl 36 (by decide +kernel) rfl rfl ?_ | refine RunQ.go1 rfl ?_ | refine RunQ.done rfl ?_ | refine Run.gT rfl rfl rfl rfl ?_ | refine Run.pT rfl rfl ?_
       | (refine Run.splitG rfl rfl rfl rfl rfl rfl ?_ ?_ <;> intro _) | (refine Run.splitP rfl rfl rfl rfl ?_ ?_ <;> intro _) | refine RunQ.gT rfl rfl rfl rfl ?_ | refine RunQ.pT rfl rfl ?_
       | (refine RunQ.splitG rfl rfl rfl rfl rfl rfl ?_ ?_ <;> intro _) | (refine RunQ.splitP rfl rfl rfl rfl ?_ ?_ <;> intro _) | refine Run.ix rfl rfl rfl rfl rfl rfl rfl hx rfl rfl rfl ?_
       | refine RunQ.ix rfl rfl rfl rfl rfl rfl rfl hx rfl rfl rfl ?_ | refine RunQ.ix rfl rfl rfl rfl rfl rfl (hkk (by assumption)) hy rfl rfl rfl ?_ | refine RunQ.call rfl rfl rfl rfl rfl rfl (in_t _ _ _) (.inl rfl) rfl rfl ?_
       | refine RunQ.call rfl rfl rfl rfl rfl rfl (pieceOk_t _ hpo) (.inl rfl) rfl rfl ?_ | refine RunQ.call rfl rfl rfl rfl rfl rfl (lamsOk_t c _ hcl hpo) (.inl rfl) rfl rfl ?_ | (refine wp_cond_k rfl rfl rfl ?_ ?_ <;> intro _)
       | (refine wp_cond_i rfl ?_ ?_ <;> intro _))
    all_goals first
    | (rename_i h; simp [hlt] at h; done)
    | (exfalso; clear hA0 hA1 hA hI hM; simp_all; done)
    | (refine ret_m [] rfl rfl ?_
       have hl : (0 < k ∧ ¬ (c.funs[k - 1]'(by omega)).lam < c.funs[k].lam) ∨ gB c.funs c.funs[k] = false := by
         clear hA0 hA1 hA hI hM
         rcases Nat.eq_zero_or_pos k with h0 | h0
         · right; simp_all [gB]
         · simp_all [gB]
       rcases hl with ⟨h0, hl⟩ | hl
       · have := hA1 h0; simp [hl] at this; simp [codeB, this]
       · rw [hl] at hI; simp [codeB, ← hI])
    | (refine back_i [.keep [1, 35, 36, 37] [1]] (k + 1) rfl ?_ ⟨by omega, ?_, ?_⟩ (by omega)
       · simp only [w_succ hlt (by omega)]
       · rcases Nat.eq_zero_or_pos k with h0 | h0
         · exact hA0 h0
         · have hq := hA1 h0
           have hl : (c.funs[k - 1]'(by omega)).lam < c.funs[k].lam := by clear hA0 hA1 hA hI hq hM; simp_all
           rw [hq]; simp [hl]
       · have hl : gB c.funs c.funs[k] = true := by clear hA0 hA1 hA hI hM; simp_all [gB]
         rw [← hI, hl, Bool.true_and])
  · have hk : k = c.funs.length := by omega
    subst hk
    have hA : asc (lamsL c.funs) = true := by rw [← hA]; exact asc_end (by simp; omega)
    simp [allP] at hI
    repeat' (first
       | refine wp_seq_i ?_ | refine wp_region_t k_CodeOkI rfl ?_ | refine Run.done rfl ?_ | refine then_n ?_ | refine then_r ?_ | refine then_e ?_ | refine Run.go1 rfl ?_ | refine wp_skip_i ?_ | refine wp_ret_i ?_
       | refine wp_exit_i ?_ | refine wp_block_i ?_ | refine block_n ?_ | refine block_r ?_ | refine block_e ?_ | refine block_o rfl ?_ | refine wp_cond_t rfl ?_ | refine wp_cond_f rfl ?_
       | (refine wp_cond_k rfl rfl rfl ?_ ?_ <;> intro _) | (refine wp_cond_i rfl ?_ ?_ <;> intro _))
    · rename_i h; simp at h
    · refine ret_m [] rfl rfl ?_
      have : allP c.funs c.funs = true := by simp [allP]; exact hI
      simp [codeB, hM, this, hA]
end Go.Proofs

set_option linter.unusedVariables false
set_option linter.unusedSimpArgs false
set_option maxHeartbeats 4000000
namespace Go.Proofs
open Go Go.Ev
set_option maxRecDepth 100000
variable {X : Rel3}
theorem own_uR (l : List Int) : ownR (l.map uR) := by
  induction l with
  | nil => simp [ownR]
  | cons x r ih => simp [ownR, ownL, T.own, ih]
theorem own_B (l : List Int) : (AV.t (.sl true (l.map uR))).own := by simp [AV.own, T.own, own_uR]
theorem cloneB_t (l : List Int) (hl : l.length ≤ 1000000000000) : Tells Try.prog E0 X 89 [.t (.sl false (l.map uR))] (.t (.sl true (l.map uR))) := by
  refine Tells.by Try.func89 (by simp [Try.f89]) (Body.i rfl rfl rfl (fun _ => rfl) fun f => ?_)
  repeat' (first
     | refine wp_seq_i ?_ | refine wp_region_i ?_ | refine Run.done rfl ?_ | refine then_n ?_ | refine then_r ?_ | refine then_e ?_ | refine Run.go1 rfl ?_ | refine wp_skip_i ?_ | refine wp_ret_i ?_ | refine wp_exit_i ?_
     | refine wp_block_i ?_ | refine block_n ?_ | refine block_r ?_ | refine block_e ?_ | refine block_o rfl ?_ | refine wp_cond_t rfl ?_ | refine wp_cond_f rfl ?_
     | refine Run.nilc rfl rfl rfl (fun _ => rfl) (fun _ => ?_) (fun _ _ => ?_) | refine Run.cnd rfl rfl rfl ⟨by simp; omega, by simp, by simp, .inl rfl, by simp [flatT]⟩ ?_ | (refine wp_cond_k rfl rfl rfl ?_ ?_ <;> intro _)
     | (refine wp_cond_i rfl ?_ ?_ <;> intro _))
  all_goals (refine ret_m [] rfl rfl ?_; simp_all)
end Go.Proofs

set_option linter.unusedVariables false
set_option linter.unusedSimpArgs false
set_option maxHeartbeats 4000000
namespace Go.Proofs
open Go Go.Ev
set_option maxRecDepth 100000
variable {X : Rel3}
def clampN (n : Int) : Int := if n > 1000000000 then 1000000000 else if n < -1000000000 then -1000000000 else n
def encM (n : Int) : Int := if clampN n < 0 then -2 * clampN n - 1 else 2 * clampN n
theorem encM_lt (n : Int) : 0 ≤ encM n ∧ encM n < 34359738368 := by
  unfold encM clampN; repeat' split
  all_goals omega
def lowB (k : Int) : Int := IntKind.u8.wrap (IntKind.i64.wrap (BitVec.ofInt IntKind.i64.bits (IntKind.i64.wrap (BitVec.ofInt IntKind.i64.bits k &&& BitVec.ofInt IntKind.i64.bits 127).toNat) ||| BitVec.ofInt IntKind.i64.bits 128).toNat)
def nextB (k : Int) : Int := k.fdiv (2 ^ min (Int.toNat 7) IntKind.i64.bits)
theorem nextB_eq {k : Int} (h : 0 ≤ k) : nextB k = k / 128 := by
  unfold nextB
  have : (2 : Int) ^ min (Int.toNat 7) IntKind.i64.bits = 128 := by decide
  rw [this, Int.fdiv_eq_ediv_of_nonneg _ (by omega)]
def putL : Nat → Int → List Int
  | 0, m => [IntKind.u8.wrap m]
  | f + 1, m => if m > 127 then lowB m :: putL f (nextB m) else [IntKind.u8.wrap m]
def encN (n : Int) : List Int := putL 4 (encM n)
theorem putL_len : ∀ (f : Nat) (m : Int), (putL f m).length ≤ f + 1
  | 0, m => by simp [putL]
  | f + 1, m => by
    rw [putL]; split
    · simp; exact putL_len f _
    · simp
theorem encN_len (n : Int) : (encN n).length ≤ 5 := putL_len 4 _
theorem putL_end {f : Nat} {m : Int} (h : ¬ m > 127) : putL f m = [IntKind.u8.wrap m] := by
  cases f with
  | zero => rfl
  | succ f => rw [putL, if_neg h]
theorem PutNumS_t (b : List Int) (n : Int) (hb : b.length ≤ 1000000000000) : Tells Try.prog E0 X 33 [.t (.sl false (b.map uR)), iA n] (.t (.sl true ((b ++ encN n).map uR))) := by
  refine Tells.by Try.func33 (by simp [Try.f33]) (Body.i rfl rfl rfl (fun _ => rfl) fun f => ?_)
  repeat' (first
     | refine wp_seq_i ?_ | refine wp_region_i ?_ | refine Run.done rfl ?_ | refine then_n ?_ | refine then_r ?_ | refine then_e ?_ | refine Run.go1 rfl ?_ | refine wp_skip_i ?_ | refine wp_ret_i ?_ | refine wp_exit_i ?_
     | refine wp_block_i ?_ | refine block_n ?_ | refine block_r ?_ | refine block_e ?_ | refine block_o rfl ?_ | refine wp_cond_t rfl ?_ | refine wp_cond_f rfl ?_
     | refine Run.cnd rfl rfl rfl ⟨by simp; omega, by simp, by simp, .inl rfl, by simp [flatT]⟩ ?_ | (refine wp_cond_k rfl rfl rfl ?_ ?_ <;> intro _) | (refine wp_cond_i rfl ?_ ?_ <;> intro _))
  all_goals (
    have hM := encM_lt n
    refine wp_loop_k (α := Int × List Int × Nat) [.keep [5, 6] [9]] (fun p => [(6, iA p.1)]) (fun _ => []) (fun p => [(9, 0, p.2.1.map uR)]) (fun p => (0 ≤ p.1 ∧ p.1 < 128 ^ (p.2.2 + 1)) ∧ p.2.1.length + p.2.2 = b.length + 4 ∧ p.2.1 ++ putL p.2.2 p.1 = b ++ encN n) (fun p => p.2.2) (encM n, b, 4) rfl (fun _ => rfl) ?_ ⟨by simpa using hM, by simp, rfl⟩ ?_
    · simp only [List.nil_append, St.mk.injEq, List.cons.injEq, Prod.mk.injEq, AV.t.injEq, T.sc.injEq, Value.int.injEq, true_and, and_true]
      clear hM
      try refine ⟨?_, rfl⟩
      simp only [decide_eq_true_eq, decide_eq_false_iff_not] at *
      unfold encM clampN
      repeat' split
      all_goals first
      | (exfalso; omega)
      | (simp [IntKind.wrap, IntKind.bits, IntKind.signed]; done)
      | (simp [IntKind.wrap, IntKind.bits, IntKind.signed]; omega)
    rintro ⟨k, c, j⟩ ⟨⟨h1, h2⟩, h3, h4⟩
    simp only at h1 h2 h3 h4
    repeat' (first
       | refine wp_seq_i ?_ | refine wp_region_i ?_ | refine Run.done rfl ?_ | refine then_n ?_ | refine then_r ?_ | refine then_e ?_ | refine Run.go1 rfl ?_ | refine wp_skip_i ?_ | refine wp_ret_i ?_ | refine wp_exit_i ?_
       | refine wp_block_i ?_ | refine block_n ?_ | refine block_r ?_ | refine block_e ?_ | refine block_o rfl ?_ | refine wp_cond_t rfl ?_ | refine wp_cond_f rfl ?_
       | refine Run.cnd rfl rfl rfl ⟨by simp; omega, by simp, by simp, .inl rfl, by simp [flatT]⟩ ?_ | (refine wp_cond_k rfl rfl rfl ?_ ?_ <;> intro _) | (refine wp_cond_i rfl ?_ ?_ <;> intro _))
    · rename_i h
      have hk : k > 127 := by simpa using h
      clear h
      obtain ⟨j', rfl⟩ : ∃ j', j = j' + 1 := by
        cases j with
        | zero => simp at h2; omega
        | succ j => exact ⟨j, rfl⟩
      refine back_i [.keep [5, 6] [29], .ren 29 9] (nextB k, c ++ [lowB k], j') rfl ?_ ⟨⟨?_, ?_⟩, ?_, ?_⟩ (by simp)
      · simp only [List.map_append, List.map_cons, List.map_nil]; rfl
      · rw [nextB_eq h1]; omega
      · rw [nextB_eq h1]
        simp only [Int.pow_succ] at h2 ⊢
        omega
      · simp; omega
      · rw [putL, if_pos hk] at h4; simpa using h4
    · rename_i h
      have h : ¬ k > 127 := by simpa using h
      refine ret_m [] rfl rfl ?_
      rw [← h4, putL_end h]; simp)
end Go.Proofs

set_option linter.unusedVariables false
set_option linter.unusedSimpArgs false
set_option maxHeartbeats 4000000
namespace Go.Proofs
open Go Go.Ev
set_option maxRecDepth 100000
variable {X : Rel3}
theorem and127b (k : Int) (h0 : 0 ≤ k) (h1 : k < 34359738368) : IntKind.i64.wrap (BitVec.ofInt IntKind.i64.bits k &&& BitVec.ofInt IntKind.i64.bits 127).toNat = k % 128 := by
  obtain ⟨n, rfl⟩ := Int.eq_ofNat_of_zero_le h0
  have e : (BitVec.ofInt IntKind.i64.bits (n : Int) &&& BitVec.ofInt IntKind.i64.bits 127).toNat = n % 128 := by
    show (BitVec.ofInt 64 (n : Int) &&& BitVec.ofInt 64 127).toNat = n % 128
    rw [BitVec.toNat_and]
    have e1 : (BitVec.ofInt 64 (n : Int)).toNat = n := by simp; omega
    have e2 : (BitVec.ofInt 64 127).toNat = 2 ^ 7 - 1 := by decide
    rw [e1, e2, Nat.and_two_pow_sub_one_eq_mod]
  rw [e, w64 (by omega) (by omega)]
  omega
theorem lowB_eq {k : Int} (h0 : 0 ≤ k) (h1 : k < 34359738368) : lowB k = k % 128 + 128 := by
  unfold lowB
  rw [and127b k h0 h1]
  have h := or_acc (k % 128) 1 7 (by omega) (by omega) (by omega) (by omega) (by omega)
  rw [show (1 : Int) * 2 ^ 7 = 128 by decide] at h
  rw [h]
  simp [IntKind.wrap, IntKind.bits, IntKind.signed]; omega
theorem drop_at {l t : List Int} {i : Nat} {c : Int} (h : l.drop i = c :: t) : l[i]? = some c ∧ l.drop (i + 1) = t := by
  refine ⟨?_, ?_⟩
  · have := congrArg List.head? h
    simpa [List.head?_drop] using this
  · have := congrArg List.tail h
    simpa [List.tail_drop] using this
theorem gLp_put (l : List Int) (a : Nat) (M : Int) (hM : rng (decN M) (-1000000000) 1000000000 = true) : ∀ (f j : Nat) (x m : Int) (t : List Int), j + f = 4 → 0 ≤ m → m < 128 ^ (f + 1) → (j = 0 ∨ 0 < m) → x + m * 2 ^ (7 * j) = M → l.drop (a + j) = putL f m ++ t →
    gLp l a (5 - j) j x = some (decN M, ((a + j + (putL f m).length : Nat) : Int)) := by
  have last : ∀ (f j : Nat) (x m : Int) (t : List Int), j + f = 4 → 0 ≤ m → m ≤ 127 → (j = 0 ∨ 0 < m) → x + m * 2 ^ (7 * j) = M → l.drop (a + j) = [IntKind.u8.wrap m] ++ t →
      gLp l a (5 - j) j x = some (decN M, ((a + j + 1 : Nat) : Int)) := by
    intro f j x m t hj h0 h1 hz he hd
    have hw : IntKind.u8.wrap m = m := by simp [IntKind.wrap, IntKind.bits, IntKind.signed]; omega
    rw [hw] at hd
    obtain ⟨hg, _⟩ := drop_at (t := t) hd
    have hacc : gAcc x m j = M := by rw [gAcc, Int.emod_eq_of_lt h0 (by omega), he]
    rw [show 5 - j = (4 - j) + 1 by omega, gLp, hg]
    simp only
    rw [if_neg (by omega), hacc, if_neg (by
      rintro (h | h)
      · omega
      · exact h hM)]
  intro f
  induction f with
  | zero =>
    intro j x m t hj h0 h1 hz he hd
    have := last 0 j x m t hj h0 (by omega) hz he (by simpa [putL] using hd)
    simpa [putL] using this
  | succ f ih =>
    intro j x m t hj h0 h1 hz he hd
    by_cases h : m > 127
    · have hp : (128 : Int) ^ (f + 1 + 1) = 128 ^ (f + 1) * 128 := Int.pow_succ _ _
      have hq : (128 : Int) ^ (f + 1) ≤ 128 ^ 4 := by exact_mod_cast Nat.pow_le_pow_right (by decide : 0 < 128) (by omega : f + 1 ≤ 4)
      have hs : m < 34359738368 := by omega
      rw [putL, if_pos h, lowB_eq h0 hs, nextB_eq h0] at hd ⊢
      obtain ⟨hg, hd'⟩ := drop_at (t := putL f (m / 128) ++ t) hd
      rw [show 5 - j = (4 - j) + 1 by omega, gLp, hg]
      simp only
      rw [if_pos (by omega)]
      have hacc : gAcc x (m % 128 + 128) j + m / 128 * 2 ^ (7 * (j + 1)) = M := by
        rw [gAcc, show (m % 128 + 128) % 128 = m % 128 by omega, ← he, show 7 * (j + 1) = 7 * j + 7 by omega, Int.pow_add]
        have hdm : m * 2 ^ (7 * j) = m % 128 * 2 ^ (7 * j) + m / 128 * (2 ^ (7 * j) * 128) := by
          have hh : m = m % 128 + m / 128 * 128 := by omega
          conv => lhs; rw [hh]
          rw [Int.add_mul, Int.mul_assoc, Int.mul_comm 128]
        rw [hdm, show ((2 : Int) ^ 7) = 128 by decide]; omega
      have := ih (j + 1) (gAcc x (m % 128 + 128) j) (m / 128) t (by omega) (by omega) (by omega) (.inr (by omega)) hacc (by rw [← Nat.add_assoc]; exact hd')
      rw [show 5 - (j + 1) = 4 - j by omega] at this
      rw [this]
      simp only [List.length_cons, Option.some.injEq, Prod.mk.injEq, true_and]
      omega
    · rw [putL_end h] at hd ⊢
      exact last (f + 1) j x m t hj h0 (by omega) hz he hd
/-- what is put is read -/
theorem gNum_put (l t : List Int) (a : Nat) (n : Int) (hn : -1000000000 ≤ n ∧ n ≤ 1000000000) (hd : l.drop a = encN n ++ t) : gNum l a = some (n, ((a + (encN n).length : Nat) : Int)) := by
  have hc : clampN n = n := by unfold clampN; rw [if_neg (by omega), if_neg (by omega)]
  have hdec : decN (encM n) = n := by
    unfold decN encM; rw [hc]; split <;> split <;> omega
  have hM := encM_lt n
  rw [gNum, if_neg (by omega), Int.toNat_natCast]
  have := gLp_put l a (encM n) (by rw [hdec]; exact rng_iff.2 hn) 4 0 0 (encM n) t rfl hM.1 (by omega) (.inl rfl) (by simp) (by simpa [encN] using hd)
  rw [hdec] at this
  simpa [encN] using this
end Go.Proofs

set_option linter.unusedVariables false
set_option linter.unusedSimpArgs false
set_option maxHeartbeats 4000000
namespace Go.Proofs
open Go Go.Ev
set_option maxRecDepth 100000
variable {X : Rel3}
theorem drop_get {l : List Int} {i : Nat} {c : Int} (h : l[i]? = some c) : l.drop i = c :: l.drop (i + 1) := by
  obtain ⟨hi, e⟩ := List.getElem?_eq_some_iff.1 h
  rw [List.drop_eq_getElem_cons hi, e]
theorem gLp_can (l : List Int) (hb : ∀ c ∈ l, 0 ≤ c ∧ c < 256) (a : Nat) : ∀ (d j : Nat) (x n e : Int), j + d = 5 → gLp l a d j x = some (n, e) →
    ∃ m : Int, 0 ≤ m ∧ m < 128 ^ d ∧ (j = 0 ∨ 0 < m) ∧ n = decN (x + m * 2 ^ (7 * j)) ∧ rng n (-1000000000) 1000000000 = true ∧ 0 < d ∧ l.drop (a + j) = putL (d - 1) m ++ l.drop (a + j + (putL (d - 1) m).length) ∧ e = ((a + j + (putL (d - 1) m).length : Nat) : Int)
  | 0, j, x, n, e, _, h => by simp [gLp] at h
  | d + 1, j, x, n, e, hj, h => by
    rw [gLp] at h
    split at h
    · cases h
    rename_i c hc
    have hcb := hb c (List.mem_of_getElem? hc)
    have hdr := drop_get hc
    split at h
    · rename_i h1
      obtain ⟨m, m0, m1, m2, m3, m4, m5, m6, m7⟩ := gLp_can l hb a d (j + 1) _ n e (by omega) h
      have mp : 0 < m := by omega
      obtain ⟨d', rfl⟩ : ∃ d', d = d' + 1 := ⟨d - 1, by omega⟩
      have hp : (128 : Int) ^ (d' + 1 + 1) = 128 ^ (d' + 1) * 128 := Int.pow_succ _ _
      have hq : (128 : Int) ^ (d' + 1) ≤ 128 ^ 4 := by exact_mod_cast Nat.pow_le_pow_right (by decide : 0 < 128) (by omega : d' + 1 ≤ 4)
      have hlow : lowB (c - 128 + 128 * m) = c := by rw [lowB_eq (by omega) (by omega)]; omega
      have hnext : nextB (c - 128 + 128 * m) = m := by rw [nextB_eq (by omega)]; omega
      have hput : putL (d' + 1 + 1 - 1) (c - 128 + 128 * m) = c :: putL (d' + 1 - 1) m := by
        rw [show d' + 1 + 1 - 1 = d' + 1 by omega, putL, if_pos (by omega), hlow, hnext]; rfl
      refine ⟨c - 128 + 128 * m, by omega, by omega, .inr (by omega), ?_, m4, by omega, ?_, ?_⟩
      · rw [m3]
        congr 1
        rw [gAcc, show c % 128 = c - 128 by omega, show 7 * (j + 1) = 7 * j + 7 by omega, Int.pow_add, show ((2 : Int) ^ 7) = 128 by decide, Int.add_mul, Int.mul_assoc 128, Int.mul_comm 128, Int.mul_assoc]
        omega
      · rw [hput, hdr, List.cons_append, List.length_cons, ← Nat.add_assoc (a + j) _ 1]
        congr 1
        rw [Nat.add_assoc a j 1, m6]
        congr 2
        omega
      · rw [m7, hput, List.length_cons]; omega
    · rename_i h1
      split at h
      · cases h
      rename_i h2
      simp only [Option.some.injEq, Prod.mk.injEq] at h
      have hrg : rng (decN (gAcc x c j)) (-1000000000) 1000000000 = true := by
        cases hr : rng (decN (gAcc x c j)) (-1000000000) 1000000000 with
        | true => rfl
        | false => exact absurd (.inr (by rw [hr]; decide)) h2
      have hcz : j = 0 ∨ 0 < c := by
        rcases Nat.eq_zero_or_pos j with z | z
        · exact .inl z
        · rcases Int.lt_or_le 0 c with y | y
          · exact .inr y
          · exact absurd (.inl ⟨by omega, z⟩) h2
      have hw : IntKind.u8.wrap c = c := by simp [IntKind.wrap, IntKind.bits, IntKind.signed]; omega
      have hput : putL (d + 1 - 1) c = [c] := by rw [putL_end h1, hw]
      have hpw : (128 : Int) ≤ 128 ^ (d + 1) := by
        have : (128 : Int) ^ 1 ≤ 128 ^ (d + 1) := by exact_mod_cast Nat.pow_le_pow_right (by decide : 0 < 128) (by omega : 1 ≤ d + 1)
        omega
      refine ⟨c, hcb.1, by omega, hcz, ?_, by rw [← h.1]; exact hrg, by omega, ?_, ?_⟩
      · rw [← h.1, gAcc, Int.emod_eq_of_lt hcb.1 (by omega)]
      · rw [hput, hdr]; rfl
      · rw [← h.2, hput]; rfl
end Go.Proofs

set_option linter.unusedVariables false
set_option linter.unusedSimpArgs false
set_option maxHeartbeats 4000000
namespace Go.Proofs
open Go Go.Ev
set_option maxRecDepth 100000
variable {X : Rel3}
/-- what reads: the next number; at, bad -/
def nxt (b : List Int) (at_ : Int) (bad : Bool) : Int × Int × Bool := match gNum b at_ with
  | some (n, e) => if bad then (0, at_, true) else (n, e, false)
  | none => (0, at_, true)
abbrev rdA (b : List Int) (at_ : Int) (bad : Bool) : AV := .io [.t (.sl false (b.map uR)), iA at_, bA bad]
def k_l16Next : List (Nat × List Nat) := [(0, [0]), (1, [0, 3, 4, 5]), (2, [0, 3, 4, 26]), (3, []), (4, [2]), (5, [3]), (6, [2])]
theorem Next_t (b : List Int) (at_ : Int) (bad : Bool) (hl : b.length ≤ 1000000000000) (hb : ∀ c ∈ b, 0 ≤ c ∧ c < 256) (ha : at_ ≤ 9223372036854775807) : Tells Try.prog E0 X 43 [rdA b at_ bad] (.io [iA (nxt b at_ bad).1, rdA b (nxt b at_ bad).2.1 (nxt b at_ bad).2.2]) := by
  have hg := GetNumS_t (X := X) b at_ hl hb
  unfold nxt
  cases hn : gNum b at_ with
  | none =>
    rw [hn] at hg
    simp only [gTup] at hg
    refine Tells.by Try.func43 (by simp [Try.f43]) (Body.i rfl rfl rfl (fun _ => rfl) fun f => ?_)
    repeat' (first
       | refine wp_seq_i ?_ | refine wp_region_t k_l16Next rfl ?_ | refine Run.done rfl ?_ | refine then_n ?_ | refine then_r ?_ | refine then_e ?_ | refine Run.go1 rfl ?_ | refine wp_skip_i ?_ | refine wp_ret_i ?_
       | refine wp_exit_i ?_ | refine wp_block_i ?_ | refine block_n ?_ | refine block_r ?_ | refine block_e ?_ | refine block_o rfl ?_ | refine wp_cond_t rfl ?_ | refine wp_cond_f rfl ?_
       | refine wp_region_qt k_l16Next rfl 16 (by decide +kernel) rfl rfl ?_ | refine RunQ.go1 rfl ?_ | refine RunQ.done rfl ?_ | refine Run.gT rfl rfl rfl rfl ?_ | refine Run.pT rfl rfl ?_
       | (refine Run.splitG rfl rfl rfl rfl rfl rfl ?_ ?_ <;> intro _) | (refine Run.splitP rfl rfl rfl rfl ?_ ?_ <;> intro _) | refine RunQ.gT rfl rfl rfl rfl ?_ | refine RunQ.pT rfl rfl ?_
       | (refine RunQ.splitG rfl rfl rfl rfl rfl rfl ?_ ?_ <;> intro _) | (refine RunQ.splitP rfl rfl rfl rfl ?_ ?_ <;> intro _) | refine RunQ.call rfl rfl rfl rfl rfl rfl (hg) (.inl rfl) rfl rfl ?_
       | (refine wp_cond_k rfl rfl rfl ?_ ?_ <;> intro _) | (refine wp_cond_i rfl ?_ ?_ <;> intro _))
    all_goals first
    | (refine ret_o [true] [] rfl rfl rfl (by simp) ?_; simp_all; done)
    | (cases bad <;> first | (refine ret_o [true] [] rfl rfl rfl (by simp) ?_; simp_all; done) | trace_state)
    | trace_state
  | some r =>
    rw [hn] at hg
    obtain ⟨n, e⟩ := r
    simp only [gTup] at hg
    refine Tells.by Try.func43 (by simp [Try.f43]) (Body.i rfl rfl rfl (fun _ => rfl) fun f => ?_)
    repeat' (first
       | refine wp_seq_i ?_ | refine wp_region_t k_l16Next rfl ?_ | refine Run.done rfl ?_ | refine then_n ?_ | refine then_r ?_ | refine then_e ?_ | refine Run.go1 rfl ?_ | refine wp_skip_i ?_ | refine wp_ret_i ?_
       | refine wp_exit_i ?_ | refine wp_block_i ?_ | refine block_n ?_ | refine block_r ?_ | refine block_e ?_ | refine block_o rfl ?_ | refine wp_cond_t rfl ?_ | refine wp_cond_f rfl ?_
       | refine wp_region_qt k_l16Next rfl 16 (by decide +kernel) rfl rfl ?_ | refine RunQ.go1 rfl ?_ | refine RunQ.done rfl ?_ | refine Run.gT rfl rfl rfl rfl ?_ | refine Run.pT rfl rfl ?_
       | (refine Run.splitG rfl rfl rfl rfl rfl rfl ?_ ?_ <;> intro _) | (refine Run.splitP rfl rfl rfl rfl ?_ ?_ <;> intro _) | refine RunQ.gT rfl rfl rfl rfl ?_ | refine RunQ.pT rfl rfl ?_
       | (refine RunQ.splitG rfl rfl rfl rfl rfl rfl ?_ ?_ <;> intro _) | (refine RunQ.splitP rfl rfl rfl rfl ?_ ?_ <;> intro _) | refine RunQ.call rfl rfl rfl rfl rfl rfl (hg) (.inl rfl) rfl rfl ?_
       | (refine wp_cond_k rfl rfl rfl ?_ ?_ <;> intro _) | (refine wp_cond_i rfl ?_ ?_ <;> intro _))
    all_goals first
    | (refine ret_o [true] [] rfl rfl rfl (by simp) ?_; simp_all; done)
    | (cases bad <;> first | (refine ret_o [true] [] rfl rfl rfl (by simp) ?_; simp_all; done) | trace_state)
    | trace_state
def k_one : List (Nat × List Nat) := [(0, [0]), (1, [0, 3, 4, 5]), (2, [0, 3, 4, 26]), (3, []), (4, [2]), (5, [3]), (6, [2])]
theorem one_t (b : List Int) (at_ : Int) (bad : Bool) (hl : b.length ≤ 1000000000000) (hb : ∀ c ∈ b, 0 ≤ c ∧ c < 256) (ha : at_ ≤ 9223372036854775807) : Tells Try.prog E0 X 70 [rdA b at_ bad] (.io [iA (nxt b at_ bad).1, rdA b (nxt b at_ bad).2.1 (nxt b at_ bad).2.2]) := by
  have hg := GetNumI_t (X := X) b at_ ha hl hb
  unfold nxt
  cases hn : gNum b at_ with
  | none =>
    rw [hn] at hg
    simp only [gTup] at hg
    refine Tells.by Try.func70 (by simp [Try.f70]) (Body.i rfl rfl rfl (fun _ => rfl) fun f => ?_)
    repeat' (first
       | refine wp_seq_i ?_ | refine wp_region_t k_one rfl ?_ | refine Run.done rfl ?_ | refine then_n ?_ | refine then_r ?_ | refine then_e ?_ | refine Run.go1 rfl ?_ | refine wp_skip_i ?_ | refine wp_ret_i ?_
       | refine wp_exit_i ?_ | refine wp_block_i ?_ | refine block_n ?_ | refine block_r ?_ | refine block_e ?_ | refine block_o rfl ?_ | refine wp_cond_t rfl ?_ | refine wp_cond_f rfl ?_
       | refine wp_region_qt k_one rfl 16 (by decide +kernel) rfl rfl ?_ | refine RunQ.go1 rfl ?_ | refine RunQ.done rfl ?_ | refine Run.gT rfl rfl rfl rfl ?_ | refine Run.pT rfl rfl ?_
       | (refine Run.splitG rfl rfl rfl rfl rfl rfl ?_ ?_ <;> intro _) | (refine Run.splitP rfl rfl rfl rfl ?_ ?_ <;> intro _) | refine RunQ.gT rfl rfl rfl rfl ?_ | refine RunQ.pT rfl rfl ?_
       | (refine RunQ.splitG rfl rfl rfl rfl rfl rfl ?_ ?_ <;> intro _) | (refine RunQ.splitP rfl rfl rfl rfl ?_ ?_ <;> intro _) | refine RunQ.call rfl rfl rfl rfl rfl rfl (hg) (.inl rfl) rfl rfl ?_
       | (refine wp_cond_k rfl rfl rfl ?_ ?_ <;> intro _) | (refine wp_cond_i rfl ?_ ?_ <;> intro _))
    all_goals first
    | (refine ret_o [true] [] rfl rfl rfl (by simp) ?_; simp_all; done)
    | (cases bad <;> first | (refine ret_o [true] [] rfl rfl rfl (by simp) ?_; simp_all; done) | trace_state)
    | trace_state
  | some r =>
    rw [hn] at hg
    obtain ⟨n, e⟩ := r
    simp only [gTup] at hg
    refine Tells.by Try.func70 (by simp [Try.f70]) (Body.i rfl rfl rfl (fun _ => rfl) fun f => ?_)
    repeat' (first
       | refine wp_seq_i ?_ | refine wp_region_t k_one rfl ?_ | refine Run.done rfl ?_ | refine then_n ?_ | refine then_r ?_ | refine then_e ?_ | refine Run.go1 rfl ?_ | refine wp_skip_i ?_ | refine wp_ret_i ?_
       | refine wp_exit_i ?_ | refine wp_block_i ?_ | refine block_n ?_ | refine block_r ?_ | refine block_e ?_ | refine block_o rfl ?_ | refine wp_cond_t rfl ?_ | refine wp_cond_f rfl ?_
       | refine wp_region_qt k_one rfl 16 (by decide +kernel) rfl rfl ?_ | refine RunQ.go1 rfl ?_ | refine RunQ.done rfl ?_ | refine Run.gT rfl rfl rfl rfl ?_ | refine Run.pT rfl rfl ?_
       | (refine Run.splitG rfl rfl rfl rfl rfl rfl ?_ ?_ <;> intro _) | (refine Run.splitP rfl rfl rfl rfl ?_ ?_ <;> intro _) | refine RunQ.gT rfl rfl rfl rfl ?_ | refine RunQ.pT rfl rfl ?_
       | (refine RunQ.splitG rfl rfl rfl rfl rfl rfl ?_ ?_ <;> intro _) | (refine RunQ.splitP rfl rfl rfl rfl ?_ ?_ <;> intro _) | refine RunQ.call rfl rfl rfl rfl rfl rfl (hg) (.inl rfl) rfl rfl ?_
       | (refine wp_cond_k rfl rfl rfl ?_ ?_ <;> intro _) | (refine wp_cond_i rfl ?_ ?_ <;> intro _))
    all_goals first
    | (refine ret_o [true] [] rfl rfl rfl (by simp) ?_; simp_all; done)
    | (cases bad <;> first | (refine ret_o [true] [] rfl rfl rfl (by simp) ?_; simp_all; done) | trace_state)
    | trace_state
end Go.Proofs

set_option linter.unusedVariables false
set_option linter.unusedSimpArgs false
set_option maxHeartbeats 4000000
namespace Go.Proofs
open Go Go.Ev
set_option maxRecDepth 100000
variable {X : Rel3}
theorem gLp_le {l : List Int} {a : Nat} : ∀ (d j : Nat) (x : Int) {n e : Int}, gLp l a d j x = some (n, e) → e ≤ l.length
  | 0, j, x, n, e, h => by simp [gLp] at h
  | d + 1, j, x, n, e, h => by
    rw [gLp] at h
    split at h
    · cases h
    · rename_i c hc
      have := (List.getElem?_eq_some_iff.1 hc).1
      split at h
      · exact gLp_le d (j + 1) _ h
      · split at h
        · cases h
        · simp only [Option.some.injEq, Prod.mk.injEq] at h; omega
theorem gNum_le {l : List Int} {a n e : Int} (h : gNum l a = some (n, e)) : e ≤ l.length := by
  unfold gNum at h
  split at h
  · cases h
  · exact gLp_le _ _ _ h
theorem nxt_le {b : List Int} {at_ : Int} {bad : Bool} (hl : b.length ≤ 1000000000000) (ha : at_ ≤ 9223372036854775807) : (nxt b at_ bad).2.1 ≤ 9223372036854775807 := by
  unfold nxt
  cases h : gNum b at_ with
  | none => exact ha
  | some r =>
    obtain ⟨n, e⟩ := r
    have := gNum_le h
    cases bad <;> simp <;> omega
/-- how many there are -/
def mny (b : List Int) (at_ : Int) (bad : Bool) : Int × Int × Bool := if rng (nxt b at_ bad).1 0 b.length then nxt b at_ bad else (0, (nxt b at_ bad).2.1, true)
theorem mny_le {b : List Int} {at_ : Int} {bad : Bool} (hl : b.length ≤ 1000000000000) (ha : at_ ≤ 9223372036854775807) : (mny b at_ bad).2.1 ≤ 9223372036854775807 := by
  unfold mny; split <;> exact nxt_le hl ha
def k_many : List (Nat × List Nat) := [(0, [0]), (1, [0, 3]), (2, [0, 3, 13]), (3, []), (4, [2]), (5, [2])]
theorem many_t (b : List Int) (at_ : Int) (bad : Bool) (hl : b.length ≤ 1000000000000) (hb : ∀ c ∈ b, 0 ≤ c ∧ c < 256) (ha : at_ ≤ 9223372036854775807) : Tells Try.prog E0 X 47 [rdA b at_ bad] (.io [iA (mny b at_ bad).1, rdA b (mny b at_ bad).2.1 (mny b at_ bad).2.2]) := by
  unfold mny
  refine Tells.by Try.func47 (by simp [Try.f47]) (Body.i rfl rfl rfl (fun _ => rfl) fun f => ?_)
  repeat' (first
     | refine wp_seq_i ?_ | refine wp_region_t k_many rfl ?_ | refine Run.done rfl ?_ | refine then_n ?_ | refine then_r ?_ | refine then_e ?_ | refine Run.go1 rfl ?_ | refine wp_skip_i ?_ | refine wp_ret_i ?_
     | refine wp_exit_i ?_ | refine wp_block_i ?_ | refine block_n ?_ | refine block_r ?_ | refine block_e ?_ | refine block_o rfl ?_ | refine wp_cond_t rfl ?_ | refine wp_cond_f rfl ?_
     | refine Run.call rfl rfl rfl (one_t b at_ bad hl hb ha) rfl rfl ?_ | refine Run.call rfl rfl rfl (in_t _ _ _) rfl rfl ?_ | (refine wp_cond_k rfl rfl rfl ?_ ?_ <;> intro _) | (refine wp_cond_i rfl ?_ ?_ <;> intro _))
  all_goals first
  | (refine ret_o [true] [] rfl rfl rfl (by simp) ?_; rename_i h; simp_all; done)
  | trace_state
/-- a list read: so many at most -/
def rdLS (b : List Int) (n : Int) : Nat → Nat → Int → Bool → List Int × Int × Bool
  | 0, _, at_, bad => ([], at_, bad)
  | d + 1, k, at_, bad => if decide ((k : Int) < n) = true ∧ bad = false then ((nxt b at_ bad).1 :: (rdLS b n d (k + 1) (nxt b at_ bad).2.1 (nxt b at_ bad).2.2).1, (rdLS b n d (k + 1) (nxt b at_ bad).2.1 (nxt b at_ bad).2.2).2) else ([], at_, bad)
def rdIns (b : List Int) (at_ : Int) (bad : Bool) : Ins × Int × Bool :=
  let o := nxt b at_ bad
  let d := nxt b o.2.1 o.2.2
  let x := nxt b d.2.1 d.2.2
  let y := nxt b x.2.1 x.2.2
  let n := nxt b y.2.1 y.2.2
  let t := nxt b n.2.1 n.2.2
  let m := nxt b t.2.1 t.2.2
  let l := rdLS b m.1 201 0 m.2.1 m.2.2
  (⟨o.1, d.1, x.1, y.1, n.1, l.1, t.1⟩, l.2)
theorem Next_e {b : List Int} {at_ : Int} {bad : Bool} {o a1 : Int} {b1 : Bool} (h : nxt b at_ bad = (o, a1, b1)) (hl : b.length ≤ 1000000000000) (hb : ∀ c ∈ b, 0 ≤ c ∧ c < 256) (ha : at_ ≤ 9223372036854775807) : Tells Try.prog E0 X 43 [rdA b at_ bad] (.io [iA o, rdA b a1 b1]) := by
  have := Next_t (X := X) b at_ bad hl hb ha
  rw [h] at this; exact this
theorem one_e {b : List Int} {at_ : Int} {bad : Bool} {o a1 : Int} {b1 : Bool} (h : nxt b at_ bad = (o, a1, b1)) (hl : b.length ≤ 1000000000000) (hb : ∀ c ∈ b, 0 ≤ c ∧ c < 256) (ha : at_ ≤ 9223372036854775807) : Tells Try.prog E0 X 70 [rdA b at_ bad] (.io [iA o, rdA b a1 b1]) := by
  have := one_t (X := X) b at_ bad hl hb ha
  rw [h] at this; exact this
theorem many_e {b : List Int} {at_ : Int} {bad : Bool} {o a1 : Int} {b1 : Bool} (h : mny b at_ bad = (o, a1, b1)) (hl : b.length ≤ 1000000000000) (hb : ∀ c ∈ b, 0 ≤ c ∧ c < 256) (ha : at_ ≤ 9223372036854775807) : Tells Try.prog E0 X 47 [rdA b at_ bad] (.io [iA o, rdA b a1 b1]) := by
  have := many_t (X := X) b at_ bad hl hb ha
  rw [h] at this; exact this
theorem nxt_e {b : List Int} {at_ : Int} {bad : Bool} {o a1 : Int} {b1 : Bool} (h : nxt b at_ bad = (o, a1, b1)) (hl : b.length ≤ 1000000000000) (ha : at_ ≤ 9223372036854775807) : a1 ≤ 9223372036854775807 := by
  have := nxt_le (bad := bad) hl ha
  rw [h] at this; exact this
theorem mny_e {b : List Int} {at_ : Int} {bad : Bool} {o a1 : Int} {b1 : Bool} (h : mny b at_ bad = (o, a1, b1)) (hl : b.length ≤ 1000000000000) (ha : at_ ≤ 9223372036854775807) : a1 ≤ 9223372036854775807 := by
  have := mny_le (bad := bad) hl ha
  rw [h] at this; exact this
theorem rdLS_go {b : List Int} {n : Int} {k : Nat} {at_ : Int} {bad : Bool} {v a1 : Int} {b1 : Bool} (hk : k < 201) (hn : (k : Int) < n) (hb : bad = false) (h : nxt b at_ bad = (v, a1, b1)) :
    rdLS b n (201 - k) k at_ bad = (v :: (rdLS b n (201 - (k + 1)) (k + 1) a1 b1).1, (rdLS b n (201 - (k + 1)) (k + 1) a1 b1).2) := by
  rw [show 201 - k = (201 - (k + 1)) + 1 by omega, rdLS, if_pos ⟨decide_eq_true hn, hb⟩, h]
theorem rdLS_stop {b : List Int} {n : Int} {k : Nat} {at_ : Int} {bad : Bool} (hk : k ≤ 201) (h : ¬ ((k : Int) < n ∧ (k : Int) < 201 ∧ bad = false)) : rdLS b n (201 - k) k at_ bad = ([], at_, bad) := by
  rcases Nat.lt_or_ge k 201 with h1 | h1
  · rw [show 201 - k = (201 - (k + 1)) + 1 by omega, rdLS, if_neg (fun hh => h ⟨of_decide_eq_true hh.1, by omega, hh.2⟩)]
  · rw [show 201 - k = 0 by omega, rdLS]
end Go.Proofs

