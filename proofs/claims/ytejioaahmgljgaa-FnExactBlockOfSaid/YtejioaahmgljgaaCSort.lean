/- slices.Sort and slices.Compact (by the shelf's contracts, laid at this program), and what is told of them from outside. -/
import Derived.Test.YtejioaahmgljgaaCAsc
import Derived.Test.YtejioaahmgljgaaCLay
import Derived.WalkKit
set_option linter.unusedVariables false
set_option linter.unusedSimpArgs false
set_option maxHeartbeats 4000000
namespace Go.Proofs
open Go Go.Ev Go.Shelf Go.Sort
set_option maxRecDepth 100000
/-- only the block b's cells have turned, and what is new -/
structure KB (b : Nat) (w w' : World) : Prop where
  os : w'.os = w.os
  tape : w'.tape = w.tape
  output : w'.output = w.output
  size : w.heap.size ≤ w'.heap.size
  other : ∀ k, k < w.heap.size → k ≠ b → w'.heap[k]? = w.heap[k]?
  cells : ∀ cs ty fr, w.heap[b]? = some (.cells cs ty fr) → ∃ cs', w'.heap[b]? = some (.cells cs' ty fr) ∧ cs'.size = cs.size
theorem KB.refl (b : Nat) (w : World) : KB b w w := ⟨rfl, rfl, rfl, Nat.le_refl _, fun _ _ _ => rfl, fun cs _ _ h => ⟨cs, h, rfl⟩⟩
theorem KB.trans {b : Nat} {w w1 w2 : World} (h : KB b w w1) (h' : KB b w1 w2) : KB b w w2 :=
  ⟨h'.os.trans h.os, h'.tape.trans h.tape, h'.output.trans h.output, Nat.le_trans h.size h'.size, fun k hk hb => (h'.other k (Nat.lt_of_lt_of_le hk h.size) hb).trans (h.other k hk hb),
    fun cs ty fr hc => by
      obtain ⟨c1, e1, s1⟩ := h.cells cs ty fr hc
      obtain ⟨c2, e2, s2⟩ := h'.cells c1 ty fr e1
      exact ⟨c2, e2, s2.trans s1⟩⟩
theorem KB.ahead (b n : Nat) (w : World) : KB b w (Sort.ahead w n) := ⟨rfl, rfl, rfl, Nat.le_refl _, fun _ _ _ => rfl, fun cs _ _ h => ⟨cs, h, rfl⟩⟩
theorem KB.row {α : Type} [Inhabited α] (enc : α → Value) (b off : Nat) (d : Array α) (w : World) : KB b w (putRow enc w b off d) := by
  refine ⟨rfl, rfl, rfl, by simp, fun k _ hk => ?_, fun cs ty fr h => ⟨putCells enc off d cs, ?_, by simp [putCells]⟩⟩
  · simp [putRow, mapBlock, Array.getElem?_modify, Ne.symm hk]
  · simp [putRow, mapBlock, Array.getElem?_modify, h, onCells]
theorem KB.grow {b : Nat} {w w' : World} (h : KB b w w') (hb : b < w.heap.size) (os : Array Obj) : KB b w (Sort.grow w' os) := by
  have hs := h.size
  refine ⟨h.os, h.tape, h.output, by simp; omega, fun k hk hn => ?_, fun cs ty fr hc => ?_⟩
  · rw [← h.other k hk hn]; simp only [Sort.grow]; rw [Array.getElem?_append_left (by omega)]
  · obtain ⟨c, e, s⟩ := h.cells cs ty fr hc
    exact ⟨c, by simp only [Sort.grow]; rw [Array.getElem?_append_left (by omega)]; exact e, s⟩
theorem holds_grow {α : Type} [Inhabited α] {enc : α → Value} {w : World} {b off : Nat} {d : Array α} (h : Holds enc w b off d) (os : Array Obj) : Holds enc (Sort.grow w os) b off d := by
  intro j hj
  obtain ⟨h1, h2⟩ := h j hj
  obtain ⟨c, e, fr, hb, hc⟩ := cells_of_cell? h1
  have hlt : b < w.heap.size := by
    rcases Nat.lt_or_ge b w.heap.size with h | h
    · exact h
    · rw [Array.getElem?_eq_none h] at hb; cases hb
  have he : (Sort.grow w os).heap[b]? = w.heap[b]? := by simp only [Sort.grow]; rw [Array.getElem?_append_left hlt]
  refine ⟨?_, ?_⟩
  · rw [← h1]; simp only [World.cell?, he]
  · rw [← h2]; simp only [World.frozen?, he]
abbrev eI : Int → Value := Value.int .i64
theorem sort_c (b off cap : Nat) (zs : List Int) (w : World) (hH : Holds eI w b off zs.toArray) (hb : b < w.heap.size) (hz : zs.length < 4611686018427387904) :
    Calls Try.prog 84 #[.slice (some ⟨b, off, none⟩) zs.length cap] w fun e w' => e = .returned (.tuple #[]) ∧ Holds eI w' b off (zs.mergeSort fun x y => decide (x ≤ y)).toArray ∧ KB b w w' := by
  refine (Any.slices_Sort_int Try.laysSort b off cap zs w hH hb hz).mono ?_
  rintro e w' ⟨he, n, os, rfl⟩
  refine ⟨he, holds_grow (holds_putRow eI _ b off zs.toArray _ (holds_ahead eI w n b off _ hH) (by simp)) os, KB.grow ((KB.ahead b n w).trans (KB.row ..)) hb os⟩
theorem sort_n (a : Option Addr) (cap : Nat) (w : World) : Calls Try.prog 84 #[.slice a 0 cap] w fun e w' => e = .returned (.tuple #[]) ∧ w' = w :=
  Any.slices_Sort_int_none Try.laysSort a cap w
theorem comp_c (b off cap : Nat) (zs : List Int) (w : World) (hH : Holds eI w b off zs.toArray) (hz : zs.length ≤ 9223372036854775807) (hc : zs.length ≤ cap) :
    Calls Try.prog 85 #[.slice (some ⟨b, off, none⟩) zs.length cap] w fun e w' => e = .returned (.slice (some ⟨b, off, none⟩) (Lib.compact zs).length cap) ∧ Holds eI w' b off (Lib.compact zs ++ List.replicate (zs.length - (Lib.compact zs).length) 0).toArray ∧ KB b w w' := by
  refine (calls_of_every_depth fun D => AnyS.slices_Compact_int_in Try.laysCompact D b off cap zs w hH hz hc).mono ?_
  rintro e w' ⟨he, n, rfl⟩
  have hl := compact_len zs
  exact ⟨he, holds_putRow eI _ b off zs.toArray _ (holds_ahead eI w n b off _ hH) (by simp; omega), (KB.ahead b n w).trans (KB.row ..)⟩
theorem comp_n (a : Option Addr) (cap : Nat) (w : World) : Calls Try.prog 85 #[.slice a 0 cap] w fun e w' => e = .returned (.slice a 0 cap) ∧ w' = w :=
  calls_of_every_depth fun D => AnyS.slices_Compact_int_empty_in Try.laysCompact D a cap w
theorem own_holds {w : World} {B F : Nat → Prop} {l : List Int} {v : Value} (h : Own w B (.sl true (l.map iR)) v F) :
    (l = [] ∧ ∃ a cap, v = .slice a 0 cap) ∨ (l ≠ [] ∧ ∃ b off cap cs ty, v = .slice (some ⟨b, off, none⟩) l.length cap ∧ w.heap[b]? = some (.cells cs ty (0, 0)) ∧ off + cap ≤ cs.size ∧ l.length ≤ cap ∧ F b ∧ Holds eI w b off l.toArray) := by
  by_cases hl0 : l = []
  · subst hl0
    refine .inl ⟨rfl, ?_⟩
    cases h with
    | nil => exact ⟨_, _, rfl⟩
    | sl => exact ⟨_, _, rfl⟩
  · refine .inr ⟨hl0, ?_⟩
    have hlen : 0 < l.length := List.length_pos_iff.2 hl0
    generalize hrows : l.map iR = rows at h
    cases h with
    | nil => exact absurd (by simpa using hrows) hl0
    | sl _ b off cap sz us Fs F cs ty hh hcap hc hl hw hrr hoo hdd hbb hFb hFF htt =>
      subst hrows
      have hsz : sz = 1 := by
        have := hl 0 (iR l[0]) (by simp [hlen])
        simpa using this.symm
      subst hsz
      have hval : ∀ j (hj : j < l.length), us j 0 = .int .i64 l[j] := fun j hj => by
        have := hrr j (iR l[j]) 0 (iT l[j]) (by simp [hj]) rfl
        generalize us j 0 = u at this
        cases this; rfl
      refine ⟨b, off, cap, cs, ty, by rw [List.length_map], hh, by simpa using hcap, by simpa using hc, hFb, ?_⟩
      intro j hj
      have hj' : j < l.length := by simpa using hj
      have h3 := hw j (iR l[j]) 0 (iT l[j]) (by simp [hj']) rfl
      rw [hval j hj', Nat.mul_one, Nat.add_zero] at h3
      refine ⟨?_, ?_⟩
      · simp only [World.cell?, hh]
        rw [getElem!_pos l.toArray j hj]
        simp [h3]
      · simp [World.frozen?, hh]
theorem holds_own {w : World} {B : Nat → Prop} {l r : List Int} {b off cap : Nat} {cs : Array Value} {ty : TypeId} (hh : w.heap[b]? = some (.cells cs ty (0, 0))) (hcap : off + cap ≤ cs.size) (hc : l.length ≤ cap) (hl : l ≠ []) (hR : Holds eI w b off (l ++ r).toArray) :
    Own w B (.sl true (l.map iR)) (.slice (some ⟨b, off, none⟩) l.length cap) (fun k => k = b) := by
  have hcell : ∀ j (hj : j < l.length), cs[off + j]? = some (.int .i64 l[j]) := fun j hj => by
    obtain ⟨h4, _⟩ := hR j (by simp; omega)
    simp only [World.cell?, hh] at h4
    rw [getElem!_pos _ j (by simp; omega)] at h4
    simpa [List.getElem_append_left hj] using h4
  have := Own.sl (w := w) (B := B) (l.map iR) b off cap 1 (fun i _ => .int .i64 (l[i]?.getD 0)) (fun _ _ _ => False) (fun k => k = b) cs ty hh (by simpa using hcap) (by simpa using hc)
    (fun i r h => by
      obtain ⟨x, _, rfl⟩ := List.mem_map.1 (List.mem_of_getElem? h); rfl)
    (fun i r k x hi hk => by
      rw [List.getElem?_map, Option.map_eq_some_iff] at hi
      obtain ⟨z, hz1, rfl⟩ := hi
      obtain ⟨hi1, rfl⟩ := List.getElem?_eq_some_iff.1 hz1
      cases k with
      | zero => rw [Nat.mul_one, Nat.add_zero, hcell i hi1]; simp [hi1]
      | succ k => simp at hk)
    (fun i r k x hi hk => by
      rw [List.getElem?_map, Option.map_eq_some_iff] at hi
      obtain ⟨z, hz1, rfl⟩ := hi
      cases k with
      | zero => simp at hk; subst hk; rw [hz1]; exact .sc _ _
      | succ k => simp at hk)
    (fun i r k x hi hk => rfl)
    (fun _ _ _ _ _ h => h.elim) (fun _ _ h => h) rfl (fun _ _ _ h => h.elim)
    (fun h => absurd (by simpa using h) hl)
  rw [List.length_map] at this
  exact this
theorem fam_one {w : World} {B Fin : Nat → Prop} {t : T} {vs : List Value} (h : Fam (VS w B) [.t t] vs Fin) : ∃ v G, vs = [v] ∧ Own w B t v G ∧ ∀ b, G b → Fin b := by
  cases h with
  | cons x xs v vs' G F' _ hx hr hd h1 h2 =>
  cases hr
  rcases hx with ⟨y, hy, ho⟩ | ⟨cs, us, h, _⟩
  · cases hy; exact ⟨_, _, rfl, ho, h1⟩
  · cases h
/-- slices.Sort at []int, told from outside: what is handed on for good is in order behind it. -/
theorem sort_sound (l : List Int) (hz : l.length < 4611686018427387904) : Sound Try.prog 84 [.t (.sl true (l.map iR))] (.io [.tp [], .t (.sl true ((l.mergeSort fun x y => decide (x ≤ y)).map iR))]) := by
  refine ⟨⟨Try.f84, Try.func84, rfl, by simp [Try.f84]⟩, ?_⟩
  intro w vs B Fin hB hF hfam
  obtain ⟨v, G, rfl, ho, hG⟩ := fam_one hfam
  rcases own_holds ho with ⟨rfl, a, cap, rfl⟩ | ⟨hl0, b, off, cap, cs, ty, rfl, hh, hcap, hc, hb, hH⟩
  · refine (sort_n a cap w).mono ?_
    rintro e w' ⟨rfl, rfl⟩
    exact ⟨_, B, G, rfl, .inr ⟨_, _, fun _ => False, G, rfl, .inr ⟨[], [], rfl, rfl, .nil _⟩, .cons _ _ _ _ G (fun _ => False) G (.inr (.inl ⟨_, rfl, by rw [List.mergeSort_nil]; exact ho⟩)) (.nil _) (fun _ _ h => h) (fun _ h => h) (fun _ h => h.elim), fun _ h => h.elim, fun _ h => h.elim, fun _ h => h⟩,
      fun k hk => ⟨(hB k hk).1, fun h => (hB k hk).2 (hG k h), .inl hk⟩, fun k h => ⟨hF k (hG k h), .inl (hG k h)⟩, Keeps.refl _ _⟩
  · have hlt : b < w.heap.size := hF b (hG b hb)
    refine (sort_c b off cap l w hH hlt hz).mono ?_
    rintro e w' ⟨rfl, hR, hk⟩
    obtain ⟨cs', hh', hs'⟩ := hk.cells cs ty _ hh
    have hne : l.mergeSort (fun x y => decide (x ≤ y)) ≠ [] := fun h => hl0 (by have := congrArg List.length h; simpa using this)
    have hO := holds_own (B := B) (r := []) hh' (by rw [hs']; exact hcap) (by simpa using hc) hne (by simpa using hR)
    rw [List.length_mergeSort] at hO
    exact ⟨_, B, fun k => k = b, rfl, .inr ⟨_, _, fun _ => False, fun k => k = b, rfl, .inr ⟨[], [], rfl, rfl, .nil _⟩, .cons _ _ _ _ (fun k => k = b) (fun _ => False) _ (.inr (.inl ⟨_, rfl, hO⟩)) (.nil _) (fun _ _ h => h) (fun _ h => h) (fun _ h => h.elim), fun _ h => h.elim, fun _ h => h.elim, fun _ h => h⟩,
      fun k hk' => ⟨Nat.lt_of_lt_of_le (hB k hk').1 hk.size, fun h => (hB k hk').2 (h ▸ hG b hb), .inl hk'⟩, fun k h => by subst h; exact ⟨Nat.lt_of_lt_of_le hlt hk.size, .inl (hG _ hb)⟩,
      ⟨hk.os, hk.tape, hk.output, hk.size, fun k hk1 hk2 => hk.other k hk1 fun e => hk2 (e ▸ hG b hb)⟩⟩
/-- slices.Compact at []int, told from outside. -/
theorem comp_sound (l : List Int) (hz : l.length ≤ 9223372036854775807) : Sound Try.prog 85 [.t (.sl true (l.map iR))] (.t (.sl true ((Lib.compact l).map iR))) := by
  refine ⟨⟨Try.f85, Try.func85, rfl, by simp [Try.f85]⟩, ?_⟩
  intro w vs B Fin hB hF hfam
  obtain ⟨v, G, rfl, ho, hG⟩ := fam_one hfam
  rcases own_holds ho with ⟨rfl, a, cap, rfl⟩ | ⟨hl0, b, off, cap, cs, ty, rfl, hh, hcap, hc, hb, hH⟩
  · refine (comp_n a cap w).mono ?_
    rintro e w' ⟨rfl, rfl⟩
    exact ⟨_, B, G, rfl, .inl (.inl (.inl ⟨_, rfl, ho⟩)), fun k hk => ⟨(hB k hk).1, fun h => (hB k hk).2 (hG k h), .inl hk⟩, fun k h => ⟨hF k (hG k h), .inl (hG k h)⟩, Keeps.refl _ _⟩
  · have hlt : b < w.heap.size := hF b (hG b hb)
    refine (comp_c b off cap l w hH hz hc).mono ?_
    rintro e w' ⟨rfl, hR, hk⟩
    obtain ⟨cs', hh', hs'⟩ := hk.cells cs ty _ hh
    have hle := compact_len l
    have hO := holds_own (B := B) hh' (by rw [hs']; exact hcap) (by omega) (compact_ne hl0) hR
    exact ⟨_, B, fun k => k = b, rfl, .inl (.inl (.inl ⟨_, rfl, hO⟩)),
      fun k hk' => ⟨Nat.lt_of_lt_of_le (hB k hk').1 hk.size, fun h => (hB k hk').2 (h ▸ hG b hb), .inl hk'⟩, fun k h => by subst h; exact ⟨Nat.lt_of_lt_of_le hlt hk.size, .inl (hG _ hb)⟩,
      ⟨hk.os, hk.tape, hk.output, hk.size, fun k hk1 hk2 => hk.other k hk1 fun e => hk2 (e ▸ hG b hb)⟩⟩
/-- what is told from outside -/
def XS : Rel3 := fun f args r => (∃ l : List Int, l.length < 4611686018427387904 ∧ f = 84 ∧ args = [.t (.sl true (l.map iR))] ∧ r = .io [.tp [], .t (.sl true ((l.mergeSort fun x y => decide (x ≤ y)).map iR))]) ∨
  (∃ l : List Int, l.length ≤ 9223372036854775807 ∧ f = 85 ∧ args = [.t (.sl true (l.map iR))] ∧ r = .t (.sl true ((Lib.compact l).map iR)))
theorem XS_sound (f : FuncId) (args : List AV) (r : AV) (h : XS f args r) : Sound Try.prog f args r := by
  rcases h with ⟨l, hl, rfl, rfl, rfl⟩ | ⟨l, hl, rfl, rfl, rfl⟩
  · exact sort_sound l hl
  · exact comp_sound l hl
theorem Sort_t (l : List Int) (hz : l.length < 4611686018427387904) : Tells Try.prog E0 XS 84 [.t (.sl true (l.map iR))] (.io [.tp [], .t (.sl true ((l.mergeSort fun x y => decide (x ≤ y)).map iR))]) := Tells.of (.inl ⟨l, hz, rfl, rfl, rfl⟩)
theorem Compact_t (l : List Int) (hz : l.length ≤ 9223372036854775807) : Tells Try.prog E0 XS 85 [.t (.sl true (l.map iR))] (.t (.sl true ((Lib.compact l).map iR))) := Tells.of (.inr ⟨l, hz, rfl, rfl, rfl⟩)
end Go.Proofs
