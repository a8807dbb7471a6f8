import Derived.Test.YtejioaahmgljgaaCB1
import Derived.Lib.SlicesCompact
set_option linter.unusedVariables false
set_option linter.unusedSimpArgs false
set_option maxHeartbeats 4000000
namespace Go.Proofs
open Go Go.Ev
set_option maxRecDepth 100000
variable {X : Rel3}
def Asc (l : List Int) : Prop := l.Pairwise (· < ·)
theorem addGo_true (n : Int) : ∀ l, addGo n true l = l.filter (fun x => decide (x ≠ n))
  | [] => rfl
  | x :: r => by
    rw [addGo, Bool.true_or, addGo_true n r, List.filter_cons]
    by_cases h : x = n <;> simp [h]
theorem addGo_mem (n : Int) : ∀ (put : Bool) (l : List Int) (x : Int), x ∈ addGo n put l ↔ (put = false ∧ x = n) ∨ (x ≠ n ∧ x ∈ l)
  | put, [], x => by cases put <;> simp [addGo]
  | put, y :: r, x => by
    rw [addGo, List.mem_append, List.mem_append, addGo_mem n _ r x]
    by_cases hx : x = n
    · subst hx; cases put <;> by_cases h1 : x ≤ y <;> by_cases h2 : y = x <;> simp [h1, h2] <;> exact fun e => h2 e.symm
    · cases put <;> by_cases h1 : n ≤ y <;> by_cases h2 : y = n <;> simp [h1, h2, hx]
      all_goals (try (intro h; exact absurd (h.trans h2) hx))
theorem addGo_len (n : Int) : ∀ (put : Bool) (l : List Int), (addGo n put l).length ≤ l.length + (if put then 0 else 1)
  | put, [] => by cases put <;> simp [addGo]
  | put, y :: r => by
    rw [addGo]
    have := addGo_len n (put || decide (y ≥ n)) r
    simp only [List.length_append, List.length_cons]
    cases put <;> by_cases h1 : n ≤ y <;> by_cases h2 : y = n <;> simp [h1, h2] at this ⊢ <;> omega
theorem addGo_asc (n : Int) : ∀ (l : List Int), Asc l → Asc (addGo n false l)
  | [], _ => by simp [addGo, Asc]
  | y :: r, h => by
    obtain ⟨h1, h2⟩ := List.pairwise_cons.1 h
    rw [addGo]
    by_cases hy : n ≤ y
    · have ht : (false || decide (y ≥ n)) = true := by simp [hy]
      rw [ht, addGo_true]
      have hf : Asc (r.filter (fun x => decide (x ≠ n))) := h2.filter _
      by_cases e : y = n
      · subst e
        simp only [Bool.not_false, Bool.true_and, ge_iff_le, Int.le_refl, decide_true, if_true, ne_eq, not_true, if_false, List.append_nil, List.singleton_append]
        exact List.pairwise_cons.2 ⟨fun x hx => h1 x (List.mem_filter.1 hx).1, hf⟩
      · simp [hy, e]
        refine List.pairwise_cons.2 ⟨fun x hx => ?_, List.pairwise_cons.2 ⟨fun x hx => h1 x (List.mem_filter.1 hx).1, ?_⟩⟩
        · rcases List.mem_cons.1 hx with rfl | hx
          · omega
          · have := h1 x (List.mem_filter.1 hx).1; omega
        · have hf' := hf; unfold Asc at hf'; simpa using hf'
    · have ht : (false || decide (y ≥ n)) = false := by simp; omega
      have e : y ≠ n := by omega
      rw [ht]
      simp [hy, e]
      refine List.pairwise_cons.2 ⟨fun x hx => ?_, addGo_asc n r h2⟩
      rcases (addGo_mem n false r x).1 hx with ⟨_, rfl⟩ | ⟨_, hx⟩
      · omega
      · exact h1 x hx
theorem asc_ext : ∀ {a b : List Int}, Asc a → Asc b → (∀ x, x ∈ a ↔ x ∈ b) → a = b
  | [], [], _, _, _ => rfl
  | [], y :: r, _, _, h => absurd ((h y).2 (List.mem_cons_self ..)) (by simp)
  | y :: r, [], _, _, h => absurd ((h y).1 (List.mem_cons_self ..)) (by simp)
  | x :: r, y :: s, ha, hb, h => by
    obtain ⟨a1, a2⟩ := List.pairwise_cons.1 ha
    obtain ⟨b1, b2⟩ := List.pairwise_cons.1 hb
    have e : x = y := by
      rcases List.mem_cons.1 ((h x).1 (List.mem_cons_self ..)) with e | h1
      · exact e
      · rcases List.mem_cons.1 ((h y).2 (List.mem_cons_self ..)) with e | h2
        · exact e.symm
        · have := b1 x h1; have := a1 y h2; omega
    subst e
    refine congrArg _ (asc_ext a2 b2 fun z => ⟨fun hz => ?_, fun hz => ?_⟩)
    · rcases List.mem_cons.1 ((h z).1 (List.mem_cons_of_mem _ hz)) with rfl | h1
      · have := a1 z hz; omega
      · exact h1
    · rcases List.mem_cons.1 ((h z).2 (List.mem_cons_of_mem _ hz)) with rfl | h1
      · have := b1 z hz; omega
      · exact h1
/-- in order, each once -/
def ascOf (l : List Int) : List Int := Lib.compact (l.mergeSort fun x y => decide (x ≤ y))
theorem compact_asc {l : List Int} (h : l.Pairwise (· ≤ ·)) : Asc (Lib.compact l) ∧ ∀ x, x ∈ Lib.compact l ↔ x ∈ l := by
  have hp : ∀ i j (hi : i < l.length) (hj : j < l.length), i < j → l[i] ≤ l[j] := fun i j hi hj hij => List.pairwise_iff_getElem.1 h i j hi hj hij
  have key : ∀ m, m ≤ l.length → Asc (Lib.compactUpTo l.toArray m) ∧ (∀ x, x ∈ Lib.compactUpTo l.toArray m ↔ x ∈ l.take m) := by
    intro m
    induction m with
    | zero => intro _; simp [Lib.compactUpTo, Asc]
    | succ m ih =>
      intro hm
      obtain ⟨i1, i2⟩ := ih (by omega)
      have hg : l.toArray[m]! = l[m] := by rw [getElem!_pos l.toArray m (by simp; omega)]; simp
      rw [Lib.compactUpTo_succ, hg]
      have ht : l.take (m + 1) = l.take m ++ [l[m]] := by simp
      by_cases hk : Lib.keeps l.toArray m = true
      · rw [if_pos hk]
        refine ⟨List.pairwise_append.2 ⟨i1, by simp, fun x hx y hy => ?_⟩, fun x => by rw [ht, List.mem_append, List.mem_append, i2 x]⟩
        obtain rfl : y = l[m] := by simpa using hy
        obtain ⟨j, hj, rfl⟩ := List.mem_iff_getElem.1 ((i2 x).1 hx)
        rw [List.length_take] at hj
        rw [List.getElem_take]
        have hm0 : m ≠ 0 := by omega
        have hne : l[m] ≠ l[m - 1] := by
          have e2 : l.toArray[m - 1]! = l[m - 1] := by rw [getElem!_pos l.toArray (m - 1) (by simp; omega)]; simp
          intro e
          unfold Lib.keeps at hk
          rw [hg, e2] at hk
          simp [hm0, e] at hk
        have h1 : l[m - 1] ≤ l[m] := hp _ _ _ _ (by omega)
        have h2 : l[j] ≤ l[m - 1] := by
          by_cases hj1 : j = m - 1
          · subst hj1; omega
          · exact hp _ _ _ _ (by omega)
        omega
      · rw [if_neg hk, List.append_nil]
        refine ⟨i1, fun x => ?_⟩
        rw [i2 x, ht, List.mem_append]
        have hm0 : m ≠ 0 := by intro e; subst e; exact hk (by simp [Lib.keeps])
        have hne : l[m] = l[m - 1] := by
          have e2 : l.toArray[m - 1]! = l[m - 1] := by rw [getElem!_pos l.toArray (m - 1) (by simp; omega)]; simp
          unfold Lib.keeps at hk
          by_cases e : l[m] = l[m - 1]
          · exact e
          · exfalso; apply hk; rw [hg, e2]; simp [e, hm0]
        constructor
        · exact .inl
        · rintro (h | h)
          · exact h
          · obtain rfl : x = l[m] := by simpa using h
            rw [hne]
            exact List.mem_iff_getElem.2 ⟨m - 1, by simp; omega, by simp⟩
  have := key l.length (Nat.le_refl _)
  rw [List.take_length] at this
  exact this
theorem ascOf_asc (l : List Int) : Asc (ascOf l) := (compact_asc (by
  have := List.pairwise_mergeSort (le := fun x y : Int => decide (x ≤ y)) (fun a b c h1 h2 => by simp at *; omega) (fun a b => by simp; omega) l
  exact this.imp fun h => by simpa using h)).1
theorem ascOf_mem (l : List Int) (x : Int) : x ∈ ascOf l ↔ x ∈ l := ((compact_asc (by
  have := List.pairwise_mergeSort (le := fun x y : Int => decide (x ≤ y)) (fun a b c h1 h2 => by simp at *; omega) (fun a b => by simp; omega) l
  exact this.imp fun h => by simpa using h)).2 x).trans List.mem_mergeSort
theorem ascOf_len (l : List Int) : (ascOf l).length ≤ l.length := by
  have : (Lib.compact (l.mergeSort fun x y => decide (x ≤ y))).length ≤ (l.mergeSort fun x y => decide (x ≤ y)).length := by
    unfold Lib.compact Lib.compactUpTo
    rw [List.length_map]
    exact Nat.le_trans (List.length_filter_le ..) (by simp)
  rw [List.length_mergeSort] at this
  exact this
theorem compact_ne {l : List Int} (h : l ≠ []) : Lib.compact l ≠ [] := by
  obtain ⟨n, hn⟩ : ∃ n, l.length = n + 1 := ⟨l.length - 1, by have := List.length_pos_iff.2 h; omega⟩
  have key : ∀ m, Lib.compactUpTo l.toArray (m + 1) ≠ [] := by
    intro m
    induction m with
    | zero => rw [Lib.compactUpTo_succ]; simp [Lib.keeps]
    | succ m ih => rw [Lib.compactUpTo_succ]; intro e; exact ih (List.append_eq_nil_iff.1 e).1
  unfold Lib.compact
  rw [hn]
  exact key n
theorem compact_len (l : List Int) : (Lib.compact l).length ≤ l.length := by
  unfold Lib.compact Lib.compactUpTo
  rw [List.length_map]
  exact Nat.le_trans (List.length_filter_le ..) (by simp)
end Go.Proofs
