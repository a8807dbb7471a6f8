import Derived.Test.YtejioaahmgljgaaCMark
set_option linter.unusedVariables false
set_option linter.unusedSimpArgs false
namespace Go.Proofs
open Go Go.Ev
set_option maxRecDepth 100000
variable {X : Rel3}
theorem set_hit {rows : List (List T)} {j : Nat} {r : List T} (h : j < rows.length) : (rows.set j r)[j]? = some r := by simp [h]
def nx (k : Int) : Int := IntKind.i64.wrap (k + 1)
def mkIns (i : Ins) (k : Int) : Ins × Int :=
  (⟨k, nx k, nx (nx k), nx (nx (nx k)), nx (nx (nx (nx k))), (mk i.l (nx (nx (nx (nx (nx k)))))).1, (mk i.l (nx (nx (nx (nx (nx k)))))).2⟩, nx (mk i.l (nx (nx (nx (nx (nx k)))))).2)
def mkInsS : List Ins → Int → List Ins × Int
  | [], k => ([], k)
  | i :: r, k => ((mkIns i k).1 :: (mkInsS r (mkIns i k).2).1, (mkInsS r (mkIns i k).2).2)
theorem mkInsS_snoc (l : List Ins) (x : Ins) (k : Int) : mkInsS (l ++ [x]) k = ((mkInsS l k).1 ++ [(mkIns x (mkInsS l k).2).1], (mkIns x (mkInsS l k).2).2) := by
  induction l generalizing k with
  | nil => rfl
  | cons y l ih => simp [mkInsS, ih]
theorem mkInsS_len (l : List Ins) (k : Int) : (mkInsS l k).1.length = l.length := by
  induction l generalizing k with
  | nil => rfl
  | cons y l ih => simp [mkInsS, ih]
theorem markInsS_t (l : List Ins) (k : Int) (hl : l.length ≤ 9223372036854775807) (hll : ∀ i ∈ l, i.l.length ≤ 9223372036854775807) : Tells Try.prog E0 X 63 [.t (.sl true (l.map (Ins.c true))), iA k] (.io [iA (mkInsS l k).2, .t (.sl true ((mkInsS l k).1.map (Ins.c true))), .u]) := by
  refine Tells.by Try.func63 (by simp [Try.f63]) (Body.i rfl rfl rfl (fun _ => rfl) fun f => ?_)
  repeat' (first
    | refine wp_seq_i ?_ | refine wp_region_i ?_ | refine Run.done rfl ?_ | refine then_n ?_ | refine then_r ?_ | refine then_e ?_ | refine Run.go1 rfl ?_
    | refine wp_skip_i ?_ | refine wp_ret_i ?_ | refine wp_exit_i ?_ | refine wp_block_i ?_ | refine block_n ?_ | refine block_r ?_ | refine block_e ?_ | refine block_o rfl ?_
    | refine wp_cond_t rfl ?_ | refine wp_cond_f rfl ?_
    | (refine wp_cond_i rfl ?_ ?_ <;> intro _))
  refine wp_loop_k (α := Nat × Int × List Ins) [.keep [0, 1, 4, 5] [100000]] (fun p => [(1, iA p.2.1), (5, iA p.1)]) (fun _ => []) (fun p => [(100000, ⟨0, some (f 100000)⟩, p.2.2.map (Ins.c true))]) (fun p => p.1 ≤ l.length ∧ p.2.1 = (mkInsS (l.take p.1) k).2 ∧ p.2.2 = (mkInsS (l.take p.1) k).1 ++ l.drop p.1) (fun p => l.length - p.1) (0, k, l) rfl (fun _ => rfl) rfl ⟨by simp, by simp [mkInsS], by simp [mkInsS]⟩ ?_
  rintro ⟨j, c, m⟩ ⟨hj, hc, hm⟩
  simp only at hj hc hm
  have hml : m.length = l.length := by rw [hm]; simp [mkInsS_len]; omega
  by_cases hlt : j < l.length
  · have hj' : j < m.length := by omega
    have hx : (m.map (Ins.c true))[j]? = some (Ins.c true m[j]) := by simp [hj']
    have ht : l.take (j + 1) = l.take j ++ [l[j]] := by simp
    have hmj : m[j] = l[j] := by subst hm; rw [List.getElem_append_right (by simp [mkInsS_len]; omega)]; simp [mkInsS_len, Nat.min_eq_left hj]
    have hlj : m[j].l.length ≤ 9223372036854775807 := by rw [hmj]; exact hll _ (List.getElem_mem _)
    repeat' (first
      | refine wp_seq_i ?_ | refine wp_region_i ?_ | refine Run.done rfl ?_ | refine then_n ?_ | refine then_r ?_ | refine then_e ?_ | refine Run.go1 rfl ?_
      | refine wp_skip_i ?_ | refine wp_ret_i ?_ | refine wp_exit_i ?_ | refine wp_block_i ?_ | refine block_n ?_ | refine block_r ?_ | refine block_e ?_ | refine block_o rfl ?_
      | refine wp_cond_t rfl ?_ | refine wp_cond_f rfl ?_
      | refine Run.ix rfl rfl rfl rfl rfl rfl rfl hx rfl rfl rfl ?_ | refine Run.str rfl rfl rfl rfl rfl rfl hx rfl rfl ?_ | refine Run.ix rfl rfl rfl rfl rfl rfl rfl (set_hit (by simp [hj'])) rfl rfl rfl ?_ | refine Run.str rfl rfl rfl rfl rfl rfl (set_hit (by simp [hj'])) rfl rfl ?_
      | refine Run.adjw (.hole 100000 j 5 900000 _ _ _ _ _ _ rfl (set_hit (by simp [hj'])) rfl (fun _ => rfl) fun u => .done _ (Run.ldr rfl rfl rfl (set_hit (by simp [hj'])) rfl rfl (Run.go1 rfl (Run.adjw (.tell 51 900000 _ _ _ _ _ rfl rfl rfl rfl (.done _ (Run.call rfl rfl rfl (markIntS_t _ _ hlj) rfl rfl (Run.adjw (.fill 100000 j 5 900000 _ _ _ _ _ _ _ rfl (set_hit (by simp [hj'])) rfl rfl rfl (.done _ ?_))))))))))
      | (refine wp_cond_i rfl ?_ ?_ <;> intro _))
    · refine back_i [.keep [0, 1, 4, 5] [100000]] (j + 1, (mkIns m[j] c).2, m.set j (mkIns m[j] c).1) rfl ?_ ⟨by simp; omega, ?_, ?_⟩ (by simp; omega)
      · simp only [List.map_set, List.set_set, w_succ hlt hl, mkIns, nx]
      · rw [ht, mkInsS_snoc, hmj, hc]
      · rw [ht, mkInsS_snoc, hmj, ← hc]
        conv => lhs; rw [hm]
        rw [List.drop_eq_getElem_cons hlt, List.set_append_right _ _ (by simp [mkInsS_len]; omega)]
        simp only [mkInsS_len, List.length_take, Nat.min_eq_left hj, Nat.sub_self, List.set_cons_zero, List.append_assoc, List.singleton_append]
    · rename_i h; simp [hml, hlt] at h
  · have hjl : j = l.length := by omega
    repeat' (first
      | refine wp_seq_i ?_ | refine wp_region_i ?_ | refine Run.done rfl ?_ | refine then_n ?_ | refine then_r ?_ | refine then_e ?_ | refine Run.go1 rfl ?_
      | refine wp_skip_i ?_ | refine wp_ret_i ?_ | refine wp_exit_i ?_ | refine wp_block_i ?_ | refine block_n ?_ | refine block_r ?_ | refine block_e ?_ | refine block_o rfl ?_
      | refine wp_cond_t rfl ?_ | refine wp_cond_f rfl ?_
      | (refine wp_cond_i rfl ?_ ?_ <;> intro _))
    · rename_i h; simp [hml, hjl] at h
    · refine ret_o [true] [] rfl rfl rfl ⟨rfl, trivial⟩ ?_
      subst hjl
      simp [hc, hm]
end Go.Proofs
