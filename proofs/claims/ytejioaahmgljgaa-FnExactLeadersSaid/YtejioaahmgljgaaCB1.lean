import Derived.Test.YtejioaahmgljgaaCMB
set_option linter.unusedVariables false
set_option linter.unusedSimpArgs false
set_option maxHeartbeats 4000000
namespace Go.Proofs
open Go Go.Ev
set_option maxRecDepth 100000
variable {X : Rel3}
/-- what is added to a list in order -/
def addGo (n : Int) : Bool → List Int → List Int
  | put, [] => if put then [] else [n]
  | put, x :: r => (if !put && decide (x ≥ n) then [n] else []) ++ (if x ≠ n then [x] else []) ++ addGo n (put || decide (x ≥ n)) r
theorem l10Add_t (l : List Int) (n : Int) (hl : l.length ≤ 1000000000000) : Tells Try.prog E0 X 75 [.t (.sl false (l.map iR)), iA n] (.t (.sl true ((addGo n false l).map iR))) := by
  refine Tells.by Try.func75 (by simp [Try.f75]) (Body.i rfl rfl rfl (fun _ => rfl) fun f => ?_)
  repeat' (first
     | refine wp_seq_i ?_ | refine wp_region_i ?_ | refine Run.done rfl ?_ | refine then_n ?_ | refine then_r ?_ | refine then_e ?_ | refine Run.go1 rfl ?_ | refine wp_skip_i ?_ | refine wp_ret_i ?_ | refine wp_exit_i ?_
     | refine wp_block_i ?_ | refine block_n ?_ | refine block_r ?_ | refine block_e ?_ | refine block_o rfl ?_ | refine wp_cond_t rfl ?_ | refine wp_cond_f rfl ?_
     | refine Run.cnd rfl rfl rfl ⟨by simp; omega, by simp, by simp, .inl rfl, by simp [flatT]⟩ ?_ | (refine wp_cond_k rfl rfl rfl ?_ ?_ <;> intro _) | (refine wp_cond_i rfl ?_ ?_ <;> intro _))
  refine wp_loop_k (α := Nat × List Int × Bool) [.keep [0, 1, 5, 6, 7] [8]] (fun p => [(6, bA p.2.2), (7, iA p.1)]) (fun _ => []) (fun p => [(8, 0, p.2.1.map iR)]) (fun p => p.1 ≤ l.length ∧ p.2.1.length ≤ 2 * p.1 ∧ p.2.1 ++ addGo n p.2.2 (l.drop p.1) = addGo n false l) (fun p => l.length - p.1) (0, [], false) rfl (fun _ => rfl) rfl ⟨by simp, by simp, by simp⟩ ?_
  rintro ⟨j, c, put⟩ ⟨hj, hc, he⟩
  simp only at hj hc he
  by_cases hlt : j < l.length
  · have hx : (l.map iR)[j]? = some (iR l[j]) := by simp [hlt]
    repeat' (first
       | refine wp_seq_i ?_ | refine wp_region_i ?_ | refine Run.done rfl ?_ | refine then_n ?_ | refine then_r ?_ | refine then_e ?_ | refine Run.go1 rfl ?_ | refine wp_skip_i ?_ | refine wp_ret_i ?_ | refine wp_exit_i ?_
       | refine wp_block_i ?_ | refine block_n ?_ | refine block_r ?_ | refine block_e ?_ | refine block_o rfl ?_ | refine wp_cond_t rfl ?_ | refine wp_cond_f rfl ?_ | refine Run.gT rfl rfl rfl rfl ?_ | refine Run.pT rfl rfl ?_
       | (refine Run.splitG rfl rfl rfl rfl rfl rfl ?_ ?_ <;> intro _) | (refine Run.splitP rfl rfl rfl rfl ?_ ?_ <;> intro _) | refine Run.ix rfl rfl rfl rfl rfl rfl rfl hx rfl rfl rfl ?_
       | refine Run.cnd rfl rfl rfl ⟨by simp; omega, (by intro r hr; simp at hr; first | (rcases hr with ⟨a, _, rfl⟩ | rfl <;> rfl) | (obtain ⟨a, _, rfl⟩ := hr; rfl)), by simp, .inl rfl, by simp [flatT]⟩ ?_
       | (refine wp_cond_k rfl rfl rfl ?_ ?_ <;> intro _) | (refine wp_cond_i rfl ?_ ?_ <;> intro _))
    all_goals (try (exfalso; simp [hlt] at *; done))
    all_goals cases put
    all_goals first
    | (exfalso; simp at *; done)
    | (refine back_i [.keep [0, 1, 5, 6, 7] [41], .ren 41 8] (j + 1, c ++ [n] ++ [l[j]], true) rfl ?_ ⟨by simp; omega, by simp at hc ⊢; omega, ?_⟩ (by simp; omega)
       · simp only [List.map_append, List.map_cons, List.map_nil, w_succ hlt (by omega)]; try first | rfl | simp_all
       · (rw [← he, List.drop_eq_getElem_cons hlt, addGo]; first | (simp_all; done) | (by_cases p1 : n ≤ l[j] <;> by_cases p2 : l[j] = n <;> simp [p1, p2] at * <;> first | done | omega)); done)
    | (refine back_i [.keep [0, 1, 5, 6, 7] [28], .ren 28 8] (j + 1, c ++ [n], true) rfl ?_ ⟨by simp; omega, by simp at hc ⊢; omega, ?_⟩ (by simp; omega)
       · simp only [List.map_append, List.map_cons, List.map_nil, w_succ hlt (by omega)]; try first | rfl | simp_all
       · (rw [← he, List.drop_eq_getElem_cons hlt, addGo]; first | (simp_all; done) | (by_cases p1 : n ≤ l[j] <;> by_cases p2 : l[j] = n <;> simp [p1, p2] at * <;> first | done | omega)); done)
    | (refine back_i [.keep [0, 1, 5, 6, 7] [41], .ren 41 8] (j + 1, c ++ [l[j]], true) rfl ?_ ⟨by simp; omega, by simp at hc ⊢; omega, ?_⟩ (by simp; omega)
       · simp only [List.map_append, List.map_cons, List.map_nil, w_succ hlt (by omega)]; try first | rfl | simp_all
       · (rw [← he, List.drop_eq_getElem_cons hlt, addGo]; first | (simp_all; done) | (by_cases p1 : n ≤ l[j] <;> by_cases p2 : l[j] = n <;> simp [p1, p2] at * <;> first | done | omega)); done)
    | (refine back_i [.keep [0, 1, 5, 6, 7] [41], .ren 41 8] (j + 1, c ++ [l[j]], false) rfl ?_ ⟨by simp; omega, by simp at hc ⊢; omega, ?_⟩ (by simp; omega)
       · simp only [List.map_append, List.map_cons, List.map_nil, w_succ hlt (by omega)]; try first | rfl | simp_all
       · (rw [← he, List.drop_eq_getElem_cons hlt, addGo]; first | (simp_all; done) | (by_cases p1 : n ≤ l[j] <;> by_cases p2 : l[j] = n <;> simp [p1, p2] at * <;> first | done | omega)); done)
    | (refine back_i [.keep [0, 1, 5, 6, 7] [8]] (j + 1, c, true) rfl ?_ ⟨by simp; omega, by simp at hc ⊢; omega, ?_⟩ (by simp; omega)
       · simp only [List.map_append, List.map_cons, List.map_nil, w_succ hlt (by omega)]; try first | rfl | simp_all
       · (rw [← he, List.drop_eq_getElem_cons hlt, addGo]; first | (simp_all; done) | (by_cases p1 : n ≤ l[j] <;> by_cases p2 : l[j] = n <;> simp [p1, p2] at * <;> first | done | omega)); done)
    | (refine back_i [.keep [0, 1, 5, 6, 7] [8]] (j + 1, c, false) rfl ?_ ⟨by simp; omega, by simp at hc ⊢; omega, ?_⟩ (by simp; omega)
       · simp only [List.map_append, List.map_cons, List.map_nil, w_succ hlt (by omega)]; try first | rfl | simp_all
       · (rw [← he, List.drop_eq_getElem_cons hlt, addGo]; first | (simp_all; done) | (by_cases p1 : n ≤ l[j] <;> by_cases p2 : l[j] = n <;> simp [p1, p2] at * <;> first | done | omega)); done)
  · have hjl : j = l.length := by omega
    subst hjl
    rw [List.drop_length] at he
    repeat' (first
       | refine wp_seq_i ?_ | refine wp_region_i ?_ | refine Run.done rfl ?_ | refine then_n ?_ | refine then_r ?_ | refine then_e ?_ | refine Run.go1 rfl ?_ | refine wp_skip_i ?_ | refine wp_ret_i ?_ | refine wp_exit_i ?_
       | refine wp_block_i ?_ | refine block_n ?_ | refine block_r ?_ | refine block_e ?_ | refine block_o rfl ?_ | refine wp_cond_t rfl ?_ | refine wp_cond_f rfl ?_
       | refine Run.cnd rfl rfl rfl ⟨by simp; omega, by simp, by simp, .inl rfl, by simp [flatT]⟩ ?_
       | refine Run.cnd rfl rfl rfl ⟨by simp; omega, (by intro r hr; simp at hr; first | (rcases hr with ⟨a, _, rfl⟩ | rfl <;> rfl) | (obtain ⟨a, _, rfl⟩ := hr; rfl)), by simp, .inl rfl, by simp [flatT]⟩ ?_
       | (refine wp_cond_k rfl rfl rfl ?_ ?_ <;> intro _) | (refine wp_cond_i rfl ?_ ?_ <;> intro _))
    all_goals cases put
    all_goals first
    | (exfalso; simp at *; done)
    | (refine ret_m [] rfl rfl ?_; rw [← he]; simp [addGo]; done)
end Go.Proofs
