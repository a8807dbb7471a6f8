import Derived.Test.YtejioaahmgljgaaCB1
set_option linter.unusedVariables false
set_option linter.unusedSimpArgs false
set_option maxHeartbeats 4000000
namespace Go.Proofs
open Go Go.Ev
set_option maxRecDepth 100000
variable {X : Rel3}
/-- the last place of what is not above i -/
def blk (i : Int) : List Int → Nat → Int → Int
  | [], _, b => b
  | x :: r, k, b => blk i r (k + 1) (if x ≤ i then (k : Int) else b)
theorem l20BlockOf_t (l : List Int) (i : Int) (hl : l.length ≤ 1000000000000) : Tells Try.prog E0 X 54 [.t (.sl false (l.map iR)), iA i] (iA (blk i l 0 (-1))) := by
  refine Tells.by Try.func54 (by simp [Try.f54]) (Body.i rfl rfl rfl (fun _ => rfl) fun f => ?_)
  repeat' (first
     | refine wp_seq_i ?_ | refine wp_region_i ?_ | refine Run.done rfl ?_ | refine then_n ?_ | refine then_r ?_ | refine then_e ?_ | refine Run.go1 rfl ?_ | refine wp_skip_i ?_ | refine wp_ret_i ?_ | refine wp_exit_i ?_
     | refine wp_block_i ?_ | refine block_n ?_ | refine block_r ?_ | refine block_e ?_ | refine block_o rfl ?_ | refine wp_cond_t rfl ?_ | refine wp_cond_f rfl ?_ | (refine wp_cond_k rfl rfl rfl ?_ ?_ <;> intro _)
     | (refine wp_cond_i rfl ?_ ?_ <;> intro _))
  refine wp_loop_k (α := Nat × Int) [.keep [0, 1, 5, 6] []] (fun p => [(5, iA p.2), (6, iA p.1)]) (fun _ => []) (fun _ => []) (fun p => p.1 ≤ l.length ∧ blk i (l.drop p.1) p.1 p.2 = blk i l 0 (-1)) (fun p => l.length - p.1) (0, -1) rfl (fun _ => rfl) rfl ⟨by simp, by simp⟩ ?_
  rintro ⟨j, b⟩ ⟨hj, he⟩
  simp only at hj he
  by_cases hlt : j < l.length
  · have hx : (l.map iR)[j]? = some (iR l[j]) := by simp [hlt]
    rw [List.drop_eq_getElem_cons hlt, blk] at he
    repeat' (first
       | refine wp_seq_i ?_ | refine wp_region_i ?_ | refine Run.done rfl ?_ | refine then_n ?_ | refine then_r ?_ | refine then_e ?_ | refine Run.go1 rfl ?_ | refine wp_skip_i ?_ | refine wp_ret_i ?_ | refine wp_exit_i ?_
       | refine wp_block_i ?_ | refine block_n ?_ | refine block_r ?_ | refine block_e ?_ | refine block_o rfl ?_ | refine wp_cond_t rfl ?_ | refine wp_cond_f rfl ?_ | refine Run.ix rfl rfl rfl rfl rfl rfl rfl hx rfl rfl rfl ?_
       | (refine wp_cond_k rfl rfl rfl ?_ ?_ <;> intro _) | (refine wp_cond_i rfl ?_ ?_ <;> intro _))
    all_goals first
    | (exfalso; simp [hlt] at *; done)
    | (refine back_i [.keep [0, 1, 5, 6] []] (j + 1, (j : Int)) rfl ?_ ⟨by simp; omega, ?_⟩ (by simp; omega)
       · simp only [w_succ hlt (by omega)]; try rfl
       · rename_i h; rw [if_pos (by simpa using h)] at he; exact he; done)
    | (refine back_i [.keep [0, 1, 5, 6] []] (j + 1, b) rfl ?_ ⟨by simp; omega, ?_⟩ (by simp; omega)
       · simp only [w_succ hlt (by omega)]; try rfl
       · rename_i h; rw [if_neg (by simpa using h)] at he; exact he; done)
    | trace_state
  · have hjl : j = l.length := by omega
    subst hjl
    rw [List.drop_length, blk] at he
    repeat' (first
       | refine wp_seq_i ?_ | refine wp_region_i ?_ | refine Run.done rfl ?_ | refine then_n ?_ | refine then_r ?_ | refine then_e ?_ | refine Run.go1 rfl ?_ | refine wp_skip_i ?_ | refine wp_ret_i ?_ | refine wp_exit_i ?_
       | refine wp_block_i ?_ | refine block_n ?_ | refine block_r ?_ | refine block_e ?_ | refine block_o rfl ?_ | refine wp_cond_t rfl ?_ | refine wp_cond_f rfl ?_ | (refine wp_cond_k rfl rfl rfl ?_ ?_ <;> intro _)
       | (refine wp_cond_i rfl ?_ ?_ <;> intro _))
    all_goals first
    | (exfalso; simp at *; done)
    | (refine ret_m [] rfl rfl ?_; rw [← he]; done)
    | (rw [← he]; refine ret_m [] rfl rfl rfl; done)
    | trace_state
end Go.Proofs
