import Derived.Test.YtejioaahmgljgaaCMB
set_option linter.unusedVariables false
set_option linter.unusedSimpArgs false
namespace Go.Proofs
open Go Go.Ev
set_option maxRecDepth 100000
variable {X : Rel3}
def rng (a lo hi : Int) : Bool := decide (lo ≤ a) && decide (a ≤ hi)
theorem rng_iff {a lo hi : Int} : rng a lo hi = true ↔ lo ≤ a ∧ a ≤ hi := by simp [rng]
theorem in_t (a lo hi : Int) : Tells Try.prog E0 X 57 [iA a, iA lo, iA hi] (bA (rng a lo hi)) := by
  refine Tells.by Try.func57 (by simp [Try.f57]) (Body.i rfl rfl rfl (fun _ => rfl) fun f => ?_)
  repeat' (first
     | refine wp_seq_i ?_ | refine wp_region_i ?_ | refine Run.done rfl ?_ | refine then_n ?_ | refine then_r ?_ | refine then_e ?_ | refine Run.go1 rfl ?_ | refine wp_skip_i ?_ | refine wp_ret_i ?_ | refine wp_exit_i ?_
     | refine wp_block_i ?_ | refine block_n ?_ | refine block_r ?_ | refine block_e ?_ | refine block_o rfl ?_ | refine wp_cond_t rfl ?_ | refine wp_cond_f rfl ?_ | (refine Run.splitG rfl rfl rfl rfl rfl rfl ?_ ?_ <;> intro _)
     | (refine Run.splitP rfl rfl rfl rfl ?_ ?_ <;> intro _) | (refine wp_cond_i rfl ?_ ?_ <;> intro _))
  all_goals (refine ret_m [] rfl rfl ?_; simp_all [rng] <;> omega)
theorem l1In_t (a lo hi : Int) : Tells Try.prog E0 X 53 [iA a, iA lo, iA hi] (bA (rng a lo hi)) := by
  refine Tells.by Try.func53 (by simp [Try.f53]) (Body.i rfl rfl rfl (fun _ => rfl) fun f => ?_)
  repeat' (first
     | refine wp_seq_i ?_ | refine wp_region_i ?_ | refine Run.done rfl ?_ | refine then_n ?_ | refine then_r ?_ | refine then_e ?_ | refine Run.go1 rfl ?_ | refine wp_skip_i ?_ | refine wp_ret_i ?_ | refine wp_exit_i ?_
     | refine wp_block_i ?_ | refine block_n ?_ | refine block_r ?_ | refine block_e ?_ | refine block_o rfl ?_ | refine wp_cond_t rfl ?_ | refine wp_cond_f rfl ?_ | (refine Run.splitG rfl rfl rfl rfl rfl rfl ?_ ?_ <;> intro _)
     | (refine Run.splitP rfl rfl rfl rfl ?_ ?_ <;> intro _) | (refine wp_cond_i rfl ?_ ?_ <;> intro _))
  all_goals (refine ret_m [] rfl rfl ?_; simp_all [rng] <;> omega)
def lamOk (p : Piece) : Bool := (p.lam == -1 && p.in_ == 0) || (rng p.lam 0 149 && decide (1 ≤ p.in_))
theorem lamOk_t (p : Piece) : Tells Try.prog E0 X 78 [p.a false] (bA (lamOk p)) := by
  refine Tells.by Try.func78 (by simp [Try.f78]) (Body.i rfl rfl rfl (fun _ => rfl) fun f => ?_)
  repeat' (first
     | refine wp_seq_i ?_ | refine wp_region_i ?_ | refine Run.done rfl ?_ | refine then_n ?_ | refine then_r ?_ | refine then_e ?_ | refine Run.go1 rfl ?_ | refine wp_skip_i ?_ | refine wp_ret_i ?_ | refine wp_exit_i ?_
     | refine wp_block_i ?_ | refine block_n ?_ | refine block_r ?_ | refine block_e ?_ | refine block_o rfl ?_ | refine wp_cond_t rfl ?_ | refine wp_cond_f rfl ?_ | refine Run.call rfl rfl rfl (in_t _ _ _) rfl rfl ?_
     | (refine Run.splitG rfl rfl rfl rfl rfl rfl ?_ ?_ <;> intro _) | (refine Run.splitP rfl rfl rfl rfl ?_ ?_ <;> intro _) | (refine wp_cond_i rfl ?_ ?_ <;> intro _))
  all_goals (refine ret_m [] rfl rfl ?_; simp_all [lamOk])
end Go.Proofs
