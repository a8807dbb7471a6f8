import Derived.Test.YtejioaahmgljgaaCIn
set_option linter.unusedVariables false
set_option linter.unusedSimpArgs false
namespace Go.Proofs
open Go Go.Ev
set_option maxRecDepth 100000
variable {X : Rel3}
def uD (op : Int) : Bool := op == 1 || op == 2 || op == 3 || op == 8 || op == 4 || op == 9 || op == 10 || op == 5 || op == 6 || op == 7 || op == 14 || op == 17
def uX (op : Int) : Bool := op == 4 || op == 9 || op == 10 || op == 5 || op == 6 || op == 7 || op == 14 || op == 11 || op == 12 || op == 15 || op == 16
def uY (op : Int) : Bool := op == 5 || op == 6 || op == 7 || op == 14
def uT (op : Int) : Bool := op == 11 || op == 12 || op == 13 || op == 17
theorem l9Uses_t (op : Int) : Tells Try.prog E0 X 74 [iA op] (.ag [bA (uD op), bA (uX op), bA (uY op), bA (uT op)]) := by
  refine Tells.by Try.func74 (by simp [Try.f74]) (Body.i rfl rfl rfl (fun _ => rfl) fun f => ?_)
  repeat' (first
     | refine wp_seq_i ?_ | refine wp_region_i ?_ | refine Run.done rfl ?_ | refine then_n ?_ | refine then_r ?_ | refine then_e ?_ | refine Run.go1 rfl ?_ | refine wp_skip_i ?_ | refine wp_ret_i ?_ | refine wp_exit_i ?_
     | refine wp_block_i ?_ | refine block_n ?_ | refine block_r ?_ | refine block_e ?_ | refine block_o rfl ?_ | refine wp_cond_t rfl ?_ | refine wp_cond_f rfl ?_ | (refine wp_cond_k rfl rfl rfl ?_ ?_ <;> intro _)
     | (refine wp_cond_i rfl ?_ ?_ <;> intro _))
  all_goals (refine ret_m [] rfl rfl ?_; simp_all [uD, uX, uY, uT])
def l9Reg (has : Bool) (r regs : Int) : Bool := if has then rng r 0 (IntKind.i64.wrap (regs - 1)) else r == 0
theorem l9Reg_t (has : Bool) (r regs : Int) : Tells Try.prog E0 X 92 [bA has, iA r, iA regs] (bA (l9Reg has r regs)) := by
  refine Tells.by Try.func92 (by simp [Try.f92]) (Body.i rfl rfl rfl (fun _ => rfl) fun f => ?_)
  repeat' (first
     | refine wp_seq_i ?_ | refine wp_region_i ?_ | refine Run.done rfl ?_ | refine then_n ?_ | refine then_r ?_ | refine then_e ?_ | refine Run.go1 rfl ?_ | refine wp_skip_i ?_ | refine wp_ret_i ?_ | refine wp_exit_i ?_
     | refine wp_block_i ?_ | refine block_n ?_ | refine block_r ?_ | refine block_e ?_ | refine block_o rfl ?_ | refine wp_cond_t rfl ?_ | refine wp_cond_f rfl ?_ | refine Run.call rfl rfl rfl (l1In_t _ _ _) rfl rfl ?_
     | (refine wp_cond_k rfl rfl rfl ?_ ?_ <;> intro _) | (refine wp_cond_i rfl ?_ ?_ <;> intro _))
  all_goals (refine ret_m [] rfl rfl ?_; simp_all [l9Reg])
end Go.Proofs
