import Derived.Test.YtejioaahmgljgaaCL9c
set_option linter.unusedVariables false
set_option linter.unusedSimpArgs false
set_option maxHeartbeats 4000000
namespace Go.Proofs
open Go Go.Ev
set_option maxRecDepth 100000
variable {X : Rel3}
/-- the first place where something is so -/
def idx {α : Type} (f : α → Bool) : List α → Nat → Int
  | [], _ => -1
  | x :: r, k => if f x then k else idx f r (k + 1)
theorem idx_step {α : Type} {f : α → Bool} {l : List α} {k j : Nat} (h : k < l.length) : idx f (l.drop k) j = if f l[k] then (j : Int) else idx f (l.drop (k + 1)) (j + 1) := by
  rw [List.drop_eq_getElem_cons h, idx]
theorem idx_any {α : Type} {f : α → Bool} {l : List α} {k : Nat} : decide (0 ≤ idx f l k) = l.any f := by
  induction l generalizing k with
  | nil => simp [idx]
  | cons x r ih => simp only [idx, List.any_cons]; split <;> simp_all
theorem idx_lt {α : Type} {f : α → Bool} {l : List α} {k : Nat} : idx f l k < k + l.length := by
  induction l generalizing k with
  | nil => simp [idx]; omega
  | cons x r ih => simp only [idx]; split <;> simp <;> have := ih (k := k + 1) <;> omega
def funAt (l : List Piece) (lam : Int) : Int := idx (fun p => p.lam == lam) l 0
def k_l9Fun : List (Nat × List Nat) := [(0, [1, 2]), (1, [1, 2, 5]), (2, [1, 2, 5, 10]), (3, [1, 2, 5]), (4, [1, 2, 5, 20]), (5, [4]), (6, [4])]
theorem l9Fun_t (c : Code) (lam : Int) (hc : c.funs.length ≤ 1048576) : Tells Try.prog E0 X 86 [c.a false, iA lam] (iA (funAt c.funs lam)) := by
  refine Tells.by Try.func86 (by simp [Try.f86]) (Body.i rfl rfl rfl (fun _ => rfl) fun f => ?_)
  repeat' (first
     | refine wp_seq_i ?_ | refine wp_region_t k_l9Fun rfl ?_ | refine Run.done rfl ?_ | refine then_n ?_ | refine then_r ?_ | refine then_e ?_ | refine Run.go1 rfl ?_ | refine wp_skip_i ?_ | refine wp_ret_i ?_
     | refine wp_exit_i ?_ | refine wp_block_i ?_ | refine block_n ?_ | refine block_r ?_ | refine block_e ?_ | refine block_o rfl ?_ | refine wp_cond_t rfl ?_ | refine wp_cond_f rfl ?_
     | (refine wp_cond_k rfl rfl rfl ?_ ?_ <;> intro _) | (refine wp_cond_i rfl ?_ ?_ <;> intro _))
  refine wp_loop_k (α := Nat) [.keep [1, 2, 5] [2]] (fun k => [(5, iA k)]) (fun _ => []) (fun _ => []) (fun k => k ≤ c.funs.length ∧ idx (fun p => p.lam == lam) (c.funs.drop k) k = funAt c.funs lam) (fun k => c.funs.length - k) 0 rfl (fun _ => rfl) rfl ⟨by simp, rfl⟩ ?_
  rintro k ⟨hk, hI⟩
  by_cases hlt : k < c.funs.length
  · have hx : (c.funs.map (Piece.c false))[k]? = some (Piece.c false c.funs[k]) := by simp [hlt]
    rw [idx_step hlt] at hI
    repeat' (first
       | refine wp_seq_i ?_ | refine wp_region_t k_l9Fun rfl ?_ | refine Run.done rfl ?_ | refine then_n ?_ | refine then_r ?_ | refine then_e ?_ | refine Run.go1 rfl ?_ | refine wp_skip_i ?_ | refine wp_ret_i ?_
       | refine wp_exit_i ?_ | refine wp_block_i ?_ | refine block_n ?_ | refine block_r ?_ | refine block_e ?_ | refine block_o rfl ?_ | refine wp_cond_t rfl ?_ | refine wp_cond_f rfl ?_
       | refine Run.ix rfl rfl rfl rfl rfl rfl rfl hx rfl rfl rfl ?_ | (refine wp_cond_k rfl rfl rfl ?_ ?_ <;> intro _) | (refine wp_cond_i rfl ?_ ?_ <;> intro _))
    · rename_i h1 h2
      refine ret_m [] rfl rfl ?_
      rw [← hI, if_pos h2]
    · rename_i h1 h2
      refine back_i [.keep [1, 2, 5] [2]] (k + 1) rfl ?_ ⟨by omega, ?_⟩ (by omega)
      · simp only [w_succ hlt (by omega)]
      · rw [← hI, if_neg (by simpa using h2)]
    · rename_i h; simp [hlt] at h
  · have hk : k = c.funs.length := by omega
    subst hk
    simp [idx] at hI
    repeat' (first
       | refine wp_seq_i ?_ | refine wp_region_t k_l9Fun rfl ?_ | refine Run.done rfl ?_ | refine then_n ?_ | refine then_r ?_ | refine then_e ?_ | refine Run.go1 rfl ?_ | refine wp_skip_i ?_ | refine wp_ret_i ?_
       | refine wp_exit_i ?_ | refine wp_block_i ?_ | refine block_n ?_ | refine block_r ?_ | refine block_e ?_ | refine block_o rfl ?_ | refine wp_cond_t rfl ?_ | refine wp_cond_f rfl ?_
       | (refine wp_cond_k rfl rfl rfl ?_ ?_ <;> intro _) | (refine wp_cond_i rfl ?_ ?_ <;> intro _))
    · rename_i h; simp at h
    · refine ret_m [] rfl rfl ?_; rw [hI]
end Go.Proofs
