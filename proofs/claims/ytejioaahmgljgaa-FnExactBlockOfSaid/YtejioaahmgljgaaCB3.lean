import Derived.Test.YtejioaahmgljgaaCB2
set_option linter.unusedVariables false
set_option linter.unusedSimpArgs false
set_option maxHeartbeats 4000000
namespace Go.Proofs
open Go Go.Ev
set_option maxRecDepth 100000
variable {X : Rel3}
/-- how far what follows is not above i -/
def blkI (i : Int) : List Int → Nat → Nat
  | [], k => k
  | x :: r, k => if x ≤ i then blkI i r (k + 1) else k
theorem blockOfI_t (l : List Int) (i : Int) (hl : l.length ≤ 1000000000000) : Tells Try.prog E0 X 58 [.t (.sl false (l.map iR)), iA i] (iA (blkI i (l.drop 1) 0 : Nat)) := by
  refine Tells.by Try.func58 (by simp [Try.f58]) (Body.i rfl rfl rfl (fun _ => rfl) fun f => ?_)
  repeat' (first
     | refine wp_seq_i ?_ | refine wp_region_i ?_ | refine Run.done rfl ?_ | refine then_n ?_ | refine then_r ?_ | refine then_e ?_ | refine Run.go1 rfl ?_ | refine wp_skip_i ?_ | refine wp_ret_i ?_ | refine wp_exit_i ?_
     | refine wp_block_i ?_ | refine block_n ?_ | refine block_r ?_ | refine block_e ?_ | refine block_o rfl ?_ | refine wp_cond_t rfl ?_ | refine wp_cond_f rfl ?_ | (refine wp_cond_k rfl rfl rfl ?_ ?_ <;> intro _)
     | (refine wp_cond_i rfl ?_ ?_ <;> intro _))
  refine wp_loop_k (α := Nat) [.keep [0, 1, 5] []] (fun p => [(5, iA p)]) (fun _ => []) (fun _ => []) (fun p => p ≤ l.length ∧ blkI i (l.drop (p + 1)) p = blkI i (l.drop 1) 0) (fun p => l.length - p) 0 rfl (fun _ => rfl) rfl ⟨by simp, by simp⟩ ?_
  rintro j ⟨hj, he⟩
  have hw : IntKind.i64.wrap ((j : Int) + 1) = ((j + 1 : Nat) : Int) := by rw [w64 (by omega) (by omega)]; simp
  by_cases hlt : j + 1 < l.length
  · have hx : (l.map iR)[j + 1]? = some (iR l[j + 1]) := by simp [hlt]
    rw [List.drop_eq_getElem_cons hlt, blkI] at he
    repeat' (first
       | refine wp_seq_i ?_ | refine wp_region_i ?_ | refine Run.done rfl ?_ | refine then_n ?_ | refine then_r ?_ | refine then_e ?_ | refine Run.go1 rfl ?_ | refine wp_skip_i ?_ | refine wp_ret_i ?_ | refine wp_exit_i ?_
       | refine wp_block_i ?_ | refine block_n ?_ | refine block_r ?_ | refine block_e ?_ | refine block_o rfl ?_ | refine wp_cond_t rfl ?_ | refine wp_cond_f rfl ?_ | refine Run.gT rfl rfl rfl rfl ?_ | refine Run.pT rfl rfl ?_
       | (refine Run.splitG rfl rfl rfl rfl rfl rfl ?_ ?_ <;> intro _) | (refine Run.splitP rfl rfl rfl rfl ?_ ?_ <;> intro _) | refine Run.ix rfl rfl rfl rfl rfl rfl hw hx rfl rfl rfl ?_
       | (refine wp_cond_k rfl rfl rfl ?_ ?_ <;> intro _) | (refine wp_cond_i rfl ?_ ?_ <;> intro _))
    all_goals first
    | (exfalso; simp [hlt, hw] at *; omega)
    | (refine back_i [.keep [0, 1, 5] []] (j + 1) rfl ?_ ⟨by omega, ?_⟩ (by omega)
       · simp only [hw]; try rfl
       · rename_i h; rw [if_pos (by simpa using h)] at he; exact he; done)
    | (refine ret_m [] rfl rfl ?_; rename_i h; rw [if_neg (by simpa using h)] at he; rw [← he]; done)
    | trace_state
  · rw [List.drop_eq_nil_of_le (by omega), blkI] at he
    repeat' (first
       | refine wp_seq_i ?_ | refine wp_region_i ?_ | refine Run.done rfl ?_ | refine then_n ?_ | refine then_r ?_ | refine then_e ?_ | refine Run.go1 rfl ?_ | refine wp_skip_i ?_ | refine wp_ret_i ?_ | refine wp_exit_i ?_
       | refine wp_block_i ?_ | refine block_n ?_ | refine block_r ?_ | refine block_e ?_ | refine block_o rfl ?_ | refine wp_cond_t rfl ?_ | refine wp_cond_f rfl ?_ | refine Run.gT rfl rfl rfl rfl ?_ | refine Run.pT rfl rfl ?_
       | (refine Run.splitG rfl rfl rfl rfl rfl rfl ?_ ?_ <;> intro _) | (refine Run.splitP rfl rfl rfl rfl ?_ ?_ <;> intro _) | (refine wp_cond_k rfl rfl rfl ?_ ?_ <;> intro _) | (refine wp_cond_i rfl ?_ ?_ <;> intro _))
    all_goals first
    | (exfalso; simp [hw] at *; omega)
    | (refine ret_m [] rfl rfl ?_; rw [← he]; done)
    | trace_state
end Go.Proofs
