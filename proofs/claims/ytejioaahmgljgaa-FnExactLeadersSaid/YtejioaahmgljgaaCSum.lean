import Derived.Test.YtejioaahmgljgaaCSz
set_option linter.unusedVariables false
set_option linter.unusedSimpArgs false
namespace Go.Proofs
open Go Go.Ev
set_option maxRecDepth 100000
variable {X : Rel3}
def sumB : List Int → Int → Int
  | [], n => n
  | x :: r, n => sumB r ((IntKind.i64.wrap (IntKind.i64.wrap (n * 31) + IntKind.i64.wrap x)).tmod 65521)
theorem l16Sum_t (l : List Int) (hl : l.length ≤ 9223372036854775807) : Tells Try.prog E0 X 35 [.t (.sl false (l.map uR))] (iA (sumB l 0)) := by
  refine Tells.by Try.func35 (by simp [Try.f35]) (Body.i rfl rfl rfl (fun _ => rfl) fun f => ?_)
  repeat' (first
     | refine wp_seq_i ?_ | refine wp_region_i ?_ | refine Run.done rfl ?_ | refine then_n ?_ | refine then_r ?_ | refine then_e ?_ | refine Run.go1 rfl ?_ | refine wp_skip_i ?_ | refine wp_ret_i ?_ | refine wp_exit_i ?_
     | refine wp_block_i ?_ | refine block_n ?_ | refine block_r ?_ | refine block_e ?_ | refine block_o rfl ?_ | refine wp_cond_t rfl ?_ | refine wp_cond_f rfl ?_ | (refine wp_cond_k rfl rfl rfl ?_ ?_ <;> intro _)
     | (refine wp_cond_i rfl ?_ ?_ <;> intro _))
  refine wp_loop_k (α := Nat × Int) [.keep [0, 2, 3, 4] []] (fun p => [(3, iA p.2), (4, iA p.1)]) (fun _ => []) (fun _ => []) (fun p => p.1 ≤ l.length ∧ sumB (l.drop p.1) p.2 = sumB l 0) (fun p => l.length - p.1) (0, 0) rfl (fun _ => rfl) rfl ⟨by simp, by simp⟩ ?_
  rintro ⟨j, c⟩ ⟨hj, hc⟩
  simp only at hj hc
  by_cases hlt : j < l.length
  · have hx : (l.map uR)[j]? = some (uR l[j]) := by simp [hlt]
    repeat' (first
       | refine wp_seq_i ?_ | refine wp_region_i ?_ | refine Run.done rfl ?_ | refine then_n ?_ | refine then_r ?_ | refine then_e ?_ | refine Run.go1 rfl ?_ | refine wp_skip_i ?_ | refine wp_ret_i ?_ | refine wp_exit_i ?_
       | refine wp_block_i ?_ | refine block_n ?_ | refine block_r ?_ | refine block_e ?_ | refine block_o rfl ?_ | refine wp_cond_t rfl ?_ | refine wp_cond_f rfl ?_ | refine Run.ix rfl rfl rfl rfl rfl rfl rfl hx rfl rfl rfl ?_
       | (refine wp_cond_k rfl rfl rfl ?_ ?_ <;> intro _) | (refine wp_cond_i rfl ?_ ?_ <;> intro _))
    · rw [List.drop_eq_getElem_cons hlt, sumB] at hc
      refine back_i [.keep [0, 2, 3, 4] []] (j + 1, _) rfl ?_ ⟨by simp; omega, hc⟩ (by simp; omega)
      simp only [w_succ hlt hl]
      rfl
    · rename_i h; simp [hlt] at h
  · have hjl : j = l.length := by omega
    repeat' (first
       | refine wp_seq_i ?_ | refine wp_region_i ?_ | refine Run.done rfl ?_ | refine then_n ?_ | refine then_r ?_ | refine then_e ?_ | refine Run.go1 rfl ?_ | refine wp_skip_i ?_ | refine wp_ret_i ?_ | refine wp_exit_i ?_
       | refine wp_block_i ?_ | refine block_n ?_ | refine block_r ?_ | refine block_e ?_ | refine block_o rfl ?_ | refine wp_cond_t rfl ?_ | refine wp_cond_f rfl ?_ | (refine wp_cond_k rfl rfl rfl ?_ ?_ <;> intro _)
       | (refine wp_cond_i rfl ?_ ?_ <;> intro _))
    · rename_i h; simp [hjl] at h
    · refine ret_m [] rfl rfl ?_
      rw [← hc, hjl, List.drop_length]; rfl
end Go.Proofs
