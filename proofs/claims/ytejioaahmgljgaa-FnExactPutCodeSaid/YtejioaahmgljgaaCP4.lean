import Derived.Test.YtejioaahmgljgaaCP2
set_option linter.unusedVariables false
set_option linter.unusedSimpArgs false
set_option maxHeartbeats 4000000
namespace Go.Proofs
open Go Go.Ev
set_option maxRecDepth 100000
variable {X : Rel3}
theorem shr_I (l : List Int) : shrR (l.map iR) = l.map iR := by
  induction l with
  | nil => rfl
  | cons x r ih => simp [shrR, shrL, T.shr, ih]
theorem shr_Ins (l : List Ins) : shrR (l.map (Ins.c false)) = l.map (Ins.c false) := by
  induction l with
  | nil => rfl
  | cons x r ih => simp [shrR, shrL, T.shr, ih, shr_I]
theorem shr_P (l : List Piece) : shrR (l.map (Piece.c false)) = l.map (Piece.c false) := by
  induction l with
  | nil => rfl
  | cons x r ih => simp [shrR, shrL, T.shr, ih, shr_Ins]
theorem cloneP_t (l : List Piece) (hl : l.length ≤ 1048576) : Tells Try.prog E0 X 39 [.t (.sl false (l.map (Piece.c false)))] (.t (.sl true (l.map (Piece.c false)))) := by
  refine Tells.by Try.func39 (by simp [Try.f39]) (Body.i rfl rfl rfl (fun _ => rfl) fun f => ?_)
  repeat' (first
     | refine wp_seq_i ?_ | refine wp_region_i ?_ | refine Run.done rfl ?_ | refine then_n ?_ | refine then_r ?_ | refine then_e ?_ | refine Run.go1 rfl ?_ | refine wp_skip_i ?_ | refine wp_ret_i ?_ | refine wp_exit_i ?_
     | refine wp_block_i ?_ | refine block_n ?_ | refine block_r ?_ | refine block_e ?_ | refine block_o rfl ?_ | refine wp_cond_t rfl ?_ | refine wp_cond_f rfl ?_
     | refine Run.nilc rfl rfl rfl (fun _ => rfl) (fun _ => ?_) (fun _ _ => ?_) | refine Run.cnd rfl rfl rfl ⟨by simp [shrR_len]; omega, by simp, by simp [shr_P], .inl rfl, by simp [okT, Value.oneCell']⟩ ?_
     | (refine wp_cond_k rfl rfl rfl ?_ ?_ <;> intro _) | (refine wp_cond_i rfl ?_ ?_ <;> intro _))
  all_goals (refine ret_m [] rfl rfl ?_; simp_all [shr_P, shrR])
def hiB (k : Int) : Int := IntKind.u8.wrap (k.fdiv (2 ^ min (Int.toNat 8) IntKind.i64.bits))
def sumBytes (l : List Int) : List Int := [hiB (sumB l 0), IntKind.u8.wrap (sumB l 0)]
def k_codeSum : List (Nat × List Nat) := [(0, [0]), (1, [0, 3]), (2, [3, 6, 7, 8]), (3, [3, 6, 7, 8, 9]), (4, [3, 5, 6, 7, 8]), (5, [3, 6, 7, 8]), (6, [3, 6, 7, 8]), (7, [2])]
theorem codeSum_t (l : List Int) (hl : l.length ≤ 1000000000000) : Tells Try.prog E0 X 40 [.t (.sl false (l.map uR))] (.t (.sl true ((sumBytes l).map uR))) := by
  refine Tells.by Try.func40 (by simp [Try.f40]) (Body.i rfl rfl rfl (fun _ => rfl) fun f => ?_)
  repeat' (first
     | refine wp_seq_i ?_ | refine wp_region_t k_codeSum rfl ?_ | refine Run.done rfl ?_ | refine then_n ?_ | refine then_r ?_ | refine then_e ?_ | refine Run.go1 rfl ?_ | refine wp_skip_i ?_ | refine wp_ret_i ?_
     | refine wp_exit_i ?_ | refine wp_block_i ?_ | refine block_n ?_ | refine block_r ?_ | refine block_e ?_ | refine block_o rfl ?_ | refine wp_cond_t rfl ?_ | refine wp_cond_f rfl ?_
     | (refine wp_cond_k rfl rfl rfl ?_ ?_ <;> intro _) | (refine wp_cond_i rfl ?_ ?_ <;> intro _))
  refine wp_loop_k (α := Nat × Int) [.keep [3, 6, 7, 8] []] (fun p => [(3, iA p.2), (8, iA p.1)]) (fun _ => []) (fun _ => []) (fun p => p.1 ≤ l.length ∧ sumB (l.drop p.1) p.2 = sumB l 0) (fun p => l.length - p.1) (0, 0) rfl (fun _ => rfl) rfl ⟨by simp, by simp⟩ ?_
  rintro ⟨j, c⟩ ⟨hj, hc⟩
  simp only at hj hc
  by_cases hlt : j < l.length
  · have hx : (l.map uR)[j]? = some (uR l[j]) := map_at hlt
    rw [List.drop_eq_getElem_cons hlt, sumB] at hc
    repeat' (first
       | refine wp_seq_i ?_ | refine wp_region_t k_codeSum rfl ?_ | refine Run.done rfl ?_ | refine then_n ?_ | refine then_r ?_ | refine then_e ?_ | refine Run.go1 rfl ?_ | refine wp_skip_i ?_ | refine wp_ret_i ?_
       | refine wp_exit_i ?_ | refine wp_block_i ?_ | refine block_n ?_ | refine block_r ?_ | refine block_e ?_ | refine block_o rfl ?_ | refine wp_cond_t rfl ?_ | refine wp_cond_f rfl ?_
       | refine Run.ix rfl rfl rfl rfl rfl rfl rfl hx rfl rfl rfl ?_ | (refine wp_cond_k rfl rfl rfl ?_ ?_ <;> intro _) | (refine wp_cond_i rfl ?_ ?_ <;> intro _))
    · refine back_i [.keep [3, 6, 7, 8] []] (j + 1, _) rfl ?_ ⟨by simp; omega, hc⟩ (by simp; omega)
      simp only [w_succ hlt (by omega), Int.mul_comm 31]
      rfl
    · rename_i h; simp [hlt] at h
  · have hjl : j = l.length := by omega
    subst hjl
    simp [sumB] at hc
    repeat' (first
       | refine wp_seq_i ?_ | refine wp_region_t k_codeSum rfl ?_ | refine Run.done rfl ?_ | refine then_n ?_ | refine then_r ?_ | refine then_e ?_ | refine Run.go1 rfl ?_ | refine wp_skip_i ?_ | refine wp_ret_i ?_
       | refine wp_exit_i ?_ | refine wp_block_i ?_ | refine block_n ?_ | refine block_r ?_ | refine block_e ?_ | refine block_o rfl ?_ | refine wp_cond_t rfl ?_ | refine wp_cond_f rfl ?_
       | (refine wp_cond_k rfl rfl rfl ?_ ?_ <;> intro _) | (refine wp_cond_i rfl ?_ ?_ <;> intro _))
    · rename_i h; simp at h
    · refine ret_m [] rfl rfl ?_
      rw [sumBytes, ← hc]; rfl
end Go.Proofs
