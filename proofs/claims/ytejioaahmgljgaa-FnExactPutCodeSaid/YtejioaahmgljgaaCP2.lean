import Derived.Test.YtejioaahmgljgaaCP1
set_option linter.unusedVariables false
set_option linter.unusedSimpArgs false
set_option maxHeartbeats 4000000
namespace Go.Proofs
open Go Go.Ev
set_option maxRecDepth 100000
variable {X : Rel3}
theorem PutNumI_t (b : List Int) (n : Int) (hb : b.length ≤ 1000000000000) : Tells Try.prog E0 X 67 [.t (.sl false (b.map uR)), iA n] (.t (.sl true ((b ++ encN n).map uR))) := by
  refine Tells.by Try.func67 (by simp [Try.f67]) (Body.i rfl rfl rfl (fun _ => rfl) fun f => ?_)
  repeat' (first
     | refine wp_seq_i ?_ | refine wp_region_i ?_ | refine Run.done rfl ?_ | refine then_n ?_ | refine then_r ?_ | refine then_e ?_ | refine Run.go1 rfl ?_ | refine wp_skip_i ?_ | refine wp_ret_i ?_ | refine wp_exit_i ?_
     | refine wp_block_i ?_ | refine block_n ?_ | refine block_r ?_ | refine block_e ?_ | refine block_o rfl ?_ | refine wp_cond_t rfl ?_ | refine wp_cond_f rfl ?_
     | refine Run.cnd rfl rfl rfl ⟨by simp; omega, by simp, by simp, .inl rfl, by simp [flatT]⟩ ?_ | refine Run.callB rfl rfl rfl (cloneB_t _ hb) (own_B _) rfl ?_ | (refine wp_cond_k rfl rfl rfl ?_ ?_ <;> intro _)
     | (refine wp_cond_i rfl ?_ ?_ <;> intro _))
  all_goals (
    have hM := encM_lt n
    refine wp_loop_k (α := Int × List Int × Nat) [.keep [5, 6] [8]] (fun p => [(6, iA p.1)]) (fun _ => []) (fun p => [(8, 0, p.2.1.map uR)]) (fun p => (0 ≤ p.1 ∧ p.1 < 128 ^ (p.2.2 + 1)) ∧ p.2.1.length + p.2.2 = b.length + 4 ∧ p.2.1 ++ putL p.2.2 p.1 = b ++ encN n) (fun p => p.2.2) (encM n, b, 4) rfl (fun _ => rfl) ?_ ⟨by simpa using hM, by simp, rfl⟩ ?_
    · simp only [List.nil_append, St.mk.injEq, List.cons.injEq, Prod.mk.injEq, AV.t.injEq, T.sc.injEq, Value.int.injEq, true_and, and_true]
      clear hM
      try refine ⟨?_, rfl⟩
      simp only [decide_eq_true_eq, decide_eq_false_iff_not] at *
      unfold encM clampN
      repeat' split
      all_goals first
      | (exfalso; omega)
      | (simp [IntKind.wrap, IntKind.bits, IntKind.signed]; done)
      | (simp [IntKind.wrap, IntKind.bits, IntKind.signed]; omega)
    rintro ⟨k, c, j⟩ ⟨⟨h1, h2⟩, h3, h4⟩
    simp only at h1 h2 h3 h4
    repeat' (first
       | refine wp_seq_i ?_ | refine wp_region_i ?_ | refine Run.done rfl ?_ | refine then_n ?_ | refine then_r ?_ | refine then_e ?_ | refine Run.go1 rfl ?_ | refine wp_skip_i ?_ | refine wp_ret_i ?_ | refine wp_exit_i ?_
       | refine wp_block_i ?_ | refine block_n ?_ | refine block_r ?_ | refine block_e ?_ | refine block_o rfl ?_ | refine wp_cond_t rfl ?_ | refine wp_cond_f rfl ?_
       | refine Run.cnd rfl rfl rfl ⟨by simp; omega, by simp, by simp, .inl rfl, by simp [flatT]⟩ ?_ | (refine wp_cond_k rfl rfl rfl ?_ ?_ <;> intro _) | (refine wp_cond_i rfl ?_ ?_ <;> intro _))
    · rename_i h
      have hk : k > 127 := by simpa using h
      clear h
      obtain ⟨j', rfl⟩ : ∃ j', j = j' + 1 := by
        cases j with
        | zero => simp at h2; omega
        | succ j => exact ⟨j, rfl⟩
      refine back_i [.keep [5, 6] [27], .ren 27 8] (nextB k, c ++ [lowB k], j') rfl ?_ ⟨⟨?_, ?_⟩, ?_, ?_⟩ (by simp)
      · simp only [List.map_append, List.map_cons, List.map_nil]; rfl
      · rw [nextB_eq h1]; omega
      · rw [nextB_eq h1]
        simp only [Int.pow_succ] at h2 ⊢
        omega
      · simp; omega
      · rw [putL, if_pos hk] at h4; simpa using h4
    · rename_i h
      have h : ¬ k > 127 := by simpa using h
      refine ret_m [] rfl rfl ?_
      rw [← h4, putL_end h]; simp)
end Go.Proofs
