import Derived.Test.YtejioaahmgljgaaCLawW
set_option linter.unusedVariables false
set_option linter.unusedSimpArgs false
set_option maxHeartbeats 4000000
namespace Go.Proofs
open Go Go.Ev
set_option maxRecDepth 100000
variable {X : Rel3}
def k_law : List (Nat × List Nat) := [(0, [1]), (1, [1, 3]), (2, [1, 3]), (3, [1, 15]), (4, [2]), (5, [1, 4]), (6, [1, 4, 5]), (7, [1, 4, 5, 6]), (8, [1, 4, 5, 6, 26]), (9, [2]), (10, [1, 4, 5, 6, 31]), (11, [2]), (12, [1, 4, 5, 6, 7]), (13, [1, 4, 6, 7]), (14, [1, 4, 6, 42]), (15, [2]), (16, [1, 4, 6, 8]), (17, [1, 4, 6, 8]), (18, [1, 4, 6, 8, 9]), (19, [1, 4, 6, 8, 9]), (20, [1, 4, 6, 8, 9, 50]), (21, [2]), (22, [1, 4, 6, 8, 53]), (23, [2]), (24, [4, 6, 8, 10]), (25, [6, 8, 60]), (26, [2]), (27, [6, 8, 9]), (28, [8, 9]), (29, [8, 9, 65]), (30, [2]), (31, [68]), (32, [2]), (33, [2])]
theorem law_t (c : Code) (hl : c.len) : Tells Try.prog E0 X 3 [c.a false] (bA true) := by
  have hsz := szCode_t (X := X) c 1048576 hl.1 (fun p hp => (hl.2.1 p hp).1) hl.2.2.1
  refine Tells.by Try.func3 (by simp [Try.f3]) (Body.i rfl rfl rfl (fun _ => rfl) fun f => ?_)
  repeat' (first
     | refine wp_seq_i ?_ | refine wp_region_t k_law rfl ?_ | refine Run.done rfl ?_ | refine then_n ?_ | refine then_r ?_ | refine then_e ?_ | refine Run.go1 rfl ?_ | refine wp_skip_i ?_ | refine wp_ret_i ?_ | refine wp_exit_i ?_
     | refine wp_block_i ?_ | refine block_n ?_ | refine block_r ?_ | refine block_e ?_ | refine block_o rfl ?_ | refine wp_cond_t rfl ?_ | refine wp_cond_f rfl ?_ | refine Run.call rfl rfl rfl (hsz) rfl rfl ?_
     | (refine wp_cond_k rfl rfl rfl ?_ ?_ <;> intro _) | (refine wp_cond_i rfl ?_ ?_ <;> intro _))
  · refine ret_m [] rfl rfl rfl
  rename_i h
  have hc : c.ok := szCode_ok hl (by simpa using h)
  have hS : Tells Try.prog E0 X 8 [c.s] (.t (.sl true ((codeBytes c).map uR))) := by rw [Code.s_eq]; exact PutCodeS_t c hc
  have hI : Tells Try.prog E0 X 10 [c.s] (.t (.sl true ((codeBytes c).map uR))) := by rw [Code.s_eq]; exact PutCodeI_t c hc
  have hE : ∀ a b : List Int, a.length ≤ 300000000 → Tells Try.prog E0 X 11 [.t (.sl false (shrR (a.map uR))), .t (.sl false (shrR (b.map uR)))] (bA (decide (a = b))) := fun a b ha => by rw [shr_U, shr_U]; exact eqByteS_t a b (by omega)
  have hEc : Tells Try.prog E0 X 12 [c.s, c.s] (bA (decide (c = c))) := by rw [Code.s_eq]; exact eqCode_t c c hc
  have hbl := codeBytes_len (c := c)
  have hM := mkCode_up hc
  have hK : ¬ (mkB (codeBytes c) 1).2 < 0 := by rw [mkB_up _ _ (by omega) (by omega)]; omega
  have hH : ∀ l k, l.length ≤ 300000000 → Tells Try.prog E0 X 15 [.t (.sl false (shrR (l.map uR))), iA k] (iA (heB l k)) := fun l k hk => by rw [shr_U]; exact heldByteS_t l k (by omega)
  repeat' (first
     | refine wp_seq_i ?_ | refine wp_region_t k_law rfl ?_ | refine Run.done rfl ?_ | refine then_n ?_ | refine then_r ?_ | refine then_e ?_ | refine Run.go1 rfl ?_ | refine wp_skip_i ?_ | refine wp_ret_i ?_ | refine wp_exit_i ?_
     | refine wp_block_i ?_ | refine block_n ?_ | refine block_r ?_ | refine block_e ?_ | refine block_o rfl ?_ | refine wp_cond_t rfl ?_ | refine wp_cond_f rfl ?_ | refine RunQ.go1 rfl ?_ | refine RunQ.done rfl ?_
     | refine Run.gT rfl rfl rfl rfl ?_ | refine Run.pT rfl rfl ?_ | (refine Run.splitG rfl rfl rfl rfl rfl rfl ?_ ?_ <;> intro _) | (refine Run.splitP rfl rfl rfl rfl ?_ ?_ <;> intro _) | refine RunQ.gT rfl rfl rfl rfl ?_
     | refine RunQ.pT rfl rfl ?_ | (refine RunQ.splitG rfl rfl rfl rfl rfl rfl ?_ ?_ <;> intro _) | (refine RunQ.splitP rfl rfl rfl rfl ?_ ?_ <;> intro _) | refine Run.call rfl rfl rfl (toCode_t c hc) rfl rfl ?_
     | refine Run.callB rfl rfl rfl (hS) (own_B _) rfl ?_ | refine Run.callB rfl rfl rfl (hI) (own_B _) rfl ?_ | refine Run.callB rfl rfl rfl (hE (codeBytes c) (codeBytes c) hbl) (by simp [AV.own, T.own]) rfl ?_
     | refine wp_region_l k_law [0, 1] [2, 3] [0, 0, 2, 7, 15] rfl (by decide +kernel) (by decide +kernel) rfl rfl ?_ | refine RunL.call rfl rfl rfl rfl (toCode_t c hc) (.inl rfl) rfl rfl ?_
     | refine RunL.call rfl rfl rfl rfl (hEc) (.inr (by simp [AV.own, T.own])) rfl rfl ?_ | refine RunL.done ?_ | refine Run.call rfl rfl rfl (markCode_t c 1 hc) rfl rfl ?_
     | refine Run.call rfl rfl rfl (markByteS_t _ _ (by omega)) rfl rfl ?_ | refine Run.callB rfl rfl rfl (hH _ _ (by simp only [mkB_len]; omega)) (by simp [AV.own, T.own]) rfl ?_ | (refine wp_cond_k rfl rfl rfl ?_ ?_ <;> intro _)
     | (refine wp_cond_i rfl ?_ ?_ <;> intro _))
  all_goals first
    | (refine ret_m [] rfl rfl rfl; done)
    | (rename_i hx; exfalso; simp [heB_mkB, hK, hM] at hx; done)
    | (rename_i hx; exfalso; simp [heB_mkB] at hx; omega)
end Go.Proofs
