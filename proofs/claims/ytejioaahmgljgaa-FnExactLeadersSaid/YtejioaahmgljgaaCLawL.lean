import Derived.Test.YtejioaahmgljgaaCLawP
import Derived.Test.YtejioaahmgljgaaCB6
set_option linter.unusedVariables false
set_option linter.unusedSimpArgs false
set_option maxHeartbeats 4000000
namespace Go.Proofs
open Go Go.Ev
set_option maxRecDepth 100000
variable {X : Rel3}
def k_lawL : List (Nat × List Nat) := [(0, [1]), (1, [1, 3]), (2, [1, 3]), (3, [1, 15]), (4, [2]), (5, [1, 4]), (6, [1, 4, 5]), (7, [1, 4, 5, 6]), (8, [1, 4, 5, 6, 26]), (9, [2]), (10, [1, 4, 5, 6, 31]), (11, [2]), (12, [1, 4, 5, 6, 7]), (13, [1, 4, 6, 7]), (14, [1, 4, 6, 42]), (15, [2]), (16, [1, 4, 6, 8]), (17, [1, 4, 6, 8]), (18, [1, 4, 6, 8, 9]), (19, [1, 4, 6, 8, 9]), (20, [1, 4, 6, 8, 9, 50]), (21, [2]), (22, [1, 4, 6, 8, 53]), (23, [2]), (24, [4, 6, 8, 10]), (25, [6, 8, 60]), (26, [2]), (27, [6, 8, 9]), (28, [8, 9]), (29, [8, 9, 65]), (30, [2]), (31, [68]), (32, [2]), (33, [2])]
theorem leadsB_len' (p : Piece) : (leadsB p).length ≤ 1201 := by
  unfold leadsB
  split
  · rename_i h
    have := leads_len p.ins
    have hh : headB p = true := by unfold pieceB at h; simp at h; exact h.1
    have := (headB_iff.1 hh).2.2.2.2
    omega
  · simp
theorem lawL_t (p : Piece) (hl : p.len) : Tells Try.prog E0 XS 6 [p.a false] (bA true) := by
  have hsz := szPiece_t (X := XS) p 1048576 hl.1
  refine Tells.by Try.func6 (by simp [Try.f6]) (Body.i rfl rfl rfl (fun _ => rfl) fun f => ?_)
  repeat' (first
     | refine wp_seq_i ?_ | refine wp_region_t k_lawL rfl ?_ | refine Run.done rfl ?_ | refine then_n ?_ | refine then_r ?_ | refine then_e ?_ | refine Run.go1 rfl ?_ | refine wp_skip_i ?_ | refine wp_ret_i ?_
     | refine wp_exit_i ?_ | refine wp_block_i ?_ | refine block_n ?_ | refine block_r ?_ | refine block_e ?_ | refine block_o rfl ?_ | refine wp_cond_t rfl ?_ | refine wp_cond_f rfl ?_
     | refine Run.call rfl rfl rfl (hsz) rfl rfl ?_ | (refine wp_cond_k rfl rfl rfl ?_ ?_ <;> intro _) | (refine wp_cond_i rfl ?_ ?_ <;> intro _))
  · refine ret_m [] rfl rfl rfl
  rename_i h
  have hp : p.ok := (szPiece_ok (left := 1048576) hl (by omega) (by simpa using h)).1
  have hS : Tells Try.prog E0 XS 25 [p.s] (.t (.sl true ((leadsB p).map iR))) := by rw [Piece.s_eq]; exact LeadersS_t p hp
  have hI : Tells Try.prog E0 XS 26 [p.s] (.t (.sl true ((leadsB p).map iR))) := by rw [Piece.s_eq]; exact LeadersI_t p hp
  have hE : Tells Try.prog E0 XS 24 [p.s, p.s] (bA (decide (p = p))) := by rw [Piece.s_eq]; exact eqPiece_t p p hp
  have hEi : ∀ a b : List Int, a.length ≤ 1201 → Tells Try.prog E0 XS 27 [.t (.sl false (shrR (a.map iR))), .t (.sl false (shrR (b.map iR)))] (bA (decide (a = b))) := fun a b ha => by rw [shr_It, shr_It]; exact eqIntS_t a b (by omega)
  have hHe : ∀ l k, l.length ≤ 1201 → Tells Try.prog E0 XS 30 [.t (.sl false (shrR (l.map iR))), iA k] (iA (heI l k)) := fun l k hk => by rw [shr_It]; exact heldIntS_t l k (by omega)
  have hbl := leadsB_len' p
  have hM := mkP_up hp
  have hK : ¬ (mk (leadsB p) 1).2 < 0 := by rw [mk_up _ _ (by omega) (by omega)]; omega
  repeat' (first
     | refine wp_seq_i ?_ | refine wp_region_t k_lawL rfl ?_ | refine Run.done rfl ?_ | refine then_n ?_ | refine then_r ?_ | refine then_e ?_ | refine Run.go1 rfl ?_ | refine wp_skip_i ?_ | refine wp_ret_i ?_
     | refine wp_exit_i ?_ | refine wp_block_i ?_ | refine block_n ?_ | refine block_r ?_ | refine block_e ?_ | refine block_o rfl ?_ | refine wp_cond_t rfl ?_ | refine wp_cond_f rfl ?_ | refine RunQ.go1 rfl ?_
     | refine RunQ.done rfl ?_ | refine Run.gT rfl rfl rfl rfl ?_ | refine Run.pT rfl rfl ?_ | (refine Run.splitG rfl rfl rfl rfl rfl rfl ?_ ?_ <;> intro _) | (refine Run.splitP rfl rfl rfl rfl ?_ ?_ <;> intro _)
     | refine RunQ.gT rfl rfl rfl rfl ?_ | refine RunQ.pT rfl rfl ?_ | (refine RunQ.splitG rfl rfl rfl rfl rfl rfl ?_ ?_ <;> intro _) | (refine RunQ.splitP rfl rfl rfl rfl ?_ ?_ <;> intro _)
     | refine Run.call rfl rfl rfl (toPiece_t p hp) rfl rfl ?_ | refine Run.callB rfl rfl rfl (hS) (by simp [AV.own, T.own, own_I]) rfl ?_ | refine Run.callB rfl rfl rfl (hI) (by simp [AV.own, T.own, own_I]) rfl ?_
     | refine Run.callB rfl rfl rfl (hEi (leadsB p) (leadsB p) hbl) (by simp [AV.own, T.own]) rfl ?_ | refine wp_region_l k_lawL [0, 1] [2, 3] [0, 0, 2, 7, 15] rfl (by decide +kernel) (by decide +kernel) rfl rfl ?_
     | refine RunL.call rfl rfl rfl rfl (toPiece_t p hp) (.inl rfl) rfl rfl ?_ | refine RunL.call rfl rfl rfl rfl (hE) (.inr (by simp [AV.own, T.own])) rfl rfl ?_ | refine RunL.done ?_
     | refine Run.call rfl rfl rfl (markPiece_t p 1 hl.1 hl.2) rfl rfl ?_ | refine Run.call rfl rfl rfl (markIntS_t _ _ (by omega)) rfl rfl ?_
     | refine Run.callB rfl rfl rfl (hHe _ _ (by simp only [mk_len]; omega)) (by simp [AV.own, T.own]) rfl ?_ | (refine wp_cond_k rfl rfl rfl ?_ ?_ <;> intro _) | (refine wp_cond_i rfl ?_ ?_ <;> intro _))
  all_goals first
    | (refine ret_m [] rfl rfl rfl; done)
    | (rename_i hx; exfalso; simp [heI_mk, hK, hM] at hx; done)
    | (rename_i hx; exfalso; simp [heI_mk] at hx; omega)
end Go.Proofs
