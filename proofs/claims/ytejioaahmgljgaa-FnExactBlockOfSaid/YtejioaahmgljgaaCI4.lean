import Derived.Test.YtejioaahmgljgaaCI3
set_option linter.unusedVariables false
set_option linter.unusedSimpArgs false
set_option maxHeartbeats 4000000
namespace Go.Proofs
open Go Go.Ev
set_option maxRecDepth 100000
variable {X : Rel3}
theorem pieceOk1_t (p : Piece) (i : Ins) (hr : 0 ≤ p.regs ∧ p.regs ≤ 400) (hn : p.ins.length ≤ 600) (hl : i.l.length ≤ 1048576) : Tells Try.prog E0 X 80 [i.a false, .t (.pt (Piece.c false p))] (bA (!insB p.regs p.ins.length i)) := by
  refine Tells.by Try.func80 (by simp [Try.f80]) (Body.i rfl rfl rfl (fun _ => rfl) fun f => ?_)
  repeat' (first
     | refine wp_seq_i ?_ | refine wp_region_i ?_ | refine Run.done rfl ?_ | refine then_n ?_ | refine then_r ?_ | refine then_e ?_ | refine Run.go1 rfl ?_ | refine wp_skip_i ?_ | refine wp_ret_i ?_ | refine wp_exit_i ?_
     | refine wp_block_i ?_ | refine block_n ?_ | refine block_r ?_ | refine block_e ?_ | refine block_o rfl ?_ | refine wp_cond_t rfl ?_ | refine wp_cond_f rfl ?_ | refine Run.call rfl rfl rfl (insOk_t p i hr hn hl) rfl rfl ?_
     | (refine wp_cond_k rfl rfl rfl ?_ ?_ <;> intro _) | (refine wp_cond_i rfl ?_ ?_ <;> intro _))
  all_goals (refine ret_m [] rfl rfl ?_; rfl)
theorem allI_any {l : List Ins} {r n : Int} : (l.any fun i => !insB r n i) = !allI r n l := by
  simp only [allI, List.all_eq_not_any_not, Bool.not_not]
def k_pieceOk : List (Nat × List Nat) := [(0, [1]), (1, [1, 3]), (2, [1, 3, 28]), (3, [2]), (4, [2])]
theorem pieceOk_t (p : Piece) (hp : p.ok) : Tells Try.prog E0 X 60 [p.a false] (bA (pieceB p)) := by
  have hany := allI_any (l := p.ins) (r := p.regs) (n := p.ins.length)
  by_cases hh : headB p = true
  · have hh' := headB_iff.1 hh
    have hreg : 0 ≤ p.regs ∧ p.regs ≤ 400 := by omega
    have hin : p.ins.length ≤ 600 := by omega
    have hv : IntKind.i64.wrap (((p.ins.map (Ins.c false)).length : Int) - 1) = ((p.ins.length - 1 : Nat) : Int) := by rw [List.length_map, w_pred] <;> omega
    have hx : (p.ins.map (Ins.c false))[p.ins.length - 1]? = some (Ins.c false (p.ins[p.ins.length - 1]'(by omega))) := map_at (by omega)
    have hl := lastB_eq (l := p.ins) (by omega)
    have hcf := containsFIns_t (X := X) p.ins 80 rfl (Piece.c false p) (fun i => !insB p.regs p.ins.length i) (fun i hi => pieceOk1_t p i hreg hin (hp.2 _ hi)) hp.1
    rw [hany] at hcf
    refine Tells.by Try.func60 (by simp [Try.f60]) (Body.i rfl rfl rfl (fun _ => rfl) fun f => ?_)
    repeat' (first
       | refine wp_seq_i ?_ | refine wp_region_t k_pieceOk rfl ?_ | refine Run.done rfl ?_ | refine then_n ?_ | refine then_r ?_ | refine then_e ?_ | refine Run.go1 rfl ?_ | refine wp_skip_i ?_ | refine wp_ret_i ?_
       | refine wp_exit_i ?_ | refine wp_block_i ?_ | refine block_n ?_ | refine block_r ?_ | refine block_e ?_ | refine block_o rfl ?_ | refine wp_cond_t rfl ?_ | refine wp_cond_f rfl ?_ | refine Run.gT rfl rfl rfl rfl ?_
       | refine Run.pT rfl rfl ?_ | (refine Run.splitG rfl rfl rfl rfl rfl rfl ?_ ?_ <;> intro _) | (refine Run.splitP rfl rfl rfl rfl ?_ ?_ <;> intro _) | refine Run.call rfl rfl rfl (in_t _ _ _) rfl rfl ?_
       | refine Run.call rfl rfl rfl (lamOk_t p) rfl rfl ?_ | refine Run.callB rfl rfl rfl (hcf) (by simp [AV.own, T.own]) rfl ?_ | refine Run.ix rfl rfl rfl rfl rfl rfl hv hx rfl rfl rfl ?_
       | (refine wp_cond_k rfl rfl rfl ?_ ?_ <;> intro _) | (refine wp_cond_i rfl ?_ ?_ <;> intro _))
    all_goals clear hcf hany
    all_goals (refine ret_m [] rfl rfl ?_)
    any_goals (simp_all [pieceB, headB]; done)
  · have hh0 : headB p = false := by simpa using hh
    have hb : pieceB p = false := by simp [pieceB, hh0]
    rw [hb]
    refine Tells.by Try.func60 (by simp [Try.f60]) (Body.i rfl rfl rfl (fun _ => rfl) fun f => ?_)
    repeat' (first
       | refine wp_seq_i ?_ | refine wp_region_t k_pieceOk rfl ?_ | refine Run.done rfl ?_ | refine then_n ?_ | refine then_r ?_ | refine then_e ?_ | refine Run.go1 rfl ?_ | refine wp_skip_i ?_ | refine wp_ret_i ?_
       | refine wp_exit_i ?_ | refine wp_block_i ?_ | refine block_n ?_ | refine block_r ?_ | refine block_e ?_ | refine block_o rfl ?_ | refine wp_cond_t rfl ?_ | refine wp_cond_f rfl ?_ | refine Run.gT rfl rfl rfl rfl ?_
       | refine Run.pT rfl rfl ?_ | (refine Run.splitG rfl rfl rfl rfl rfl rfl ?_ ?_ <;> intro _) | (refine Run.splitP rfl rfl rfl rfl ?_ ?_ <;> intro _) | refine Run.call rfl rfl rfl (in_t _ _ _) rfl rfl ?_
       | refine Run.call rfl rfl rfl (lamOk_t p) rfl rfl ?_ | (refine wp_cond_k rfl rfl rfl ?_ ?_ <;> intro _) | (refine wp_cond_i rfl ?_ ?_ <;> intro _))
    any_goals (refine ret_m [] rfl rfl ?_; rfl)
    all_goals (exfalso; clear hany; simp_all [headB])
theorem pieceAt1_t (p : Piece) (n : Int) : Tells Try.prog E0 X 103 [p.a false, .t (.pt [iT n])] (bA (p.lam == n)) := by
  refine Tells.by Try.func103 (by simp [Try.f103]) (Body.i rfl rfl rfl (fun _ => rfl) fun f => ?_)
  repeat' (first
     | refine wp_seq_i ?_ | refine wp_region_i ?_ | refine Run.done rfl ?_ | refine then_n ?_ | refine then_r ?_ | refine then_e ?_ | refine Run.go1 rfl ?_ | refine wp_skip_i ?_ | refine wp_ret_i ?_ | refine wp_exit_i ?_
     | refine wp_block_i ?_ | refine block_n ?_ | refine block_r ?_ | refine block_e ?_ | refine block_o rfl ?_ | refine wp_cond_t rfl ?_ | refine wp_cond_f rfl ?_ | (refine wp_cond_k rfl rfl rfl ?_ ?_ <;> intro _)
     | (refine wp_cond_i rfl ?_ ?_ <;> intro _))
  all_goals (refine ret_m [] rfl rfl ?_; rfl)
theorem pieceAt_t (c : Code) (n : Int) (hc : c.funs.length ≤ 1048576) : Tells Try.prog E0 X 88 [c.a false, iA n] (iA (funAt c.funs n)) := by
  refine Tells.by Try.func88 (by simp [Try.f88]) (Body.i rfl rfl rfl (fun _ => rfl) fun f => ?_)
  repeat' (first
     | refine wp_seq_i ?_ | refine wp_region_i ?_ | refine Run.done rfl ?_ | refine then_n ?_ | refine then_r ?_ | refine then_e ?_ | refine Run.go1 rfl ?_ | refine wp_skip_i ?_ | refine wp_ret_i ?_ | refine wp_exit_i ?_
     | refine wp_block_i ?_ | refine block_n ?_ | refine block_r ?_ | refine block_e ?_ | refine block_o rfl ?_ | refine wp_cond_t rfl ?_ | refine wp_cond_f rfl ?_
     | refine Run.callB rfl rfl rfl (indexFP_t c.funs 103 rfl [iT n] (fun p => p.lam == n) (fun p _ => pieceAt1_t p n) hc) (by simp [AV.own, T.own]) rfl ?_ | (refine wp_cond_k rfl rfl rfl ?_ ?_ <;> intro _)
     | (refine wp_cond_i rfl ?_ ?_ <;> intro _))
  all_goals (refine ret_m [] rfl rfl ?_; rfl)
end Go.Proofs
