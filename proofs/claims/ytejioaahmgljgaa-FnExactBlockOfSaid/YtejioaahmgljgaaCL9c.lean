import Derived.Test.YtejioaahmgljgaaCL9b
import Derived.Test.YtejioaahmgljgaaCTo2
set_option linter.unusedVariables false
set_option linter.unusedSimpArgs false
set_option maxHeartbeats 4000000
namespace Go.Proofs
open Go Go.Ev
set_option maxRecDepth 100000
variable {X : Rel3}
def headB (p : Piece) : Bool := lamOk p && rng p.regs p.in_ 400 && rng p.ins.length 1 600
theorem headB_iff {p : Piece} : headB p = true ↔ ((p.lam = -1 ∧ p.in_ = 0) ∨ (0 ≤ p.lam ∧ p.lam ≤ 149 ∧ 1 ≤ p.in_)) ∧ p.in_ ≤ p.regs ∧ p.regs ≤ 400 ∧ 1 ≤ p.ins.length ∧ p.ins.length ≤ 600 := by
  simp [headB, lamOk, rng]; omega
def lastB (l : List Ins) : Bool := match l.getLast? with
  | some i => i.op == 15 || i.op == 13
  | none => false
theorem lastB_eq {l : List Ins} (h : 0 < l.length) : lastB l = (l[l.length - 1].op == 15 || l[l.length - 1].op == 13) := by
  simp only [lastB, List.getLast?_eq_getElem?, List.getElem?_eq_getElem (show l.length - 1 < l.length by omega)]
def allI (regs n : Int) (l : List Ins) : Bool := l.all (insB regs n)
theorem allI_step {regs n : Int} {l : List Ins} {k : Nat} (h : k < l.length) : allI regs n (l.drop k) = (insB regs n l[k] && allI regs n (l.drop (k + 1))) := all_step h
def pieceB (p : Piece) : Bool := headB p && (allI p.regs p.ins.length p.ins && lastB p.ins)
def k_l9Piece : List (Nat × List Nat) := [(0, [1]), (1, [1, 3]), (2, [1, 3, 49]), (3, [2]), (4, [1, 3, 4]), (5, [1, 3, 4, 52]), (6, [1, 3, 4]), (7, [1, 3, 4, 62]), (8, [2]), (9, [2])]
theorem l9Piece_t (p : Piece) (hp : p.ok) : Tells Try.prog E0 X 52 [p.a false] (bA (pieceB p)) := by
  refine Tells.by Try.func52 (by simp [Try.f52]) (Body.i rfl rfl rfl (fun _ => rfl) fun f => ?_)
  repeat' (first
     | refine wp_seq_i ?_ | refine wp_region_t k_l9Piece rfl ?_ | refine Run.done rfl ?_ | refine then_n ?_ | refine then_r ?_ | refine then_e ?_ | refine Run.go1 rfl ?_ | refine wp_skip_i ?_ | refine wp_ret_i ?_
     | refine wp_exit_i ?_ | refine wp_block_i ?_ | refine block_n ?_ | refine block_r ?_ | refine block_e ?_ | refine block_o rfl ?_ | refine wp_cond_t rfl ?_ | refine wp_cond_f rfl ?_ | refine Run.gT rfl rfl rfl rfl ?_
     | refine Run.pT rfl rfl ?_ | (refine Run.splitG rfl rfl rfl rfl rfl rfl ?_ ?_ <;> intro _) | (refine Run.splitP rfl rfl rfl rfl ?_ ?_ <;> intro _) | refine Run.call rfl rfl rfl (l1In_t _ _ _) rfl rfl ?_
     | (refine wp_cond_k rfl rfl rfl ?_ ?_ <;> intro _) | (refine wp_cond_i rfl ?_ ?_ <;> intro _))
  any_goals (refine ret_m [] rfl rfl ?_; have : headB p = false := Bool.eq_false_iff.2 (fun h => by have := headB_iff.1 h; simp [rng] at *; omega); simp [pieceB, this])
  all_goals (
    have hh : headB p = true := by (refine headB_iff.2 ?_; simp [rng] at *; omega)
    have hh' := headB_iff.1 hh
    have hv : IntKind.i64.wrap (((p.ins.map (Ins.c false)).length : Int) - 1) = ((p.ins.length - 1 : Nat) : Int) := by rw [List.length_map, w_pred] <;> omega
    refine wp_loop_k (α := Nat) [.keep [1, 3, 4] [1]] (fun k => [(4, iA k)]) (fun _ => []) (fun _ => []) (fun k => k ≤ p.ins.length ∧ allI p.regs p.ins.length (p.ins.drop k) = allI p.regs p.ins.length p.ins) (fun k => p.ins.length - k) 0 rfl (fun _ => rfl) (by simp) ?_ ?_
    · simp
    rintro k ⟨hk, hI⟩
    by_cases hlt : k < p.ins.length
    · have hx : (p.ins.map (Ins.c false))[k]? = some (Ins.c false p.ins[k]) := by simp [hlt]
      rw [allI_step hlt] at hI
      repeat' (first
         | refine wp_seq_i ?_ | refine wp_region_t k_l9Piece rfl ?_ | refine Run.done rfl ?_ | refine then_n ?_ | refine then_r ?_ | refine then_e ?_ | refine Run.go1 rfl ?_ | refine wp_skip_i ?_ | refine wp_ret_i ?_
         | refine wp_exit_i ?_ | refine wp_block_i ?_ | refine block_n ?_ | refine block_r ?_ | refine block_e ?_ | refine block_o rfl ?_ | refine wp_cond_t rfl ?_ | refine wp_cond_f rfl ?_
         | refine wp_region_qt k_l9Piece rfl 8 rfl rfl rfl ?_ | refine RunQ.go1 rfl ?_ | refine RunQ.done rfl ?_ | refine RunQ.ix rfl rfl rfl rfl rfl rfl rfl hx rfl rfl rfl ?_
         | refine RunQ.call rfl rfl rfl rfl rfl rfl (l9Ins_t p p.ins[k] (by omega) (by omega) (hp.2 _ (List.getElem_mem hlt))) (.inl rfl) rfl rfl ?_ | (refine wp_cond_k rfl rfl rfl ?_ ?_ <;> intro _)
         | (refine wp_cond_i rfl ?_ ?_ <;> intro _))
      · rename_i h1 h2
        refine ret_m [] rfl rfl ?_
        have : allI p.regs p.ins.length p.ins = false := by rw [← hI]; simp at h2; simp [h2]
        simp [pieceB, this]
      · rename_i h1 h2
        refine back_i [.keep [1, 3, 4] [1]] (k + 1) rfl ?_ ⟨by omega, ?_⟩ (by omega)
        · simp only [w_succ hlt (by omega)]
        · rw [← hI]; simp at h2; simp [h2]
      · rename_i h; simp [hlt] at h
    · have hk : k = p.ins.length := by omega
      subst hk
      have hI : allI p.regs p.ins.length p.ins = true := by rw [← hI]; simp [allI]
      have hx : (p.ins.map (Ins.c false))[p.ins.length - 1]? = some (Ins.c false (p.ins[p.ins.length - 1]'(by omega))) := map_at (by omega)
      have hl := lastB_eq (l := p.ins) (by omega)
      repeat' (first
         | refine wp_seq_i ?_ | refine wp_region_t k_l9Piece rfl ?_ | refine Run.done rfl ?_ | refine then_n ?_ | refine then_r ?_ | refine then_e ?_ | refine Run.go1 rfl ?_ | refine wp_skip_i ?_ | refine wp_ret_i ?_
         | refine wp_exit_i ?_ | refine wp_block_i ?_ | refine block_n ?_ | refine block_r ?_ | refine block_e ?_ | refine block_o rfl ?_ | refine wp_cond_t rfl ?_ | refine wp_cond_f rfl ?_ | refine Run.gT rfl rfl rfl rfl ?_
         | refine Run.pT rfl rfl ?_ | (refine Run.splitG rfl rfl rfl rfl rfl rfl ?_ ?_ <;> intro _) | (refine Run.splitP rfl rfl rfl rfl ?_ ?_ <;> intro _) | refine Run.ix rfl rfl rfl rfl rfl rfl hv hx rfl rfl rfl ?_
         | (refine wp_cond_k rfl rfl rfl ?_ ?_ <;> intro _) | (refine wp_cond_i rfl ?_ ?_ <;> intro _))
      any_goals (refine ret_m [] rfl rfl ?_; simp_all [pieceB]; done)
      all_goals (rename_i h; simp at h))
end Go.Proofs
