import Derived.Test.YtejioaahmgljgaaCL9
import Derived.Test.YtejioaahmgljgaaCSum
set_option linter.unusedVariables false
set_option linter.unusedSimpArgs false
set_option maxHeartbeats 4000000
namespace Go.Proofs
open Go Go.Ev
set_option maxRecDepth 100000
variable {X : Rel3}
theorem w_pred {n : Int} (h0 : -9223372036854775807 ≤ n) (h1 : n ≤ 9223372036854775807) : IntKind.i64.wrap (n - 1) = n - 1 := by rw [w64] <;> omega
theorem map_at {α β : Type} {f : α → β} {l : List α} {k : Nat} (h : k < l.length) : (l.map f)[k]? = some (f l[k]) := by simp [h]
theorem all_step {α : Type} {f : α → Bool} {l : List α} {k : Nat} (h : k < l.length) : (l.drop k).all f = (f l[k] && (l.drop (k + 1)).all f) := by
  rw [List.drop_eq_getElem_cons h, List.all_cons]
def asc : List Int → Bool
  | [] => true
  | [_] => true
  | x :: y :: r => decide (x < y) && asc (y :: r)
theorem asc_step {l : List Int} {k : Nat} (h : k + 1 < l.length) : asc (l.drop k) = (decide (l[k] < l[k + 1]) && asc (l.drop (k + 1))) := by
  rw [List.drop_eq_getElem_cons (show k < l.length by omega), List.drop_eq_getElem_cons h, asc]
theorem asc_end {l : List Int} {k : Nat} (h : l.length ≤ k + 1) : asc (l.drop k) = true := by
  have : (l.drop k).length ≤ 1 := by simp; omega
  match h : l.drop k with
  | [] => rfl
  | [_] => rfl
  | _ :: _ :: _ => rw [h] at this; simp at this
def regB (has : Bool) (r regs : Int) : Bool := if has then rng r 0 (regs - 1) else r == 0
def allR (l : List Int) (hi : Int) : Bool := l.all fun r => rng r 0 hi
theorem allR_step {l : List Int} {hi : Int} {k : Nat} (h : k < l.length) : allR (l.drop k) hi = (rng l[k] 0 hi && allR (l.drop (k + 1)) hi) := all_step h
def numB (regs : Int) (i : Ins) : Bool :=
  if i.op = 1 then rng i.n (-1000000) 1000000
  else if i.op = 2 then rng i.n 0 1
  else if i.op = 5 then rng i.n 1 5
  else if i.op = 8 then allR i.l (regs - 1) && (rng i.n 0 149 && decide ((i.l.length : Int) < 100))
  else if i.op = 14 then asc i.l && (i.n == 0 && decide ((i.l.length : Int) ≤ 200))
  else i.n == 0
def insB (regs n : Int) (i : Ins) : Bool :=
  rng i.op 1 18 && regB (uD i.op) i.d regs && regB (uX i.op) i.x regs && regB (uY i.op) i.y regs && (if uT i.op then rng i.to_ 0 (n - 1) else i.to_ == 0) &&
  (i.op == 8 || i.op == 14 || !decide (0 < (i.l.length : Int))) && numB regs i
def k_l9Ins : List (Nat × List Nat) := [(0, [2, 3]), (1, [2, 3, 5]), (2, [2, 3, 68]), (3, [4]), (4, [2, 3, 82]), (5, [4]), (6, [2, 3, 84]), (7, [2, 3, 84, 85]), (8, [4]), (9, [2, 3, 84, 90]), (10, [4]), (11, [2, 3, 84, 95]), (12, [4]), (13, [2, 3, 84, 100]), (14, [2, 3, 6]), (15, [2, 3, 6, 106]), (16, [2, 3, 6]), (17, [2, 3, 6, 118]), (18, [4]), (19, [4]), (20, [3, 128]), (21, [3, 7]), (22, [3, 7, 134]), (23, [3, 7]), (24, [3, 7, 148]), (25, [4]), (26, [4]), (27, [4])]
theorem l9Ins_t (p : Piece) (i : Ins) (hr : 0 ≤ p.regs ∧ p.regs ≤ 400) (hn : p.ins.length ≤ 600) (hl : i.l.length ≤ 1048576) : Tells Try.prog E0 X 73 [p.a false, i.a false] (bA (insB p.regs p.ins.length i)) := by
  have hw : IntKind.i64.wrap (p.regs - 1) = p.regs - 1 := w_pred (by omega) (by omega)
  have hv : IntKind.i64.wrap ((p.ins.length : Int) - 1) = p.ins.length - 1 := w_pred (by omega) (by omega)
  have hreg : ∀ b r, Tells Try.prog E0 X 92 [bA b, iA r, iA p.regs] (bA (regB b r p.regs)) := by intro b r; have := l9Reg_t (X := X) b r p.regs; simpa only [l9Reg, regB, hw] using this
  refine Tells.by Try.func73 (by simp [Try.f73]) (Body.i rfl rfl rfl (fun _ => rfl) fun f => ?_)
  repeat' (first
     | refine wp_seq_i ?_ | refine wp_region_t k_l9Ins rfl ?_ | refine Run.done rfl ?_ | refine then_n ?_ | refine then_r ?_ | refine then_e ?_ | refine Run.go1 rfl ?_ | refine wp_skip_i ?_ | refine wp_ret_i ?_
     | refine wp_exit_i ?_ | refine wp_block_i ?_ | refine block_n ?_ | refine block_r ?_ | refine block_e ?_ | refine block_o rfl ?_ | refine wp_cond_t rfl ?_ | refine wp_cond_f rfl ?_ | refine Run.gT rfl rfl rfl rfl ?_
     | refine Run.pT rfl rfl ?_ | (refine Run.splitG rfl rfl rfl rfl rfl rfl ?_ ?_ <;> intro _) | (refine Run.splitP rfl rfl rfl rfl ?_ ?_ <;> intro _) | refine Run.call rfl rfl rfl (l1In_t _ _ _) rfl rfl ?_
     | refine Run.call rfl rfl rfl (l9Uses_t _) rfl rfl ?_ | refine Run.call rfl rfl rfl (hreg _ _) rfl rfl ?_ | refine Run.one rfl rfl rfl ?_ | (refine wp_cond_k rfl rfl rfl ?_ ?_ <;> intro _)
     | (refine wp_cond_i rfl ?_ ?_ <;> intro _))
  any_goals (refine ret_m [] rfl rfl ?_; first | (simp_all [insB]; done) | (simp_all [insB, numB]; done))
  any_goals (exfalso; clear hreg hw hv; simp_all [uT]; done)
  · refine wp_loop_k (α := Nat) [.keep [3, 7] [3]] (fun k => [(7, iA k)]) (fun _ => []) (fun _ => []) (fun k => (1 ≤ k ∧ k ≤ i.l.length + 1) ∧ asc (i.l.drop (k - 1)) = asc i.l) (fun k => i.l.length - k) 1 rfl (fun _ => rfl) rfl ?_ ?_
    · simp
    rintro k ⟨hk, hI⟩
    by_cases hlt : k < i.l.length
    · have hx : (i.l.map iR)[k]? = some (iR i.l[k]) := by simp [hlt]
      have hy : (i.l.map iR)[k - 1]? = some (iR (i.l[k - 1]'(by omega))) := by simp [hlt] <;> omega
      have hkk : IntKind.i64.wrap ((k : Int) - 1) = ((k - 1 : Nat) : Int) := by rw [w_pred] <;> omega
      have hst := asc_step (l := i.l) (k := k - 1) (by omega)
      have e1 : k - 1 + 1 = k := by omega
      simp only [e1] at hst
      repeat' (first
         | refine wp_seq_i ?_ | refine wp_region_t k_l9Ins rfl ?_ | refine Run.done rfl ?_ | refine then_n ?_ | refine then_r ?_ | refine then_e ?_ | refine Run.go1 rfl ?_ | refine wp_skip_i ?_ | refine wp_ret_i ?_
         | refine wp_exit_i ?_ | refine wp_block_i ?_ | refine block_n ?_ | refine block_r ?_ | refine block_e ?_ | refine block_o rfl ?_ | refine wp_cond_t rfl ?_ | refine wp_cond_f rfl ?_
         | refine wp_region_qt k_l9Ins rfl 12 rfl rfl rfl ?_ | refine RunQ.go1 rfl ?_ | refine RunQ.done rfl ?_ | refine RunQ.ix rfl rfl rfl rfl rfl rfl rfl hx rfl rfl rfl ?_
         | refine RunQ.ix rfl rfl rfl rfl rfl rfl hkk hy rfl rfl rfl ?_ | (refine wp_cond_k rfl rfl rfl ?_ ?_ <;> intro _) | (refine wp_cond_i rfl ?_ ?_ <;> intro _))
      · rename_i h1 h2
        refine ret_m [] rfl rfl ?_
        have : asc i.l = false := by rw [← hI, hst]; simp at h2; simp; omega
        simp_all [insB, numB]
      · rename_i h1 h2
        refine back_i [.keep [3, 7] [3]] (k + 1) rfl ?_ ⟨by omega, ?_⟩ (by omega)
        · simp only [w_succ hlt (by omega)]
        · rw [← hI, hst]; simp at h2; simp; omega
      · rename_i h; simp [hlt] at h
    · have hend := asc_end (l := i.l) (k := k - 1) (by omega)
      repeat' (first
         | refine wp_seq_i ?_ | refine wp_region_t k_l9Ins rfl ?_ | refine Run.done rfl ?_ | refine then_n ?_ | refine then_r ?_ | refine then_e ?_ | refine Run.go1 rfl ?_ | refine wp_skip_i ?_ | refine wp_ret_i ?_
         | refine wp_exit_i ?_ | refine wp_block_i ?_ | refine block_n ?_ | refine block_r ?_ | refine block_e ?_ | refine block_o rfl ?_ | refine wp_cond_t rfl ?_ | refine wp_cond_f rfl ?_ | refine Run.gT rfl rfl rfl rfl ?_
         | refine Run.pT rfl rfl ?_ | (refine Run.splitG rfl rfl rfl rfl rfl rfl ?_ ?_ <;> intro _) | (refine Run.splitP rfl rfl rfl rfl ?_ ?_ <;> intro _) | (refine wp_cond_k rfl rfl rfl ?_ ?_ <;> intro _)
         | (refine wp_cond_i rfl ?_ ?_ <;> intro _))
      · rename_i h; simp [hlt] at h
      all_goals (refine ret_m [] rfl rfl ?_; simp_all [insB, numB])
  · refine wp_loop_k (α := Nat) [.keep [2, 3, 6] [2, 3]] (fun k => [(6, iA k)]) (fun _ => []) (fun _ => []) (fun k => k ≤ i.l.length ∧ allR (i.l.drop k) (p.regs - 1) = allR i.l (p.regs - 1)) (fun k => i.l.length - k) 0 rfl (fun _ => rfl) rfl ?_ ?_
    · simp
    rintro k ⟨hk, hI⟩
    by_cases hlt : k < i.l.length
    · have hx : (i.l.map iR)[k]? = some (iR i.l[k]) := by simp [hlt]
      rw [allR_step hlt] at hI
      repeat' (first
         | refine wp_seq_i ?_ | refine wp_region_t k_l9Ins rfl ?_ | refine Run.done rfl ?_ | refine then_n ?_ | refine then_r ?_ | refine then_e ?_ | refine Run.go1 rfl ?_ | refine wp_skip_i ?_ | refine wp_ret_i ?_
         | refine wp_exit_i ?_ | refine wp_block_i ?_ | refine block_n ?_ | refine block_r ?_ | refine block_e ?_ | refine block_o rfl ?_ | refine wp_cond_t rfl ?_ | refine wp_cond_f rfl ?_
         | refine wp_region_qt k_l9Ins rfl 10 rfl rfl rfl ?_ | refine RunQ.go1 rfl ?_ | refine RunQ.done rfl ?_ | refine RunQ.ix rfl rfl rfl rfl rfl rfl rfl hx rfl rfl rfl ?_
         | refine RunQ.call rfl rfl rfl rfl rfl rfl (l1In_t _ _ _) (.inl rfl) rfl rfl ?_ | (refine wp_cond_k rfl rfl rfl ?_ ?_ <;> intro _) | (refine wp_cond_i rfl ?_ ?_ <;> intro _))
      · rename_i h1 h2
        refine ret_m [] rfl rfl ?_
        rw [hw] at h2
        have : allR i.l (p.regs - 1) = false := by rw [← hI]; simp at h2; simp [h2]
        simp_all [insB, numB]
      · rename_i h1 h2
        refine back_i [.keep [2, 3, 6] [2, 3]] (k + 1) rfl ?_ ⟨by omega, ?_⟩ (by omega)
        · simp only [w_succ hlt (by omega)]
        · rw [hw] at h2; rw [← hI]; simp at h2; simp [h2]
      · rename_i h; simp [hlt] at h
    · have hk : k = i.l.length := by omega
      subst hk
      have hI : allR i.l (p.regs - 1) = true := by rw [← hI]; simp [allR]
      repeat' (first
         | refine wp_seq_i ?_ | refine wp_region_t k_l9Ins rfl ?_ | refine Run.done rfl ?_ | refine then_n ?_ | refine then_r ?_ | refine then_e ?_ | refine Run.go1 rfl ?_ | refine wp_skip_i ?_ | refine wp_ret_i ?_
         | refine wp_exit_i ?_ | refine wp_block_i ?_ | refine block_n ?_ | refine block_r ?_ | refine block_e ?_ | refine block_o rfl ?_ | refine wp_cond_t rfl ?_ | refine wp_cond_f rfl ?_ | refine Run.gT rfl rfl rfl rfl ?_
         | refine Run.pT rfl rfl ?_ | (refine Run.splitG rfl rfl rfl rfl rfl rfl ?_ ?_ <;> intro _) | (refine Run.splitP rfl rfl rfl rfl ?_ ?_ <;> intro _) | refine Run.call rfl rfl rfl (l1In_t _ _ _) rfl rfl ?_
         | (refine wp_cond_k rfl rfl rfl ?_ ?_ <;> intro _) | (refine wp_cond_i rfl ?_ ?_ <;> intro _))
      · rename_i h; simp at h
      all_goals (refine ret_m [] rfl rfl ?_; simp_all [insB, numB])
end Go.Proofs
