import Derived.Test.YtejioaahmgljgaaCI2
set_option linter.unusedVariables false
set_option linter.unusedSimpArgs false
set_option maxHeartbeats 4000000
namespace Go.Proofs
open Go Go.Ev
set_option maxRecDepth 100000
variable {X : Rel3}
theorem insOk1_t (p : Piece) (r : Int) (hr : 0 ≤ p.regs ∧ p.regs ≤ 400) : Tells Try.prog E0 X 98 [iA r, .t (.pt (Piece.c false p))] (bA (!rng r 0 (p.regs - 1))) := by
  have hw : IntKind.i64.wrap (p.regs - 1) = p.regs - 1 := w_pred (by omega) (by omega)
  refine Tells.by Try.func98 (by simp [Try.f98]) (Body.i rfl rfl rfl (fun _ => rfl) fun f => ?_)
  repeat' (first
     | refine wp_seq_i ?_ | refine wp_region_i ?_ | refine Run.done rfl ?_ | refine then_n ?_ | refine then_r ?_ | refine then_e ?_ | refine Run.go1 rfl ?_ | refine wp_skip_i ?_ | refine wp_ret_i ?_ | refine wp_exit_i ?_
     | refine wp_block_i ?_ | refine block_n ?_ | refine block_r ?_ | refine block_e ?_ | refine block_o rfl ?_ | refine wp_cond_t rfl ?_ | refine wp_cond_f rfl ?_ | refine Run.call rfl rfl rfl (in_t _ _ _) rfl rfl ?_
     | (refine wp_cond_k rfl rfl rfl ?_ ?_ <;> intro _) | (refine wp_cond_i rfl ?_ ?_ <;> intro _))
  all_goals (refine ret_m [] rfl rfl ?_; simp [hw])
theorem allR_any {l : List Int} {hi : Int} : (!(l.any fun r => !rng r 0 hi)) = allR l hi := by
  simp only [allR, List.all_eq_not_any_not]
theorem numO_false (regs : Int) (i : Ins) (h : numO i = false) : numB regs i = false := by
  revert h; unfold numB numO; repeat' split
  all_goals simp_all
def k_insOk : List (Nat × List Nat) := [(0, [2, 3]), (1, [2, 3, 6]), (2, [2, 3, 33]), (3, [4]), (4, [2, 3, 64]), (5, [4]), (6, [2, 3, 67]), (7, [4]), (8, [3, 74, 75, 76]), (9, [3, 74, 75, 76, 77]), (10, [3, 7, 8, 74, 75, 76]), (11, [3, 74, 75, 76, 103]), (12, [4]), (13, [3, 74, 75, 76]), (14, [4])]
theorem insOk_t (p : Piece) (i : Ins) (hr : 0 ≤ p.regs ∧ p.regs ≤ 400) (hn : p.ins.length ≤ 600) (hl : i.l.length ≤ 1048576) : Tells Try.prog E0 X 81 [p.a false, i.a false] (bA (insB p.regs p.ins.length i)) := by
  have har := allR_any (l := i.l) (hi := p.regs - 1)
  have hT : regB (uT i.op) i.to_ p.ins.length = (if uT i.op then rng i.to_ 0 (p.ins.length - 1) else i.to_ == 0) := rfl
  refine Tells.by Try.func81 (by simp [Try.f81]) (Body.i rfl rfl rfl (fun _ => rfl) fun f => ?_)
  repeat' (first
     | refine wp_seq_i ?_ | refine wp_region_t k_insOk rfl ?_ | refine Run.done rfl ?_ | refine then_n ?_ | refine then_r ?_ | refine then_e ?_ | refine Run.go1 rfl ?_ | refine wp_skip_i ?_ | refine wp_ret_i ?_
     | refine wp_exit_i ?_ | refine wp_block_i ?_ | refine block_n ?_ | refine block_r ?_ | refine block_e ?_ | refine block_o rfl ?_ | refine wp_cond_t rfl ?_ | refine wp_cond_f rfl ?_
     | refine wp_region_qt k_insOk rfl 19 (by decide +kernel) rfl rfl ?_ | refine wp_region_qt k_insOk rfl 31 (by decide +kernel) rfl rfl ?_ | refine RunQ.go1 rfl ?_ | refine RunQ.done rfl ?_ | refine Run.gT rfl rfl rfl rfl ?_
     | refine Run.pT rfl rfl ?_ | (refine Run.splitG rfl rfl rfl rfl rfl rfl ?_ ?_ <;> intro _) | (refine Run.splitP rfl rfl rfl rfl ?_ ?_ <;> intro _) | refine RunQ.gT rfl rfl rfl rfl ?_ | refine RunQ.pT rfl rfl ?_
     | (refine RunQ.splitG rfl rfl rfl rfl rfl rfl ?_ ?_ <;> intro _) | (refine RunQ.splitP rfl rfl rfl rfl ?_ ?_ <;> intro _) | refine Run.call rfl rfl rfl (insForm_t _) rfl rfl ?_
     | refine Run.call rfl rfl rfl (numOk_t i) rfl rfl ?_ | refine Run.call rfl rfl rfl (hasT_t _) rfl rfl ?_ | refine Run.call rfl rfl rfl (hasD_t _) rfl rfl ?_ | refine Run.call rfl rfl rfl (hasX_t _) rfl rfl ?_
     | refine Run.call rfl rfl rfl (hasY_t _) rfl rfl ?_ | refine Run.call rfl rfl rfl (fieldOk_t _ _ _) rfl rfl ?_ | refine RunQ.call rfl rfl rfl rfl rfl rfl (insForm_t _) (.inl rfl) rfl rfl ?_
     | refine RunQ.call rfl rfl rfl rfl rfl rfl (numOk_t i) (.inl rfl) rfl rfl ?_ | refine RunQ.call rfl rfl rfl rfl rfl rfl (hasT_t _) (.inl rfl) rfl rfl ?_
     | refine RunQ.call rfl rfl rfl rfl rfl rfl (hasD_t _) (.inl rfl) rfl rfl ?_ | refine RunQ.call rfl rfl rfl rfl rfl rfl (hasX_t _) (.inl rfl) rfl rfl ?_
     | refine RunQ.call rfl rfl rfl rfl rfl rfl (hasY_t _) (.inl rfl) rfl rfl ?_ | refine RunQ.call rfl rfl rfl rfl rfl rfl (fieldOk_t _ _ _) (.inl rfl) rfl rfl ?_
     | refine Run.callB rfl rfl rfl (containsFI_t i.l 98 rfl (Piece.c false p) (fun r => !rng r 0 (p.regs - 1)) (fun r _ => insOk1_t p r hr) hl) (by simp [AV.own, T.own]) rfl ?_
     | (refine wp_cond_k rfl rfl rfl ?_ ?_ <;> intro _) | (refine wp_cond_i rfl ?_ ?_ <;> intro _))
  any_goals (refine ret_m [] rfl rfl ?_; simp only [har]; clear har; simp_all [insB, numB, numO]; done)
  any_goals (refine ret_m [] rfl rfl ?_; clear har; first | (simp_all [insB]; done) | (cases hu : uT i.op <;> simp_all [insB]; done) | (have := numO_false p.regs i; simp_all [insB]; done) | (simp_all [insB, numB, numO]; done))
  all_goals try (exfalso; simp_all; done)
  all_goals (
    have hA0 : i.l.length = 0 → asc i.l = true := by intro h; have : i.l = [] := List.eq_nil_of_length_eq_zero h; simp [this, asc]
    refine wp_loop_k (α := Nat) [.keep [2, 3, 74, 75, 76] [2, 3]] (fun k => [(76, iA k)]) (fun _ => []) (fun _ => []) (fun k => k ≤ i.l.length ∧ asc (i.l.drop (k - 1)) = asc i.l ∧ (0 < k → i.op = 14 ∧ (i.l.length : Int) ≤ 200)) (fun k => i.l.length - k) 0 rfl (fun _ => rfl) rfl ⟨by simp, by simp, by simp⟩ ?_
    rintro k ⟨hk, hA, hB⟩
    by_cases hlt : k < i.l.length
    · have hx : (i.l.map iR)[k]? = some (iR i.l[k]) := map_at hlt
      have hy : (i.l.map iR)[k - 1]? = some (iR (i.l[k - 1]'(by omega))) := map_at (by omega)
      have hkk : decide ((k : Int) > 0) = true → IntKind.i64.wrap ((k : Int) - 1) = ((k - 1 : Nat) : Int) := by intro h; simp at h; rw [w_pred] <;> omega
      have hA1 : 0 < k → asc i.l = (decide ((i.l[k - 1]'(by omega)) < i.l[k]) && asc (i.l.drop k)) := by
        intro h
        obtain ⟨j, rfl⟩ : ∃ j, k = j + 1 := ⟨k - 1, by omega⟩
        rw [← hA]; exact asc_step hlt
      have hA2 : k = 0 → asc (i.l.drop k) = asc i.l := by rintro rfl; simp
      repeat' (first
         | refine wp_seq_i ?_ | refine wp_region_t k_insOk rfl ?_ | refine Run.done rfl ?_ | refine then_n ?_ | refine then_r ?_ | refine then_e ?_ | refine Run.go1 rfl ?_ | refine wp_skip_i ?_ | refine wp_ret_i ?_
         | refine wp_exit_i ?_ | refine wp_block_i ?_ | refine block_n ?_ | refine block_r ?_ | refine block_e ?_ | refine block_o rfl ?_ | refine wp_cond_t rfl ?_ | refine wp_cond_f rfl ?_ | refine Run.gT rfl rfl rfl rfl ?_
         | refine Run.pT rfl rfl ?_ | (refine Run.splitG rfl rfl rfl rfl rfl rfl ?_ ?_ <;> intro _) | (refine Run.splitP rfl rfl rfl rfl ?_ ?_ <;> intro _) | refine Run.ix rfl rfl rfl rfl rfl rfl rfl hx rfl rfl rfl ?_
         | refine Run.ix rfl rfl rfl rfl rfl rfl (hkk (by assumption)) hy rfl rfl rfl ?_ | (refine wp_cond_k rfl rfl rfl ?_ ?_ <;> intro _) | (refine wp_cond_i rfl ?_ ?_ <;> intro _))
      all_goals first
      | (rename_i h; simp [hlt] at h; done)
      | (exfalso; clear hA hA0 hA1 hA2 hB har; simp_all; done)
      | (refine ret_m [] rfl rfl ?_
         have hl : (0 < k ∧ ¬ (i.l[k - 1]'(by omega)) < i.l[k]) ∨ i.op ≠ 14 ∨ 200 < (i.l.length : Int) := by
           clear hA hA0 hA1 hA2 hB har
           rcases Nat.eq_zero_or_pos k with h0 | h0 <;> simp_all
         have hlp : (0 : Int) < i.l.length := by omega
         have hnb : numB p.regs i = false ∨ i.op ≠ 14 := by
           by_cases h14 : i.op = 14
           · left
             rcases hl with ⟨h0, hl⟩ | hl | hl
             · have := hA1 h0; simp [hl] at this; simp [numB, h14, this]
             · exact absurd h14 hl
             · simp [numB, h14]; omega
           · exact .inr h14
         clear hA hA0 hA1 hA2 hB har hl
         rcases hnb with h | h <;> simp_all [insB])
      | (refine back_i [.keep [2, 3, 74, 75, 76] [2, 3]] (k + 1) rfl ?_ ⟨by omega, ?_, ?_⟩ (by omega)
         · simp only [w_succ hlt (by omega)]
         · rcases Nat.eq_zero_or_pos k with h0 | h0
           · exact hA2 h0
           · have hq := hA1 h0
             have hl : (i.l[k - 1]'(by omega)) < i.l[k] := by clear hA0 hA1 hA2 hA hB har hq; simp_all
             rw [hq]; simp [hl]
         · intro _; clear hA0 hA1 hA2 hA hB har; simp_all)
    · have hk : k = i.l.length := by omega
      subst hk
      have hA : asc i.l = true := by rw [← hA]; exact asc_end (by omega)
      repeat' (first
         | refine wp_seq_i ?_ | refine wp_region_t k_insOk rfl ?_ | refine Run.done rfl ?_ | refine then_n ?_ | refine then_r ?_ | refine then_e ?_ | refine Run.go1 rfl ?_ | refine wp_skip_i ?_ | refine wp_ret_i ?_
         | refine wp_exit_i ?_ | refine wp_block_i ?_ | refine block_n ?_ | refine block_r ?_ | refine block_e ?_ | refine block_o rfl ?_ | refine wp_cond_t rfl ?_ | refine wp_cond_f rfl ?_
         | (refine wp_cond_k rfl rfl rfl ?_ ?_ <;> intro _) | (refine wp_cond_i rfl ?_ ?_ <;> intro _))
      · rename_i h; simp at h
      · refine ret_m [] rfl rfl ?_
        clear har hA0
        rcases Nat.eq_zero_or_pos i.l.length with h0 | h0
        · have hnil : i.l = [] := List.eq_nil_of_length_eq_zero h0
          clear hB
          simp_all [insB, numB, numO]
        · have := hB h0
          clear hB
          simp_all [insB, numB, numO])
end Go.Proofs
