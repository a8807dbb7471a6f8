import Derived.Test.YtejioaahmgljgaaCI5
set_option linter.unusedVariables false
set_option linter.unusedSimpArgs false
set_option maxHeartbeats 4000000
namespace Go.Proofs
open Go Go.Ev
set_option maxRecDepth 100000
variable {X : Rel3}
def gB (funs : List Piece) (p : Piece) : Bool := rng p.lam 0 149 && (!decide (p.in_ < 1) && (pieceB p && lams2 funs p.ins))
theorem gB_eq {funs : List Piece} {p : Piece} : gB funs p = fB funs p := by
  unfold gB fB
  rw [lams2_eq]
  cases hp : pieceB p with
  | false => simp
  | true =>
    have hh : headB p = true := by simp [pieceB] at hp; exact hp.1
    have := headB_iff.1 hh
    rw [Bool.eq_iff_iff]
    simp [rng]
    constructor
    · rintro ⟨h1, h2, h3⟩; exact ⟨h1.1, h3⟩
    · rintro ⟨h1, h3⟩; exact ⟨by omega, by omega, h3⟩
theorem mainB {funs : List Piece} {p : Piece} (h : p.lam = -1) (hp : pieceB p = true) : p.in_ = 0 := by
  have hh : headB p = true := by simp [pieceB] at hp; exact hp.1
  have := headB_iff.1 hh
  omega
def k_CodeOkI : List (Nat × List Nat) := [(0, [1]), (1, [1, 33]), (2, [2]), (3, [1, 35, 36, 37]), (4, [1, 35, 36, 37, 38]), (5, [1, 3, 4, 35, 36, 37]), (6, [1, 35, 36, 37, 77]), (7, [2]), (8, [1, 35, 36, 37]), (9, [2])]
theorem CodeOkI_t (c : Code) (hc : c.ok) : Tells Try.prog E0 X 37 [c.a false] (bA (codeB c)) := by
  have hcl := hc.1
  have hme := lams2_eq (funs := c.funs) (p := c.main)
  have hm0 := mainB (funs := c.funs) (p := c.main)
  refine Tells.by Try.func37 (by simp [Try.f37]) (Body.i rfl rfl rfl (fun _ => rfl) fun f => ?_)
  repeat' (first
     | refine wp_seq_i ?_ | refine wp_region_t k_CodeOkI rfl ?_ | refine Run.done rfl ?_ | refine then_n ?_ | refine then_r ?_ | refine then_e ?_ | refine Run.go1 rfl ?_ | refine wp_skip_i ?_ | refine wp_ret_i ?_
     | refine wp_exit_i ?_ | refine wp_block_i ?_ | refine block_n ?_ | refine block_r ?_ | refine block_e ?_ | refine block_o rfl ?_ | refine wp_cond_t rfl ?_ | refine wp_cond_f rfl ?_ | refine Run.gT rfl rfl rfl rfl ?_
     | refine Run.pT rfl rfl ?_ | (refine Run.splitG rfl rfl rfl rfl rfl rfl ?_ ?_ <;> intro _) | (refine Run.splitP rfl rfl rfl rfl ?_ ?_ <;> intro _) | refine Run.call rfl rfl rfl (pieceOk_t c.main hc.2.2) rfl rfl ?_
     | refine Run.call rfl rfl rfl (lamsOk_t c c.main hc.1 hc.2.2) rfl rfl ?_ | (refine wp_cond_k rfl rfl rfl ?_ ?_ <;> intro _) | (refine wp_cond_i rfl ?_ ?_ <;> intro _))
  any_goals (refine ret_m [] rfl rfl ?_; have hx : codeB c = ((decide ((c.funs.length : Int) ≤ 200) && c.main.lam == -1) && ((pieceB c.main && lams2 c.funs c.main.ins) && (asc (lamsL c.funs) && allP c.funs c.funs))) := (by rw [hme]; rfl); rw [hx]; clear hx hme; first | (simp_all; done) | (by_cases hq : pieceB c.main = true <;> simp_all; done) | (simp_all; omega))
  have hM : pieceB c.main = true ∧ lamsB c.funs c.main.ins = true ∧ c.main.lam = -1 ∧ (c.funs.length : Int) ≤ 200 := by clear hm0; simp_all
  clear hme hm0
  refine wp_loop_k (α := Nat) [.keep [1, 35, 36, 37] [1]] (fun k => [(37, iA k)]) (fun _ => []) (fun _ => []) (fun k => k ≤ c.funs.length ∧ asc ((lamsL c.funs).drop (k - 1)) = asc (lamsL c.funs) ∧ allP c.funs (c.funs.drop k) = allP c.funs c.funs) (fun k => c.funs.length - k) 0 rfl (fun _ => rfl) rfl ⟨by simp, by simp, by simp⟩ ?_
  rintro k ⟨hk, hA, hI⟩
  by_cases hlt : k < c.funs.length
  · have hx : (c.funs.map (Piece.c false))[k]? = some (Piece.c false c.funs[k]) := map_at hlt
    have hy : (c.funs.map (Piece.c false))[k - 1]? = some (Piece.c false (c.funs[k - 1]'(by omega))) := map_at (by omega)
    have hpo := hc.2.1 _ (List.getElem_mem hlt)
    rw [allP_step hlt, ← gB_eq] at hI
    have hkk : decide ((k : Int) > 0) = true → IntKind.i64.wrap ((k : Int) - 1) = ((k - 1 : Nat) : Int) := by intro h; simp at h; rw [w_pred] <;> omega
    have hA1 : 0 < k → asc (lamsL c.funs) = (decide ((c.funs[k - 1]'(by omega)).lam < c.funs[k].lam) && asc ((lamsL c.funs).drop k)) := by
      intro h
      obtain ⟨j, rfl⟩ : ∃ j, k = j + 1 := ⟨k - 1, by omega⟩
      rw [← hA]; exact lams_step hlt
    have hA0 : k = 0 → asc ((lamsL c.funs).drop k) = asc (lamsL c.funs) := by rintro rfl; simp
    repeat' (first
       | refine wp_seq_i ?_ | refine wp_region_t k_CodeOkI rfl ?_ | refine Run.done rfl ?_ | refine then_n ?_ | refine then_r ?_ | refine then_e ?_ | refine Run.go1 rfl ?_ | refine wp_skip_i ?_ | refine wp_ret_i ?_
       | refine wp_exit_i ?_ | refine wp_block_i ?_ | refine block_n ?_ | refine block_r ?_ | refine block_e ?_ | refine block_o rfl ?_ | refine wp_cond_t rfl ?_ | refine wp_cond_f rfl ?_
       | refine wp_region_qt k_CodeOkI rfl 36 (by decide +kernel) rfl rfl ?_ | refine RunQ.go1 rfl ?_ | refine RunQ.done rfl ?_ | refine Run.gT rfl rfl rfl rfl ?_ | refine Run.pT rfl rfl ?_
       | (refine Run.splitG rfl rfl rfl rfl rfl rfl ?_ ?_ <;> intro _) | (refine Run.splitP rfl rfl rfl rfl ?_ ?_ <;> intro _) | refine RunQ.gT rfl rfl rfl rfl ?_ | refine RunQ.pT rfl rfl ?_
       | (refine RunQ.splitG rfl rfl rfl rfl rfl rfl ?_ ?_ <;> intro _) | (refine RunQ.splitP rfl rfl rfl rfl ?_ ?_ <;> intro _) | refine Run.ix rfl rfl rfl rfl rfl rfl rfl hx rfl rfl rfl ?_
       | refine RunQ.ix rfl rfl rfl rfl rfl rfl rfl hx rfl rfl rfl ?_ | refine RunQ.ix rfl rfl rfl rfl rfl rfl (hkk (by assumption)) hy rfl rfl rfl ?_ | refine RunQ.call rfl rfl rfl rfl rfl rfl (in_t _ _ _) (.inl rfl) rfl rfl ?_
       | refine RunQ.call rfl rfl rfl rfl rfl rfl (pieceOk_t _ hpo) (.inl rfl) rfl rfl ?_ | refine RunQ.call rfl rfl rfl rfl rfl rfl (lamsOk_t c _ hcl hpo) (.inl rfl) rfl rfl ?_ | (refine wp_cond_k rfl rfl rfl ?_ ?_ <;> intro _)
       | (refine wp_cond_i rfl ?_ ?_ <;> intro _))
    all_goals first
    | (rename_i h; simp [hlt] at h; done)
    | (exfalso; clear hA0 hA1 hA hI hM; simp_all; done)
    | (refine ret_m [] rfl rfl ?_
       have hl : (0 < k ∧ ¬ (c.funs[k - 1]'(by omega)).lam < c.funs[k].lam) ∨ gB c.funs c.funs[k] = false := by
         clear hA0 hA1 hA hI hM
         rcases Nat.eq_zero_or_pos k with h0 | h0
         · right; simp_all [gB]
         · simp_all [gB]
       rcases hl with ⟨h0, hl⟩ | hl
       · have := hA1 h0; simp [hl] at this; simp [codeB, this]
       · rw [hl] at hI; simp [codeB, ← hI])
    | (refine back_i [.keep [1, 35, 36, 37] [1]] (k + 1) rfl ?_ ⟨by omega, ?_, ?_⟩ (by omega)
       · simp only [w_succ hlt (by omega)]
       · rcases Nat.eq_zero_or_pos k with h0 | h0
         · exact hA0 h0
         · have hq := hA1 h0
           have hl : (c.funs[k - 1]'(by omega)).lam < c.funs[k].lam := by clear hA0 hA1 hA hI hq hM; simp_all
           rw [hq]; simp [hl]
       · have hl : gB c.funs c.funs[k] = true := by clear hA0 hA1 hA hI hM; simp_all [gB]
         rw [← hI, hl, Bool.true_and])
  · have hk : k = c.funs.length := by omega
    subst hk
    have hA : asc (lamsL c.funs) = true := by rw [← hA]; exact asc_end (by simp; omega)
    simp [allP] at hI
    repeat' (first
       | refine wp_seq_i ?_ | refine wp_region_t k_CodeOkI rfl ?_ | refine Run.done rfl ?_ | refine then_n ?_ | refine then_r ?_ | refine then_e ?_ | refine Run.go1 rfl ?_ | refine wp_skip_i ?_ | refine wp_ret_i ?_
       | refine wp_exit_i ?_ | refine wp_block_i ?_ | refine block_n ?_ | refine block_r ?_ | refine block_e ?_ | refine block_o rfl ?_ | refine wp_cond_t rfl ?_ | refine wp_cond_f rfl ?_
       | (refine wp_cond_k rfl rfl rfl ?_ ?_ <;> intro _) | (refine wp_cond_i rfl ?_ ?_ <;> intro _))
    · rename_i h; simp at h
    · refine ret_m [] rfl rfl ?_
      have : allP c.funs c.funs = true := by simp [allP]; exact hI
      simp [codeB, hM, this, hA]
end Go.Proofs
