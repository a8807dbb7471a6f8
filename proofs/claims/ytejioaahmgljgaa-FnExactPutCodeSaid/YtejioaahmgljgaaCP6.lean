import Derived.Test.YtejioaahmgljgaaCP5
set_option linter.unusedVariables false
set_option linter.unusedSimpArgs false
set_option maxHeartbeats 4000000
namespace Go.Proofs
open Go Go.Ev
set_option maxRecDepth 100000
variable {X : Rel3}
theorem insB_few {regs n : Int} {i : Ins} (h : insB regs n i = true) : i.few := by
  unfold Ins.few
  simp only [insB, Bool.and_eq_true] at h
  obtain ⟨⟨_, h1⟩, h2⟩ := h
  by_cases h8 : i.op = 8
  · simp [numB, h8] at h2; omega
  · by_cases h14 : i.op = 14
    · simp [numB, h14] at h2; omega
    · simp [h8, h14] at h1; simp [h1]
theorem pieceB_few {p : Piece} (h : pieceB p = true) : p.few := by
  simp only [pieceB, Bool.and_eq_true] at h
  have := headB_iff.1 h.1
  refine ⟨by omega, fun i hi => ?_⟩
  have h2 := h.2.1
  simp only [allI, List.all_eq_true] at h2
  exact insB_few (h2 i hi)
theorem codeB_few {c : Code} (h : codeB c = true) : c.funs.length ≤ 200 ∧ (∀ p ∈ c.funs, p.few) ∧ c.main.few := by
  simp only [codeB, Bool.and_eq_true, decide_eq_true_eq] at h
  refine ⟨by omega, fun p hp => ?_, pieceB_few h.2.1.1⟩
  have h2 := h.2.2.2
  simp only [allP, List.all_eq_true] at h2
  have := h2 p hp
  simp only [fB, Bool.and_eq_true] at this
  exact pieceB_few this.2.1
def encFuns (l : List Piece) : List Int := l.flatMap encPiece
theorem encFuns_len {l : List Piece} (h : ∀ p ∈ l, p.few) : (encFuns l).length ≤ 621020 * l.length := by
  induction l with
  | nil => simp [encFuns]
  | cons i r ih =>
    have h1 := encPiece_len (h i (List.mem_cons_self ..))
    have h2 := ih fun j hj => h j (List.mem_cons_of_mem _ hj)
    simp only [encFuns, List.flatMap_cons, List.length_append, List.length_cons] at h2 ⊢
    omega
theorem encFuns_step {l : List Piece} {k : Nat} (h : k < l.length) : encFuns (l.drop k) = encPiece l[k] ++ encFuns (l.drop (k + 1)) := by
  rw [List.drop_eq_getElem_cons h, encFuns, List.flatMap_cons]; rfl
theorem len_uR (l : List Int) : ∀ r ∈ l.map uR, r.length = 1 := by simp
def putB (c : Code) : List Int := [71, 87] ++ encN c.funs.length ++ encFuns c.funs ++ encPiece c.main
def codeBytes (c : Code) : List Int := if codeB c then putB c ++ sumBytes (putB c) else []
theorem l16Sum_s (l : List Int) (hl : l.length ≤ 9223372036854775807) : Tells Try.prog E0 X 35 [.t (.sl false (shrR (l.map uR)))] (iA (sumB l 0)) := by rw [shr_U]; exact l16Sum_t l hl
theorem codeSum_s (l : List Int) (hl : l.length ≤ 1000000000000) : Tells Try.prog E0 X 40 [.t (.sl false (shrR (l.map uR)))] (.t (.sl true ((sumBytes l).map uR))) := by rw [shr_U]; exact codeSum_t l hl
theorem putB_len {c : Code} (h : codeB c = true) : (putB c).length ≤ 200000000 := by
  obtain ⟨h1, h2, h3⟩ := codeB_few h
  have h4 := encFuns_len h2
  have h5 := encPiece_len h3
  have h6 := encN_len c.funs.length
  simp only [putB, List.length_append, List.length_cons, List.length_nil]
  omega
def k_PutCodeS : List (Nat × List Nat) := [(0, [1]), (1, [1, 8]), (2, [2]), (3, [1, 3]), (4, [1, 3, 4]), (5, [1, 3, 4, 20]), (6, [1, 3, 4]), (7, [1, 3, 4]), (8, [3]), (9, [3, 5]), (10, [2])]
theorem PutCodeS_t (c : Code) (hc : c.ok) : Tells Try.prog E0 X 8 [c.a false] (.t (.sl true ((codeBytes c).map uR))) := by
  have hN : Tells Try.prog E0 X 33 [.t (.sl false (shrR [[.sc (.int .u8 71)], [.sc (.int .u8 87)]])), iA ((c.funs.map (Piece.c false)).length : Int)] (.t (.sl true (([71, 87] ++ encN ((c.funs.map (Piece.c false)).length : Int)).map uR))) := PutNumS_s [71, 87] _ (by simp)
  refine Tells.by Try.func8 (by simp [Try.f8]) (Body.i rfl rfl rfl (fun _ => rfl) fun f => ?_)
  repeat' (first
     | refine wp_seq_i ?_ | refine wp_region_t k_PutCodeS rfl ?_ | refine Run.done rfl ?_ | refine then_n ?_ | refine then_r ?_ | refine then_e ?_ | refine Run.go1 rfl ?_ | refine wp_skip_i ?_ | refine wp_ret_i ?_
     | refine wp_exit_i ?_ | refine wp_block_i ?_ | refine block_n ?_ | refine block_r ?_ | refine block_e ?_ | refine block_o rfl ?_ | refine wp_cond_t rfl ?_ | refine wp_cond_f rfl ?_ | refine Run.one rfl rfl rfl ?_
     | refine Run.cnd4 rfl rfl rfl (by simp) ?_ | refine Run.call rfl rfl rfl (CodeOkS_t c hc) rfl rfl ?_ | refine Run.callB rfl rfl rfl (hN) (own_B _) rfl ?_ | (refine wp_cond_k rfl rfl rfl ?_ ?_ <;> intro _)
     | (refine wp_cond_i rfl ?_ ?_ <;> intro _))
  · rename_i h
    have h : codeB c = false := by simpa using h
    refine ret_m [] rfl rfl ?_; simp [codeBytes, h]
  rename_i h
  have h : codeB c = true := by simpa using h
  obtain ⟨hf1, hf2, hf3⟩ := codeB_few h
  have hpl := putB_len h
  refine wp_loop_k (α := Nat × List Int) [.keep [1, 3, 4] [1, 15]] (fun p => [(4, iA p.1)]) (fun _ => []) (fun p => [(15, 0, p.2.map uR)]) (fun q => q.1 ≤ c.funs.length ∧ q.2 ++ encFuns (c.funs.drop q.1) ++ encPiece c.main = putB c) (fun q => c.funs.length - q.1) (0, [71, 87] ++ encN ((c.funs.map (Piece.c false)).length : Int)) rfl (fun _ => rfl) rfl ⟨by simp, by simp [putB]⟩ ?_
  rintro ⟨k, d⟩ ⟨hk, h3⟩
  simp only at hk h3
  have hcl : d.length ≤ 1000000000 := by
    have h4 := congrArg List.length h3
    simp only [List.length_append] at h4
    omega
  by_cases hlt : k < c.funs.length
  · have hx : (c.funs.map (Piece.c false))[k]? = some (Piece.c false c.funs[k]) := map_at hlt
    have hf := hf2 _ (List.getElem_mem hlt)
    rw [encFuns_step hlt] at h3
    repeat' (first
       | refine wp_seq_i ?_ | refine wp_region_t k_PutCodeS rfl ?_ | refine Run.done rfl ?_ | refine then_n ?_ | refine then_r ?_ | refine then_e ?_ | refine Run.go1 rfl ?_ | refine wp_skip_i ?_ | refine wp_ret_i ?_
       | refine wp_exit_i ?_ | refine wp_block_i ?_ | refine block_n ?_ | refine block_r ?_ | refine block_e ?_ | refine block_o rfl ?_ | refine wp_cond_t rfl ?_ | refine wp_cond_f rfl ?_
       | refine Run.ix rfl rfl rfl rfl rfl rfl rfl hx rfl rfl rfl ?_ | refine Run.callB rfl rfl rfl (l16Piece_t d c.funs[k] hf hcl) (own_B _) rfl ?_ | (refine wp_cond_k rfl rfl rfl ?_ ?_ <;> intro _)
       | (refine wp_cond_i rfl ?_ ?_ <;> intro _))
    · refine back_i [.keep [1, 3, 4] [1, 29], .ren 29 15] (k + 1, d ++ encPiece c.funs[k]) rfl ?_ ⟨by simp; omega, by simpa using h3⟩ (by simp; omega)
      simp only [w_succ hlt (by omega)]
    · rename_i h; simp [hlt] at h
  · have hk : k = c.funs.length := by omega
    subst hk
    simp [encFuns] at h3
    have hdl : (d ++ encPiece c.main).length ≤ 200000000 := by rw [h3]; exact hpl
    repeat' (first
       | refine wp_seq_i ?_ | refine wp_region_t k_PutCodeS rfl ?_ | refine Run.done rfl ?_ | refine then_n ?_ | refine then_r ?_ | refine then_e ?_ | refine Run.go1 rfl ?_ | refine wp_skip_i ?_ | refine wp_ret_i ?_
       | refine wp_exit_i ?_ | refine wp_block_i ?_ | refine block_n ?_ | refine block_r ?_ | refine block_e ?_ | refine block_o rfl ?_ | refine wp_cond_t rfl ?_ | refine wp_cond_f rfl ?_
       | refine Run.callB rfl rfl rfl (l16Piece_t d c.main hf3 hcl) (own_B _) rfl ?_ | refine Run.callB rfl rfl rfl (l16Sum_s (d ++ encPiece c.main) (by omega)) (by simp [AV.own, T.own]) rfl ?_ | refine Run.one rfl rfl rfl ?_
       | refine Run.cnd rfl rfl rfl ⟨by simp at hdl ⊢; omega, len_uR _, by simp, .inl rfl, by simp [flatT]⟩ ?_ | (refine wp_cond_k rfl rfl rfl ?_ ?_ <;> intro _) | (refine wp_cond_i rfl ?_ ?_ <;> intro _))
    · rename_i h; simp at h
    · refine ret_m [] rfl rfl ?_
      rw [codeBytes, if_pos h, ← h3, sumBytes]
      simp [hiB]
end Go.Proofs
