import Derived.Test.YtejioaahmgljgaaCLawS
set_option linter.unusedVariables false
set_option linter.unusedSimpArgs false
set_option maxHeartbeats 4000000
namespace Go.Proofs
open Go Go.Ev
set_option maxRecDepth 100000
variable {X : Rel3}
/-- what is marked is held -/
def heI : List Int → Int → Int
  | [], k => k
  | x :: r, k => if x = k then heI r (IntKind.i64.wrap (k + 1)) else -1
theorem heI_mk : ∀ (l : List Int) (k : Int), heI (mk l k).1 k = (mk l k).2
  | [], k => rfl
  | x :: r, k => by rw [mk, heI, if_pos rfl]; exact heI_mk r _
theorem heldIntS_t (l : List Int) (k : Int) (hl : l.length ≤ 9223372036854775807) : Tells Try.prog E0 X 30 [.t (.sl false (l.map iR)), iA k] (iA (heI l k)) := by
  refine Tells.by Try.func30 (by simp [Try.f30]) (Body.i rfl rfl rfl (fun _ => rfl) fun f => ?_)
  repeat' (first
     | refine wp_seq_i ?_ | refine wp_region_i ?_ | refine Run.done rfl ?_ | refine then_n ?_ | refine then_r ?_ | refine then_e ?_ | refine Run.go1 rfl ?_ | refine wp_skip_i ?_ | refine wp_ret_i ?_ | refine wp_exit_i ?_
     | refine wp_block_i ?_ | refine block_n ?_ | refine block_r ?_ | refine block_e ?_ | refine block_o rfl ?_ | refine wp_cond_t rfl ?_ | refine wp_cond_f rfl ?_ | (refine wp_cond_k rfl rfl rfl ?_ ?_ <;> intro _)
     | (refine wp_cond_i rfl ?_ ?_ <;> intro _))
  refine wp_loop_k (α := Nat × Int) [.keep [0, 1, 4, 5] []] (fun p => [(1, iA p.2), (5, iA p.1)]) (fun _ => []) (fun _ => []) (fun p => p.1 ≤ l.length ∧ heI (l.drop p.1) p.2 = heI l k) (fun p => l.length - p.1) (0, k) rfl (fun _ => rfl) rfl ⟨by simp, by simp⟩ ?_
  rintro ⟨j, c⟩ ⟨hj, hc⟩
  simp only at hj hc
  by_cases hlt : j < l.length
  · have hx : (l.map iR)[j]? = some (iR l[j]) := by simp [hlt]
    rw [List.drop_eq_getElem_cons hlt, heI] at hc
    repeat' (first
       | refine wp_seq_i ?_ | refine wp_region_i ?_ | refine Run.done rfl ?_ | refine then_n ?_ | refine then_r ?_ | refine then_e ?_ | refine Run.go1 rfl ?_ | refine wp_skip_i ?_ | refine wp_ret_i ?_ | refine wp_exit_i ?_
       | refine wp_block_i ?_ | refine block_n ?_ | refine block_r ?_ | refine block_e ?_ | refine block_o rfl ?_ | refine wp_cond_t rfl ?_ | refine wp_cond_f rfl ?_ | refine Run.ix rfl rfl rfl rfl rfl rfl rfl hx rfl rfl rfl ?_
       | (refine wp_cond_k rfl rfl rfl ?_ ?_ <;> intro _) | (refine wp_cond_i rfl ?_ ?_ <;> intro _))
    · rename_i h
      rw [if_neg (by simpa using h)] at hc
      refine ret_m [] rfl rfl ?_
      rw [← hc]
    · rename_i h
      rw [if_pos (by simpa using h)] at hc
      refine back_i [.keep [0, 1, 4, 5] []] (j + 1, IntKind.i64.wrap (c + 1)) rfl ?_ ⟨by simp; omega, hc⟩ (by simp; omega)
      simp only [w_succ hlt hl]
    · rename_i h; simp [hlt] at h
  · have hjl : j = l.length := by omega
    repeat' (first
       | refine wp_seq_i ?_ | refine wp_region_i ?_ | refine Run.done rfl ?_ | refine then_n ?_ | refine then_r ?_ | refine then_e ?_ | refine Run.go1 rfl ?_ | refine wp_skip_i ?_ | refine wp_ret_i ?_ | refine wp_exit_i ?_
       | refine wp_block_i ?_ | refine block_n ?_ | refine block_r ?_ | refine block_e ?_ | refine block_o rfl ?_ | refine wp_cond_t rfl ?_ | refine wp_cond_f rfl ?_ | (refine wp_cond_k rfl rfl rfl ?_ ?_ <;> intro _)
       | (refine wp_cond_i rfl ?_ ?_ <;> intro _))
    · rename_i h; simp [hjl] at h
    · refine ret_m [] rfl rfl ?_
      rw [← hc, hjl, List.drop_length]; rfl
abbrev Piece.s (p : Piece) : AV := .ag [iA p.lam, iA p.in_, iA p.regs, .t (.sl false (shrR (p.ins.map (Ins.c true))))]
theorem Piece.s_eq (p : Piece) : p.s = p.a false := by simp only [Piece.s, Piece.a, shr_Inst]
theorem mkP_up {p : Piece} (hp : p.ok) : ¬ (mkInsS p.ins 1).2 < 0 := by
  have h2 := hp.1
  have := (mkInsS_up (k := 1) hp.2 (by omega) (by omega)).1
  omega
end Go.Proofs
