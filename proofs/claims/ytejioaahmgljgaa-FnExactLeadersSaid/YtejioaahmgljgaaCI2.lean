import Derived.Test.YtejioaahmgljgaaCI1
import Derived.Test.YtejioaahmgljgaaCL9e
set_option linter.unusedVariables false
set_option linter.unusedSimpArgs false
set_option maxHeartbeats 4000000
namespace Go.Proofs
open Go Go.Ev
set_option maxRecDepth 100000
variable {X : Rel3}
def k_indexFI : List (Nat × List Nat) := [(0, [0, 1]), (1, [0, 1, 7, 8]), (2, [0, 1, 7, 8, 9]), (3, [0, 1, 5, 7, 8]), (4, [0, 1, 5, 7, 8, 16]), (5, [4]), (6, [0, 1, 7, 8]), (7, [4])]
theorem indexFI_t (l : List Int) (g : FuncId) (hg : modeOf E0.md g = []) (cs : List T) (p : Int → Bool) (hp : ∀ x ∈ l, Tells Try.prog E0 X g [iA x, .t (.pt cs)] (bA (p x))) (hl : l.length ≤ 1048576) : Tells Try.prog E0 X 104 [.t (.sl false (l.map (iR))), .t (.fn g [.pt cs])] (iA (idx p l 0)) := by
  refine Tells.by Try.func104 (by simp [Try.f104]) (Body.i rfl rfl rfl (fun _ => rfl) fun f => ?_)
  repeat' (first
     | refine wp_seq_i ?_ | refine wp_region_t k_indexFI rfl ?_ | refine Run.done rfl ?_ | refine then_n ?_ | refine then_r ?_ | refine then_e ?_ | refine Run.go1 rfl ?_ | refine wp_skip_i ?_ | refine wp_ret_i ?_
     | refine wp_exit_i ?_ | refine wp_block_i ?_ | refine block_n ?_ | refine block_r ?_ | refine block_e ?_ | refine block_o rfl ?_ | refine wp_cond_t rfl ?_ | refine wp_cond_f rfl ?_
     | (refine wp_cond_k rfl rfl rfl ?_ ?_ <;> intro _) | (refine wp_cond_i rfl ?_ ?_ <;> intro _))
  refine wp_loop_k (α := Nat) [.keep [0, 1, 7, 8] []] (fun k => [(8, iA k)]) (fun _ => []) (fun _ => []) (fun k => k ≤ l.length ∧ idx p (l.drop k) k = idx p l 0) (fun k => l.length - k) 0 rfl (fun _ => rfl) rfl ⟨by simp, rfl⟩ ?_
  rintro k ⟨hk, hI⟩
  by_cases hlt : k < l.length
  · have hx : (l.map (iR))[k]? = some ((iR) l[k]) := map_at hlt
    rw [idx_step hlt] at hI
    repeat' (first
       | refine wp_seq_i ?_ | refine wp_region_t k_indexFI rfl ?_ | refine Run.done rfl ?_ | refine then_n ?_ | refine then_r ?_ | refine then_e ?_ | refine Run.go1 rfl ?_ | refine wp_skip_i ?_ | refine wp_ret_i ?_
       | refine wp_exit_i ?_ | refine wp_block_i ?_ | refine block_n ?_ | refine block_r ?_ | refine block_e ?_ | refine block_o rfl ?_ | refine wp_cond_t rfl ?_ | refine wp_cond_f rfl ?_
       | refine Run.ix rfl rfl rfl rfl rfl rfl rfl hx rfl rfl rfl ?_ | refine Run.callF rfl rfl rfl hg rfl (hp _ (List.getElem_mem hlt)) rfl rfl ?_ | (refine wp_cond_k rfl rfl rfl ?_ ?_ <;> intro _)
       | (refine wp_cond_i rfl ?_ ?_ <;> intro _))
    · rename_i h1 h2
      refine ret_m [] rfl rfl ?_
      rw [← hI, if_pos h2]
    · rename_i h1 h2
      refine back_i [.keep [0, 1, 7, 8] []] (k + 1) rfl ?_ ⟨by omega, ?_⟩ (by omega)
      · simp only [w_succ hlt (by omega)]
      · rw [← hI, if_neg (by simpa using h2)]
    · rename_i h; simp [hlt] at h
  · have hk : k = l.length := by omega
    subst hk
    simp [idx] at hI
    repeat' (first
       | refine wp_seq_i ?_ | refine wp_region_t k_indexFI rfl ?_ | refine Run.done rfl ?_ | refine then_n ?_ | refine then_r ?_ | refine then_e ?_ | refine Run.go1 rfl ?_ | refine wp_skip_i ?_ | refine wp_ret_i ?_
       | refine wp_exit_i ?_ | refine wp_block_i ?_ | refine block_n ?_ | refine block_r ?_ | refine block_e ?_ | refine block_o rfl ?_ | refine wp_cond_t rfl ?_ | refine wp_cond_f rfl ?_
       | (refine wp_cond_k rfl rfl rfl ?_ ?_ <;> intro _) | (refine wp_cond_i rfl ?_ ?_ <;> intro _))
    · rename_i h; simp at h
    · refine ret_m [] rfl rfl ?_; rw [hI]
theorem containsFI_t (l : List Int) (g : FuncId) (hg : modeOf E0.md g = []) (cs : List T) (p : Int → Bool) (hp : ∀ x ∈ l, Tells Try.prog E0 X g [iA x, .t (.pt cs)] (bA (p x))) (hl : l.length ≤ 1048576) : Tells Try.prog E0 X 97 [.t (.sl false (l.map (iR))), .t (.fn g [.pt cs])] (bA (l.any p)) := by
  have hi := idx_any (f := p) (l := l) (k := 0)
  refine Tells.by Try.func97 (by simp [Try.f97]) (Body.i rfl rfl rfl (fun _ => rfl) fun f => ?_)
  repeat' (first
     | refine wp_seq_i ?_ | refine wp_region_i ?_ | refine Run.done rfl ?_ | refine then_n ?_ | refine then_r ?_ | refine then_e ?_ | refine Run.go1 rfl ?_ | refine wp_skip_i ?_ | refine wp_ret_i ?_ | refine wp_exit_i ?_
     | refine wp_block_i ?_ | refine block_n ?_ | refine block_r ?_ | refine block_e ?_ | refine block_o rfl ?_ | refine wp_cond_t rfl ?_ | refine wp_cond_f rfl ?_
     | refine Run.call rfl rfl rfl (indexFI_t l g hg cs p hp hl) rfl rfl ?_ | (refine wp_cond_k rfl rfl rfl ?_ ?_ <;> intro _) | (refine wp_cond_i rfl ?_ ?_ <;> intro _))
  all_goals (refine ret_m [] rfl rfl ?_; rw [← hi])
def k_indexFIns : List (Nat × List Nat) := [(0, [0, 1]), (1, [0, 1, 7, 8]), (2, [0, 1, 7, 8, 9]), (3, [0, 1, 5, 7, 8]), (4, [0, 1, 5, 7, 8, 16]), (5, [4]), (6, [0, 1, 7, 8]), (7, [4])]
theorem indexFIns_t (l : List Ins) (g : FuncId) (hg : modeOf E0.md g = []) (cs : List T) (p : Ins → Bool) (hp : ∀ x ∈ l, Tells Try.prog E0 X g [x.a false, .t (.pt cs)] (bA (p x))) (hl : l.length ≤ 1048576) : Tells Try.prog E0 X 94 [.t (.sl false (l.map (Ins.c false))), .t (.fn g [.pt cs])] (iA (idx p l 0)) := by
  refine Tells.by Try.func94 (by simp [Try.f94]) (Body.i rfl rfl rfl (fun _ => rfl) fun f => ?_)
  repeat' (first
     | refine wp_seq_i ?_ | refine wp_region_t k_indexFIns rfl ?_ | refine Run.done rfl ?_ | refine then_n ?_ | refine then_r ?_ | refine then_e ?_ | refine Run.go1 rfl ?_ | refine wp_skip_i ?_ | refine wp_ret_i ?_
     | refine wp_exit_i ?_ | refine wp_block_i ?_ | refine block_n ?_ | refine block_r ?_ | refine block_e ?_ | refine block_o rfl ?_ | refine wp_cond_t rfl ?_ | refine wp_cond_f rfl ?_
     | (refine wp_cond_k rfl rfl rfl ?_ ?_ <;> intro _) | (refine wp_cond_i rfl ?_ ?_ <;> intro _))
  refine wp_loop_k (α := Nat) [.keep [0, 1, 7, 8] []] (fun k => [(8, iA k)]) (fun _ => []) (fun _ => []) (fun k => k ≤ l.length ∧ idx p (l.drop k) k = idx p l 0) (fun k => l.length - k) 0 rfl (fun _ => rfl) rfl ⟨by simp, rfl⟩ ?_
  rintro k ⟨hk, hI⟩
  by_cases hlt : k < l.length
  · have hx : (l.map (Ins.c false))[k]? = some ((Ins.c false) l[k]) := map_at hlt
    rw [idx_step hlt] at hI
    repeat' (first
       | refine wp_seq_i ?_ | refine wp_region_t k_indexFIns rfl ?_ | refine Run.done rfl ?_ | refine then_n ?_ | refine then_r ?_ | refine then_e ?_ | refine Run.go1 rfl ?_ | refine wp_skip_i ?_ | refine wp_ret_i ?_
       | refine wp_exit_i ?_ | refine wp_block_i ?_ | refine block_n ?_ | refine block_r ?_ | refine block_e ?_ | refine block_o rfl ?_ | refine wp_cond_t rfl ?_ | refine wp_cond_f rfl ?_
       | refine Run.ix rfl rfl rfl rfl rfl rfl rfl hx rfl rfl rfl ?_ | refine Run.callF rfl rfl rfl hg rfl (hp _ (List.getElem_mem hlt)) rfl rfl ?_ | (refine wp_cond_k rfl rfl rfl ?_ ?_ <;> intro _)
       | (refine wp_cond_i rfl ?_ ?_ <;> intro _))
    · rename_i h1 h2
      refine ret_m [] rfl rfl ?_
      rw [← hI, if_pos h2]
    · rename_i h1 h2
      refine back_i [.keep [0, 1, 7, 8] []] (k + 1) rfl ?_ ⟨by omega, ?_⟩ (by omega)
      · simp only [w_succ hlt (by omega)]
      · rw [← hI, if_neg (by simpa using h2)]
    · rename_i h; simp [hlt] at h
  · have hk : k = l.length := by omega
    subst hk
    simp [idx] at hI
    repeat' (first
       | refine wp_seq_i ?_ | refine wp_region_t k_indexFIns rfl ?_ | refine Run.done rfl ?_ | refine then_n ?_ | refine then_r ?_ | refine then_e ?_ | refine Run.go1 rfl ?_ | refine wp_skip_i ?_ | refine wp_ret_i ?_
       | refine wp_exit_i ?_ | refine wp_block_i ?_ | refine block_n ?_ | refine block_r ?_ | refine block_e ?_ | refine block_o rfl ?_ | refine wp_cond_t rfl ?_ | refine wp_cond_f rfl ?_
       | (refine wp_cond_k rfl rfl rfl ?_ ?_ <;> intro _) | (refine wp_cond_i rfl ?_ ?_ <;> intro _))
    · rename_i h; simp at h
    · refine ret_m [] rfl rfl ?_; rw [hI]
theorem containsFIns_t (l : List Ins) (g : FuncId) (hg : modeOf E0.md g = []) (cs : List T) (p : Ins → Bool) (hp : ∀ x ∈ l, Tells Try.prog E0 X g [x.a false, .t (.pt cs)] (bA (p x))) (hl : l.length ≤ 1048576) : Tells Try.prog E0 X 79 [.t (.sl false (l.map (Ins.c false))), .t (.fn g [.pt cs])] (bA (l.any p)) := by
  have hi := idx_any (f := p) (l := l) (k := 0)
  refine Tells.by Try.func79 (by simp [Try.f79]) (Body.i rfl rfl rfl (fun _ => rfl) fun f => ?_)
  repeat' (first
     | refine wp_seq_i ?_ | refine wp_region_i ?_ | refine Run.done rfl ?_ | refine then_n ?_ | refine then_r ?_ | refine then_e ?_ | refine Run.go1 rfl ?_ | refine wp_skip_i ?_ | refine wp_ret_i ?_ | refine wp_exit_i ?_
     | refine wp_block_i ?_ | refine block_n ?_ | refine block_r ?_ | refine block_e ?_ | refine block_o rfl ?_ | refine wp_cond_t rfl ?_ | refine wp_cond_f rfl ?_
     | refine Run.call rfl rfl rfl (indexFIns_t l g hg cs p hp hl) rfl rfl ?_ | (refine wp_cond_k rfl rfl rfl ?_ ?_ <;> intro _) | (refine wp_cond_i rfl ?_ ?_ <;> intro _))
  all_goals (refine ret_m [] rfl rfl ?_; rw [← hi])
def k_indexFP : List (Nat × List Nat) := [(0, [0, 1]), (1, [0, 1, 7, 8]), (2, [0, 1, 7, 8, 9]), (3, [0, 1, 5, 7, 8]), (4, [0, 1, 5, 7, 8, 16]), (5, [4]), (6, [0, 1, 7, 8]), (7, [4])]
theorem indexFP_t (l : List Piece) (g : FuncId) (hg : modeOf E0.md g = []) (cs : List T) (p : Piece → Bool) (hp : ∀ x ∈ l, Tells Try.prog E0 X g [x.a false, .t (.pt cs)] (bA (p x))) (hl : l.length ≤ 1048576) : Tells Try.prog E0 X 102 [.t (.sl false (l.map (Piece.c false))), .t (.fn g [.pt cs])] (iA (idx p l 0)) := by
  refine Tells.by Try.func102 (by simp [Try.f102]) (Body.i rfl rfl rfl (fun _ => rfl) fun f => ?_)
  repeat' (first
     | refine wp_seq_i ?_ | refine wp_region_t k_indexFP rfl ?_ | refine Run.done rfl ?_ | refine then_n ?_ | refine then_r ?_ | refine then_e ?_ | refine Run.go1 rfl ?_ | refine wp_skip_i ?_ | refine wp_ret_i ?_
     | refine wp_exit_i ?_ | refine wp_block_i ?_ | refine block_n ?_ | refine block_r ?_ | refine block_e ?_ | refine block_o rfl ?_ | refine wp_cond_t rfl ?_ | refine wp_cond_f rfl ?_
     | (refine wp_cond_k rfl rfl rfl ?_ ?_ <;> intro _) | (refine wp_cond_i rfl ?_ ?_ <;> intro _))
  refine wp_loop_k (α := Nat) [.keep [0, 1, 7, 8] []] (fun k => [(8, iA k)]) (fun _ => []) (fun _ => []) (fun k => k ≤ l.length ∧ idx p (l.drop k) k = idx p l 0) (fun k => l.length - k) 0 rfl (fun _ => rfl) rfl ⟨by simp, rfl⟩ ?_
  rintro k ⟨hk, hI⟩
  by_cases hlt : k < l.length
  · have hx : (l.map (Piece.c false))[k]? = some ((Piece.c false) l[k]) := map_at hlt
    rw [idx_step hlt] at hI
    repeat' (first
       | refine wp_seq_i ?_ | refine wp_region_t k_indexFP rfl ?_ | refine Run.done rfl ?_ | refine then_n ?_ | refine then_r ?_ | refine then_e ?_ | refine Run.go1 rfl ?_ | refine wp_skip_i ?_ | refine wp_ret_i ?_
       | refine wp_exit_i ?_ | refine wp_block_i ?_ | refine block_n ?_ | refine block_r ?_ | refine block_e ?_ | refine block_o rfl ?_ | refine wp_cond_t rfl ?_ | refine wp_cond_f rfl ?_
       | refine Run.ix rfl rfl rfl rfl rfl rfl rfl hx rfl rfl rfl ?_ | refine Run.callF rfl rfl rfl hg rfl (hp _ (List.getElem_mem hlt)) rfl rfl ?_ | (refine wp_cond_k rfl rfl rfl ?_ ?_ <;> intro _)
       | (refine wp_cond_i rfl ?_ ?_ <;> intro _))
    · rename_i h1 h2
      refine ret_m [] rfl rfl ?_
      rw [← hI, if_pos h2]
    · rename_i h1 h2
      refine back_i [.keep [0, 1, 7, 8] []] (k + 1) rfl ?_ ⟨by omega, ?_⟩ (by omega)
      · simp only [w_succ hlt (by omega)]
      · rw [← hI, if_neg (by simpa using h2)]
    · rename_i h; simp [hlt] at h
  · have hk : k = l.length := by omega
    subst hk
    simp [idx] at hI
    repeat' (first
       | refine wp_seq_i ?_ | refine wp_region_t k_indexFP rfl ?_ | refine Run.done rfl ?_ | refine then_n ?_ | refine then_r ?_ | refine then_e ?_ | refine Run.go1 rfl ?_ | refine wp_skip_i ?_ | refine wp_ret_i ?_
       | refine wp_exit_i ?_ | refine wp_block_i ?_ | refine block_n ?_ | refine block_r ?_ | refine block_e ?_ | refine block_o rfl ?_ | refine wp_cond_t rfl ?_ | refine wp_cond_f rfl ?_
       | (refine wp_cond_k rfl rfl rfl ?_ ?_ <;> intro _) | (refine wp_cond_i rfl ?_ ?_ <;> intro _))
    · rename_i h; simp at h
    · refine ret_m [] rfl rfl ?_; rw [hI]
end Go.Proofs
