import Derived.Test.YtejioaahmgljgaaCL9d
set_option linter.unusedVariables false
set_option linter.unusedSimpArgs false
set_option maxHeartbeats 4000000
namespace Go.Proofs
open Go Go.Ev
set_option maxRecDepth 100000
variable {X : Rel3}
def formL (op : Int) : List UInt8 :=
  if op == 1 || op == 2 then [68, 78] else
  if op == 3 then [68] else
  if op == 4 || op == 9 || op == 10 then [68, 88] else
  if op == 5 then [68, 88, 89, 78] else
  if op == 6 || op == 7 then [68, 88, 89] else
  if op == 8 then [68, 78, 76] else
  if op == 11 || op == 12 then [88, 84] else
  if op == 13 then [84] else
  if op == 14 then [68, 88, 89, 76] else
  if op == 15 || op == 16 then [88] else
  if op == 17 then [68, 84] else
  []
def form (op : Int) : ByteArray := ⟨⟨formL op⟩⟩
def k_insForm : List (Nat × List Nat) := [(0, [0]), (1, [0, 4]), (2, [0, 4, 5]), (3, [0, 4, 5]), (4, [2, 3]), (5, [0, 4, 8]), (6, [2, 3]), (7, [0, 4, 10]), (8, [0, 4, 10]), (9, [0, 4, 10]), (10, [2, 3]), (11, [0, 4, 14]), (12, [2, 3]), (13, [0, 4, 16]), (14, [0, 4, 16]), (15, [2, 3]), (16, [0, 4, 19]), (17, [2, 3]), (18, [0, 4, 21]), (19, [0, 4, 21]), (20, [2, 3]), (21, [0, 4, 24]), (22, [2, 3]), (23, [0, 4, 26]), (24, [2, 3]), (25, [0, 4, 28]), (26, [0, 4, 28]), (27, [2, 3]), (28, [0, 31]), (29, [2, 3]), (30, [2, 3])]
theorem insForm_t (op : Int) : Tells Try.prog E0 X 82 [iA op] (.tp [.t (.sc (.string (form op))), bA (rng op 1 18)]) := by
  refine Tells.by Try.func82 (by simp [Try.f82]) (Body.i rfl rfl rfl (fun _ => rfl) fun f => ?_)
  repeat' (first
     | refine wp_seq_i ?_ | refine wp_region_t k_insForm rfl ?_ | refine Run.done rfl ?_ | refine then_n ?_ | refine then_r ?_ | refine then_e ?_ | refine Run.go1 rfl ?_ | refine wp_skip_i ?_ | refine wp_ret_i ?_
     | refine wp_exit_i ?_ | refine wp_block_i ?_ | refine block_n ?_ | refine block_r ?_ | refine block_e ?_ | refine block_o rfl ?_ | refine wp_cond_t rfl ?_ | refine wp_cond_f rfl ?_
     | (refine wp_cond_k rfl rfl rfl ?_ ?_ <;> intro _) | (refine wp_cond_i rfl ?_ ?_ <;> intro _))
  all_goals (refine ret_m [] rfl rfl ?_)
  any_goals (simp_all [form, formL, rng]; done)
  have e1 : formL op = [] := by simp_all [formL]
  have e2 : rng op 1 18 = (op == 18) := by rw [Bool.eq_iff_iff]; simp [rng]; simp at *; omega
  rw [e2, form, e1]
abbrev uA (n : Int) : AV := .t (.sc (.int .u8 n))
def k_indexB : List (Nat × List Nat) := [(0, [0, 1]), (1, [0, 1, 7, 8]), (2, [0, 1, 7, 8, 9]), (3, [0, 1, 5, 7, 8]), (4, [0, 1, 5, 7, 8, 16]), (5, [4]), (6, [0, 1, 7, 8]), (7, [4])]
theorem indexB_t (l : List Int) (v : Int) (hl : l.length ≤ 1048576) : Tells Try.prog E0 X 99 [.t (.sl false (l.map uR)), uA v] (iA (idx (fun x => v == x) l 0)) := by
  refine Tells.by Try.func99 (by simp [Try.f99]) (Body.i rfl rfl rfl (fun _ => rfl) fun f => ?_)
  repeat' (first
     | refine wp_seq_i ?_ | refine wp_region_t k_indexB rfl ?_ | refine Run.done rfl ?_ | refine then_n ?_ | refine then_r ?_ | refine then_e ?_ | refine Run.go1 rfl ?_ | refine wp_skip_i ?_ | refine wp_ret_i ?_
     | refine wp_exit_i ?_ | refine wp_block_i ?_ | refine block_n ?_ | refine block_r ?_ | refine block_e ?_ | refine block_o rfl ?_ | refine wp_cond_t rfl ?_ | refine wp_cond_f rfl ?_
     | (refine wp_cond_k rfl rfl rfl ?_ ?_ <;> intro _) | (refine wp_cond_i rfl ?_ ?_ <;> intro _))
  refine wp_loop_k (α := Nat) [.keep [0, 1, 7, 8] []] (fun k => [(8, iA k)]) (fun _ => []) (fun _ => []) (fun k => k ≤ l.length ∧ idx (fun x => v == x) (l.drop k) k = idx (fun x => v == x) l 0) (fun k => l.length - k) 0 rfl (fun _ => rfl) rfl ⟨by simp, rfl⟩ ?_
  rintro k ⟨hk, hI⟩
  by_cases hlt : k < l.length
  · have hx : (l.map uR)[k]? = some (uR l[k]) := map_at hlt
    rw [idx_step hlt] at hI
    repeat' (first
       | refine wp_seq_i ?_ | refine wp_region_t k_indexB rfl ?_ | refine Run.done rfl ?_ | refine then_n ?_ | refine then_r ?_ | refine then_e ?_ | refine Run.go1 rfl ?_ | refine wp_skip_i ?_ | refine wp_ret_i ?_
       | refine wp_exit_i ?_ | refine wp_block_i ?_ | refine block_n ?_ | refine block_r ?_ | refine block_e ?_ | refine block_o rfl ?_ | refine wp_cond_t rfl ?_ | refine wp_cond_f rfl ?_
       | refine Run.ix rfl rfl rfl rfl rfl rfl rfl hx rfl rfl rfl ?_ | (refine wp_cond_k rfl rfl rfl ?_ ?_ <;> intro _) | (refine wp_cond_i rfl ?_ ?_ <;> intro _))
    · rename_i h1 h2
      refine ret_m [] rfl rfl ?_
      rw [← hI, if_pos h2]
    · rename_i h1 h2
      refine back_i [.keep [0, 1, 7, 8] []] (k + 1) rfl ?_ ⟨by omega, ?_⟩ (by omega)
      · simp only [w_succ hlt (by omega)]
      · rw [← hI, if_neg (by simpa using h2)]
    · rename_i h; simp [hlt] at h
  · have hk : k = l.length := by omega
    subst hk
    simp [idx] at hI
    repeat' (first
       | refine wp_seq_i ?_ | refine wp_region_t k_indexB rfl ?_ | refine Run.done rfl ?_ | refine then_n ?_ | refine then_r ?_ | refine then_e ?_ | refine Run.go1 rfl ?_ | refine wp_skip_i ?_ | refine wp_ret_i ?_
       | refine wp_exit_i ?_ | refine wp_block_i ?_ | refine block_n ?_ | refine block_r ?_ | refine block_e ?_ | refine block_o rfl ?_ | refine wp_cond_t rfl ?_ | refine wp_cond_f rfl ?_
       | (refine wp_cond_k rfl rfl rfl ?_ ?_ <;> intro _) | (refine wp_cond_i rfl ?_ ?_ <;> intro _))
    · rename_i h; simp at h
    · refine ret_m [] rfl rfl ?_; rw [hI]
def hasB (b : List UInt8) (v : Int) : Bool := b.any fun c => v == (c.toNat : Int)
theorem containsB_t (b : ByteArray) (v : Int) (hl : b.data.toList.length ≤ 1048576) : Tells Try.prog E0 X 83 [.t (.sl false (byteRows b)), uA v] (bA (hasB b.data.toList v)) := by
  have e : byteRows b = (b.data.toList.map fun c => (c.toNat : Int)).map uR := by simp [byteRows]
  have hc := indexB_t (X := X) (b.data.toList.map fun c => (c.toNat : Int)) v (by simpa using hl)
  have hi : decide (0 ≤ idx (fun x => v == x) (b.data.toList.map fun c => (c.toNat : Int)) 0) = hasB b.data.toList v := by rw [idx_any, List.any_map]; rfl
  rw [← e] at hc
  refine Tells.by Try.func83 (by simp [Try.f83]) (Body.i rfl rfl rfl (fun _ => rfl) fun f => ?_)
  repeat' (first
     | refine wp_seq_i ?_ | refine wp_region_i ?_ | refine Run.done rfl ?_ | refine then_n ?_ | refine then_r ?_ | refine then_e ?_ | refine Run.go1 rfl ?_ | refine wp_skip_i ?_ | refine wp_ret_i ?_ | refine wp_exit_i ?_
     | refine wp_block_i ?_ | refine block_n ?_ | refine block_r ?_ | refine block_e ?_ | refine block_o rfl ?_ | refine wp_cond_t rfl ?_ | refine wp_cond_f rfl ?_ | refine Run.call rfl rfl rfl (hc) rfl rfl ?_
     | (refine wp_cond_k rfl rfl rfl ?_ ?_ <;> intro _) | (refine wp_cond_i rfl ?_ ?_ <;> intro _))
  all_goals (refine ret_m [] rfl rfl ?_; rw [← hi])
theorem form_len (op : Int) : (formL op).length ≤ 1048576 := by
  unfold formL
  repeat' split
  all_goals simp only [List.length_cons, List.length_nil] <;> omega
theorem hasPart_t (op v : Int) : Tells Try.prog E0 X 61 [iA op, uA v] (bA (hasB (formL op) v)) := by
  refine Tells.by Try.func61 (by simp [Try.f61]) (Body.i rfl rfl rfl (fun _ => rfl) fun f => ?_)
  repeat' (first
     | refine wp_seq_i ?_ | refine wp_region_i ?_ | refine Run.done rfl ?_ | refine then_n ?_ | refine then_r ?_ | refine then_e ?_ | refine Run.go1 rfl ?_ | refine wp_skip_i ?_ | refine wp_ret_i ?_ | refine wp_exit_i ?_
     | refine wp_block_i ?_ | refine block_n ?_ | refine block_r ?_ | refine block_e ?_ | refine block_o rfl ?_ | refine wp_cond_t rfl ?_ | refine wp_cond_f rfl ?_ | refine Run.call rfl rfl rfl (insForm_t _) rfl rfl ?_
     | refine Run.call rfl rfl rfl (containsB_t (form op) v (form_len op)) rfl rfl ?_ | refine Run.cnd3 rfl rfl rfl trivial ?_ | (refine wp_cond_k rfl rfl rfl ?_ ?_ <;> intro _) | (refine wp_cond_i rfl ?_ ?_ <;> intro _))
  all_goals (refine ret_m [] rfl rfl ?_; rfl)
theorem partD (op : Int) : hasB (formL op) 68 = uD op := by
  unfold formL
  repeat' split
  all_goals (simp_all [hasB, uD] <;> omega)
theorem hasD_t (op : Int) : Tells Try.prog E0 X 61 [iA op, uA 68] (bA (uD op)) := by have := hasPart_t (X := X) op 68; rwa [partD] at this
theorem partX (op : Int) : hasB (formL op) 88 = uX op := by
  unfold formL
  repeat' split
  all_goals (simp_all [hasB, uX] <;> omega)
theorem hasX_t (op : Int) : Tells Try.prog E0 X 61 [iA op, uA 88] (bA (uX op)) := by have := hasPart_t (X := X) op 88; rwa [partX] at this
theorem partY (op : Int) : hasB (formL op) 89 = uY op := by
  unfold formL
  repeat' split
  all_goals (simp_all [hasB, uY] <;> omega)
theorem hasY_t (op : Int) : Tells Try.prog E0 X 61 [iA op, uA 89] (bA (uY op)) := by have := hasPart_t (X := X) op 89; rwa [partY] at this
theorem partT (op : Int) : hasB (formL op) 84 = uT op := by
  unfold formL
  repeat' split
  all_goals (simp_all [hasB, uT] <;> omega)
theorem hasT_t (op : Int) : Tells Try.prog E0 X 61 [iA op, uA 84] (bA (uT op)) := by have := hasPart_t (X := X) op 84; rwa [partT] at this
theorem fieldOk_t (v : Int) (had : Bool) (n : Int) : Tells Try.prog E0 X 96 [iA v, bA had, iA n] (bA (regB had v n)) := by
  refine Tells.by Try.func96 (by simp [Try.f96]) (Body.i rfl rfl rfl (fun _ => rfl) fun f => ?_)
  repeat' (first
     | refine wp_seq_i ?_ | refine wp_region_i ?_ | refine Run.done rfl ?_ | refine then_n ?_ | refine then_r ?_ | refine then_e ?_ | refine Run.go1 rfl ?_ | refine wp_skip_i ?_ | refine wp_ret_i ?_ | refine wp_exit_i ?_
     | refine wp_block_i ?_ | refine block_n ?_ | refine block_r ?_ | refine block_e ?_ | refine block_o rfl ?_ | refine wp_cond_t rfl ?_ | refine wp_cond_f rfl ?_ | refine Run.gT rfl rfl rfl rfl ?_ | refine Run.pT rfl rfl ?_
     | (refine Run.splitG rfl rfl rfl rfl rfl rfl ?_ ?_ <;> intro _) | (refine Run.splitP rfl rfl rfl rfl ?_ ?_ <;> intro _) | (refine wp_cond_k rfl rfl rfl ?_ ?_ <;> intro _) | (refine wp_cond_i rfl ?_ ?_ <;> intro _))
  all_goals (refine ret_m [] rfl rfl ?_)
  all_goals (simp_all [regB, rng] <;> omega)
def numO (i : Ins) : Bool :=
  if i.op = 1 then rng i.n (-1000000) 1000000
  else if i.op = 2 then rng i.n 0 1
  else if i.op = 5 then rng i.n 1 5
  else if i.op = 8 then rng i.n 0 149 && decide ((i.l.length : Int) < 100)
  else i.n == 0
def k_numOk : List (Nat × List Nat) := [(0, [1]), (1, [1, 4]), (2, [1, 4, 5]), (3, [2]), (4, [1, 4, 10]), (5, [2]), (6, [1, 4, 15]), (7, [2]), (8, [1, 20]), (9, [2]), (10, [2])]
theorem numOk_t (i : Ins) : Tells Try.prog E0 X 95 [i.a false] (bA (numO i)) := by
  refine Tells.by Try.func95 (by simp [Try.f95]) (Body.i rfl rfl rfl (fun _ => rfl) fun f => ?_)
  repeat' (first
     | refine wp_seq_i ?_ | refine wp_region_t k_numOk rfl ?_ | refine Run.done rfl ?_ | refine then_n ?_ | refine then_r ?_ | refine then_e ?_ | refine Run.go1 rfl ?_ | refine wp_skip_i ?_ | refine wp_ret_i ?_
     | refine wp_exit_i ?_ | refine wp_block_i ?_ | refine block_n ?_ | refine block_r ?_ | refine block_e ?_ | refine block_o rfl ?_ | refine wp_cond_t rfl ?_ | refine wp_cond_f rfl ?_ | refine Run.gT rfl rfl rfl rfl ?_
     | refine Run.pT rfl rfl ?_ | (refine Run.splitG rfl rfl rfl rfl rfl rfl ?_ ?_ <;> intro _) | (refine Run.splitP rfl rfl rfl rfl ?_ ?_ <;> intro _) | refine Run.call rfl rfl rfl (in_t _ _ _) rfl rfl ?_
     | (refine wp_cond_k rfl rfl rfl ?_ ?_ <;> intro _) | (refine wp_cond_i rfl ?_ ?_ <;> intro _))
  all_goals (refine ret_m [] rfl rfl ?_; simp_all [numO])
end Go.Proofs
