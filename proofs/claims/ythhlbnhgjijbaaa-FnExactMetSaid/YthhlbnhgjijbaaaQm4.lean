import Derived.Test.YthhlbnhgjijbaaaQm3
import Derived.Test.YthhlbnhgjijbaaaRows
import Derived.WalkKit
import Derived.ProofKit
import Derived.OpenShut
import Derived.ShutString
import Derived.ChangeOld
import Derived.Below
import Derived.SizedLaws
set_option linter.unusedVariables false
set_option linter.unusedSimpArgs false
set_option maxHeartbeats 4000000
namespace Go.Proofs
open Go Go.Ev
set_option maxRecDepth 100000
variable {X : Rel3}
def formL (op : Int) : List UInt8 :=
  if op == 1 || op == 2 then [68, 78] else
  if op == 3 then [68] else
  if op == 4 || op == 9 || op == 10 then [68, 88] else
  if op == 5 then [68, 88, 89, 78] else
  if op == 6 || op == 7 then [68, 88, 89] else
  if op == 8 then [68, 78, 76] else
  if op == 11 || op == 12 then [88, 84] else
  if op == 13 then [84] else
  if op == 14 then [68, 88, 89, 76] else
  if op == 15 || op == 16 then [88] else
  if op == 17 then [68, 84] else
  []
def form (op : Int) : ByteArray := ⟨⟨formL op⟩⟩
def k_insForm : List (Nat × List Nat) := [(0, [0]), (1, [0, 4]), (2, [0, 4, 5]), (3, [0, 4, 5]), (4, [2, 3]), (5, [0, 4, 8]), (6, [2, 3]), (7, [0, 4, 10]), (8, [0, 4, 10]), (9, [0, 4, 10]), (10, [2, 3]), (11, [0, 4, 14]), (12, [2, 3]), (13, [0, 4, 16]), (14, [0, 4, 16]), (15, [2, 3]), (16, [0, 4, 19]), (17, [2, 3]), (18, [0, 4, 21]), (19, [0, 4, 21]), (20, [2, 3]), (21, [0, 4, 24]), (22, [2, 3]), (23, [0, 4, 26]), (24, [2, 3]), (25, [0, 4, 28]), (26, [0, 4, 28]), (27, [2, 3]), (28, [0, 31]), (29, [2, 3]), (30, [2, 3])]
theorem insForm_t (op : Int) : Tells Try.prog E0 X 79 [iA op] (.tp [.t (.sc (.string (form op))), bA (rng op 1 18)]) := by
  refine Tells.by Try.func79 (by simp [Try.f79]) (Body.i rfl rfl rfl (fun _ => rfl) fun f => ?_)
  repeat' (first
     | refine wp_seq_i ?_ | refine wp_region_t k_insForm rfl ?_ | refine Run.done rfl ?_ | refine then_n ?_ | refine then_r ?_ | refine then_e ?_ | refine Run.go1 rfl ?_ | refine wp_skip_i ?_ | refine wp_ret_i ?_
     | refine wp_exit_i ?_ | refine wp_block_i ?_ | refine block_n ?_ | refine block_r ?_ | refine block_e ?_ | refine block_o rfl ?_ | refine wp_cond_t rfl ?_ | refine wp_cond_f rfl ?_
     | (refine wp_cond_k rfl rfl rfl ?_ ?_ <;> intro _) | (refine wp_cond_i rfl ?_ ?_ <;> intro _))
  all_goals (refine ret_m [] rfl rfl ?_)
  any_goals (simp_all [form, formL, rng]; done)
  have e1 : formL op = [] := by simp_all [formL]
  have e2 : rng op 1 18 = (op == 18) := by rw [Bool.eq_iff_iff]; simp [rng]; simp at *; omega
  rw [e2, form, e1]
abbrev uA (n : Int) : AV := .t (.sc (.int .u8 n))
def k_indexB : List (Nat × List Nat) := [(0, [0, 1]), (1, [0, 1, 7, 8]), (2, [0, 1, 7, 8, 9]), (3, [0, 1, 5, 7, 8]), (4, [0, 1, 5, 7, 8, 16]), (5, [4]), (6, [0, 1, 7, 8]), (7, [4])]
theorem indexB_t (l : List Int) (v : Int) (hl : l.length ≤ 1048576) : Tells Try.prog E0 X 96 [.t (.sl false (l.map uR)), uA v] (iA (idx (fun x => v == x) l 0)) := by
  refine Tells.by Try.func96 (by simp [Try.f96]) (Body.i rfl rfl rfl (fun _ => rfl) fun f => ?_)
  repeat' (first
     | refine wp_seq_i ?_ | refine wp_region_t k_indexB rfl ?_ | refine Run.done rfl ?_ | refine then_n ?_ | refine then_r ?_ | refine then_e ?_ | refine Run.go1 rfl ?_ | refine wp_skip_i ?_ | refine wp_ret_i ?_
     | refine wp_exit_i ?_ | refine wp_block_i ?_ | refine block_n ?_ | refine block_r ?_ | refine block_e ?_ | refine block_o rfl ?_ | refine wp_cond_t rfl ?_ | refine wp_cond_f rfl ?_
     | (refine wp_cond_k rfl rfl rfl ?_ ?_ <;> intro _) | (refine wp_cond_i rfl ?_ ?_ <;> intro _))
  refine wp_loop_k (α := Nat) [.keep [0, 1, 7, 8] []] (fun k => [(8, iA k)]) (fun _ => []) (fun _ => []) (fun k => k ≤ l.length ∧ idx (fun x => v == x) (l.drop k) k = idx (fun x => v == x) l 0) (fun k => l.length - k) 0 rfl (fun _ => rfl) rfl ⟨by simp, rfl⟩ ?_
  rintro k ⟨hk, hI⟩
  by_cases hlt : k < l.length
  · have hx : (l.map uR)[k]? = some (uR l[k]) := map_at hlt
    rw [idx_step hlt] at hI
    repeat' (first
       | refine wp_seq_i ?_ | refine wp_region_t k_indexB rfl ?_ | refine Run.done rfl ?_ | refine then_n ?_ | refine then_r ?_ | refine then_e ?_ | refine Run.go1 rfl ?_ | refine wp_skip_i ?_ | refine wp_ret_i ?_
       | refine wp_exit_i ?_ | refine wp_block_i ?_ | refine block_n ?_ | refine block_r ?_ | refine block_e ?_ | refine block_o rfl ?_ | refine wp_cond_t rfl ?_ | refine wp_cond_f rfl ?_
       | refine Run.ix rfl rfl rfl rfl rfl rfl rfl hx rfl rfl rfl ?_ | (refine wp_cond_k rfl rfl rfl ?_ ?_ <;> intro _) | (refine wp_cond_i rfl ?_ ?_ <;> intro _))
    · rename_i h1 h2
      refine ret_m [] rfl rfl ?_
      rw [← hI, if_pos h2]
    · rename_i h1 h2
      refine back_i [.keep [0, 1, 7, 8] []] (k + 1) rfl ?_ ⟨by omega, ?_⟩ (by omega)
      · simp only [w_succ hlt (by omega)]
      · rw [← hI, if_neg (by simpa using h2)]
    · rename_i h; simp [hlt] at h
  · have hk : k = l.length := by omega
    subst hk
    simp [idx] at hI
    repeat' (first
       | refine wp_seq_i ?_ | refine wp_region_t k_indexB rfl ?_ | refine Run.done rfl ?_ | refine then_n ?_ | refine then_r ?_ | refine then_e ?_ | refine Run.go1 rfl ?_ | refine wp_skip_i ?_ | refine wp_ret_i ?_
       | refine wp_exit_i ?_ | refine wp_block_i ?_ | refine block_n ?_ | refine block_r ?_ | refine block_e ?_ | refine block_o rfl ?_ | refine wp_cond_t rfl ?_ | refine wp_cond_f rfl ?_
       | (refine wp_cond_k rfl rfl rfl ?_ ?_ <;> intro _) | (refine wp_cond_i rfl ?_ ?_ <;> intro _))
    · rename_i h; simp at h
    · refine ret_m [] rfl rfl ?_; rw [hI]
def hasB (b : List UInt8) (v : Int) : Bool := b.any fun c => v == (c.toNat : Int)
theorem containsB_t (b : ByteArray) (v : Int) (hl : b.data.toList.length ≤ 1048576) : Tells Try.prog E0 X 80 [.t (.sl false (byteRows b)), uA v] (bA (hasB b.data.toList v)) := by
  have e : byteRows b = (b.data.toList.map fun c => (c.toNat : Int)).map uR := by simp [byteRows]
  have hc := indexB_t (X := X) (b.data.toList.map fun c => (c.toNat : Int)) v (by simpa using hl)
  have hi : decide (0 ≤ idx (fun x => v == x) (b.data.toList.map fun c => (c.toNat : Int)) 0) = hasB b.data.toList v := by rw [idx_any, List.any_map]; rfl
  rw [← e] at hc
  refine Tells.by Try.func80 (by simp [Try.f80]) (Body.i rfl rfl rfl (fun _ => rfl) fun f => ?_)
  repeat' (first
     | refine wp_seq_i ?_ | refine wp_region_i ?_ | refine Run.done rfl ?_ | refine then_n ?_ | refine then_r ?_ | refine then_e ?_ | refine Run.go1 rfl ?_ | refine wp_skip_i ?_ | refine wp_ret_i ?_ | refine wp_exit_i ?_
     | refine wp_block_i ?_ | refine block_n ?_ | refine block_r ?_ | refine block_e ?_ | refine block_o rfl ?_ | refine wp_cond_t rfl ?_ | refine wp_cond_f rfl ?_ | refine Run.call rfl rfl rfl (hc) rfl rfl ?_
     | (refine wp_cond_k rfl rfl rfl ?_ ?_ <;> intro _) | (refine wp_cond_i rfl ?_ ?_ <;> intro _))
  all_goals (refine ret_m [] rfl rfl ?_; rw [← hi])
theorem form_len (op : Int) : (formL op).length ≤ 1048576 := by
  unfold formL
  repeat' split
  all_goals simp only [List.length_cons, List.length_nil] <;> omega
theorem hasPart_t (op v : Int) : Tells Try.prog E0 X 53 [iA op, uA v] (bA (hasB (formL op) v)) := by
  refine Tells.by Try.func53 (by simp [Try.f53]) (Body.i rfl rfl rfl (fun _ => rfl) fun f => ?_)
  repeat' (first
     | refine wp_seq_i ?_ | refine wp_region_i ?_ | refine Run.done rfl ?_ | refine then_n ?_ | refine then_r ?_ | refine then_e ?_ | refine Run.go1 rfl ?_ | refine wp_skip_i ?_ | refine wp_ret_i ?_ | refine wp_exit_i ?_
     | refine wp_block_i ?_ | refine block_n ?_ | refine block_r ?_ | refine block_e ?_ | refine block_o rfl ?_ | refine wp_cond_t rfl ?_ | refine wp_cond_f rfl ?_ | refine Run.call rfl rfl rfl (insForm_t _) rfl rfl ?_
     | refine Run.call rfl rfl rfl (containsB_t (form op) v (form_len op)) rfl rfl ?_ | refine Run.cnd3 rfl rfl rfl trivial ?_ | (refine wp_cond_k rfl rfl rfl ?_ ?_ <;> intro _) | (refine wp_cond_i rfl ?_ ?_ <;> intro _))
  all_goals (refine ret_m [] rfl rfl ?_; rfl)
theorem partD (op : Int) : hasB (formL op) 68 = uD op := by
  unfold formL
  repeat' split
  all_goals (simp_all [hasB, uD] <;> omega)
theorem hasD_t (op : Int) : Tells Try.prog E0 X 53 [iA op, uA 68] (bA (uD op)) := by have := hasPart_t (X := X) op 68; rwa [partD] at this
theorem partX (op : Int) : hasB (formL op) 88 = uX op := by
  unfold formL
  repeat' split
  all_goals (simp_all [hasB, uX] <;> omega)
theorem hasX_t (op : Int) : Tells Try.prog E0 X 53 [iA op, uA 88] (bA (uX op)) := by have := hasPart_t (X := X) op 88; rwa [partX] at this
theorem partY (op : Int) : hasB (formL op) 89 = uY op := by
  unfold formL
  repeat' split
  all_goals (simp_all [hasB, uY] <;> omega)
theorem hasY_t (op : Int) : Tells Try.prog E0 X 53 [iA op, uA 89] (bA (uY op)) := by have := hasPart_t (X := X) op 89; rwa [partY] at this
theorem partT (op : Int) : hasB (formL op) 84 = uT op := by
  unfold formL
  repeat' split
  all_goals (simp_all [hasB, uT] <;> omega)
theorem hasT_t (op : Int) : Tells Try.prog E0 X 53 [iA op, uA 84] (bA (uT op)) := by have := hasPart_t (X := X) op 84; rwa [partT] at this
theorem fieldOk_t (v : Int) (had : Bool) (n : Int) : Tells Try.prog E0 X 90 [iA v, bA had, iA n] (bA (regB had v n)) := by
  refine Tells.by Try.func90 (by simp [Try.f90]) (Body.i rfl rfl rfl (fun _ => rfl) fun f => ?_)
  repeat' (first
     | refine wp_seq_i ?_ | refine wp_region_i ?_ | refine Run.done rfl ?_ | refine then_n ?_ | refine then_r ?_ | refine then_e ?_ | refine Run.go1 rfl ?_ | refine wp_skip_i ?_ | refine wp_ret_i ?_ | refine wp_exit_i ?_
     | refine wp_block_i ?_ | refine block_n ?_ | refine block_r ?_ | refine block_e ?_ | refine block_o rfl ?_ | refine wp_cond_t rfl ?_ | refine wp_cond_f rfl ?_ | refine Run.gT rfl rfl rfl rfl ?_ | refine Run.pT rfl rfl ?_
     | (refine Run.splitG rfl rfl rfl rfl rfl rfl ?_ ?_ <;> intro _) | (refine Run.splitP rfl rfl rfl rfl ?_ ?_ <;> intro _) | (refine wp_cond_k rfl rfl rfl ?_ ?_ <;> intro _) | (refine wp_cond_i rfl ?_ ?_ <;> intro _))
  all_goals (refine ret_m [] rfl rfl ?_)
  all_goals (simp_all [regB, rng] <;> omega)
def numO (i : Ins) : Bool :=
  if i.op = 1 then rng i.n (-1000000) 1000000
  else if i.op = 2 then rng i.n 0 1
  else if i.op = 5 then rng i.n 1 5
  else if i.op = 8 then rng i.n 0 149 && decide ((i.l.length : Int) < 100)
  else i.n == 0
def k_numOk : List (Nat × List Nat) := [(0, [1]), (1, [1, 4]), (2, [1, 4, 5]), (3, [2]), (4, [1, 4, 10]), (5, [2]), (6, [1, 4, 15]), (7, [2]), (8, [1, 20]), (9, [2]), (10, [2])]
theorem numOk_t (i : Ins) : Tells Try.prog E0 X 89 [i.a false] (bA (numO i)) := by
  refine Tells.by Try.func89 (by simp [Try.f89]) (Body.i rfl rfl rfl (fun _ => rfl) fun f => ?_)
  repeat' (first
     | refine wp_seq_i ?_ | refine wp_region_t k_numOk rfl ?_ | refine Run.done rfl ?_ | refine then_n ?_ | refine then_r ?_ | refine then_e ?_ | refine Run.go1 rfl ?_ | refine wp_skip_i ?_ | refine wp_ret_i ?_
     | refine wp_exit_i ?_ | refine wp_block_i ?_ | refine block_n ?_ | refine block_r ?_ | refine block_e ?_ | refine block_o rfl ?_ | refine wp_cond_t rfl ?_ | refine wp_cond_f rfl ?_ | refine Run.gT rfl rfl rfl rfl ?_
     | refine Run.pT rfl rfl ?_ | (refine Run.splitG rfl rfl rfl rfl rfl rfl ?_ ?_ <;> intro _) | (refine Run.splitP rfl rfl rfl rfl ?_ ?_ <;> intro _) | refine Run.call rfl rfl rfl (in_t _ _ _) rfl rfl ?_
     | (refine wp_cond_k rfl rfl rfl ?_ ?_ <;> intro _) | (refine wp_cond_i rfl ?_ ?_ <;> intro _))
  all_goals (refine ret_m [] rfl rfl ?_; simp_all [numO])
end Go.Proofs

set_option linter.unusedVariables false
set_option linter.unusedSimpArgs false
set_option maxHeartbeats 4000000
namespace Go.Proofs
open Go Go.Ev
set_option maxRecDepth 100000
variable {X : Rel3}
def inOf (l : List Piece) (k : Int) : Int := match l[k.toNat]? with
  | some p => p.in_
  | none => 0
def allF (funs : List Piece) (l : List Int) : Bool := l.all fun lam => !decide (funAt funs lam < 0)
theorem allF_step {funs : List Piece} {l : List Int} {k : Nat} (h : k < l.length) : allF funs (l.drop k) = (!decide (funAt funs l[k] < 0) && allF funs (l.drop (k + 1))) := all_step h
def lamI (funs : List Piece) (i : Ins) : Bool :=
  if i.op = 8 then !decide (funAt funs i.n < 0) && ((i.l.length : Int) == IntKind.i64.wrap (inOf funs (funAt funs i.n) - 1))
  else if i.op = 14 then allF funs i.l else true
def lamsB (funs : List Piece) (l : List Ins) : Bool := l.all (lamI funs)
theorem lamsB_step {funs : List Piece} {l : List Ins} {k : Nat} (h : k < l.length) : lamsB funs (l.drop k) = (lamI funs l[k] && lamsB funs (l.drop (k + 1))) := all_step h
theorem funAt_row {l : List Piece} {n : Int} (h : ¬ funAt l n < 0) : funAt l n = ((funAt l n).toNat : Int) ∧ (l.map (Piece.c false))[(funAt l n).toNat]? = some (Piece.c false ⟨(l[(funAt l n).toNat]?.getD ⟨0, 0, 0, []⟩).lam, inOf l (funAt l n), (l[(funAt l n).toNat]?.getD ⟨0, 0, 0, []⟩).regs, (l[(funAt l n).toNat]?.getD ⟨0, 0, 0, []⟩).ins⟩) := by
  have h1 : funAt l n < l.length := by have := idx_lt (f := fun p : Piece => p.lam == n) (l := l) (k := 0); unfold funAt; omega
  have h2 : (funAt l n).toNat < l.length := by omega
  refine ⟨by omega, ?_⟩
  rw [List.getElem?_map, inOf, List.getElem?_eq_getElem h2]
  rfl
def k_l9Lams : List (Nat × List Nat) := [(0, [2, 3]), (1, [2, 3, 5]), (2, [2, 3, 5, 13]), (3, [2, 3, 5]), (4, [2, 3, 5, 6]), (5, [2, 3, 5, 6, 23]), (6, [2, 3, 5, 6, 7]), (7, [2, 3, 5, 6, 42]), (8, [4]), (9, [2, 3, 5, 6, 8]), (10, [2, 3, 5, 6, 8, 52]), (11, [2, 3, 5, 6, 8]), (12, [2, 3, 5, 6, 8, 62]), (13, [4]), (14, [4])]
def fB (funs : List Piece) (p : Piece) : Bool := !decide (p.lam < 0) && (pieceB p && lamsB funs p.ins)
def allP (funs : List Piece) (l : List Piece) : Bool := l.all (fB funs)
theorem allP_step {funs l : List Piece} {k : Nat} (h : k < l.length) : allP funs (l.drop k) = (fB funs l[k] && allP funs (l.drop (k + 1))) := all_step h
abbrev lamsL (l : List Piece) : List Int := l.map fun p => p.lam
def codeB (c : Code) : Bool := (decide ((c.funs.length : Int) ≤ 200) && c.main.lam == -1) && ((pieceB c.main && lamsB c.funs c.main.ins) && (asc (lamsL c.funs) && allP c.funs c.funs))
theorem lams_step {l : List Piece} {k : Nat} (h : k + 1 < l.length) : asc ((lamsL l).drop k) = (decide (l[k].lam < l[k + 1].lam) && asc ((lamsL l).drop (k + 1))) := by
  rw [asc_step (by simpa using h)]; simp
def k_CodeOkS : List (Nat × List Nat) := [(0, [1]), (1, [1, 27]), (2, [2]), (3, [1, 3]), (4, [1, 3, 32]), (5, [1, 3]), (6, [1, 3, 4]), (7, [1, 3, 69]), (8, [2]), (9, [2])]
end Go.Proofs

set_option linter.unusedVariables false
set_option linter.unusedSimpArgs false
set_option maxHeartbeats 4000000
namespace Go.Proofs
open Go Go.Ev
set_option maxRecDepth 100000
variable {X : Rel3}
def k_indexFI : List (Nat × List Nat) := [(0, [0, 1]), (1, [0, 1, 7, 8]), (2, [0, 1, 7, 8, 9]), (3, [0, 1, 5, 7, 8]), (4, [0, 1, 5, 7, 8, 16]), (5, [4]), (6, [0, 1, 7, 8]), (7, [4])]
theorem indexFI_t (l : List Int) (g : FuncId) (hg : modeOf E0.md g = []) (cs : List T) (p : Int → Bool) (hp : ∀ x ∈ l, Tells Try.prog E0 X g [iA x, .t (.pt cs)] (bA (p x))) (hl : l.length ≤ 1048576) : Tells Try.prog E0 X 104 [.t (.sl false (l.map (iR))), .t (.fn g [.pt cs])] (iA (idx p l 0)) := by
  refine Tells.by Try.func104 (by simp [Try.f104]) (Body.i rfl rfl rfl (fun _ => rfl) fun f => ?_)
  repeat' (first
     | refine wp_seq_i ?_ | refine wp_region_t k_indexFI rfl ?_ | refine Run.done rfl ?_ | refine then_n ?_ | refine then_r ?_ | refine then_e ?_ | refine Run.go1 rfl ?_ | refine wp_skip_i ?_ | refine wp_ret_i ?_
     | refine wp_exit_i ?_ | refine wp_block_i ?_ | refine block_n ?_ | refine block_r ?_ | refine block_e ?_ | refine block_o rfl ?_ | refine wp_cond_t rfl ?_ | refine wp_cond_f rfl ?_
     | (refine wp_cond_k rfl rfl rfl ?_ ?_ <;> intro _) | (refine wp_cond_i rfl ?_ ?_ <;> intro _))
  refine wp_loop_k (α := Nat) [.keep [0, 1, 7, 8] []] (fun k => [(8, iA k)]) (fun _ => []) (fun _ => []) (fun k => k ≤ l.length ∧ idx p (l.drop k) k = idx p l 0) (fun k => l.length - k) 0 rfl (fun _ => rfl) rfl ⟨by simp, rfl⟩ ?_
  rintro k ⟨hk, hI⟩
  by_cases hlt : k < l.length
  · have hx : (l.map (iR))[k]? = some ((iR) l[k]) := map_at hlt
    rw [idx_step hlt] at hI
    repeat' (first
       | refine wp_seq_i ?_ | refine wp_region_t k_indexFI rfl ?_ | refine Run.done rfl ?_ | refine then_n ?_ | refine then_r ?_ | refine then_e ?_ | refine Run.go1 rfl ?_ | refine wp_skip_i ?_ | refine wp_ret_i ?_
       | refine wp_exit_i ?_ | refine wp_block_i ?_ | refine block_n ?_ | refine block_r ?_ | refine block_e ?_ | refine block_o rfl ?_ | refine wp_cond_t rfl ?_ | refine wp_cond_f rfl ?_
       | refine Run.ix rfl rfl rfl rfl rfl rfl rfl hx rfl rfl rfl ?_ | refine Run.callF rfl rfl rfl hg rfl (hp _ (List.getElem_mem hlt)) rfl rfl ?_ | (refine wp_cond_k rfl rfl rfl ?_ ?_ <;> intro _)
       | (refine wp_cond_i rfl ?_ ?_ <;> intro _))
    · rename_i h1 h2
      refine ret_m [] rfl rfl ?_
      rw [← hI, if_pos h2]
    · rename_i h1 h2
      refine back_i [.keep [0, 1, 7, 8] []] (k + 1) rfl ?_ ⟨by omega, ?_⟩ (by omega)
      · simp only [w_succ hlt (by omega)]
      · rw [← hI, if_neg (by simpa using h2)]
    · rename_i h; simp [hlt] at h
  · have hk : k = l.length := by omega
    subst hk
    simp [idx] at hI
    repeat' (first
       | refine wp_seq_i ?_ | refine wp_region_t k_indexFI rfl ?_ | refine Run.done rfl ?_ | refine then_n ?_ | refine then_r ?_ | refine then_e ?_ | refine Run.go1 rfl ?_ | refine wp_skip_i ?_ | refine wp_ret_i ?_
       | refine wp_exit_i ?_ | refine wp_block_i ?_ | refine block_n ?_ | refine block_r ?_ | refine block_e ?_ | refine block_o rfl ?_ | refine wp_cond_t rfl ?_ | refine wp_cond_f rfl ?_
       | (refine wp_cond_k rfl rfl rfl ?_ ?_ <;> intro _) | (refine wp_cond_i rfl ?_ ?_ <;> intro _))
    · rename_i h; simp at h
    · refine ret_m [] rfl rfl ?_; rw [hI]
theorem containsFI_t (l : List Int) (g : FuncId) (hg : modeOf E0.md g = []) (cs : List T) (p : Int → Bool) (hp : ∀ x ∈ l, Tells Try.prog E0 X g [iA x, .t (.pt cs)] (bA (p x))) (hl : l.length ≤ 1048576) : Tells Try.prog E0 X 91 [.t (.sl false (l.map (iR))), .t (.fn g [.pt cs])] (bA (l.any p)) := by
  have hi := idx_any (f := p) (l := l) (k := 0)
  refine Tells.by Try.func91 (by simp [Try.f91]) (Body.i rfl rfl rfl (fun _ => rfl) fun f => ?_)
  repeat' (first
     | refine wp_seq_i ?_ | refine wp_region_i ?_ | refine Run.done rfl ?_ | refine then_n ?_ | refine then_r ?_ | refine then_e ?_ | refine Run.go1 rfl ?_ | refine wp_skip_i ?_ | refine wp_ret_i ?_ | refine wp_exit_i ?_
     | refine wp_block_i ?_ | refine block_n ?_ | refine block_r ?_ | refine block_e ?_ | refine block_o rfl ?_ | refine wp_cond_t rfl ?_ | refine wp_cond_f rfl ?_
     | refine Run.call rfl rfl rfl (indexFI_t l g hg cs p hp hl) rfl rfl ?_ | (refine wp_cond_k rfl rfl rfl ?_ ?_ <;> intro _) | (refine wp_cond_i rfl ?_ ?_ <;> intro _))
  all_goals (refine ret_m [] rfl rfl ?_; rw [← hi])
def k_indexFIns : List (Nat × List Nat) := [(0, [0, 1]), (1, [0, 1, 7, 8]), (2, [0, 1, 7, 8, 9]), (3, [0, 1, 5, 7, 8]), (4, [0, 1, 5, 7, 8, 16]), (5, [4]), (6, [0, 1, 7, 8]), (7, [4])]
theorem indexFIns_t (l : List Ins) (g : FuncId) (hg : modeOf E0.md g = []) (cs : List T) (p : Ins → Bool) (hp : ∀ x ∈ l, Tells Try.prog E0 X g [x.a false, .t (.pt cs)] (bA (p x))) (hl : l.length ≤ 1048576) : Tells Try.prog E0 X 88 [.t (.sl false (l.map (Ins.c false))), .t (.fn g [.pt cs])] (iA (idx p l 0)) := by
  refine Tells.by Try.func88 (by simp [Try.f88]) (Body.i rfl rfl rfl (fun _ => rfl) fun f => ?_)
  repeat' (first
     | refine wp_seq_i ?_ | refine wp_region_t k_indexFIns rfl ?_ | refine Run.done rfl ?_ | refine then_n ?_ | refine then_r ?_ | refine then_e ?_ | refine Run.go1 rfl ?_ | refine wp_skip_i ?_ | refine wp_ret_i ?_
     | refine wp_exit_i ?_ | refine wp_block_i ?_ | refine block_n ?_ | refine block_r ?_ | refine block_e ?_ | refine block_o rfl ?_ | refine wp_cond_t rfl ?_ | refine wp_cond_f rfl ?_
     | (refine wp_cond_k rfl rfl rfl ?_ ?_ <;> intro _) | (refine wp_cond_i rfl ?_ ?_ <;> intro _))
  refine wp_loop_k (α := Nat) [.keep [0, 1, 7, 8] []] (fun k => [(8, iA k)]) (fun _ => []) (fun _ => []) (fun k => k ≤ l.length ∧ idx p (l.drop k) k = idx p l 0) (fun k => l.length - k) 0 rfl (fun _ => rfl) rfl ⟨by simp, rfl⟩ ?_
  rintro k ⟨hk, hI⟩
  by_cases hlt : k < l.length
  · have hx : (l.map (Ins.c false))[k]? = some ((Ins.c false) l[k]) := map_at hlt
    rw [idx_step hlt] at hI
    repeat' (first
       | refine wp_seq_i ?_ | refine wp_region_t k_indexFIns rfl ?_ | refine Run.done rfl ?_ | refine then_n ?_ | refine then_r ?_ | refine then_e ?_ | refine Run.go1 rfl ?_ | refine wp_skip_i ?_ | refine wp_ret_i ?_
       | refine wp_exit_i ?_ | refine wp_block_i ?_ | refine block_n ?_ | refine block_r ?_ | refine block_e ?_ | refine block_o rfl ?_ | refine wp_cond_t rfl ?_ | refine wp_cond_f rfl ?_
       | refine Run.ix rfl rfl rfl rfl rfl rfl rfl hx rfl rfl rfl ?_ | refine Run.callF rfl rfl rfl hg rfl (hp _ (List.getElem_mem hlt)) rfl rfl ?_ | (refine wp_cond_k rfl rfl rfl ?_ ?_ <;> intro _)
       | (refine wp_cond_i rfl ?_ ?_ <;> intro _))
    · rename_i h1 h2
      refine ret_m [] rfl rfl ?_
      rw [← hI, if_pos h2]
    · rename_i h1 h2
      refine back_i [.keep [0, 1, 7, 8] []] (k + 1) rfl ?_ ⟨by omega, ?_⟩ (by omega)
      · simp only [w_succ hlt (by omega)]
      · rw [← hI, if_neg (by simpa using h2)]
    · rename_i h; simp [hlt] at h
  · have hk : k = l.length := by omega
    subst hk
    simp [idx] at hI
    repeat' (first
       | refine wp_seq_i ?_ | refine wp_region_t k_indexFIns rfl ?_ | refine Run.done rfl ?_ | refine then_n ?_ | refine then_r ?_ | refine then_e ?_ | refine Run.go1 rfl ?_ | refine wp_skip_i ?_ | refine wp_ret_i ?_
       | refine wp_exit_i ?_ | refine wp_block_i ?_ | refine block_n ?_ | refine block_r ?_ | refine block_e ?_ | refine block_o rfl ?_ | refine wp_cond_t rfl ?_ | refine wp_cond_f rfl ?_
       | (refine wp_cond_k rfl rfl rfl ?_ ?_ <;> intro _) | (refine wp_cond_i rfl ?_ ?_ <;> intro _))
    · rename_i h; simp at h
    · refine ret_m [] rfl rfl ?_; rw [hI]
theorem containsFIns_t (l : List Ins) (g : FuncId) (hg : modeOf E0.md g = []) (cs : List T) (p : Ins → Bool) (hp : ∀ x ∈ l, Tells Try.prog E0 X g [x.a false, .t (.pt cs)] (bA (p x))) (hl : l.length ≤ 1048576) : Tells Try.prog E0 X 63 [.t (.sl false (l.map (Ins.c false))), .t (.fn g [.pt cs])] (bA (l.any p)) := by
  have hi := idx_any (f := p) (l := l) (k := 0)
  refine Tells.by Try.func63 (by simp [Try.f63]) (Body.i rfl rfl rfl (fun _ => rfl) fun f => ?_)
  repeat' (first
     | refine wp_seq_i ?_ | refine wp_region_i ?_ | refine Run.done rfl ?_ | refine then_n ?_ | refine then_r ?_ | refine then_e ?_ | refine Run.go1 rfl ?_ | refine wp_skip_i ?_ | refine wp_ret_i ?_ | refine wp_exit_i ?_
     | refine wp_block_i ?_ | refine block_n ?_ | refine block_r ?_ | refine block_e ?_ | refine block_o rfl ?_ | refine wp_cond_t rfl ?_ | refine wp_cond_f rfl ?_
     | refine Run.call rfl rfl rfl (indexFIns_t l g hg cs p hp hl) rfl rfl ?_ | (refine wp_cond_k rfl rfl rfl ?_ ?_ <;> intro _) | (refine wp_cond_i rfl ?_ ?_ <;> intro _))
  all_goals (refine ret_m [] rfl rfl ?_; rw [← hi])
def k_indexFP : List (Nat × List Nat) := [(0, [0, 1]), (1, [0, 1, 7, 8]), (2, [0, 1, 7, 8, 9]), (3, [0, 1, 5, 7, 8]), (4, [0, 1, 5, 7, 8, 16]), (5, [4]), (6, [0, 1, 7, 8]), (7, [4])]
end Go.Proofs

set_option linter.unusedVariables false
set_option linter.unusedSimpArgs false
set_option maxHeartbeats 4000000
namespace Go.Proofs
open Go Go.Ev
set_option maxRecDepth 100000
variable {X : Rel3}
theorem insOk1_t (p : Piece) (r : Int) (hr : 0 ≤ p.regs ∧ p.regs ≤ 400) : Tells Try.prog E0 X 92 [iA r, .t (.pt (Piece.c false p))] (bA (!rng r 0 (p.regs - 1))) := by
  have hw : IntKind.i64.wrap (p.regs - 1) = p.regs - 1 := w_pred (by omega) (by omega)
  refine Tells.by Try.func92 (by simp [Try.f92]) (Body.i rfl rfl rfl (fun _ => rfl) fun f => ?_)
  repeat' (first
     | refine wp_seq_i ?_ | refine wp_region_i ?_ | refine Run.done rfl ?_ | refine then_n ?_ | refine then_r ?_ | refine then_e ?_ | refine Run.go1 rfl ?_ | refine wp_skip_i ?_ | refine wp_ret_i ?_ | refine wp_exit_i ?_
     | refine wp_block_i ?_ | refine block_n ?_ | refine block_r ?_ | refine block_e ?_ | refine block_o rfl ?_ | refine wp_cond_t rfl ?_ | refine wp_cond_f rfl ?_ | refine Run.call rfl rfl rfl (in_t _ _ _) rfl rfl ?_
     | (refine wp_cond_k rfl rfl rfl ?_ ?_ <;> intro _) | (refine wp_cond_i rfl ?_ ?_ <;> intro _))
  all_goals (refine ret_m [] rfl rfl ?_; simp [hw])
theorem allR_any {l : List Int} {hi : Int} : (!(l.any fun r => !rng r 0 hi)) = allR l hi := by
  simp only [allR, List.all_eq_not_any_not]
theorem numO_false (regs : Int) (i : Ins) (h : numO i = false) : numB regs i = false := by
  revert h; unfold numB numO; repeat' split
  all_goals simp_all
def k_insOk : List (Nat × List Nat) := [(0, [2, 3]), (1, [2, 3, 6]), (2, [2, 3, 33]), (3, [4]), (4, [2, 3, 64]), (5, [4]), (6, [2, 3, 67]), (7, [4]), (8, [3, 74, 75, 76]), (9, [3, 74, 75, 76, 77]), (10, [3, 7, 8, 74, 75, 76]), (11, [3, 74, 75, 76, 103]), (12, [4]), (13, [3, 74, 75, 76]), (14, [4])]
theorem insOk_t (p : Piece) (i : Ins) (hr : 0 ≤ p.regs ∧ p.regs ≤ 400) (hn : p.ins.length ≤ 600) (hl : i.l.length ≤ 1048576) : Tells Try.prog E0 X 65 [p.a false, i.a false] (bA (insB p.regs p.ins.length i)) := by
  have har := allR_any (l := i.l) (hi := p.regs - 1)
  have hT : regB (uT i.op) i.to_ p.ins.length = (if uT i.op then rng i.to_ 0 (p.ins.length - 1) else i.to_ == 0) := rfl
  refine Tells.by Try.func65 (by simp [Try.f65]) (Body.i rfl rfl rfl (fun _ => rfl) fun f => ?_)
  repeat' (first
     | refine wp_seq_i ?_ | refine wp_region_t k_insOk rfl ?_ | refine Run.done rfl ?_ | refine then_n ?_ | refine then_r ?_ | refine then_e ?_ | refine Run.go1 rfl ?_ | refine wp_skip_i ?_ | refine wp_ret_i ?_
     | refine wp_exit_i ?_ | refine wp_block_i ?_ | refine block_n ?_ | refine block_r ?_ | refine block_e ?_ | refine block_o rfl ?_ | refine wp_cond_t rfl ?_ | refine wp_cond_f rfl ?_
     | refine wp_region_qt k_insOk rfl 19 (by decide +kernel) rfl rfl ?_ | refine wp_region_qt k_insOk rfl 31 (by decide +kernel) rfl rfl ?_ | refine RunQ.go1 rfl ?_ | refine RunQ.done rfl ?_ | refine Run.gT rfl rfl rfl rfl ?_
     | refine Run.pT rfl rfl ?_ | (refine Run.splitG rfl rfl rfl rfl rfl rfl ?_ ?_ <;> intro _) | (refine Run.splitP rfl rfl rfl rfl ?_ ?_ <;> intro _) | refine RunQ.gT rfl rfl rfl rfl ?_ | refine RunQ.pT rfl rfl ?_
     | (refine RunQ.splitG rfl rfl rfl rfl rfl rfl ?_ ?_ <;> intro _) | (refine RunQ.splitP rfl rfl rfl rfl ?_ ?_ <;> intro _) | refine Run.call rfl rfl rfl (insForm_t _) rfl rfl ?_
     | refine Run.call rfl rfl rfl (numOk_t i) rfl rfl ?_ | refine Run.call rfl rfl rfl (hasT_t _) rfl rfl ?_ | refine Run.call rfl rfl rfl (hasD_t _) rfl rfl ?_ | refine Run.call rfl rfl rfl (hasX_t _) rfl rfl ?_
     | refine Run.call rfl rfl rfl (hasY_t _) rfl rfl ?_ | refine Run.call rfl rfl rfl (fieldOk_t _ _ _) rfl rfl ?_ | refine RunQ.call rfl rfl rfl rfl rfl rfl (insForm_t _) (.inl rfl) rfl rfl ?_
     | refine RunQ.call rfl rfl rfl rfl rfl rfl (numOk_t i) (.inl rfl) rfl rfl ?_ | refine RunQ.call rfl rfl rfl rfl rfl rfl (hasT_t _) (.inl rfl) rfl rfl ?_
     | refine RunQ.call rfl rfl rfl rfl rfl rfl (hasD_t _) (.inl rfl) rfl rfl ?_ | refine RunQ.call rfl rfl rfl rfl rfl rfl (hasX_t _) (.inl rfl) rfl rfl ?_
     | refine RunQ.call rfl rfl rfl rfl rfl rfl (hasY_t _) (.inl rfl) rfl rfl ?_ | refine RunQ.call rfl rfl rfl rfl rfl rfl (fieldOk_t _ _ _) (.inl rfl) rfl rfl ?_
     | refine Run.callB rfl rfl rfl (containsFI_t i.l 92 rfl (Piece.c false p) (fun r => !rng r 0 (p.regs - 1)) (fun r _ => insOk1_t p r hr) hl) (by simp [AV.own, T.own]) rfl ?_
     | (refine wp_cond_k rfl rfl rfl ?_ ?_ <;> intro _) | (refine wp_cond_i rfl ?_ ?_ <;> intro _))
  any_goals (refine ret_m [] rfl rfl ?_; simp only [har]; clear har; simp_all [insB, numB, numO]; done)
  any_goals (refine ret_m [] rfl rfl ?_; clear har; first | (simp_all [insB]; done) | (cases hu : uT i.op <;> simp_all [insB]; done) | (have := numO_false p.regs i; simp_all [insB]; done) | (simp_all [insB, numB, numO]; done))
  all_goals try (exfalso; simp_all; done)
  all_goals (
    have hA0 : i.l.length = 0 → asc i.l = true := by intro h; have : i.l = [] := List.eq_nil_of_length_eq_zero h; simp [this, asc]
    refine wp_loop_k (α := Nat) [.keep [2, 3, 74, 75, 76] [2, 3]] (fun k => [(76, iA k)]) (fun _ => []) (fun _ => []) (fun k => k ≤ i.l.length ∧ asc (i.l.drop (k - 1)) = asc i.l ∧ (0 < k → i.op = 14 ∧ (i.l.length : Int) ≤ 200)) (fun k => i.l.length - k) 0 rfl (fun _ => rfl) rfl ⟨by simp, by simp, by simp⟩ ?_
    rintro k ⟨hk, hA, hB⟩
    by_cases hlt : k < i.l.length
    · have hx : (i.l.map iR)[k]? = some (iR i.l[k]) := map_at hlt
      have hy : (i.l.map iR)[k - 1]? = some (iR (i.l[k - 1]'(by omega))) := map_at (by omega)
      have hkk : decide ((k : Int) > 0) = true → IntKind.i64.wrap ((k : Int) - 1) = ((k - 1 : Nat) : Int) := by intro h; simp at h; rw [w_pred] <;> omega
      have hA1 : 0 < k → asc i.l = (decide ((i.l[k - 1]'(by omega)) < i.l[k]) && asc (i.l.drop k)) := by
        intro h
        obtain ⟨j, rfl⟩ : ∃ j, k = j + 1 := ⟨k - 1, by omega⟩
        rw [← hA]; exact asc_step hlt
      have hA2 : k = 0 → asc (i.l.drop k) = asc i.l := by rintro rfl; simp
      repeat' (first
         | refine wp_seq_i ?_ | refine wp_region_t k_insOk rfl ?_ | refine Run.done rfl ?_ | refine then_n ?_ | refine then_r ?_ | refine then_e ?_ | refine Run.go1 rfl ?_ | refine wp_skip_i ?_ | refine wp_ret_i ?_
         | refine wp_exit_i ?_ | refine wp_block_i ?_ | refine block_n ?_ | refine block_r ?_ | refine block_e ?_ | refine block_o rfl ?_ | refine wp_cond_t rfl ?_ | refine wp_cond_f rfl ?_ | refine Run.gT rfl rfl rfl rfl ?_
         | refine Run.pT rfl rfl ?_ | (refine Run.splitG rfl rfl rfl rfl rfl rfl ?_ ?_ <;> intro _) | (refine Run.splitP rfl rfl rfl rfl ?_ ?_ <;> intro _) | refine Run.ix rfl rfl rfl rfl rfl rfl rfl hx rfl rfl rfl ?_
         | refine Run.ix rfl rfl rfl rfl rfl rfl (hkk (by assumption)) hy rfl rfl rfl ?_ | (refine wp_cond_k rfl rfl rfl ?_ ?_ <;> intro _) | (refine wp_cond_i rfl ?_ ?_ <;> intro _))
      all_goals first
      | (rename_i h; simp [hlt] at h; done)
      | (exfalso; clear hA hA0 hA1 hA2 hB har; simp_all; done)
      | (refine ret_m [] rfl rfl ?_
         have hl : (0 < k ∧ ¬ (i.l[k - 1]'(by omega)) < i.l[k]) ∨ i.op ≠ 14 ∨ 200 < (i.l.length : Int) := by
           clear hA hA0 hA1 hA2 hB har
           rcases Nat.eq_zero_or_pos k with h0 | h0 <;> simp_all
         have hlp : (0 : Int) < i.l.length := by omega
         have hnb : numB p.regs i = false ∨ i.op ≠ 14 := by
           by_cases h14 : i.op = 14
           · left
             rcases hl with ⟨h0, hl⟩ | hl | hl
             · have := hA1 h0; simp [hl] at this; simp [numB, h14, this]
             · exact absurd h14 hl
             · simp [numB, h14]; omega
           · exact .inr h14
         clear hA hA0 hA1 hA2 hB har hl
         rcases hnb with h | h <;> simp_all [insB])
      | (refine back_i [.keep [2, 3, 74, 75, 76] [2, 3]] (k + 1) rfl ?_ ⟨by omega, ?_, ?_⟩ (by omega)
         · simp only [w_succ hlt (by omega)]
         · rcases Nat.eq_zero_or_pos k with h0 | h0
           · exact hA2 h0
           · have hq := hA1 h0
             have hl : (i.l[k - 1]'(by omega)) < i.l[k] := by clear hA0 hA1 hA2 hA hB har hq; simp_all
             rw [hq]; simp [hl]
         · intro _; clear hA0 hA1 hA2 hA hB har; simp_all)
    · have hk : k = i.l.length := by omega
      subst hk
      have hA : asc i.l = true := by rw [← hA]; exact asc_end (by omega)
      repeat' (first
         | refine wp_seq_i ?_ | refine wp_region_t k_insOk rfl ?_ | refine Run.done rfl ?_ | refine then_n ?_ | refine then_r ?_ | refine then_e ?_ | refine Run.go1 rfl ?_ | refine wp_skip_i ?_ | refine wp_ret_i ?_
         | refine wp_exit_i ?_ | refine wp_block_i ?_ | refine block_n ?_ | refine block_r ?_ | refine block_e ?_ | refine block_o rfl ?_ | refine wp_cond_t rfl ?_ | refine wp_cond_f rfl ?_
         | (refine wp_cond_k rfl rfl rfl ?_ ?_ <;> intro _) | (refine wp_cond_i rfl ?_ ?_ <;> intro _))
      · rename_i h; simp at h
      · refine ret_m [] rfl rfl ?_
        clear har hA0
        rcases Nat.eq_zero_or_pos i.l.length with h0 | h0
        · have hnil : i.l = [] := List.eq_nil_of_length_eq_zero h0
          clear hB
          simp_all [insB, numB, numO]
        · have := hB h0
          clear hB
          simp_all [insB, numB, numO])
end Go.Proofs

set_option linter.unusedVariables false
set_option linter.unusedSimpArgs false
set_option maxHeartbeats 4000000
namespace Go.Proofs
open Go Go.Ev
set_option maxRecDepth 100000
variable {X : Rel3}
theorem pieceOk1_t (p : Piece) (i : Ins) (hr : 0 ≤ p.regs ∧ p.regs ≤ 400) (hn : p.ins.length ≤ 600) (hl : i.l.length ≤ 1048576) : Tells Try.prog E0 X 64 [i.a false, .t (.pt (Piece.c false p))] (bA (!insB p.regs p.ins.length i)) := by
  refine Tells.by Try.func64 (by simp [Try.f64]) (Body.i rfl rfl rfl (fun _ => rfl) fun f => ?_)
  repeat' (first
     | refine wp_seq_i ?_ | refine wp_region_i ?_ | refine Run.done rfl ?_ | refine then_n ?_ | refine then_r ?_ | refine then_e ?_ | refine Run.go1 rfl ?_ | refine wp_skip_i ?_ | refine wp_ret_i ?_ | refine wp_exit_i ?_
     | refine wp_block_i ?_ | refine block_n ?_ | refine block_r ?_ | refine block_e ?_ | refine block_o rfl ?_ | refine wp_cond_t rfl ?_ | refine wp_cond_f rfl ?_ | refine Run.call rfl rfl rfl (insOk_t p i hr hn hl) rfl rfl ?_
     | (refine wp_cond_k rfl rfl rfl ?_ ?_ <;> intro _) | (refine wp_cond_i rfl ?_ ?_ <;> intro _))
  all_goals (refine ret_m [] rfl rfl ?_; rfl)
theorem allI_any {l : List Ins} {r n : Int} : (l.any fun i => !insB r n i) = !allI r n l := by
  simp only [allI, List.all_eq_not_any_not, Bool.not_not]
def k_pieceOk : List (Nat × List Nat) := [(0, [1]), (1, [1, 3]), (2, [1, 3, 28]), (3, [2]), (4, [2])]
theorem pieceOk_t (p : Piece) (hp : p.ok) : Tells Try.prog E0 X 33 [p.a false] (bA (pieceB p)) := by
  have hany := allI_any (l := p.ins) (r := p.regs) (n := p.ins.length)
  by_cases hh : headB p = true
  · have hh' := headB_iff.1 hh
    have hreg : 0 ≤ p.regs ∧ p.regs ≤ 400 := by omega
    have hin : p.ins.length ≤ 600 := by omega
    have hv : IntKind.i64.wrap (((p.ins.map (Ins.c false)).length : Int) - 1) = ((p.ins.length - 1 : Nat) : Int) := by rw [List.length_map, w_pred] <;> omega
    have hx : (p.ins.map (Ins.c false))[p.ins.length - 1]? = some (Ins.c false (p.ins[p.ins.length - 1]'(by omega))) := map_at (by omega)
    have hl := lastB_eq (l := p.ins) (by omega)
    have hcf := containsFIns_t (X := X) p.ins 64 rfl (Piece.c false p) (fun i => !insB p.regs p.ins.length i) (fun i hi => pieceOk1_t p i hreg hin (hp.2 _ hi)) hp.1
    rw [hany] at hcf
    refine Tells.by Try.func33 (by simp [Try.f33]) (Body.i rfl rfl rfl (fun _ => rfl) fun f => ?_)
    repeat' (first
       | refine wp_seq_i ?_ | refine wp_region_t k_pieceOk rfl ?_ | refine Run.done rfl ?_ | refine then_n ?_ | refine then_r ?_ | refine then_e ?_ | refine Run.go1 rfl ?_ | refine wp_skip_i ?_ | refine wp_ret_i ?_
       | refine wp_exit_i ?_ | refine wp_block_i ?_ | refine block_n ?_ | refine block_r ?_ | refine block_e ?_ | refine block_o rfl ?_ | refine wp_cond_t rfl ?_ | refine wp_cond_f rfl ?_ | refine Run.gT rfl rfl rfl rfl ?_
       | refine Run.pT rfl rfl ?_ | (refine Run.splitG rfl rfl rfl rfl rfl rfl ?_ ?_ <;> intro _) | (refine Run.splitP rfl rfl rfl rfl ?_ ?_ <;> intro _) | refine Run.call rfl rfl rfl (in_t _ _ _) rfl rfl ?_
       | refine Run.call rfl rfl rfl (lamOk_t p) rfl rfl ?_ | refine Run.callB rfl rfl rfl (hcf) (by simp [AV.own, T.own]) rfl ?_ | refine Run.ix rfl rfl rfl rfl rfl rfl hv hx rfl rfl rfl ?_
       | (refine wp_cond_k rfl rfl rfl ?_ ?_ <;> intro _) | (refine wp_cond_i rfl ?_ ?_ <;> intro _))
    all_goals clear hcf hany
    all_goals (refine ret_m [] rfl rfl ?_)
    any_goals (simp_all [pieceB, headB]; done)
  · have hh0 : headB p = false := by simpa using hh
    have hb : pieceB p = false := by simp [pieceB, hh0]
    rw [hb]
    refine Tells.by Try.func33 (by simp [Try.f33]) (Body.i rfl rfl rfl (fun _ => rfl) fun f => ?_)
    repeat' (first
       | refine wp_seq_i ?_ | refine wp_region_t k_pieceOk rfl ?_ | refine Run.done rfl ?_ | refine then_n ?_ | refine then_r ?_ | refine then_e ?_ | refine Run.go1 rfl ?_ | refine wp_skip_i ?_ | refine wp_ret_i ?_
       | refine wp_exit_i ?_ | refine wp_block_i ?_ | refine block_n ?_ | refine block_r ?_ | refine block_e ?_ | refine block_o rfl ?_ | refine wp_cond_t rfl ?_ | refine wp_cond_f rfl ?_ | refine Run.gT rfl rfl rfl rfl ?_
       | refine Run.pT rfl rfl ?_ | (refine Run.splitG rfl rfl rfl rfl rfl rfl ?_ ?_ <;> intro _) | (refine Run.splitP rfl rfl rfl rfl ?_ ?_ <;> intro _) | refine Run.call rfl rfl rfl (in_t _ _ _) rfl rfl ?_
       | refine Run.call rfl rfl rfl (lamOk_t p) rfl rfl ?_ | (refine wp_cond_k rfl rfl rfl ?_ ?_ <;> intro _) | (refine wp_cond_i rfl ?_ ?_ <;> intro _))
    any_goals (refine ret_m [] rfl rfl ?_; rfl)
    all_goals (exfalso; clear hany; simp_all [headB])
end Go.Proofs

set_option linter.unusedVariables false
set_option linter.unusedSimpArgs false
set_option maxHeartbeats 4000000
namespace Go.Proofs
open Go Go.Ev
set_option maxRecDepth 100000
variable {X : Rel3}
theorem blockOfI_s (l : List Int) (i : Int) (hl : l.length ≤ 1000000000000) : Tells Try.prog E0 X 43 [.t (.sl false (shrR (l.map iR))), iA i] (iA (blkI i (l.drop 1) 0 : Nat)) := by rw [shrI_b]; exact blockOfI_t l i hl
def k_LeadI : List (Nat × List Nat) := [(0, [1]), (1, [1, 9]), (2, [2]), (3, [1, 3]), (4, [1, 3, 12, 13, 14]), (5, [1, 3, 12, 13, 14, 15]), (6, [1, 3, 4, 5, 12, 13, 14]), (7, [1, 3, 4, 5, 6, 12, 13, 14]), (8, [1, 3, 4, 5, 6, 12, 13, 14, 22]), (9, [1, 3, 4, 5, 6, 12, 13, 14]), (10, [1, 3, 4, 12, 13, 14, 51]), (11, [1, 3, 12, 13, 14]), (12, [1, 3, 12, 13, 14]), (13, [2])]
theorem LeadersI_t (p : Piece) (hp : p.ok) : Tells Try.prog E0 XS 41 [p.a false] (.t (.sl true ((leadsB p).map iR))) := by
  have hpl := hp.1
  have hal := addsGo_len p.ins.length p.ins 0
  refine Tells.by Try.func41 (by simp [Try.f41]) (Body.i rfl rfl rfl (fun _ => rfl) fun f => ?_)
  repeat' (first
     | refine wp_seq_i ?_ | refine wp_region_t k_LeadI rfl ?_ | refine Run.done rfl ?_ | refine then_n ?_ | refine then_r ?_ | refine then_e ?_ | refine Run.go1 rfl ?_ | refine wp_skip_i ?_ | refine wp_ret_i ?_
     | refine wp_exit_i ?_ | refine wp_block_i ?_ | refine block_n ?_ | refine block_r ?_ | refine block_e ?_ | refine block_o rfl ?_ | refine wp_cond_t rfl ?_ | refine wp_cond_f rfl ?_
     | refine Run.call rfl rfl rfl (pieceOk_t p hp) rfl rfl ?_ | (refine wp_cond_k rfl rfl rfl ?_ ?_ <;> intro _) | (refine wp_cond_i rfl ?_ ?_ <;> intro _))
  · rename_i h
    refine ret_m [.nilT 2 7] rfl rfl ?_
    simp_all [leadsB]
  rename_i h
  have hpb : pieceB p = true := by simpa using h
  refine wp_loop_k (α := Nat × List Int) [.keep [1, 3, 12, 13, 14] [1, 10]] (fun q => [(14, iA q.1)]) (fun _ => []) (fun q => [(10, 0, q.2.map iR)]) (fun q => q.1 ≤ p.ins.length ∧ q.2.length ≤ 2 * q.1 + 1 ∧ q.2 ++ addsGo p.ins.length (p.ins.drop q.1) q.1 = 0 :: addsGo p.ins.length p.ins 0) (fun q => p.ins.length - q.1) (0, [0]) rfl (fun _ => rfl) rfl ⟨by simp, by simp, by simp⟩ ?_
  rintro ⟨k, c⟩ ⟨hk, hc, he⟩
  simp only at hk hc he
  by_cases hlt : k < p.ins.length
  · have hx : (p.ins.map (Ins.c false))[k]? = some (Ins.c false p.ins[k]) := by simp [hlt]
    rw [List.drop_eq_getElem_cons hlt, addsGo] at he
    generalize p.ins[k] = i at hx he
    have hw := w_succ hlt (by omega)
    repeat' (first
       | refine wp_seq_i ?_ | refine wp_region_t k_LeadI rfl ?_ | refine Run.done rfl ?_ | refine then_n ?_ | refine then_r ?_ | refine then_e ?_ | refine Run.go1 rfl ?_ | refine wp_skip_i ?_ | refine wp_ret_i ?_
       | refine wp_exit_i ?_ | refine wp_block_i ?_ | refine block_n ?_ | refine block_r ?_ | refine block_e ?_ | refine block_o rfl ?_ | refine wp_cond_t rfl ?_ | refine wp_cond_f rfl ?_ | refine Run.gT rfl rfl rfl rfl ?_
       | refine Run.pT rfl rfl ?_ | (refine Run.splitG rfl rfl rfl rfl rfl rfl ?_ ?_ <;> intro _) | (refine Run.splitP rfl rfl rfl rfl ?_ ?_ <;> intro _) | refine Run.ix rfl rfl rfl rfl rfl rfl rfl hx rfl rfl rfl ?_
       | refine Run.call rfl rfl rfl (hasT_t _) rfl rfl ?_
       | refine Run.cnd rfl rfl rfl ⟨by simp; omega, (by intro r hr; simp at hr; first | (rcases hr with ⟨a, _, rfl⟩ | rfl <;> rfl) | (obtain ⟨a, _, rfl⟩ := hr; rfl) | (rcases hr with (⟨a, _, rfl⟩ | rfl) | rfl <;> rfl)), by simp, .inl rfl, by simp [flatT]⟩ ?_
       | (refine wp_cond_k rfl rfl rfl ?_ ?_ <;> intro _) | (refine wp_cond_i rfl ?_ ?_ <;> intro _))
    all_goals first
    | (exfalso; clear he hx; simp_all; done)
    | (have hA : leadAdd p.ins.length k i = [i.to_, ((k + 1 : Nat) : Int)] := by (clear he hx; simp only [hw, List.length_map] at *; simp_all [leadAdd, jumpB] <;> omega)
       rw [hA] at he
       refine back_i [.keep [1, 3, 12, 13, 14] [1, 56], .ren 56 10] (k + 1, c ++ [i.to_, ((k + 1 : Nat) : Int)]) rfl ?_ ⟨by simp; omega, by simp; omega, by simpa using he⟩ (by simp; omega)
       simp only [hw, List.map_append, List.map_cons, List.map_nil, List.append_nil, List.append_assoc, List.cons_append, List.nil_append]; try rfl; done)
    | (have hA : leadAdd p.ins.length k i = [((k + 1 : Nat) : Int)] := by (clear he hx; simp only [hw, List.length_map] at *; simp_all [leadAdd, jumpB] <;> omega)
       rw [hA] at he
       refine back_i [.keep [1, 3, 12, 13, 14] [1, 56], .ren 56 10] (k + 1, c ++ [((k + 1 : Nat) : Int)]) rfl ?_ ⟨by simp; omega, by simp; omega, by simpa using he⟩ (by simp; omega)
       simp only [hw, List.map_append, List.map_cons, List.map_nil, List.append_nil, List.append_assoc, List.cons_append, List.nil_append]; try rfl; done)
    | (have hA : leadAdd p.ins.length k i = [i.to_] := by (clear he hx; simp only [hw, List.length_map] at *; simp_all [leadAdd, jumpB] <;> omega)
       rw [hA] at he
       refine back_i [.keep [1, 3, 12, 13, 14] [1, 27], .ren 27 10] (k + 1, c ++ [i.to_]) rfl ?_ ⟨by simp; omega, by simp; omega, by simpa using he⟩ (by simp; omega)
       simp only [hw, List.map_append, List.map_cons, List.map_nil, List.append_nil, List.append_assoc, List.cons_append, List.nil_append]; try rfl; done)
    | (have hA : leadAdd p.ins.length k i = [] := by (clear he hx; simp only [hw, List.length_map] at *; simp_all [leadAdd, jumpB] <;> omega)
       rw [hA] at he
       refine back_i [.keep [1, 3, 12, 13, 14] [1, 10]] (k + 1, c ++ []) rfl ?_ ⟨by simp; omega, by simp; omega, by simpa using he⟩ (by simp; omega)
       simp only [hw, List.map_append, List.map_cons, List.map_nil, List.append_nil, List.append_assoc, List.cons_append, List.nil_append]; try rfl; done)
    | trace_state
  · have hjl : k = p.ins.length := by omega
    subst hjl
    rw [List.drop_length, addsGo, List.append_nil] at he
    repeat' (first
       | refine wp_seq_i ?_ | refine wp_region_t k_LeadI rfl ?_ | refine Run.done rfl ?_ | refine then_n ?_ | refine then_r ?_ | refine then_e ?_ | refine Run.go1 rfl ?_ | refine wp_skip_i ?_ | refine wp_ret_i ?_
       | refine wp_exit_i ?_ | refine wp_block_i ?_ | refine block_n ?_ | refine block_r ?_ | refine block_e ?_ | refine block_o rfl ?_ | refine wp_cond_t rfl ?_ | refine wp_cond_f rfl ?_
       | refine Run.call rfl rfl rfl (ascending_t c (by omega)) rfl rfl ?_ | (refine wp_cond_k rfl rfl rfl ?_ ?_ <;> intro _) | (refine wp_cond_i rfl ?_ ?_ <;> intro _))
    all_goals first
    | (exfalso; simp at *; done)
    | (refine ret_m [] rfl rfl ?_; rw [he, leads_eq]; simp [leadsB, hpb]; done)
    | trace_state
def k_BlockI : List (Nat × List Nat) := [(0, [1, 2]), (1, [1, 2, 5]), (2, [1, 5, 19]), (3, [4]), (4, [4])]
end Go.Proofs

set_option linter.unusedVariables false
set_option linter.unusedSimpArgs false
set_option maxHeartbeats 4000000
namespace Go.Proofs
open Go Go.Ev
set_option maxRecDepth 100000
variable {X : Rel3}
theorem wmax (s : List Int) (h : s.length ≤ 9223372036854775807) : (if IntKind.i64.wrap (((s.map iR).length : Int) - 1) > 0 then IntKind.i64.wrap (((s.map iR).length : Int) - 1) else 0) = ((s.length - 1 : Nat) : Int) := by
  rw [List.length_map, w64 (by omega) (by omega)]
  split <;> omega
theorem cutMax (s : List Int) (h : s.length ≤ 9223372036854775807) : (List.take (if IntKind.i64.wrap (((s.map iR).length : Int) - 1) > 0 then IntKind.i64.wrap (((s.map iR).length : Int) - 1) else 0).toNat (s.map iR)) = s.dropLast.map iR := by
  rw [wmax s h, Int.toNat_natCast, List.dropLast_eq_take, List.map_take]
def k_guardOf : List (Nat × List Nat) := [(0, [1, 2]), (1, [1, 2, 14]), (2, [4]), (3, [1, 2, 5]), (4, [5, 19, 20, 21]), (5, [5, 19, 20, 21, 22]), (6, [5, 6, 7, 19, 20, 21]), (7, [5, 6, 19, 20, 21, 27]), (8, [5, 6, 19, 20, 21, 27, 28]), (9, [5, 19, 20, 21]), (10, [5, 19, 20, 21, 34]), (11, [5, 19, 20, 21]), (12, [5, 19, 20, 21]), (13, [5, 45]), (14, [4]), (15, [4])]
theorem guardOf_t (p : Piece) (i : Nat) (hp : p.ins.length ≤ 1048576) (hi : i < p.ins.length) : Tells Try.prog E0 X 67 [p.a false, iA i] (iA (guardI p.ins i)) := by
  have hrng : rng i 0 (IntKind.i64.wrap (((p.ins.map (Ins.c false)).length : Int) - 1)) = true := by rw [List.length_map, w64 (by omega) (by omega)]; simp [rng]; omega
  have hll : ((((p.ins.map (Ins.c false)).take (Int.toNat (i : Int))).drop (Int.toNat 0)).length) = i := by simp; omega
  refine Tells.by Try.func67 (by simp [Try.f67]) (Body.i rfl rfl rfl (fun _ => rfl) fun f => ?_)
  repeat' (first
     | refine wp_seq_i ?_ | refine wp_region_t k_guardOf rfl ?_ | refine Run.done rfl ?_ | refine then_n ?_ | refine then_r ?_ | refine then_e ?_ | refine Run.go1 rfl ?_ | refine wp_skip_i ?_ | refine wp_ret_i ?_
     | refine wp_exit_i ?_ | refine wp_block_i ?_ | refine block_n ?_ | refine block_r ?_ | refine block_e ?_ | refine block_o rfl ?_ | refine wp_cond_t rfl ?_ | refine wp_cond_f rfl ?_
     | refine Run.call rfl rfl rfl (in_t _ _ _) rfl rfl ?_ | refine Run.csl rfl rfl rfl ⟨by decide, by omega, by simp; omega, by simp⟩ rfl ?_ | (refine wp_cond_k rfl rfl rfl ?_ ?_ <;> intro _)
     | (refine wp_cond_i rfl ?_ ?_ <;> intro _))
  any_goals (exfalso; rename_i h; rw [hrng] at h; simp at h; done)
  refine wp_loop_k (α := Nat × List Int × Nat) [.keep [5, 19, 20, 21] [15]] (fun z => [(21, iA z.1)]) (fun _ => []) (fun z => [(15, ⟨z.2.2, none⟩, z.2.1.map iR)]) (fun z => z.1 ≤ i ∧ z.2.1.length ≤ z.1 ∧ (z.2.2 = 0 ∨ z.2.2 = 1) ∧ guardGo ((p.ins.take i).drop z.1) z.1 z.2.1 = guardGo (p.ins.take i) 0 []) (fun z => i - z.1) (0, [], 0) rfl (fun _ => rfl) rfl ⟨by simp, by simp, by simp, by simp⟩ ?_
  rintro ⟨k, s, q⟩ ⟨hk, hsl, hq, he⟩
  simp only at hk hsl hq he
  have hti : (p.ins.take i).length = i := by simp; omega
  by_cases hlt : k < i
  · have hx : (((p.ins.map (Ins.c false)).take (Int.toNat (i : Int))).drop (Int.toNat 0))[k]? = some (Ins.c false (p.ins[k]'(by omega))) := by
      rw [Int.toNat_natCast, Int.toNat_zero, List.drop_zero, List.getElem?_take, if_pos hlt]; exact map_at (by omega)
    have hdr : (p.ins.take i).drop k = (p.ins[k]'(by omega)) :: (p.ins.take i).drop (k + 1) := by
      rw [List.drop_eq_getElem_cons (by rw [hti]; exact hlt)]; simp
    rw [hdr, guardGo] at he
    generalize (p.ins[k]'(by omega)) = x at hx he
    have hw := w_succ hlt (by omega)
    repeat' (first
       | refine wp_seq_i ?_ | refine wp_region_t k_guardOf rfl ?_ | refine Run.done rfl ?_ | refine then_n ?_ | refine then_r ?_ | refine then_e ?_ | refine Run.go1 rfl ?_ | refine wp_skip_i ?_ | refine wp_ret_i ?_
       | refine wp_exit_i ?_ | refine wp_block_i ?_ | refine block_n ?_ | refine block_r ?_ | refine block_e ?_ | refine block_o rfl ?_ | refine wp_cond_t rfl ?_ | refine wp_cond_f rfl ?_ | refine Run.gT rfl rfl rfl rfl ?_
       | refine Run.pT rfl rfl ?_ | (refine Run.splitG rfl rfl rfl rfl rfl rfl ?_ ?_ <;> intro _) | (refine Run.splitP rfl rfl rfl rfl ?_ ?_ <;> intro _) | refine Run.ix rfl rfl rfl rfl rfl rfl rfl hx rfl rfl rfl ?_
       | refine Run.cnd rfl rfl rfl ⟨by first | (simp; done) | (simp; omega), (by intro r hr; first | (simp at hr; done) | skip; simp at hr; first | (rcases hr with ⟨a, _, rfl⟩ | rfl <;> rfl) | (obtain ⟨a, _, rfl⟩ := hr; rfl) | (subst hr; rfl)), by simp, by first | exact .inl rfl | exact hq, by simp [flatT]⟩ ?_
       | refine Run.cnd2 rfl rfl rfl ⟨by decide, by rw [wmax s (by omega)]; omega, by rw [wmax s (by omega)]; simp, by simp, by first | exact .inl rfl | exact hq, by decide⟩ ?_ | (refine wp_cond_k rfl rfl rfl ?_ ?_ <;> intro _)
       | (refine wp_cond_i rfl ?_ ?_ <;> intro _))
    all_goals first
    | (exfalso; clear he hx hdr; simp only [hll, beq_iff_eq, beq_eq_false_iff_ne, decide_eq_true_eq, decide_eq_false_iff_not] at *; omega)
    | (rename_i h17
       refine back_i [.keep [5, 19, 20, 21] [33], .ren 33 15] (k + 1, s ++ [(k : Int)], q) rfl ?_ ⟨by simp; omega, by simp; omega, by simpa using hq, by rw [← he, if_pos (by simpa using h17)]⟩ (by simp; omega)
       simp only [hw, List.map_append, List.map_cons, List.map_nil]; try rfl; done)
    | (refine back_i [.keep [5, 19, 20, 21] [41], .ren 41 15] (k + 1, s.dropLast, 1) rfl ?_ ⟨by simp; omega, by simp; omega, by simp, ?_⟩ (by simp; omega)
       · simp only [hw, Int.toNat_zero, List.drop_zero]; rw [cutMax s (by omega)]; try rfl
       · rw [← he, if_neg (by simp_all), if_pos (by simp_all)]; done)
    | (refine back_i [.keep [5, 19, 20, 21] [15]] (k + 1, s, q) rfl ?_ ⟨by simp; omega, by simp; omega, by simpa using hq, ?_⟩ (by simp; omega)
       · simp only [hw]; try rfl
       · rw [← he, if_neg (by simp_all), if_neg (by simp_all)]; done)
    | trace_state
  · have hki : k = i := by omega
    subst hki
    rw [List.drop_of_length_le (by omega), guardGo] at he
    have hg : guardI p.ins k = lastI s := by rw [guardI, he]
    by_cases hs : 0 < s.length
    · have hx2 : (s.map iR)[s.length - 1]? = some (iR s[s.length - 1]) := map_at (by omega)
      have hl := lastI_at hs
      repeat' (first
         | refine wp_seq_i ?_ | refine wp_region_t k_guardOf rfl ?_ | refine Run.done rfl ?_ | refine then_n ?_ | refine then_r ?_ | refine then_e ?_ | refine Run.go1 rfl ?_ | refine wp_skip_i ?_ | refine wp_ret_i ?_
         | refine wp_exit_i ?_ | refine wp_block_i ?_ | refine block_n ?_ | refine block_r ?_ | refine block_e ?_ | refine block_o rfl ?_ | refine wp_cond_t rfl ?_ | refine wp_cond_f rfl ?_ | refine Run.gT rfl rfl rfl rfl ?_
         | refine Run.pT rfl rfl ?_ | (refine Run.splitG rfl rfl rfl rfl rfl rfl ?_ ?_ <;> intro _) | (refine Run.splitP rfl rfl rfl rfl ?_ ?_ <;> intro _)
         | refine Run.ix rfl rfl rfl rfl rfl rfl (wlen s hs (by omega)) hx2 rfl rfl rfl ?_ | refine Run.ldr rfl rfl rfl hx2 rfl rfl ?_ | (refine wp_cond_k rfl rfl rfl ?_ ?_ <;> intro _) | (refine wp_cond_i rfl ?_ ?_ <;> intro _))
      all_goals first
      | (exfalso; clear he; simp only [hll, List.length_map, beq_iff_eq, beq_eq_false_iff_ne, decide_eq_true_eq, decide_eq_false_iff_not] at *; omega)
      | (refine ret_m [] rfl rfl ?_; rw [hg, hl]; done)
      | trace_state
    · have hl := lastI_nil hs
      repeat' (first
         | refine wp_seq_i ?_ | refine wp_region_t k_guardOf rfl ?_ | refine Run.done rfl ?_ | refine then_n ?_ | refine then_r ?_ | refine then_e ?_ | refine Run.go1 rfl ?_ | refine wp_skip_i ?_ | refine wp_ret_i ?_
         | refine wp_exit_i ?_ | refine wp_block_i ?_ | refine block_n ?_ | refine block_r ?_ | refine block_e ?_ | refine block_o rfl ?_ | refine wp_cond_t rfl ?_ | refine wp_cond_f rfl ?_ | refine Run.gT rfl rfl rfl rfl ?_
         | refine Run.pT rfl rfl ?_ | (refine Run.splitG rfl rfl rfl rfl rfl rfl ?_ ?_ <;> intro _) | (refine Run.splitP rfl rfl rfl rfl ?_ ?_ <;> intro _) | (refine wp_cond_k rfl rfl rfl ?_ ?_ <;> intro _)
         | (refine wp_cond_i rfl ?_ ?_ <;> intro _))
      all_goals first
      | (exfalso; clear he; simp only [hll, List.length_map, beq_iff_eq, beq_eq_false_iff_ne, decide_eq_true_eq, decide_eq_false_iff_not] at *; omega)
      | (refine ret_m [] rfl rfl ?_; rw [hg, hl]; done)
      | trace_state
def k_ways : List (Nat × List Nat) := [(0, [1, 2]), (1, [1, 5]), (2, [1, 5, 6]), (3, [1, 5, 6, 25]), (4, [1, 5, 6]), (5, [1, 6, 43]), (6, [6]), (7, [4])]
theorem ways_t (p : Piece) (i : Nat) (x : Ins) (hp : p.ins.length ≤ 1048576) (hx0 : p.ins[i]? = some x) : Tells Try.prog E0 X 66 [p.a false, iA i] (.t (.sl true ((waysL x i).map iR))) := by
  have hi : i < p.ins.length := (List.getElem?_eq_some_iff.1 hx0).1
  have hx : (p.ins.map (Ins.c false))[i]? = some (Ins.c false x) := by rw [List.getElem?_map, hx0]; rfl
  have hw := w_succ hi (by omega)
  refine Tells.by Try.func66 (by simp [Try.f66]) (Body.i rfl rfl rfl (fun _ => rfl) fun f => ?_)
  repeat' (first
     | refine wp_seq_i ?_ | refine wp_region_t k_ways rfl ?_ | refine Run.done rfl ?_ | refine then_n ?_ | refine then_r ?_ | refine then_e ?_ | refine Run.go1 rfl ?_ | refine wp_skip_i ?_ | refine wp_ret_i ?_
     | refine wp_exit_i ?_ | refine wp_block_i ?_ | refine block_n ?_ | refine block_r ?_ | refine block_e ?_ | refine block_o rfl ?_ | refine wp_cond_t rfl ?_ | refine wp_cond_f rfl ?_ | refine Run.gT rfl rfl rfl rfl ?_
     | refine Run.pT rfl rfl ?_ | (refine Run.splitG rfl rfl rfl rfl rfl rfl ?_ ?_ <;> intro _) | (refine Run.splitP rfl rfl rfl rfl ?_ ?_ <;> intro _) | refine Run.ix rfl rfl rfl rfl rfl rfl rfl hx rfl rfl rfl ?_
     | refine Run.cnd rfl rfl rfl ⟨by first | (simp; done) | (simp; omega), (by intro r hr; first | (simp at hr; done) | skip; simp at hr; first | (rcases hr with ⟨a, _, rfl⟩ | rfl <;> rfl) | (obtain ⟨a, _, rfl⟩ := hr; rfl) | (subst hr; rfl)), by simp, by first | exact .inl rfl | exact hq, by simp [flatT]⟩ ?_
     | (refine wp_cond_k rfl rfl rfl ?_ ?_ <;> intro _) | (refine wp_cond_i rfl ?_ ?_ <;> intro _))
  all_goals first
  | (exfalso; clear hx hx0; simp_all; done)
  | (refine ret_m [] rfl rfl ?_
     clear hx hx0
     rw [hw] at *
     simp_all [waysL]; done)
  | (refine ret_m [] rfl rfl ?_
     clear hx hx0
     simp_all [waysL]; done)
  | trace_state
theorem waysL_len (x : Ins) (i : Nat) : (waysL x i).length ≤ 2 := by
  unfold waysL
  split <;> split <;> simp
def k_NextsI : List (Nat × List Nat) := [(0, [1, 2]), (1, [1, 2, 13]), (2, [4]), (3, [1, 2, 5]), (4, [1, 2, 5, 6]), (5, [2, 5, 6, 30]), (6, [5]), (7, [5]), (8, [4])]
theorem NextsI_t (p : Piece) (i : Nat) (hp : p.ins.length ≤ 1048576) (hi : i < p.ins.length) : Tells Try.prog E0 XS 34 [p.a false, iA i] (.t (.sl true ((nexts p.ins i).map iR))) := by
  obtain ⟨x, hx0⟩ : ∃ x, p.ins[i]? = some x := ⟨_, List.getElem?_eq_getElem hi⟩
  have hx : (p.ins.map (Ins.c false))[i]? = some (Ins.c false x) := by rw [List.getElem?_map, hx0]; rfl
  have hrng : rng i 0 (IntKind.i64.wrap (((p.ins.map (Ins.c false)).length : Int) - 1)) = true := by rw [List.length_map, w64 (by omega) (by omega)]; simp [rng]; omega
  have hwl := waysL_len x i
  have hn : nexts p.ins i = ascOf (waysL x i ++ guardL p.ins i x) := by unfold nexts; rw [hx0]
  by_cases hg : guardI p.ins i < 0
  · refine Tells.by Try.func34 (by simp [Try.f34]) (Body.i rfl rfl rfl (fun _ => rfl) fun f => ?_)
    repeat' (first
       | refine wp_seq_i ?_ | refine wp_region_t k_NextsI rfl ?_ | refine Run.done rfl ?_ | refine then_n ?_ | refine then_r ?_ | refine then_e ?_ | refine Run.go1 rfl ?_ | refine wp_skip_i ?_ | refine wp_ret_i ?_
       | refine wp_exit_i ?_ | refine wp_block_i ?_ | refine block_n ?_ | refine block_r ?_ | refine block_e ?_ | refine block_o rfl ?_ | refine wp_cond_t rfl ?_ | refine wp_cond_f rfl ?_ | refine Run.gT rfl rfl rfl rfl ?_
       | refine Run.pT rfl rfl ?_ | (refine Run.splitG rfl rfl rfl rfl rfl rfl ?_ ?_ <;> intro _) | (refine Run.splitP rfl rfl rfl rfl ?_ ?_ <;> intro _) | refine Run.call rfl rfl rfl (in_t _ _ _) rfl rfl ?_
       | refine Run.call rfl rfl rfl (ways_t p i x hp hx0) rfl rfl ?_ | refine Run.call rfl rfl rfl (guardOf_t p i hp hi) rfl rfl ?_ | refine Run.ix rfl rfl rfl rfl rfl rfl rfl hx rfl rfl rfl ?_
       | refine Run.call rfl rfl rfl (raises_t _) rfl rfl ?_
       | refine Run.cnd rfl rfl rfl ⟨by first | (simp; done) | (simp; omega), (by intro r hr; first | (simp at hr; done) | skip; simp at hr; first | (rcases hr with ⟨a, _, rfl⟩ | rfl <;> rfl) | (obtain ⟨a, _, rfl⟩ := hr; rfl) | (subst hr; rfl)), by simp, by first | exact .inl rfl | exact hq, by simp [flatT]⟩ ?_
       | refine Run.call rfl rfl rfl (Sort_t (waysL x i) (by omega)) rfl rfl ?_ | refine Run.call rfl rfl rfl (Compact_t _ (by simp; omega)) rfl rfl ?_ | (refine wp_cond_k rfl rfl rfl ?_ ?_ <;> intro _)
       | (refine wp_cond_i rfl ?_ ?_ <;> intro _))
    all_goals first
    | (exfalso; clear hx hx0 hn; simp_all; done)
    | (exfalso; clear hx hx0 hn; simp only [hrng, Bool.not_true, beq_iff_eq, beq_eq_false_iff_ne, decide_eq_true_eq, decide_eq_false_iff_not, Bool.true_eq_false] at *; omega)
    | (have hL : guardL p.ins i x = [] := by
         clear hx hx0 hn
         unfold guardL
         first | (simp_all; done) | (simp_all; intro h; omega)
       refine ret_m [] rfl rfl ?_; rw [hn, hL, List.append_nil]; rfl)
    | trace_state
  · obtain ⟨hj, y, hy, hto⟩ := guard_row hg
    have hA : ∀ n : Int, (waysL x i).map iR ++ [[.sc (.int .i64 n)]] = (waysL x i ++ [n]).map iR := fun n => by simp
    have hS : Tells Try.prog E0 XS 69 [.t (.sl true ((waysL x i).map iR ++ [[.sc (.int .i64 y.to_)]]))] (.io [.tp [], .t (.sl true (((waysL x i ++ [y.to_]).mergeSort fun x y => decide (x ≤ y)).map iR))]) := by rw [hA]; exact Sort_t _ (by simp; omega)
    refine Tells.by Try.func34 (by simp [Try.f34]) (Body.i rfl rfl rfl (fun _ => rfl) fun f => ?_)
    repeat' (first
       | refine wp_seq_i ?_ | refine wp_region_t k_NextsI rfl ?_ | refine Run.done rfl ?_ | refine then_n ?_ | refine then_r ?_ | refine then_e ?_ | refine Run.go1 rfl ?_ | refine wp_skip_i ?_ | refine wp_ret_i ?_
       | refine wp_exit_i ?_ | refine wp_block_i ?_ | refine block_n ?_ | refine block_r ?_ | refine block_e ?_ | refine block_o rfl ?_ | refine wp_cond_t rfl ?_ | refine wp_cond_f rfl ?_ | refine Run.gT rfl rfl rfl rfl ?_
       | refine Run.pT rfl rfl ?_ | (refine Run.splitG rfl rfl rfl rfl rfl rfl ?_ ?_ <;> intro _) | (refine Run.splitP rfl rfl rfl rfl ?_ ?_ <;> intro _) | refine Run.call rfl rfl rfl (in_t _ _ _) rfl rfl ?_
       | refine Run.call rfl rfl rfl (ways_t p i x hp hx0) rfl rfl ?_ | refine Run.call rfl rfl rfl (guardOf_t p i hp hi) rfl rfl ?_ | refine Run.ix rfl rfl rfl rfl rfl rfl rfl hx rfl rfl rfl ?_
       | refine Run.ix rfl rfl rfl rfl rfl rfl hj hy rfl rfl rfl ?_ | refine Run.call rfl rfl rfl (raises_t _) rfl rfl ?_
       | refine Run.cnd rfl rfl rfl ⟨by first | (simp; done) | (simp; omega), (by intro r hr; first | (simp at hr; done) | skip; simp at hr; first | (rcases hr with ⟨a, _, rfl⟩ | rfl <;> rfl) | (obtain ⟨a, _, rfl⟩ := hr; rfl) | (subst hr; rfl)), by simp, by first | exact .inl rfl | exact hq, by simp [flatT]⟩ ?_
       | refine Run.call rfl rfl rfl (hS) rfl rfl ?_ | refine Run.call rfl rfl rfl (Sort_t (waysL x i) (by omega)) rfl rfl ?_ | refine Run.call rfl rfl rfl (Compact_t _ (by simp; omega)) rfl rfl ?_
       | (refine wp_cond_k rfl rfl rfl ?_ ?_ <;> intro _) | (refine wp_cond_i rfl ?_ ?_ <;> intro _))
    all_goals first
    | (exfalso; clear hx hx0 hn hA hS hj hy; simp_all; done)
    | (exfalso; clear hx hx0 hn hA hS hj hy; simp only [hrng, Bool.not_true, beq_iff_eq, beq_eq_false_iff_ne, decide_eq_true_eq, decide_eq_false_iff_not, Bool.true_eq_false] at *; omega)
    | (have hL : guardL p.ins i x = [] := by
         clear hx hx0 hn hA hS hj hy
         unfold guardL
         first | (simp_all; done) | (simp_all; intro h; omega)
       refine ret_m [] rfl rfl ?_; rw [hn, hL, List.append_nil]; rfl)
    | (have hL : guardL p.ins i x = [y.to_] := by
         clear hx hx0 hn hA hS hj hy
         unfold guardL
         rw [hto]
         first | (simp_all; done) | (simp_all; omega)
       refine ret_m [] rfl rfl ?_; rw [hn, hL]; rfl)
    | trace_state
end Go.Proofs

set_option linter.unusedVariables false
set_option linter.unusedSimpArgs false
set_option maxHeartbeats 4000000
namespace Go.Proofs
open Go Go.Ev
set_option maxRecDepth 100000
variable {X : Rel3}
/-- a list of marks, and of what is still to be gone through (or was), as the reference keeps them -/
structure Bf (l : List Ins) (c : Int) (out : List Bool) (q : List Int) : Prop where
  len : out.length = l.length
  mem : ∀ i : Nat, out[i]? = some true ↔ (i : Int) ∈ q
  inr : ∀ y ∈ q, 0 ≤ y ∧ Reach l c y.toNat
  cnt : cntT out = q.length
theorem set_at {out : List Bool} {y i : Nat} (hy : out[y]? = some false) : (out.set y true)[i]? = some true ↔ out[i]? = some true ∨ i = y := by
  have hlt : y < out.length := (List.getElem?_eq_some_iff.1 hy).1
  by_cases e : i = y
  · subst e; simp [hlt]
  · rw [List.getElem?_set_ne (Ne.symm e)]; simp [e]
theorem Bf.push {l : List Ins} {c : Int} {out : List Bool} {q : List Int} (h : Bf l c out q) {y : Nat} (hy : out[y]? = some false) (hr : Reach l c y) : Bf l c (out.set y true) (q ++ [(y : Int)]) := by
  refine ⟨by simp [h.len], fun i => ?_, fun z hz => ?_, ?_⟩
  · rw [set_at hy, h.mem i, List.mem_append, List.mem_singleton]
    exact or_congr Iff.rfl ⟨fun e => by omega, fun e => by omega⟩
  · rcases List.mem_append.1 hz with hz | hz
    · exact h.inr z hz
    · obtain rfl : z = (y : Int) := by simpa using hz
      exact ⟨by omega, by simpa using hr⟩
  · rw [cntT_set hy, h.cnt]; simp
theorem Bf.done {l : List Ins} {c : Int} {out : List Bool} {q : List Int} (h : Bf l c out q) (hc : ∀ (j : Nat) (x : Int), q[j]? = some x → ∀ y ∈ nexts l x.toNat, y ≠ c → y ∈ q) (h0 : c ≠ 0 → 0 ∈ q) : out = metC l c := by
  refine met_of h.len (fun i hi => ?_) (fun hc0 => ?_) fun i hi y hy hyc => ?_
  · have := (h.inr _ ((h.mem i).1 hi)).2
    simpa using this
  · exact (h.mem 0).2 (by simpa using h0 hc0)
  · obtain ⟨j, hj, e⟩ := List.mem_iff_getElem.1 ((h.mem i).1 hi)
    refine (h.mem y).2 (hc j i ?_ y (by simpa using hy) hyc)
    rw [List.getElem?_eq_getElem hj, e]
theorem Bf.le {l : List Ins} {c : Int} {out : List Bool} {q : List Int} (h : Bf l c out q) : q.length ≤ l.length := by rw [← h.cnt, ← h.len]; exact cntT_le out
/-- the same as the program keeps them: what is to be gone through is not marked yet -/
structure Im (l : List Ins) (c : Int) (out : List Bool) (q : List Int) : Prop where
  len : out.length = l.length
  rch : ∀ i : Nat, out[i]? = some true → Reach l c i
  inr : ∀ y ∈ q, 0 ≤ y ∧ y < l.length ∧ (y = c ∨ Reach l c y.toNat)
  cl : ∀ i : Nat, out[i]? = some true → ∀ y : Nat, (y : Int) ∈ nexts l i → (y : Int) ≠ c → out[y]? = some true ∨ (y : Int) ∈ q
  z : c ≠ 0 → out[0]? = some true ∨ 0 ∈ q
theorem Im.skip {l : List Ins} {c : Int} {out : List Bool} {x : Nat} {r : List Int} (h : Im l c out ((x : Int) :: r)) (hx : out[x]? = some true ∨ (x : Int) = c) : Im l c out r := by
  refine ⟨h.len, h.rch, fun y hy => h.inr y (List.mem_cons_of_mem _ hy), fun i hi y hy hc => ?_, fun hc => ?_⟩
  · rcases h.cl i hi y hy hc with h1 | h1
    · exact .inl h1
    · rcases List.mem_cons.1 h1 with e | h1
      · have : y = x := by omega
        subst this
        rcases hx with hx | hx
        · exact .inl hx
        · exact absurd hx hc
      · exact .inr h1
  · rcases h.z hc with h1 | h1
    · exact .inl h1
    · rcases List.mem_cons.1 h1 with e | h1
      · have : x = 0 := by omega
        subst this
        rcases hx with hx | hx
        · exact .inl hx
        · exact absurd hx.symm (by simpa using hc)
      · exact .inr h1
theorem Im.mark {p : Piece} (hb : pieceB p = true) {c : Int} {out : List Bool} {x : Nat} {r : List Int} (h : Im p.ins c out ((x : Int) :: r)) (hx : out[x]? = some false) (hc : (x : Int) ≠ c) : Im p.ins c (out.set x true) (r ++ nexts p.ins x) := by
  have hrx : Reach p.ins c x := by
    rcases (h.inr x (List.mem_cons_self ..)).2.2 with e | h
    · exact absurd e hc
    · simpa using h
  refine ⟨by simp [h.len], fun i hi => ?_, fun y hy => ?_, fun i hi y hy hyc => ?_, fun hc0 => ?_⟩
  · rcases (set_at hx).1 hi with hi | rfl
    · exact h.rch i hi
    · exact hrx
  · rcases List.mem_append.1 hy with hy | hy
    · exact h.inr y (List.mem_cons_of_mem _ hy)
    · have := nexts_in hb hy
      refine ⟨this.1, this.2, ?_⟩
      by_cases e : y = c
      · exact .inl e
      · refine .inr (.step hrx ?_ ?_)
        · rw [Int.toNat_of_nonneg this.1]; exact hy
        · rw [Int.toNat_of_nonneg this.1]; exact e
  · rcases (set_at hx).1 hi with hi | rfl
    · rcases h.cl i hi y hy hyc with h1 | h1
      · exact .inl ((set_at hx).2 (.inl h1))
      · rcases List.mem_cons.1 h1 with e | h1
        · exact .inl ((set_at hx).2 (.inr (by omega)))
        · exact .inr (List.mem_append.2 (.inl h1))
    · exact .inr (List.mem_append.2 (.inr hy))
  · rcases h.z hc0 with h1 | h1
    · exact .inl ((set_at hx).2 (.inl h1))
    · rcases List.mem_cons.1 h1 with e | h1
      · exact .inl ((set_at hx).2 (.inr (by omega)))
      · exact .inr (List.mem_append.2 (.inl h1))
theorem Im.done {l : List Ins} {c : Int} {out : List Bool} (h : Im l c out []) : out = metC l c := by
  refine met_of h.len h.rch (fun hc => ?_) fun i hi y hy hc => ?_
  · rcases h.z hc with h1 | h1
    · exact h1
    · cases h1
  · rcases h.cl i hi y hy hc with h1 | h1
    · exact h1
    · cases h1
theorem rep_false (n i : Nat) : (List.replicate n false)[i]? ≠ some true := by
  intro h
  obtain ⟨h1, h2⟩ := List.getElem?_eq_some_iff.1 h
  simp at h2
/-- at the beginning -/
theorem Bf.zero {p : Piece} (hb : pieceB p = true) {c : Int} (hc : c ≠ 0) : Bf p.ins c ((List.replicate p.ins.length false).set 0 true) [0] := by
  have hl := (len_pos hb).1
  have h0 : (List.replicate p.ins.length false)[0]? = some false := by rw [List.getElem?_replicate, if_pos (by omega)]
  refine ⟨by simp, fun i => ?_, fun y hy => ?_, ?_⟩
  · rw [set_at h0]
    have := rep_false p.ins.length i
    simp only [List.mem_singleton]
    constructor
    · rintro (h | h)
      · exact absurd h this
      · omega
    · intro h; exact .inr (by omega)
  · obtain rfl : y = 0 := by simpa using hy
    exact ⟨by omega, .zero hc⟩
  · rw [cntT_set h0, cntT_rep]; rfl
theorem Bf.none (l : List Ins) : Bf l 0 (List.replicate l.length false) [] := by
  refine ⟨by simp, fun i => ?_, fun y hy => (by cases hy), by rw [cntT_rep]; rfl⟩
  constructor
  · intro h; exact absurd h (rep_false _ i)
  · intro h; cases h
theorem Im.start {p : Piece} (hb : pieceB p = true) (c : Int) : Im p.ins c (List.replicate p.ins.length false) [0] := by
  have hl := (len_pos hb).1
  refine ⟨by simp, fun i hi => absurd hi (rep_false _ i), fun y hy => ?_, fun i hi => absurd hi (rep_false _ i), fun _ => .inr (by simp)⟩
  obtain rfl : y = 0 := by simpa using hy
  refine ⟨by omega, by omega, ?_⟩
  by_cases e : (0 : Int) = c
  · exact .inl e
  · exact .inr (.zero (Ne.symm e))
end Go.Proofs

set_option linter.unusedVariables false
set_option linter.unusedSimpArgs false
set_option maxHeartbeats 4000000
namespace Go.Proofs
open Go Go.Ev
set_option maxRecDepth 100000
variable {X : Rel3}
abbrev bR (b : Bool) : List T := [.sc (.bool b)]
theorem eqBoolS_t (a b : List Bool) (hl : a.length ≤ 1048576) : Tells Try.prog E0 X 12 [.t (.sl false (a.map (bR))), .t (.sl false (b.map (bR)))] (bA (decide (a = b))) := by
  refine Tells.by Try.func12 (by simp [Try.f12]) (Body.i rfl rfl rfl (fun _ => rfl) fun f => ?_)
  repeat' (first
     | refine wp_seq_i ?_ | refine wp_region_i ?_ | refine Run.done rfl ?_ | refine then_n ?_ | refine then_r ?_ | refine then_e ?_ | refine Run.go1 rfl ?_ | refine wp_skip_i ?_ | refine wp_ret_i ?_ | refine wp_exit_i ?_
     | refine wp_block_i ?_ | refine block_n ?_ | refine block_r ?_ | refine block_e ?_ | refine block_o rfl ?_ | refine wp_cond_t rfl ?_ | refine wp_cond_f rfl ?_ | (refine wp_cond_k rfl rfl rfl ?_ ?_ <;> intro _)
     | (refine wp_cond_i rfl ?_ ?_ <;> intro _))
  · rename_i h
    refine ret_m [] rfl rfl ?_
    simp at h
    simp; intro e; exact h (by rw [e])
  rename_i h
  have hab : a.length = b.length := by
    have : (a.length : Int) = b.length := by simpa using h
    omega
  refine wp_loop_k (α := Nat) [.keep [0, 1, 4, 5] []] (fun p => [(5, iA p)]) (fun _ => []) (fun _ => []) (fun p => p ≤ a.length ∧ a.take p = b.take p) (fun p => a.length - p) 0 rfl (fun _ => rfl) rfl ⟨by simp, by simp⟩ ?_
  rintro j ⟨hj, he⟩
  by_cases hlt : j < a.length
  · have hx : (a.map (bR))[j]? = some ((bR) a[j]) := by simp [hlt]
    have hy : (b.map (bR))[j]? = some ((bR) (b[j]'(by omega))) := by simp [← hab, hlt]
    have ta : a.take (j + 1) = a.take j ++ [a[j]] := by simp
    have tb : b.take (j + 1) = b.take j ++ [b[j]'(by omega)] := by simp
    repeat' (first
       | refine wp_seq_i ?_ | refine wp_region_i ?_ | refine Run.done rfl ?_ | refine then_n ?_ | refine then_r ?_ | refine then_e ?_ | refine Run.go1 rfl ?_ | refine wp_skip_i ?_ | refine wp_ret_i ?_ | refine wp_exit_i ?_
       | refine wp_block_i ?_ | refine block_n ?_ | refine block_r ?_ | refine block_e ?_ | refine block_o rfl ?_ | refine wp_cond_t rfl ?_ | refine wp_cond_f rfl ?_ | refine wp_region_q 9 rfl rfl rfl ?_ | refine RunQ.go1 rfl ?_
       | refine RunQ.done rfl ?_ | refine RunQ.ix rfl rfl rfl rfl rfl rfl rfl hx rfl rfl rfl ?_ | refine RunQ.ix rfl rfl rfl rfl rfl rfl rfl hy rfl rfl rfl ?_ | refine Run.ix rfl rfl rfl rfl rfl rfl rfl hx rfl rfl rfl ?_
       | refine Run.ix rfl rfl rfl rfl rfl rfl rfl hy rfl rfl rfl ?_ | (refine wp_cond_k rfl rfl rfl ?_ ?_ <;> intro _) | (refine wp_cond_i rfl ?_ ?_ <;> intro _))
    · rename_i h2
      refine ret_m [] rfl rfl ?_
      simp at h2
      simp; intro e; subst e; exact h2 rfl
    · rename_i h2
      simp at h2
      refine back_i [.keep [0, 1, 4, 5] []] (j + 1) rfl ?_ ⟨by omega, ?_⟩ (by omega)
      · simp only [w_succ hlt (show a.length ≤ 9223372036854775807 by omega)]
      · rw [ta, tb, he, h2]
    · rename_i h2; simp [hlt] at h2
  · have hjl : j = a.length := by omega
    repeat' (first
       | refine wp_seq_i ?_ | refine wp_region_i ?_ | refine Run.done rfl ?_ | refine then_n ?_ | refine then_r ?_ | refine then_e ?_ | refine Run.go1 rfl ?_ | refine wp_skip_i ?_ | refine wp_ret_i ?_ | refine wp_exit_i ?_
       | refine wp_block_i ?_ | refine block_n ?_ | refine block_r ?_ | refine block_e ?_ | refine block_o rfl ?_ | refine wp_cond_t rfl ?_ | refine wp_cond_f rfl ?_ | (refine wp_cond_k rfl rfl rfl ?_ ?_ <;> intro _)
       | (refine wp_cond_i rfl ?_ ?_ <;> intro _))
    · rename_i h2; simp [hjl] at h2
    · refine ret_m [] rfl rfl ?_
      rw [hjl] at he
      have : a = b := by rw [List.take_length, hab, List.take_length] at he; exact he
      simp [this]

abbrev m3 (k : Int) : Bool := k.tmod 3 == 0
def mkT : List Bool → Int → List Bool × Int
  | [], k => ([], k)
  | _ :: r, k => (m3 k :: (mkT r (nx k)).1, (mkT r (nx k)).2)
theorem mkT_snoc (l : List Bool) (x : Bool) (k : Int) : mkT (l ++ [x]) k = ((mkT l k).1 ++ [m3 (mkT l k).2], nx (mkT l k).2) := by
  induction l generalizing k with
  | nil => rfl
  | cons y l ih => simp [mkT, ih]
theorem mkT_len (l : List Bool) (k : Int) : (mkT l k).1.length = l.length := by
  induction l generalizing k with
  | nil => rfl
  | cons y l ih => simp [mkT, ih]
theorem markBoolS_t (l : List Bool) (k : Int) (hl : l.length ≤ 9223372036854775807) : Tells Try.prog E0 X 15 [.t (.sl true (l.map bR)), iA k] (.io [iA (mkT l k).2, .t (.sl true ((mkT l k).1.map bR)), .u]) := by
  refine Tells.by Try.func15 (by simp [Try.f15]) (Body.i rfl rfl rfl (fun _ => rfl) fun f => ?_)
  repeat' (first
     | refine wp_seq_i ?_ | refine wp_region_i ?_ | refine Run.done rfl ?_ | refine then_n ?_ | refine then_r ?_ | refine then_e ?_ | refine Run.go1 rfl ?_ | refine wp_skip_i ?_ | refine wp_ret_i ?_ | refine wp_exit_i ?_
     | refine wp_block_i ?_ | refine block_n ?_ | refine block_r ?_ | refine block_e ?_ | refine block_o rfl ?_ | refine wp_cond_t rfl ?_ | refine wp_cond_f rfl ?_ | (refine wp_cond_i rfl ?_ ?_ <;> intro _))
  refine wp_loop_k (α := Nat × Int × List Bool) [.keep [0, 1, 4, 5] [100000]] (fun p => [(1, iA p.2.1), (5, iA p.1)]) (fun _ => []) (fun p => [(100000, ⟨0, some (f 100000)⟩, p.2.2.map bR)]) (fun p => p.1 ≤ l.length ∧ p.2.1 = (mkT (l.take p.1) k).2 ∧ p.2.2 = (mkT (l.take p.1) k).1 ++ l.drop p.1) (fun p => l.length - p.1) (0, k, l) rfl (fun _ => rfl) rfl ⟨by simp, by simp [mkT], by simp [mkT]⟩ ?_
  rintro ⟨j, c, m⟩ ⟨hj, hc, hm⟩
  simp only at hj hc hm
  have hml : m.length = l.length := by rw [hm]; simp [mkT_len]; omega
  by_cases hlt : j < l.length
  · have ht : l.take (j + 1) = l.take j ++ [l[j]] := by simp
    have hx : (m.map bR)[j]? = some (bR (m[j]'(by omega))) := by simp [hml, hlt]
    repeat' (first
       | refine wp_seq_i ?_ | refine wp_region_i ?_ | refine Run.done rfl ?_ | refine then_n ?_ | refine then_r ?_ | refine then_e ?_ | refine Run.go1 rfl ?_ | refine wp_skip_i ?_ | refine wp_ret_i ?_ | refine wp_exit_i ?_
       | refine wp_block_i ?_ | refine block_n ?_ | refine block_r ?_ | refine block_e ?_ | refine block_o rfl ?_ | refine wp_cond_t rfl ?_ | refine wp_cond_f rfl ?_ | refine Run.ix rfl rfl rfl rfl rfl rfl rfl hx rfl rfl rfl ?_
       | refine Run.str rfl rfl rfl rfl rfl rfl hx rfl rfl ?_ | (refine wp_cond_i rfl ?_ ?_ <;> intro _))
    · refine back_i [.keep [0, 1, 4, 5] [100000]] (j + 1, nx c, m.set j (m3 c)) rfl ?_ ⟨by simp; omega, ?_, ?_⟩ (by simp; omega)
      · simp only [List.map_set, w_succ hlt hl, nx]
      · rw [ht, mkT_snoc, hc]
      · rw [ht, mkT_snoc, hm, List.drop_eq_getElem_cons hlt, hc]
        rw [List.set_append_right _ _ (by simp [mkT_len]; omega)]
        simp only [mkT_len, List.length_take, Nat.min_eq_left hj, Nat.sub_self, List.set_cons_zero, List.append_assoc, List.singleton_append]
    · rename_i h; simp [hml, hlt] at h
  · have hjl : j = l.length := by omega
    repeat' (first
       | refine wp_seq_i ?_ | refine wp_region_i ?_ | refine Run.done rfl ?_ | refine then_n ?_ | refine then_r ?_ | refine then_e ?_ | refine Run.go1 rfl ?_ | refine wp_skip_i ?_ | refine wp_ret_i ?_ | refine wp_exit_i ?_
       | refine wp_block_i ?_ | refine block_n ?_ | refine block_r ?_ | refine block_e ?_ | refine block_o rfl ?_ | refine wp_cond_t rfl ?_ | refine wp_cond_f rfl ?_ | (refine wp_cond_i rfl ?_ ?_ <;> intro _))
    · rename_i h; simp [hml, hjl] at h
    · refine ret_o [true] [] rfl rfl rfl ⟨rfl, trivial⟩ ?_
      subst hjl
      simp [hc, hm]
/-- what is marked is held -/
def heT : List Bool → Int → Int
  | [], k => k
  | x :: r, k => if x = m3 k then heT r (nx k) else -1
theorem heldBoolS_t (l : List Bool) (k : Int) (hl : l.length ≤ 9223372036854775807) : Tells Try.prog E0 X 16 [.t (.sl false (l.map bR)), iA k] (iA (heT l k)) := by
  refine Tells.by Try.func16 (by simp [Try.f16]) (Body.i rfl rfl rfl (fun _ => rfl) fun f => ?_)
  repeat' (first
     | refine wp_seq_i ?_ | refine wp_region_i ?_ | refine Run.done rfl ?_ | refine then_n ?_ | refine then_r ?_ | refine then_e ?_ | refine Run.go1 rfl ?_ | refine wp_skip_i ?_ | refine wp_ret_i ?_ | refine wp_exit_i ?_
     | refine wp_block_i ?_ | refine block_n ?_ | refine block_r ?_ | refine block_e ?_ | refine block_o rfl ?_ | refine wp_cond_t rfl ?_ | refine wp_cond_f rfl ?_ | (refine wp_cond_i rfl ?_ ?_ <;> intro _))
  refine wp_loop_k (α := Nat × Int) [.keep [0, 1, 4, 5] []] (fun p => [(1, iA p.2), (5, iA p.1)]) (fun _ => []) (fun _ => []) (fun p => p.1 ≤ l.length ∧ heT (l.drop p.1) p.2 = heT l k) (fun p => l.length - p.1) (0, k) rfl (fun _ => rfl) rfl ⟨by simp, by simp⟩ ?_
  rintro ⟨j, c⟩ ⟨hj, hc⟩
  simp only at hj hc
  by_cases hlt : j < l.length
  · have hx : (l.map bR)[j]? = some (bR l[j]) := by simp [hlt]
    rw [List.drop_eq_getElem_cons hlt, heT] at hc
    repeat' (first
       | refine wp_seq_i ?_ | refine wp_region_i ?_ | refine Run.done rfl ?_ | refine then_n ?_ | refine then_r ?_ | refine then_e ?_ | refine Run.go1 rfl ?_ | refine wp_skip_i ?_ | refine wp_ret_i ?_ | refine wp_exit_i ?_
       | refine wp_block_i ?_ | refine block_n ?_ | refine block_r ?_ | refine block_e ?_ | refine block_o rfl ?_ | refine wp_cond_t rfl ?_ | refine wp_cond_f rfl ?_ | refine Run.ix rfl rfl rfl rfl rfl rfl rfl hx rfl rfl rfl ?_
       | (refine wp_cond_i rfl ?_ ?_ <;> intro _))
    · rename_i h
      rw [if_neg (by simpa using h)] at hc
      refine ret_m [] rfl rfl ?_
      rw [← hc]
    · rename_i h
      rw [if_pos (by simpa using h)] at hc
      refine back_i [.keep [0, 1, 4, 5] []] (j + 1, nx c) rfl ?_ ⟨by simp; omega, hc⟩ (by simp; omega)
      simp only [w_succ hlt hl, nx]
    · rename_i h; simp [hlt] at h
  · have hjl : j = l.length := by omega
    repeat' (first
       | refine wp_seq_i ?_ | refine wp_region_i ?_ | refine Run.done rfl ?_ | refine then_n ?_ | refine then_r ?_ | refine then_e ?_ | refine Run.go1 rfl ?_ | refine wp_skip_i ?_ | refine wp_ret_i ?_ | refine wp_exit_i ?_
       | refine wp_block_i ?_ | refine block_n ?_ | refine block_r ?_ | refine block_e ?_ | refine block_o rfl ?_ | refine wp_cond_t rfl ?_ | refine wp_cond_f rfl ?_ | (refine wp_cond_i rfl ?_ ?_ <;> intro _))
    · rename_i h; simp [hjl] at h
    · refine ret_m [] rfl rfl ?_
      rw [← hc, hjl, List.drop_length]; rfl
end Go.Proofs

set_option linter.unusedVariables false
set_option linter.unusedSimpArgs false
set_option maxHeartbeats 4000000
namespace Go.Proofs
open Go Go.Ev
set_option maxRecDepth 100000
variable {X : Rel3}
def k_l15Met : List (Nat × List Nat) := [(0, [1]), (1, [1, 3]), (2, [1, 3]), (3, [1, 3, 4]), (4, [1, 3, 4, 5]), (5, [1, 3, 4, 5, 18]), (6, [1, 3, 4, 5]), (7, [1, 3, 4, 5, 6]), (8, [1, 3, 4, 5, 6, 7]), (9, [1, 3, 4, 5, 6, 7, 30]), (10, [1, 3, 4, 5, 6, 7]), (11, [1, 3, 4, 5, 6, 7, 40]), (12, [1, 3, 4, 5, 6, 7]), (13, [1, 3, 4, 5, 6, 7]), (14, [2])]
theorem l15Met_t (p : Piece) (hb : pieceB p = true) (hp : p.ins.length ≤ 1048576) : Tells Try.prog E0 X 31 [p.a false] (.t (.sl true ((metC p.ins (-1)).map bR))) := by
  have hz0 : (List.replicate (Int.toNat ((p.ins.map (Ins.c false)).length : Int)) [T.sc (.bool false)])[0]? = some [T.sc (.bool false)] := by
    have := (len_pos hb).1
    rw [List.getElem?_replicate, if_pos (by simp; omega)]
  refine Tells.by Try.func31 (by simp [Try.f31]) (Body.i rfl rfl rfl (fun _ => rfl) fun f => ?_)
  repeat' (first
     | refine wp_seq_i ?_ | refine wp_region_t k_l15Met rfl ?_ | refine Run.done rfl ?_ | refine then_n ?_ | refine then_r ?_ | refine then_e ?_ | refine Run.go1 rfl ?_ | refine wp_skip_i ?_ | refine wp_ret_i ?_
     | refine wp_exit_i ?_ | refine wp_block_i ?_ | refine block_n ?_ | refine block_r ?_ | refine block_e ?_ | refine block_o rfl ?_ | refine wp_cond_t rfl ?_ | refine wp_cond_f rfl ?_
     | refine Run.cnd2 rfl rfl rfl ⟨by simp, rfl, by simp; omega, by simp; omega⟩ ?_ | refine Run.ix rfl rfl rfl rfl rfl rfl rfl hz0 rfl rfl rfl ?_ | refine Run.str rfl rfl rfl rfl rfl rfl hz0 rfl rfl ?_
     | (refine wp_cond_k rfl rfl rfl ?_ ?_ <;> intro _) | (refine wp_cond_i rfl ?_ ?_ <;> intro _))
  refine wp_loop_k (α := Nat × List Bool × List Int) [.keep [1, 3, 4, 5] [1, 11, 14]] (fun z => [(5, iA z.1)]) (fun _ => []) (fun z => [(11, 0, z.2.1.map bR), (14, 0, z.2.2.map iR)]) (fun z => z.1 ≤ z.2.2.length ∧ Bf p.ins (-1) z.2.1 z.2.2 ∧ (∀ (j : Nat) (x : Int), j < z.1 → z.2.2[j]? = some x → ∀ y ∈ nexts p.ins x.toNat, y ∈ z.2.2) ∧ 0 ∈ z.2.2) (fun z => p.ins.length - z.1) (0, (List.replicate p.ins.length false).set 0 true, [0]) rfl (fun _ => rfl) ?_ ⟨by simp, Bf.zero hb (by decide), by simp, by simp⟩ ?_
  · simp [List.map_set]
  rintro ⟨k, out, q⟩ ⟨hk, hB, hC, hZ⟩
  simp only at hk hB hC hZ
  by_cases hlt : k < q.length
  · have hqk := hB.inr q[k] (List.getElem_mem hlt)
    obtain ⟨i0, hi0⟩ : ∃ i0 : Nat, q[k] = (i0 : Int) := ⟨q[k].toNat, by omega⟩
    have hri : Reach p.ins (-1) i0 := by have := hqk.2; rw [hi0] at this; simpa using this
    have hil : i0 < p.ins.length := reach_lt hb hri
    have hx : (q.map iR)[k]? = some (iR (i0 : Int)) := by rw [← hi0]; exact map_at hlt
    repeat' (first
       | refine wp_seq_i ?_ | refine wp_region_t k_l15Met rfl ?_ | refine Run.done rfl ?_ | refine then_n ?_ | refine then_r ?_ | refine then_e ?_ | refine Run.go1 rfl ?_ | refine wp_skip_i ?_ | refine wp_ret_i ?_
       | refine wp_exit_i ?_ | refine wp_block_i ?_ | refine block_n ?_ | refine block_r ?_ | refine block_e ?_ | refine block_o rfl ?_ | refine wp_cond_t rfl ?_ | refine wp_cond_f rfl ?_
       | refine wp_region_qt k_l15Met rfl 7 (by decide +kernel) rfl rfl ?_ | refine RunQ.go1 rfl ?_ | refine RunQ.done rfl ?_ | refine RunQ.ix rfl rfl rfl rfl rfl rfl rfl hx rfl rfl rfl ?_
       | refine RunQ.ldr rfl rfl rfl hx rfl rfl ?_ | refine RunQ.callO rfl rfl rfl rfl rfl rfl (NextsS_t p i0 hb hp hil) (.inl rfl) rfl rfl rfl ?_ | (refine wp_cond_k rfl rfl rfl ?_ ?_ <;> intro _)
       | (refine wp_cond_i rfl ?_ ?_ <;> intro _))
    any_goals (exfalso; rename_i h; simp [hlt] at h; done)
    have hin : ∀ y ∈ nexts p.ins i0, 0 ≤ y ∧ y < p.ins.length := fun y hy => nexts_in hb hy
    have hrn : ∀ y : Nat, (y : Int) ∈ nexts p.ins i0 → Reach p.ins (-1) y := fun y hy => .step hri hy (by omega)
    generalize hnx : nexts p.ins i0 = nx at hin hrn
    refine wp_loop_k (α := Nat × List Bool × List Int) [.keep [1, 3, 4, 5, 6, 7] [1, 11, 14, 26]] (fun z => [(7, iA z.1)]) (fun _ => []) (fun z => [(11, 0, z.2.1.map bR), (14, 0, z.2.2.map iR)]) (fun z => z.1 ≤ nx.length ∧ Bf p.ins (-1) z.2.1 z.2.2 ∧ (∃ t, z.2.2 = q ++ t) ∧ ∀ y ∈ nx.take z.1, y ∈ z.2.2) (fun z => nx.length - z.1) (0, out, q) rfl (fun _ => rfl) rfl ⟨by simp, hB, ⟨[], by simp⟩, by simp⟩ ?_
    rintro ⟨m, ou, qu⟩ ⟨hm, hB2, hpre, hall⟩
    simp only at hm hB2 hpre hall
    have hql := hB2.le
    by_cases hlm : m < nx.length
    · have hym := hin nx[m] (List.getElem_mem hlm)
      obtain ⟨y0, hy0⟩ : ∃ y0 : Nat, nx[m] = (y0 : Int) := ⟨nx[m].toNat, by omega⟩
      have hry : Reach p.ins (-1) y0 := hrn y0 (by rw [← hy0]; exact List.getElem_mem hlm)
      have hyl : y0 < ou.length := by rw [hB2.len]; omega
      have hx2 : (nx.map iR)[m]? = some (iR (y0 : Int)) := by rw [← hy0]; exact map_at hlm
      have ht : nx.take (m + 1) = nx.take m ++ [(y0 : Int)] := by rw [← hy0]; simp
      obtain ⟨b, hob⟩ : ∃ b, ou[y0]? = some b := ⟨_, List.getElem?_eq_getElem hyl⟩
      have hz : (ou.map bR)[y0]? = some (bR b) := by rw [List.getElem?_map, hob]; rfl
      have hwm := w_succ hlm (by have := nexts_len p.ins i0; rw [hnx] at this; omega)
      cases b
      all_goals (
        repeat' (first
           | refine wp_seq_i ?_ | refine wp_region_t k_l15Met rfl ?_ | refine Run.done rfl ?_ | refine then_n ?_ | refine then_r ?_ | refine then_e ?_ | refine Run.go1 rfl ?_ | refine wp_skip_i ?_ | refine wp_ret_i ?_
           | refine wp_exit_i ?_ | refine wp_block_i ?_ | refine block_n ?_ | refine block_r ?_ | refine block_e ?_ | refine block_o rfl ?_ | refine wp_cond_t rfl ?_ | refine wp_cond_f rfl ?_
           | refine Run.ix rfl rfl rfl rfl rfl rfl rfl hx2 rfl rfl rfl ?_ | refine Run.ix rfl rfl rfl rfl rfl rfl rfl hz rfl rfl rfl ?_ | refine Run.ldr rfl rfl rfl hx2 rfl rfl ?_ | refine Run.ldr rfl rfl rfl hz rfl rfl ?_
           | refine Run.str rfl rfl rfl rfl rfl rfl hz rfl rfl ?_
           | refine Run.cnd rfl rfl rfl ⟨by first | (simp; done) | (simp; omega), (by intro r hr; first | (simp at hr; done) | skip; simp at hr; first | (rcases hr with ⟨a, _, rfl⟩ | rfl <;> rfl) | (obtain ⟨a, _, rfl⟩ := hr; rfl) | (subst hr; rfl)), by simp, by first | exact .inl rfl | exact hq, by simp [flatT]⟩ ?_
           | (refine wp_cond_k rfl rfl rfl ?_ ?_ <;> intro _) | (refine wp_cond_i rfl ?_ ?_ <;> intro _))
        all_goals first
        | (exfalso; rename_i h; simp [hlm] at h; done)
        | (exfalso; rename_i h; simp at h; done)
        | (refine back_i [.keep [1, 3, 4, 5, 6, 7] [1, 11, 26, 53], .ren 53 14] (m + 1, ou.set y0 true, qu ++ [(y0 : Int)]) rfl ?_ ⟨by simp; omega, hB2.push hob hry, ?_, ?_⟩ (by simp; omega)
           · simp only [hwm, List.map_append, List.map_cons, List.map_nil, List.map_set]; try rfl
           · obtain ⟨t, ht'⟩ := hpre; exact ⟨t ++ [(y0 : Int)], by rw [ht', List.append_assoc]⟩
           · (intro y hy
              rw [ht] at hy
              rcases List.mem_append.1 hy with hy | hy
              · exact List.mem_append.2 (.inl (hall y hy))
              · exact List.mem_append.2 (.inr hy)); done)
        | (refine back_i [.keep [1, 3, 4, 5, 6, 7] [1, 11, 14, 26]] (m + 1, ou, qu) rfl ?_ ⟨by simp; omega, hB2, hpre, ?_⟩ (by simp; omega)
           · simp only [hwm]; try rfl
           · (intro y hy
              rw [ht] at hy
              rcases List.mem_append.1 hy with hy | hy
              · exact hall y hy
              · obtain rfl : y = (y0 : Int) := by simpa using hy
                exact (hB2.mem y0).1 hob); done)
        | trace_state)
    · have hmn : m = nx.length := by omega
      subst hmn
      rw [List.take_length] at hall
      repeat' (first
         | refine wp_seq_i ?_ | refine wp_region_t k_l15Met rfl ?_ | refine Run.done rfl ?_ | refine then_n ?_ | refine then_r ?_ | refine then_e ?_ | refine Run.go1 rfl ?_ | refine wp_skip_i ?_ | refine wp_ret_i ?_
         | refine wp_exit_i ?_ | refine wp_block_i ?_ | refine block_n ?_ | refine block_r ?_ | refine block_e ?_ | refine block_o rfl ?_ | refine wp_cond_t rfl ?_ | refine wp_cond_f rfl ?_
         | (refine wp_cond_k rfl rfl rfl ?_ ?_ <;> intro _) | (refine wp_cond_i rfl ?_ ?_ <;> intro _))
      all_goals first
      | (exfalso; rename_i h; simp at h; done)
      | (refine back_i [.keep [1, 3, 4, 5] [1, 11, 14]] (k + 1, ou, qu) rfl ?_ ⟨?_, hB2, ?_, ?_⟩ ?_
         · simp only [w_succ hlt (by have := hB.le; omega)]; try rfl
         · obtain ⟨t, ht'⟩ := hpre; simp [ht']; omega
         · obtain ⟨t, ht'⟩ := hpre
           intro j x hj hjx y hy
           have hjq : j < q.length := by omega
           rw [ht', List.getElem?_append_left hjq] at hjx
           by_cases hjk : j < k
           · rw [ht']; exact List.mem_append.2 (.inl (hC j x hjk hjx y hy))
           · have : j = k := by omega
             subst this
             rw [List.getElem?_eq_getElem hlt, hi0] at hjx
             cases hjx
             rw [Int.toNat_natCast, hnx] at hy
             exact hall y hy
         · obtain ⟨t, ht'⟩ := hpre; rw [ht']; exact List.mem_append.2 (.inl hZ)
         · have := hB.le; simp; omega)
      | trace_state
  · have hki : k = q.length := by omega
    subst hki
    have hfin : out = metC p.ins (-1) := hB.done (fun j x hj y hy _ => hC j x (List.getElem?_eq_some_iff.1 hj).1 hj y hy) (fun _ => hZ)
    repeat' (first
       | refine wp_seq_i ?_ | refine wp_region_t k_l15Met rfl ?_ | refine Run.done rfl ?_ | refine then_n ?_ | refine then_r ?_ | refine then_e ?_ | refine Run.go1 rfl ?_ | refine wp_skip_i ?_ | refine wp_ret_i ?_
       | refine wp_exit_i ?_ | refine wp_block_i ?_ | refine block_n ?_ | refine block_r ?_ | refine block_e ?_ | refine block_o rfl ?_ | refine wp_cond_t rfl ?_ | refine wp_cond_f rfl ?_
       | (refine wp_cond_k rfl rfl rfl ?_ ?_ <;> intro _) | (refine wp_cond_i rfl ?_ ?_ <;> intro _))
    all_goals first
    | (exfalso; simp at *; done)
    | (refine ret_m [] rfl rfl ?_; rw [hfin]; done)
    | trace_state
end Go.Proofs

set_option linter.unusedVariables false
set_option linter.unusedSimpArgs false
set_option maxHeartbeats 4000000
namespace Go.Proofs
open Go Go.Ev
set_option maxRecDepth 100000
variable {X : Rel3}
noncomputable def metB (p : Piece) : List Bool := if pieceB p then metC p.ins (-1) else []
def k_MetS : List (Nat × List Nat) := [(0, [1]), (1, [1, 5]), (2, [2]), (3, [2])]
theorem MetS_t (p : Piece) (hp : p.ok) : Tells Try.prog E0 X 9 [p.a false] (.t (.sl true ((metB p).map bR))) := by
  by_cases hb : pieceB p = true
  · refine Tells.by Try.func9 (by simp [Try.f9]) (Body.i rfl rfl rfl (fun _ => rfl) fun f => ?_)
    repeat' (first
       | refine wp_seq_i ?_ | refine wp_region_t k_MetS rfl ?_ | refine Run.done rfl ?_ | refine then_n ?_ | refine then_r ?_ | refine then_e ?_ | refine Run.go1 rfl ?_ | refine wp_skip_i ?_ | refine wp_ret_i ?_
       | refine wp_exit_i ?_ | refine wp_block_i ?_ | refine block_n ?_ | refine block_r ?_ | refine block_e ?_ | refine block_o rfl ?_ | refine wp_cond_t rfl ?_ | refine wp_cond_f rfl ?_
       | refine Run.call rfl rfl rfl (l9Piece_t p hp) rfl rfl ?_ | refine Run.call rfl rfl rfl (l15Met_t p hb hp.1) rfl rfl ?_ | (refine wp_cond_k rfl rfl rfl ?_ ?_ <;> intro _) | (refine wp_cond_i rfl ?_ ?_ <;> intro _))
    all_goals first
    | (exfalso; rename_i h; simp [hb] at h; done)
    | (refine ret_m [] rfl rfl ?_; simp [metB, hb]; done)
    | trace_state
  · refine Tells.by Try.func9 (by simp [Try.f9]) (Body.i rfl rfl rfl (fun _ => rfl) fun f => ?_)
    repeat' (first
       | refine wp_seq_i ?_ | refine wp_region_t k_MetS rfl ?_ | refine Run.done rfl ?_ | refine then_n ?_ | refine then_r ?_ | refine then_e ?_ | refine Run.go1 rfl ?_ | refine wp_skip_i ?_ | refine wp_ret_i ?_
       | refine wp_exit_i ?_ | refine wp_block_i ?_ | refine block_n ?_ | refine block_r ?_ | refine block_e ?_ | refine block_o rfl ?_ | refine wp_cond_t rfl ?_ | refine wp_cond_f rfl ?_
       | refine Run.call rfl rfl rfl (l9Piece_t p hp) rfl rfl ?_ | (refine wp_cond_k rfl rfl rfl ?_ ?_ <;> intro _) | (refine wp_cond_i rfl ?_ ?_ <;> intro _))
    all_goals first
    | (refine ret_m [] rfl rfl ?_; simp [metB, hb]; done)
    | (exfalso; rename_i h; simp [hb] at h; done)
    | trace_state
def k_MetI : List (Nat × List Nat) := [(0, [1]), (1, [1, 8]), (2, [2]), (3, [1, 3]), (4, [1, 3, 4]), (5, [1, 3, 4, 16]), (6, [1, 3, 4, 5]), (7, [1, 3, 4, 5]), (8, [1, 3, 4, 5, 26]), (9, [1, 3, 4, 5]), (10, [1, 3, 4]), (11, [2])]
theorem MetI_t (p : Piece) (hp : p.ok) : Tells Try.prog E0 XS 11 [p.a false] (.t (.sl true ((metB p).map bR))) := by
  have hpl := hp.1
  refine Tells.by Try.func11 (by simp [Try.f11]) (Body.i rfl rfl rfl (fun _ => rfl) fun f => ?_)
  repeat' (first
     | refine wp_seq_i ?_ | refine wp_region_t k_MetI rfl ?_ | refine Run.done rfl ?_ | refine then_n ?_ | refine then_r ?_ | refine then_e ?_ | refine Run.go1 rfl ?_ | refine wp_skip_i ?_ | refine wp_ret_i ?_
     | refine wp_exit_i ?_ | refine wp_block_i ?_ | refine block_n ?_ | refine block_r ?_ | refine block_e ?_ | refine block_o rfl ?_ | refine wp_cond_t rfl ?_ | refine wp_cond_f rfl ?_
     | refine Run.call rfl rfl rfl (pieceOk_t p hp) rfl rfl ?_ | refine Run.cnd2 rfl rfl rfl ⟨by simp, rfl, by simp; omega, by simp; omega⟩ ?_ | (refine wp_cond_k rfl rfl rfl ?_ ?_ <;> intro _)
     | (refine wp_cond_i rfl ?_ ?_ <;> intro _))
  · rename_i h
    refine ret_m [.nilT 2 7] rfl rfl ?_
    simp_all [metB]
  rename_i h
  have hb : pieceB p = true := by simpa using h
  refine wp_loop_k (α := List Bool × List Int × Nat) [.keep [1, 3, 4] [1, 12, 13]] (fun _ => []) (fun _ => []) (fun z => [(12, 0, z.1.map bR), (13, ⟨z.2.2, none⟩, z.2.1.map iR)]) (fun z => Im p.ins (-1) z.1 z.2.1 ∧ z.2.1.length ≤ 3 * cntT z.1 + 1 ∧ (z.2.2 = 0 ∨ z.2.2 = 1)) (fun z => 4 * (p.ins.length - cntT z.1) + z.2.1.length) (List.replicate p.ins.length false, [0], 0) rfl (fun _ => rfl) ?_ ⟨Im.start hb (-1), by simp, by simp⟩ ?_
  · simp; rfl
  rintro ⟨out, qu, q⟩ ⟨hI, hql, hq⟩
  simp only at hI hql hq
  have hcl := cntT_le out
  have hol := hI.len
  rcases qu with _ | ⟨x, r⟩
  · have hfin := hI.done
    repeat' (first
       | refine wp_seq_i ?_ | refine wp_region_t k_MetI rfl ?_ | refine Run.done rfl ?_ | refine then_n ?_ | refine then_r ?_ | refine then_e ?_ | refine Run.go1 rfl ?_ | refine wp_skip_i ?_ | refine wp_ret_i ?_
       | refine wp_exit_i ?_ | refine wp_block_i ?_ | refine block_n ?_ | refine block_r ?_ | refine block_e ?_ | refine block_o rfl ?_ | refine wp_cond_t rfl ?_ | refine wp_cond_f rfl ?_
       | (refine wp_cond_k rfl rfl rfl ?_ ?_ <;> intro _) | (refine wp_cond_i rfl ?_ ?_ <;> intro _))
    all_goals first
    | (exfalso; rename_i h; simp at h; done)
    | (refine ret_m [] rfl rfl ?_; rw [hfin]; simp [metB, hb]; done)
    | trace_state
  · have hxr := hI.inr x (List.mem_cons_self ..)
    obtain ⟨x0, rfl⟩ : ∃ x0 : Nat, x = (x0 : Int) := ⟨x.toNat, by omega⟩
    have hxl : x0 < p.ins.length := by omega
    have hx : (((x0 : Int) :: r).map iR)[0]? = some (iR (x0 : Int)) := rfl
    obtain ⟨bb, hob⟩ : ∃ bb, out[x0]? = some bb := ⟨_, List.getElem?_eq_getElem (by omega)⟩
    have hz : (out.map bR)[x0]? = some (bR bb) := by rw [List.getElem?_map, hob]; rfl
    have hnl := nexts_len p.ins x0
    have hdr : List.drop (Int.toNat 1) (List.take (Int.toNat ((((x0 : Int) :: r).map iR).length : Int)) (((x0 : Int) :: r).map iR)) = r.map iR := by rw [Int.toNat_natCast, List.take_length]; rfl
    simp only [List.length_cons] at hql
    cases bb
    all_goals (
      repeat' (first
         | refine wp_seq_i ?_ | refine wp_region_t k_MetI rfl ?_ | refine Run.done rfl ?_ | refine then_n ?_ | refine then_r ?_ | refine then_e ?_ | refine Run.go1 rfl ?_ | refine wp_skip_i ?_ | refine wp_ret_i ?_
         | refine wp_exit_i ?_ | refine wp_block_i ?_ | refine block_n ?_ | refine block_r ?_ | refine block_e ?_ | refine block_o rfl ?_ | refine wp_cond_t rfl ?_ | refine wp_cond_f rfl ?_
         | refine Run.ix rfl rfl rfl rfl rfl rfl rfl hx rfl rfl rfl ?_ | refine Run.ldr rfl rfl rfl hx rfl rfl ?_ | refine Run.ix rfl rfl rfl rfl rfl rfl rfl hz rfl rfl rfl ?_ | refine Run.ldr rfl rfl rfl hz rfl rfl ?_
         | refine Run.str rfl rfl rfl rfl rfl rfl hz rfl rfl ?_ | refine Run.cnd2 rfl rfl rfl ⟨by decide, by first | (simp; done) | (simp; omega), by simp, by simp, by first | exact .inl rfl | exact hq, by decide⟩ ?_
         | refine Run.call rfl rfl rfl (NextsI_t p x0 hpl hxl) rfl rfl ?_
         | refine Run.cnd rfl rfl rfl ⟨by simp only [hdr]; simp; omega, by simp only [hdr]; simp, by simp, by first | exact .inl rfl | exact hq | exact .inr rfl, by simp [flatT]⟩ ?_
         | (refine wp_cond_k rfl rfl rfl ?_ ?_ <;> intro _) | (refine wp_cond_i rfl ?_ ?_ <;> intro _))
      all_goals first
      | (exfalso; rename_i h; simp at h; done)
      | (have hc2 := cntT_set hob
         have hc3 := cntT_lt hob
         refine back_i [.keep [1, 3, 4] [1, 12, 34], .ren 34 13] (out.set x0 true, r ++ nexts p.ins x0, 1) rfl ?_ ⟨Im.mark hb hI hob (by omega), by simp [hc2]; omega, by simp⟩ (by simp [hc2]; omega)
         simp only [hdr]; simp [List.map_set]; done)
      | (refine back_i [.keep [1, 3, 4] [1, 12, 21], .ren 21 13] (out, r, 1) rfl ?_ ⟨hI.skip (.inl hob), by simp only; omega, by simp⟩ (by simp only [List.length_cons]; omega)
         simp only [hdr]; first | done | rfl)
      | trace_state)
end Go.Proofs

set_option linter.unusedVariables false
set_option linter.unusedSimpArgs false
set_option maxHeartbeats 4000000
namespace Go.Proofs
open Go Go.Ev
set_option maxRecDepth 100000
variable {X : Rel3}
theorem shr_Bo (l : List Bool) : shrR (l.map bR) = l.map bR := by
  induction l with
  | nil => rfl
  | cons x r ih => simp [shrR, shrL, T.shr, ih]
theorem own_Bo (l : List Bool) : ownR (l.map bR) := by
  induction l with
  | nil => simp [ownR]
  | cons x r ih => simp [ownR, ownL, T.own, ih]
theorem mkT_up : ∀ (l : List Bool) (k : Int), 0 ≤ k → k + l.length ≤ 9223372036854775806 → (mkT l k).2 = k + l.length
  | [], k, _, _ => by simp [mkT]
  | x :: r, k, h0, h => by
    simp only [List.length_cons] at h ⊢
    rw [mkT, nx_up h0 (by omega)]
    have := mkT_up r (k + 1) (by omega) (by omega)
    simp only; omega
theorem heT_mkT : ∀ (l : List Bool) (k : Int), heT (mkT l k).1 k = (mkT l k).2
  | [], k => rfl
  | x :: r, k => by rw [mkT, heT, if_pos rfl]; exact heT_mkT r (nx k)
theorem metB_len (p : Piece) : (metB p).length ≤ 600 := by
  unfold metB
  split
  · rename_i h; rw [metC_len]; exact (len_pos h).2
  · simp
def k_lawMt : List (Nat × List Nat) := [(0, [1]), (1, [1, 3]), (2, [1, 3]), (3, [1, 15]), (4, [2]), (5, [1, 4]), (6, [1, 4, 5]), (7, [1, 4, 5, 6]), (8, [1, 4, 5, 6, 26]), (9, [2]), (10, [1, 4, 5, 6, 31]), (11, [2]), (12, [1, 4, 5, 6, 7]), (13, [1, 4, 6, 7]), (14, [1, 4, 6, 42]), (15, [2]), (16, [1, 4, 6, 8]), (17, [1, 4, 6, 8]), (18, [1, 4, 6, 8, 9]), (19, [1, 4, 6, 8, 9]), (20, [1, 4, 6, 8, 9, 50]), (21, [2]), (22, [1, 4, 6, 8, 53]), (23, [2]), (24, [4, 6, 8, 10]), (25, [6, 8, 60]), (26, [2]), (27, [6, 8, 9]), (28, [8, 9]), (29, [8, 9, 65]), (30, [2]), (31, [68]), (32, [2]), (33, [2])]
theorem lawMt_t (p : Piece) (hl : p.len) : Tells Try.prog E0 XS 3 [p.a false] (bA true) := by
  have hsz := szPiece_t (X := XS) p 1048576 hl.1
  refine Tells.by Try.func3 (by simp [Try.f3]) (Body.i rfl rfl rfl (fun _ => rfl) fun f => ?_)
  repeat' (first
     | refine wp_seq_i ?_ | refine wp_region_t k_lawMt rfl ?_ | refine Run.done rfl ?_ | refine then_n ?_ | refine then_r ?_ | refine then_e ?_ | refine Run.go1 rfl ?_ | refine wp_skip_i ?_ | refine wp_ret_i ?_
     | refine wp_exit_i ?_ | refine wp_block_i ?_ | refine block_n ?_ | refine block_r ?_ | refine block_e ?_ | refine block_o rfl ?_ | refine wp_cond_t rfl ?_ | refine wp_cond_f rfl ?_
     | refine Run.call rfl rfl rfl (hsz) rfl rfl ?_ | (refine wp_cond_k rfl rfl rfl ?_ ?_ <;> intro _) | (refine wp_cond_i rfl ?_ ?_ <;> intro _))
  · refine ret_m [] rfl rfl rfl
  rename_i h
  have hp : p.ok := (szPiece_ok (left := 1048576) hl (by omega) (by simpa using h)).1
  have hS : Tells Try.prog E0 XS 9 [p.s] (.t (.sl true ((metB p).map bR))) := by rw [Piece.s_eq]; exact MetS_t p hp
  have hI : Tells Try.prog E0 XS 11 [p.s] (.t (.sl true ((metB p).map bR))) := by rw [Piece.s_eq]; exact MetI_t p hp
  have hE : Tells Try.prog E0 XS 13 [p.s, p.s] (bA (decide (p = p))) := by rw [Piece.s_eq]; exact eqPiece_t p p hp
  have hEi : ∀ a b : List Bool, a.length ≤ 600 → Tells Try.prog E0 XS 12 [.t (.sl false (shrR (a.map bR))), .t (.sl false (shrR (b.map bR)))] (bA (decide (a = b))) := fun a b ha => by rw [shr_Bo, shr_Bo]; exact eqBoolS_t a b (by omega)
  have hHe : ∀ l k, l.length ≤ 600 → Tells Try.prog E0 XS 16 [.t (.sl false (shrR (l.map bR))), iA k] (iA (heT l k)) := fun l k hk => by rw [shr_Bo]; exact heldBoolS_t l k (by omega)
  have hbl : (metB p).length ≤ 600 := metB_len p
  have hM := mkP_up hp
  have hK : ¬ (mkT (metB p) 1).2 < 0 := by rw [mkT_up _ _ (by omega) (by omega)]; omega
  repeat' (first
     | refine wp_seq_i ?_ | refine wp_region_t k_lawMt rfl ?_ | refine Run.done rfl ?_ | refine then_n ?_ | refine then_r ?_ | refine then_e ?_ | refine Run.go1 rfl ?_ | refine wp_skip_i ?_ | refine wp_ret_i ?_
     | refine wp_exit_i ?_ | refine wp_block_i ?_ | refine block_n ?_ | refine block_r ?_ | refine block_e ?_ | refine block_o rfl ?_ | refine wp_cond_t rfl ?_ | refine wp_cond_f rfl ?_ | refine RunQ.go1 rfl ?_
     | refine RunQ.done rfl ?_ | refine Run.gT rfl rfl rfl rfl ?_ | refine Run.pT rfl rfl ?_ | (refine Run.splitG rfl rfl rfl rfl rfl rfl ?_ ?_ <;> intro _) | (refine Run.splitP rfl rfl rfl rfl ?_ ?_ <;> intro _)
     | refine RunQ.gT rfl rfl rfl rfl ?_ | refine RunQ.pT rfl rfl ?_ | (refine RunQ.splitG rfl rfl rfl rfl rfl rfl ?_ ?_ <;> intro _) | (refine RunQ.splitP rfl rfl rfl rfl ?_ ?_ <;> intro _)
     | refine Run.call rfl rfl rfl (toPiece_t p hp) rfl rfl ?_ | refine Run.callB rfl rfl rfl (hS) (by simp [AV.own, T.own, own_Bo]) rfl ?_ | refine Run.callB rfl rfl rfl (hI) (by simp [AV.own, T.own, own_Bo]) rfl ?_
     | refine Run.callB rfl rfl rfl (hEi (metB p) (metB p) hbl) (by simp [AV.own, T.own]) rfl ?_ | refine wp_region_l k_lawMt [0, 1] [2, 3] [0, 0, 2, 7, 15] rfl (by decide +kernel) (by decide +kernel) rfl rfl ?_
     | refine RunL.call rfl rfl rfl rfl (toPiece_t p hp) (.inl rfl) rfl rfl ?_ | refine RunL.call rfl rfl rfl rfl (hE) (.inr (by simp [AV.own, T.own])) rfl rfl ?_ | refine RunL.done ?_
     | refine Run.call rfl rfl rfl (markPiece_t p 1 hl.1 hl.2) rfl rfl ?_ | refine Run.call rfl rfl rfl (markBoolS_t _ _ (by omega)) rfl rfl ?_
     | refine Run.callB rfl rfl rfl (hHe _ _ (by simp only [mkT_len]; omega)) (by simp [AV.own, T.own]) rfl ?_ | (refine wp_cond_k rfl rfl rfl ?_ ?_ <;> intro _) | (refine wp_cond_i rfl ?_ ?_ <;> intro _))
  all_goals first
    | (refine ret_m [] rfl rfl rfl; done)
    | (rename_i hx; exfalso; simp [heT_mkT, hK, hM] at hx; done)
    | (rename_i hx; exfalso; simp [heT_mkT] at hx; omega)
end Go.Proofs

set_option linter.unusedSimpArgs false
set_option linter.unusedVariables false
namespace Go.Ev
open Go
theorem vs_of {w : World} {B : Nat → Prop} {ts : List T} {vs : List Value} (hl : vs.length = ts.length) (h : ∀ (k : Nat) (y : T) (v : Value), ts[k]? = some y → vs[k]? = some v → Rep w B y v)
    (hs : ∀ y ∈ ts, (∃ v, y = .sc v) ∨ ∃ rows, y = .sl false rows) : VS w B (.ag (ts.map AV.t)) (.agg vs.toArray) (fun _ => False) := by
  refine .inr (.inl ⟨_, _, rfl, rfl, Fam.of (by simp [hl]) fun k x v h1 h2 => ?_⟩)
  rw [List.getElem?_map, Option.map_eq_some_iff] at h1
  obtain ⟨y, hy, rfl⟩ := h1
  have hr := h k y v hy h2
  rcases hs y (List.mem_of_getElem? hy) with ⟨u, rfl⟩ | ⟨rows, rfl⟩
  · cases hr; exact ⟨_, rfl, .sc _ _⟩
  · exact ⟨_, rfl, .sh _ _ _ hr⟩
theorem OpensAt.imp {P : Program} {N : Nat} {t : TypeId} {α : Type} {d : Kt α} {ok ok' : α → Prop} (h : OpensAt P N t d ok) (hok : ∀ x, ok x → ok' x) : OpensAt P N t d ok' := by
  constructor
  intro H enc W base held fuel cs y hf ht
  obtain ⟨x, hk, hx⟩ := h.get enc W base held fuel cs y hf ht
  exact ⟨x, hk, hok x hx⟩
theorem vx_bool {w : World} {B : Nat → Prop} {vs : List Value} {b : Bool} {v : Value} {F : Nat → Prop} (h : VX w B vs (.t (.sc (.bool b))) v F) : v = .bool b := by
  rcases h with ⟨_, (⟨y, hy, ho⟩ | ⟨cs, us, h, _⟩ | ⟨_, _, _, _, _, h, _⟩) | ⟨cs, us, h, _⟩⟩ | ⟨r0, outs, F1, F2, h, _⟩
  · cases hy; cases ho; rfl
  · cases h
  · cases h
  · cases h
  · cases h
theorem vs_int {w : World} {B : Nat → Prop} {k : IntKind} {n : Int} : VS w B (.t (.sc (.int k n))) (.int k n) (fun _ => False) := .inl ⟨_, rfl, .sc _ _⟩
end Go.Ev
namespace Go.Proofs.Ythhlbnhgjijbaaa.fnExactMet
open Go Go.Ev Go.Proofs
open Go.ChangeShapes Go.WideShapes Go.ChangeAt Go.RowKit
theorem own : ownKnob Try.prog.godebug = none := by kernel_rfl
theorem laidOut : laidOutB Try.prog = true := by kernel_rfl
abbrev kI : Kt Int := Kt.int .i64
abbrev kL : Kt (List Int) := Kt.slice kI
abbrev kIns : Kt Ins := Kt.iso (Kt.pair kI (Kt.pair kI (Kt.pair kI (Kt.pair kI (Kt.pair kI (Kt.pair kL kI)))))) fun i => (i.op, i.d, i.x, i.y, i.n, i.l, i.to_)
abbrev kPiece : Kt Piece := Kt.iso (Kt.pair kI (Kt.pair kI (Kt.pair kI (Kt.slice kIns)))) fun p => (p.lam, p.in_, p.regs, p.ins)
theorem max_le : maxLen ≤ 9223372036854775807 := by decide
theorem oInt (n : Nat) : OpensAt Try.prog n 3 kI (fun _ => True) := (opens_int Try.underlying3).imp fun _ _ => trivial
theorem oL (n : Nat) : OpensAt Try.prog (n + 1) 37 kL (fun l => l.length ≤ 9223372036854775807) := (opens_slice Try.underlying37 (by kernel_rfl) (by decide) (oInt n)).imp fun _ h => Nat.le_trans h.1 max_le
theorem oIns (n : Nat) : OpensAt Try.prog (n + 2) 68 kIns Ins.len :=
  (opens_iso (fun x => (⟨x.1, x.2.1, x.2.2.1, x.2.2.2.1, x.2.2.2.2.1, x.2.2.2.2.2.1, x.2.2.2.2.2.2⟩ : Ins)) (fun _ => rfl)
    (opens_struct Try.underlying68 (by kernel_rfl) (from_cons rfl (by kernel_rfl) (oInt _) (from_cons rfl (by kernel_rfl) (oInt _) (from_cons rfl (by kernel_rfl) (oInt _) (from_cons rfl (by kernel_rfl) (oInt _) (from_cons rfl (by kernel_rfl) (oInt _)
      (from_cons rfl (by kernel_rfl) (oL n) (from_one rfl (by kernel_rfl) (oInt _)))))))))).imp fun x h => h.2.2.2.2.2.1
theorem oInsS (n : Nat) : OpensAt Try.prog (n + 3) 22 (Kt.slice kIns) (fun l => l.length ≤ 9223372036854775807 ∧ ∀ i ∈ l, i.len) := (opens_slice Try.underlying22 (by kernel_rfl) (by decide) (oIns n)).imp fun _ h => ⟨Nat.le_trans h.1 max_le, h.2⟩
theorem oPiece (n : Nat) : OpensAt Try.prog (n + 4) 24 kPiece Piece.len :=
  (opens_iso (fun x => (⟨x.1, x.2.1, x.2.2.1, x.2.2.2⟩ : Piece)) (fun _ => rfl)
    (opens_struct Try.underlying24 (by kernel_rfl) (from_cons rfl (by kernel_rfl) (oInt _) (from_cons rfl (by kernel_rfl) (oInt _) (from_cons rfl (by kernel_rfl) (oInt _) (from_one rfl (by kernel_rfl) (oInsS n))))))).imp fun x h => h.2.2.2
theorem calls {W : World} {x0 : Piece} {cs0 : List Value} (hk0 : kPiece.K W x0 cs0) (hl0 : Piece.len x0) : Calls Try.prog 3 #[.agg cs0.toArray] W fun e W' => e = .returned (.bool true) ∧ Below W.heap.size W W' := by
  have h := (Tells.sound (X := XS) tab_ok XS_sound (lawMt_t x0 hl0)).2 W [.agg cs0.toArray] (fun b => b < W.heap.size) (fun _ => False) (fun b hb => ⟨hb, fun h => h⟩) (fun _ h => h.elim)
    (.cons _ _ _ _ (fun _ => False) (fun _ => False) _ (vs_of (ts := Piece.c false x0) hk0.1 hk0.2 (by
      intro y hy
      simp only [Piece.c, List.mem_cons, List.not_mem_nil, or_false] at hy
      rcases hy with rfl | rfl | rfl | rfl
      · exact .inl ⟨_, rfl⟩
      · exact .inl ⟨_, rfl⟩
      · exact .inl ⟨_, rfl⟩
      · exact .inr ⟨_, rfl⟩)) (.nil _) (fun _ h => h.elim) (fun _ h => h) (fun _ h => h))
  refine h.mono fun e W' ⟨v, B', F', he, hv, _, _, hkeep⟩ => ?_
  rw [he, vx_bool hv]
  exact ⟨rfl, hkeep.os, hkeep.tape, hkeep.output, hkeep.size, fun k hk => hkeep.block k hk fun h => h⟩
set_option maxRecDepth 100000 in
theorem lifted (os : Os) (started : os.Started) (H : Type) (enc : TypeId × Value → H) :
    ReturnsInHanded {} Try.checked os 3 .any (Rows.fnExactMetSpec.pre6 enc Try.prog Try.f3 Rows.fnExactMetRow.domain false) (Rows.fnExactMetSpec.post enc Try.prog Try.f3 false true false false) := by
  refine returnsInHanded_of_change_sized (C := Try.checked) own started (by kernel_rfl) Try.func3
    (ChangeSpec.witness6 (enc := enc) (C := Try.checked) false ⟨#[], #[.agg #[.int .i64 0, .int .i64 0, .int .i64 0, .slice none 0 0]], []⟩ 8 (by kernel_rfl) (by kernel_rfl) (by kernel_rfl) (by kernel_rfl)) ?_
  intro W base args ds gs before hval0 hW hcnd hsz0 _
  have hval : ∀ (j : Nat) t v, Try.f3.params[j]? = some t → args[j]? = some v → Value.okWide Try.prog W .any base t v := hval0
  have hW' := hW
  obtain ⟨p, q, hA0, hV, rfl, hfz, hnd⟩ := hW
  have hA : DataW.TrodAll enc Try.prog W 0 (fun _ => true) true Try.f3.params.toList args.toList ds p := hA0
  rw [Try.params3] at hA hval
  obtain ⟨v0, vs0, d0, ds0, p0, q0, hargs, rfl, rfl, h0, r0⟩ := trodAll_cons hA
  obtain ⟨rfl, rfl, rfl⟩ := trodAll_nil r0
  obtain rfl : args = #[v0] := by cases args; simp_all
  obtain ⟨rfl, rfl⟩ := trodVars_none hV
  obtain ⟨cs0, rfl, hcs0⟩ := okWide_struct Try.underlying24 (hval 0 24 v0 rfl rfl)
  have k0 := h0
  have lt0 : ∀ x ∈ p0, x.block < W.heap.size := by obtain ⟨m, hm⟩ := k0; exact DataW.trod_lt m _ _ _ hm
  obtain ⟨x0, hk0, ok0⟩ : ∃ x, kPiece.K W x cs0.toList ∧ Piece.len x := by
    obtain ⟨m, hm⟩ := h0
    exact (oPiece m).get enc W _ _ m _ _ (by omega) hm
  refine (calls hk0 ok0).mono fun e W' ⟨he, bel0⟩ => ?_
  have bel : Below W.heap.size W W' := bel0
  subst he
  exact ⟨_, rfl, _, _, _, [], _, [], hW', trodAll_mk1 (shut_bool Try.underlying4 _), (trodAll_cons_mk (Below.trod laidOut (by kernel_rfl) (of_decide_eq_true (by kernel_rfl)) k0 bel lt0) trodAll_mk0), rfl, bel.frame _, fun h => by cases h⟩
theorem over : Rows.fnExactMetRow.holds Try.pinned (OpenSpec.ofChange Rows.fnExactMetSpec) :=
  OpenClaim.holds_of_wide 3 Try.f3 rfl rfl rfl rfl rfl rfl rfl ⟨rfl, rfl, rfl, rfl, rfl⟩ rfl rfl rfl rfl rfl (by kernel_rfl) Try.func3 (by kernel_rfl)
    (of_decide_eq_true (by kernel_rfl)) (by unfold Func.isWrapper; first | (rw [if_pos (by decide +kernel)]; kernel_rfl) | (rw [if_neg (by decide +kernel)]; exact ⟨rfl, rfl⟩))
    (fun os started H enc _ => lifted os started H enc)
theorem proved : Rows.FnExactMetSaid := over
#print axioms proved
end Go.Proofs.Ythhlbnhgjijbaaa.fnExactMet
namespace Go.Proofs.Ythhlbnhgjijbaaa
/-- The row, under a short name, for the claim. -/
theorem fnExactMet_holds : Rows.FnExactMetSaid := fnExactMet.proved
end Go.Proofs.Ythhlbnhgjijbaaa

