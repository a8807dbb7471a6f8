import Derived.Test.YtejioaahmgljgaaCTo
import Derived.Test.YtejioaahmgljgaaCMB
set_option linter.unusedVariables false
set_option linter.unusedSimpArgs false
namespace Go.Proofs
open Go Go.Ev
set_option maxRecDepth 100000
variable {X : Rel3}
structure Code where
  funs : List Piece
  main : Piece
  deriving DecidableEq
abbrev Code.a (o : Bool) (c : Code) : AV := .ag [.t (.sl o (c.funs.map (Piece.c o))), iA c.main.lam, iA c.main.in_, iA c.main.regs, .t (.sl o (c.main.ins.map (Ins.c o)))]
def Piece.ok (p : Piece) : Prop := p.ins.length ≤ 1048576 ∧ ∀ i ∈ p.ins, i.l.length ≤ 1048576
def Code.ok (c : Code) : Prop := c.funs.length ≤ 1048576 ∧ (∀ p ∈ c.funs, p.ok) ∧ c.main.ok
theorem toPiece_t (p : Piece) (hp : p.ok) : Tells Try.prog E0 X 22 [p.a false] (p.a true) := by
  refine Tells.by Try.func22 (by simp [Try.f22]) (Body.i rfl rfl rfl (fun _ => rfl) fun f => ?_)
  repeat' (first
     | refine wp_seq_i ?_ | refine wp_region_i ?_ | refine Run.done rfl ?_ | refine then_n ?_ | refine then_r ?_ | refine then_e ?_ | refine Run.go1 rfl ?_ | refine wp_skip_i ?_ | refine wp_ret_i ?_ | refine wp_exit_i ?_
     | refine wp_block_i ?_ | refine block_n ?_ | refine block_r ?_ | refine block_e ?_ | refine block_o rfl ?_ | refine wp_cond_t rfl ?_ | refine wp_cond_f rfl ?_ | refine Run.call rfl rfl rfl (toInsS_t _ hp.1 hp.2) rfl rfl ?_
     | (refine wp_cond_k rfl rfl rfl ?_ ?_ <;> intro _) | (refine wp_cond_i rfl ?_ ?_ <;> intro _))
  all_goals (refine ret_m [] rfl rfl ?_; simp)
def Piece.z : Piece := ⟨0, 0, 0, []⟩
theorem toPieceS_t (l : List Piece) (hl : l.length ≤ 1048576) (hll : ∀ p ∈ l, p.ok) : Tells Try.prog E0 X 36 [.t (.sl false (l.map (Piece.c false)))] (.t (.sl true (l.map (Piece.c true)))) := by
  refine Tells.by Try.func36 (by simp [Try.f36]) (Body.i rfl rfl rfl (fun _ => rfl) fun f => ?_)
  repeat' (first
     | refine wp_seq_i ?_ | refine wp_region_i ?_ | refine Run.done rfl ?_ | refine then_n ?_ | refine then_r ?_ | refine then_e ?_ | refine Run.go1 rfl ?_ | refine wp_skip_i ?_ | refine wp_ret_i ?_ | refine wp_exit_i ?_
     | refine wp_block_i ?_ | refine block_n ?_ | refine block_r ?_ | refine block_e ?_ | refine block_o rfl ?_ | refine wp_cond_t rfl ?_ | refine wp_cond_f rfl ?_
     | refine Run.cnd2 rfl rfl rfl ⟨by simp, rfl, by simp; omega, by simp; omega⟩ ?_ | (refine wp_cond_k rfl rfl rfl ?_ ?_ <;> intro _) | (refine wp_cond_i rfl ?_ ?_ <;> intro _))
  refine wp_loop_k (α := Nat × List Piece) [.keep [0, 2, 3, 4] [7]] (fun p => [(4, iA p.1)]) (fun _ => []) (fun p => [(7, 0, p.2.map (Piece.c true))]) (fun p => p.1 ≤ l.length ∧ p.2 = l.take p.1 ++ List.replicate (l.length - p.1) Piece.z) (fun p => l.length - p.1) (0, List.replicate l.length Piece.z) rfl (fun _ => rfl) (by simp [Piece.z, Piece.c]) ⟨by simp, by simp⟩ ?_
  rintro ⟨j, m⟩ ⟨hj, hm⟩
  simp only at hj hm
  have hml : m.length = l.length := by rw [hm]; simp; omega
  by_cases hlt : j < l.length
  · have hx : (l.map (Piece.c false))[j]? = some (Piece.c false l[j]) := by simp [hlt]
    have hy : (m.map (Piece.c true))[j]? = some (Piece.c true (m[j]'(by omega))) := by simp [hml, hlt]
    repeat' (first
       | refine wp_seq_i ?_ | refine wp_region_i ?_ | refine Run.done rfl ?_ | refine then_n ?_ | refine then_r ?_ | refine then_e ?_ | refine Run.go1 rfl ?_ | refine wp_skip_i ?_ | refine wp_ret_i ?_ | refine wp_exit_i ?_
       | refine wp_block_i ?_ | refine block_n ?_ | refine block_r ?_ | refine block_e ?_ | refine block_o rfl ?_ | refine wp_cond_t rfl ?_ | refine wp_cond_f rfl ?_ | refine Run.ix rfl rfl rfl rfl rfl rfl rfl hx rfl rfl rfl ?_
       | refine Run.ix rfl rfl rfl rfl rfl rfl rfl hy rfl rfl rfl ?_ | refine Run.str rfl rfl rfl rfl rfl rfl hy rfl rfl ?_ | refine Run.call rfl rfl rfl (toPiece_t _ (hll _ (List.getElem_mem hlt))) rfl rfl ?_
       | (refine wp_cond_k rfl rfl rfl ?_ ?_ <;> intro _) | (refine wp_cond_i rfl ?_ ?_ <;> intro _))
    · refine back_i [.keep [0, 2, 3, 4] [7]] (j + 1, m.set j l[j]) rfl ?_ ⟨by simp; omega, ?_⟩ (by simp; omega)
      · simp only [List.map_set, w_succ hlt (by omega)]
      · simp only; rw [hm, fill_step l Piece.z hlt]
    · rename_i h; simp [hlt] at h
  · have hjl : j = l.length := by omega
    repeat' (first
       | refine wp_seq_i ?_ | refine wp_region_i ?_ | refine Run.done rfl ?_ | refine then_n ?_ | refine then_r ?_ | refine then_e ?_ | refine Run.go1 rfl ?_ | refine wp_skip_i ?_ | refine wp_ret_i ?_ | refine wp_exit_i ?_
       | refine wp_block_i ?_ | refine block_n ?_ | refine block_r ?_ | refine block_e ?_ | refine block_o rfl ?_ | refine wp_cond_t rfl ?_ | refine wp_cond_f rfl ?_ | (refine wp_cond_k rfl rfl rfl ?_ ?_ <;> intro _)
       | (refine wp_cond_i rfl ?_ ?_ <;> intro _))
    · rename_i h; simp [hjl] at h
    · refine ret_m [] rfl rfl ?_
      subst hjl; simp [hm]
theorem toCode_t (c : Code) (hc : c.ok) : Tells Try.prog E0 X 9 [c.a false] (c.a true) := by
  refine Tells.by Try.func9 (by simp [Try.f9]) (Body.i rfl rfl rfl (fun _ => rfl) fun f => ?_)
  repeat' (first
     | refine wp_seq_i ?_ | refine wp_region_i ?_ | refine Run.done rfl ?_ | refine then_n ?_ | refine then_r ?_ | refine then_e ?_ | refine Run.go1 rfl ?_ | refine wp_skip_i ?_ | refine wp_ret_i ?_ | refine wp_exit_i ?_
     | refine wp_block_i ?_ | refine block_n ?_ | refine block_r ?_ | refine block_e ?_ | refine block_o rfl ?_ | refine wp_cond_t rfl ?_ | refine wp_cond_f rfl ?_
     | refine Run.call rfl rfl rfl (toPieceS_t _ hc.1 hc.2.1) rfl rfl ?_ | refine Run.call rfl rfl rfl (toPiece_t c.main hc.2.2) rfl rfl ?_ | (refine wp_cond_k rfl rfl rfl ?_ ?_ <;> intro _)
     | (refine wp_cond_i rfl ?_ ?_ <;> intro _))
  all_goals (refine ret_m [] rfl rfl ?_; simp)
end Go.Proofs
