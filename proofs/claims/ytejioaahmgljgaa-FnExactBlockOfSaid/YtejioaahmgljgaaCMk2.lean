import Derived.Test.YtejioaahmgljgaaCEq2
set_option linter.unusedVariables false
set_option linter.unusedSimpArgs false
namespace Go.Proofs
open Go Go.Ev
set_option maxRecDepth 100000
variable {X : Rel3}
def mkPiece (p : Piece) (k : Int) : Piece × Int :=
  (⟨k, nx k, nx (nx k), (mkInsS p.ins (nx (nx (nx k)))).1⟩, (mkInsS p.ins (nx (nx (nx k)))).2)
def mkPieceS : List Piece → Int → List Piece × Int
  | [], k => ([], k)
  | i :: r, k => ((mkPiece i k).1 :: (mkPieceS r (mkPiece i k).2).1, (mkPieceS r (mkPiece i k).2).2)
theorem mkPieceS_snoc (l : List Piece) (x : Piece) (k : Int) : mkPieceS (l ++ [x]) k = ((mkPieceS l k).1 ++ [(mkPiece x (mkPieceS l k).2).1], (mkPiece x (mkPieceS l k).2).2) := by
  induction l generalizing k with
  | nil => rfl
  | cons y l ih => simp [mkPieceS, ih]
theorem mkPieceS_len (l : List Piece) (k : Int) : (mkPieceS l k).1.length = l.length := by
  induction l generalizing k with
  | nil => rfl
  | cons y l ih => simp [mkPieceS, ih]
theorem markPieceS_t (l : List Piece) (k : Int) (hl : l.length ≤ 1048576) (hll : ∀ p ∈ l, p.ok) : Tells Try.prog E0 X 42 [.t (.sl true (l.map (Piece.c true))), iA k] (.io [iA (mkPieceS l k).2, .t (.sl true ((mkPieceS l k).1.map (Piece.c true))), .u]) := by
  refine Tells.by Try.func42 (by simp [Try.f42]) (Body.i rfl rfl rfl (fun _ => rfl) fun f => ?_)
  repeat' (first
     | refine wp_seq_i ?_ | refine wp_region_i ?_ | refine Run.done rfl ?_ | refine then_n ?_ | refine then_r ?_ | refine then_e ?_ | refine Run.go1 rfl ?_ | refine wp_skip_i ?_ | refine wp_ret_i ?_ | refine wp_exit_i ?_
     | refine wp_block_i ?_ | refine block_n ?_ | refine block_r ?_ | refine block_e ?_ | refine block_o rfl ?_ | refine wp_cond_t rfl ?_ | refine wp_cond_f rfl ?_ | (refine wp_cond_k rfl rfl rfl ?_ ?_ <;> intro _)
     | (refine wp_cond_i rfl ?_ ?_ <;> intro _))
  refine wp_loop_k (α := Nat × Int × List Piece) [.keep [0, 1, 4, 5] [100000]] (fun p => [(1, iA p.2.1), (5, iA p.1)]) (fun _ => []) (fun p => [(100000, ⟨0, some (f 100000)⟩, p.2.2.map (Piece.c true))]) (fun p => p.1 ≤ l.length ∧ p.2.1 = (mkPieceS (l.take p.1) k).2 ∧ p.2.2 = (mkPieceS (l.take p.1) k).1 ++ l.drop p.1) (fun p => l.length - p.1) (0, k, l) rfl (fun _ => rfl) rfl ⟨by simp, by simp [mkPieceS], by simp [mkPieceS]⟩ ?_
  rintro ⟨j, c, m⟩ ⟨hj, hc, hm⟩
  simp only at hj hc hm
  have hml : m.length = l.length := by rw [hm]; simp [mkPieceS_len]; omega
  by_cases hlt : j < l.length
  · have hj' : j < m.length := by omega
    have hx : (m.map (Piece.c true))[j]? = some (Piece.c true m[j]) := by simp [hj']
    have ht : l.take (j + 1) = l.take j ++ [l[j]] := by simp
    have hmj : m[j] = l[j] := by subst hm; rw [List.getElem_append_right (by simp [mkPieceS_len]; omega)]; simp [mkPieceS_len, Nat.min_eq_left hj]
    have hok : m[j].ok := by rw [hmj]; exact hll _ (List.getElem_mem _)
    have h1 : m[j].ins.length ≤ 9223372036854775807 := Nat.le_trans hok.1 (by decide)
    have h2 : ∀ i ∈ m[j].ins, i.l.length ≤ 9223372036854775807 := fun i hi => Nat.le_trans (hok.2 i hi) (by decide)
    repeat' (first
       | refine wp_seq_i ?_ | refine wp_region_i ?_ | refine Run.done rfl ?_ | refine then_n ?_ | refine then_r ?_ | refine then_e ?_ | refine Run.go1 rfl ?_ | refine wp_skip_i ?_ | refine wp_ret_i ?_ | refine wp_exit_i ?_
       | refine wp_block_i ?_ | refine block_n ?_ | refine block_r ?_ | refine block_e ?_ | refine block_o rfl ?_ | refine wp_cond_t rfl ?_ | refine wp_cond_f rfl ?_ | refine Run.ix rfl rfl rfl rfl rfl rfl rfl hx rfl rfl rfl ?_
       | refine Run.str rfl rfl rfl rfl rfl rfl hx rfl rfl ?_ | refine Run.ix rfl rfl rfl rfl rfl rfl rfl (set_hit (by simp [hj'])) rfl rfl rfl ?_ | refine Run.str rfl rfl rfl rfl rfl rfl (set_hit (by simp [hj'])) rfl rfl ?_
       | refine Run.adjw (.hole 100000 j 3 900000 _ _ _ _ _ _ rfl (set_hit (by simp [hj'])) rfl (fun _ => rfl) fun u => .done _ (Run.ldr rfl rfl rfl (set_hit (by simp [hj'])) rfl rfl (Run.go1 rfl (Run.adjw (.tell 37 900000 _ _ _ _ _ rfl rfl rfl rfl (.done _ (Run.call rfl rfl rfl (markInsS_t _ _ h1 h2) rfl rfl (Run.adjw (.fill 100000 j 3 900000 _ _ _ _ _ _ _ rfl (set_hit (by simp [hj'])) rfl rfl rfl (.done _ ?_))))))))))
       | (refine wp_cond_k rfl rfl rfl ?_ ?_ <;> intro _) | (refine wp_cond_i rfl ?_ ?_ <;> intro _))
    · refine back_i [.keep [0, 1, 4, 5] [100000]] (j + 1, (mkPiece m[j] c).2, m.set j (mkPiece m[j] c).1) rfl ?_ ⟨by simp; omega, ?_, ?_⟩ (by simp; omega)
      · simp only [List.map_set, List.set_set, w_succ hlt (by omega), mkPiece, nx]
      · rw [ht, mkPieceS_snoc, hmj, hc]
      · rw [ht, mkPieceS_snoc, hmj, ← hc]
        conv => lhs; rw [hm]
        rw [List.drop_eq_getElem_cons hlt, List.set_append_right _ _ (by simp [mkPieceS_len]; omega)]
        simp only [mkPieceS_len, List.length_take, Nat.min_eq_left hj, Nat.sub_self, List.set_cons_zero, List.append_assoc, List.singleton_append]
    · rename_i h; simp [hml, hlt] at h
  · have hjl : j = l.length := by omega
    repeat' (first
       | refine wp_seq_i ?_ | refine wp_region_i ?_ | refine Run.done rfl ?_ | refine then_n ?_ | refine then_r ?_ | refine then_e ?_ | refine Run.go1 rfl ?_ | refine wp_skip_i ?_ | refine wp_ret_i ?_ | refine wp_exit_i ?_
       | refine wp_block_i ?_ | refine block_n ?_ | refine block_r ?_ | refine block_e ?_ | refine block_o rfl ?_ | refine wp_cond_t rfl ?_ | refine wp_cond_f rfl ?_ | (refine wp_cond_k rfl rfl rfl ?_ ?_ <;> intro _)
       | (refine wp_cond_i rfl ?_ ?_ <;> intro _))
    · rename_i h; simp [hml, hjl] at h
    · refine ret_o [true] [] rfl rfl rfl ⟨rfl, trivial⟩ ?_
      subst hjl
      simp [hc, hm]
theorem markCode_t (c : Code) (k : Int) (hc : c.ok) : Tells Try.prog E0 X 13 [c.a true, iA k] (.io [iA (mkInsS c.main.ins (mkPieceS c.funs k).2).2, .ag [.t (.sl true ((mkPieceS c.funs k).1.map (Piece.c true))), iA c.main.lam, iA c.main.in_, iA c.main.regs, .t (.sl true ((mkInsS c.main.ins (mkPieceS c.funs k).2).1.map (Ins.c true)))], .u]) := by
  have h1 : c.main.ins.length ≤ 9223372036854775807 := Nat.le_trans hc.2.2.1 (by decide)
  have h2 : ∀ i ∈ c.main.ins, i.l.length ≤ 9223372036854775807 := fun i hi => Nat.le_trans (hc.2.2.2 i hi) (by decide)
  refine Tells.by Try.func13 (by simp [Try.f13]) (Body.i rfl rfl rfl (fun _ => rfl) fun f => ?_)
  repeat' (first
     | refine wp_seq_i ?_ | refine wp_region_i ?_ | refine Run.done rfl ?_ | refine then_n ?_ | refine then_r ?_ | refine then_e ?_ | refine Run.go1 rfl ?_ | refine wp_skip_i ?_ | refine wp_ret_i ?_ | refine wp_exit_i ?_
     | refine wp_block_i ?_ | refine block_n ?_ | refine block_r ?_ | refine block_e ?_ | refine block_o rfl ?_ | refine wp_cond_t rfl ?_ | refine wp_cond_f rfl ?_
     | refine Run.call rfl rfl rfl (markPieceS_t _ _ hc.1 hc.2.1) rfl rfl ?_ | refine Run.call rfl rfl rfl (markPiece_t c.main _ h1 h2) rfl rfl ?_ | (refine wp_cond_k rfl rfl rfl ?_ ?_ <;> intro _)
     | (refine wp_cond_i rfl ?_ ?_ <;> intro _))
  all_goals (refine ret_o [true] [] rfl rfl rfl ⟨?_, ?_⟩ rfl <;> simp)
end Go.Proofs
