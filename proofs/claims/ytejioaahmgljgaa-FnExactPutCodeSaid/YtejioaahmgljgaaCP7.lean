import Derived.Test.YtejioaahmgljgaaCP6
set_option linter.unusedVariables false
set_option linter.unusedSimpArgs false
set_option maxHeartbeats 4000000
namespace Go.Proofs
open Go Go.Ev
set_option maxRecDepth 100000
variable {X : Rel3}
def k_PutCodeI : List (Nat × List Nat) := [(0, [1]), (1, [1, 10]), (2, [2]), (3, [1, 3]), (4, [3, 24, 25, 26]), (5, [3, 24, 25, 26, 27]), (6, [3, 5, 24, 25, 26]), (7, [3, 5, 24, 25, 26]), (8, [3, 24, 25, 26, 43, 44, 45]), (9, [3, 24, 25, 26, 43, 44, 45, 46]), (10, [3, 7, 24, 25, 26, 43, 44, 45]), (11, [3, 7, 24, 25, 26, 43, 44, 45]), (12, [3, 24, 25, 26, 43, 44, 45]), (13, [3, 24, 25, 26, 43, 44, 45]), (14, [3, 24, 25, 26]), (15, [2])]
theorem PutCodeI_t (c : Code) (hc : c.ok) : Tells Try.prog E0 X 10 [c.a false] (.t (.sl true ((codeBytes c).map uR))) := by
  have hN : Tells Try.prog E0 X 38 [.t (.sl false (shrR [[.sc (.int .u8 71)], [.sc (.int .u8 87)]])), .t (.sl false [[iT ((c.funs.map (Piece.c false)).length : Int)]])] (.t (.sl true (([71, 87] ++ encN ((c.funs.map (Piece.c false)).length : Int)).map uR))) := putAll1_t [71, 87] _ (by simp)
  generalize hfl : c.funs ++ [c.main] = fl
  have hrows : c.funs.map (Piece.c false) ++ [Piece.c false c.main] = fl.map (Piece.c false) := by rw [← hfl]; simp
  refine Tells.by Try.func10 (by simp [Try.f10]) (Body.i rfl rfl rfl (fun _ => rfl) fun f => ?_)
  repeat' (first
     | refine wp_seq_i ?_ | refine wp_region_t k_PutCodeI rfl ?_ | refine Run.done rfl ?_ | refine then_n ?_ | refine then_r ?_ | refine then_e ?_ | refine Run.go1 rfl ?_ | refine wp_skip_i ?_ | refine wp_ret_i ?_
     | refine wp_exit_i ?_ | refine wp_block_i ?_ | refine block_n ?_ | refine block_r ?_ | refine block_e ?_ | refine block_o rfl ?_ | refine wp_cond_t rfl ?_ | refine wp_cond_f rfl ?_ | refine RunQ.go1 rfl ?_
     | refine RunQ.done rfl ?_ | refine Run.one rfl rfl rfl ?_ | refine Run.cnd4 rfl rfl rfl (by simp) ?_ | refine Run.call rfl rfl rfl (CodeOkI_t c hc) rfl rfl ?_ | refine Run.callB rfl rfl rfl (hN) (own_B _) rfl ?_
     | refine wp_region_l k_PutCodeI [0, 1, 2, 3, 4, 5, 8] [6, 7] [0, 1, 3, 0, 8, 24, 63, 127, 0] rfl (by decide +kernel) (by decide +kernel) rfl rfl ?_
     | refine RunQ.callO rfl rfl rfl rfl rfl rfl (cloneP_t _ hc.1) (.inl rfl) rfl rfl rfl ?_ | refine RunQ.build rfl rfl rfl rfl rfl rfl ?_
     | refine RunL.cnd rfl rfl rfl rfl ⟨by have := hc.1; simp; omega, by simp, by simp, .inl rfl, trivial⟩ rfl ?_ | refine RunL.one rfl rfl rfl rfl rfl ?_ | refine RunL.done ?_ | (refine wp_cond_k rfl rfl rfl ?_ ?_ <;> intro _)
     | (refine wp_cond_i rfl ?_ ?_ <;> intro _))
  · rename_i h
    have h : codeB c = false := by simpa using h
    refine ret_m [] rfl rfl ?_; simp [codeBytes, h]
  rename_i h
  have h : codeB c = true := by simpa using h
  obtain ⟨hf1, hf2, hf3⟩ := codeB_few h
  have hpl := putB_len h
  have hflen : fl.length = c.funs.length + 1 := by rw [← hfl]; simp
  have hff : ∀ p ∈ fl, p.few := by
    intro p hp
    rw [← hfl] at hp
    rcases List.mem_append.1 hp with hp | hp
    · exact hf2 p hp
    · simp at hp; subst hp; exact hf3
  have hput : putB c = [71, 87] ++ encN ((c.funs.map (Piece.c false)).length : Int) ++ encFuns fl := by rw [← hfl]; simp [putB, encFuns]
  refine wp_loop_k (α := Nat × List Int) [.keep [3, 24, 25, 26] [17, 24]] (fun p => [(26, iA p.1)]) (fun _ => []) (fun p => [(17, 0, p.2.map uR)]) (fun q => q.1 ≤ fl.length ∧ q.2 ++ encFuns (fl.drop q.1) = putB c) (fun q => fl.length - q.1) (0, [71, 87] ++ encN ((c.funs.map (Piece.c false)).length : Int)) rfl (fun _ => rfl) rfl ⟨by simp, by simp [hput]⟩ ?_
  rintro ⟨k, d⟩ ⟨hk, h3⟩
  simp only at hk h3
  have hcl : d.length ≤ 1000000000 := by
    have h4 := congrArg List.length h3
    simp only [List.length_append] at h4
    omega
  by_cases hlt : k < fl.length
  · have hx : (c.funs.map (Piece.c false) ++ [Piece.c false c.main])[k]? = some (Piece.c false fl[k]) := by rw [hrows]; exact map_at hlt
    have hf := hff _ (List.getElem_mem hlt)
    have hkn : (c.funs.map (Piece.c false) ++ [Piece.c false c.main]).length = fl.length := by rw [hrows]; simp
    rw [encFuns_step hlt] at h3
    generalize hp : fl[k] = p at hx hf h3
    have hpn := hf.1
    have hh := encHead_len p
    have hA : Tells Try.prog E0 X 38 [.t (.sl true ((d).map uR)), .t (.sl false [[iT (p.lam)], [iT (p.in_)], [iT (p.regs)], [iT (((p.ins.map (Ins.c false)).length : Int))]])] (.t (.sl true ((d ++ encHead p).map uR))) := by
      have := putAll_t (X := X) d [p.lam, p.in_, p.regs, p.ins.length] (by simp; omega)
      simpa [encHead, encIns] using this
    repeat' (first
       | refine wp_seq_i ?_ | refine wp_region_t k_PutCodeI rfl ?_ | refine Run.done rfl ?_ | refine then_n ?_ | refine then_r ?_ | refine then_e ?_ | refine Run.go1 rfl ?_ | refine wp_skip_i ?_ | refine wp_ret_i ?_
       | refine wp_exit_i ?_ | refine wp_block_i ?_ | refine block_n ?_ | refine block_r ?_ | refine block_e ?_ | refine block_o rfl ?_ | refine wp_cond_t rfl ?_ | refine wp_cond_f rfl ?_
       | refine Run.ix rfl rfl rfl rfl rfl rfl rfl hx rfl rfl rfl ?_ | refine Run.ldr rfl rfl rfl hx rfl rfl ?_ | refine Run.one rfl rfl rfl ?_ | refine Run.callB rfl rfl rfl (hA) (own_B _) rfl ?_
       | (refine wp_cond_k rfl rfl rfl ?_ ?_ <;> intro _) | (refine wp_cond_i rfl ?_ ?_ <;> intro _))
    · refine wp_loop_k (α := Nat × List Int) [.keep [3, 24, 25, 26, 43, 44, 45] [24, 41]] (fun p => [(45, iA p.1)]) (fun _ => []) (fun p => [(41, 0, p.2.map uR)]) (fun q => q.1 ≤ p.ins.length ∧ q.2 ++ encInsL (p.ins.drop q.1) = d ++ encPiece p) (fun q => p.ins.length - q.1) (0, d ++ encHead p) rfl (fun _ => rfl) rfl ⟨by simp, by simp [encPiece]⟩ ?_
      rintro ⟨j, e⟩ ⟨hj, h5⟩
      simp only at hj h5
      have hel0 : e.length ≤ 2000000000 := by
        have h6 := congrArg List.length h5
        have h7 := encPiece_len hf
        simp only [List.length_append] at h6
        omega
      by_cases hlt2 : j < p.ins.length
      · have hx2 : (p.ins.map (Ins.c false))[j]? = some (Ins.c false p.ins[j]) := map_at hlt2
        have hfi := hf.2 _ (List.getElem_mem hlt2)
        rw [encInsL_step hlt2] at h5
        generalize hi : p.ins[j] = i at hx2 hfi h5
        have hil : i.l.length ≤ 200 := hfi
        have hel := encL_len [i.op, i.d, i.x, i.y, i.n, i.to_, i.l.length]
        have hB : Tells Try.prog E0 X 38 [.t (.sl true ((e).map uR)), .t (.sl false [[iT (i.op)], [iT (i.d)], [iT (i.x)], [iT (i.y)], [iT (i.n)], [iT (i.to_)], [iT (((i.l.map iR).length : Int))]])] (.t (.sl true ((e ++ encL [i.op, i.d, i.x, i.y, i.n, i.to_, i.l.length]).map uR))) := by
          have := putAll_t (X := X) e [i.op, i.d, i.x, i.y, i.n, i.to_, i.l.length] (by simp; omega)
          simpa [encHead, encIns] using this
        have hC : Tells Try.prog E0 X 38 [.t (.sl true ((e ++ encL [i.op, i.d, i.x, i.y, i.n, i.to_, i.l.length]).map uR)), .t (.sl false (i.l.map iR))] (.t (.sl true ((e ++ encIns i).map uR))) := by
          have := putAll_t (X := X) (e ++ encL [i.op, i.d, i.x, i.y, i.n, i.to_, i.l.length]) i.l (by simp only [List.length_append, List.length_cons, List.length_nil] at hel ⊢; omega)
          rw [List.append_assoc] at this; exact this
        repeat' (first
           | refine wp_seq_i ?_ | refine wp_region_t k_PutCodeI rfl ?_ | refine Run.done rfl ?_ | refine then_n ?_ | refine then_r ?_ | refine then_e ?_ | refine Run.go1 rfl ?_ | refine wp_skip_i ?_ | refine wp_ret_i ?_
           | refine wp_exit_i ?_ | refine wp_block_i ?_ | refine block_n ?_ | refine block_r ?_ | refine block_e ?_ | refine block_o rfl ?_ | refine wp_cond_t rfl ?_ | refine wp_cond_f rfl ?_
           | refine Run.ix rfl rfl rfl rfl rfl rfl rfl hx2 rfl rfl rfl ?_ | refine Run.one rfl rfl rfl ?_ | refine Run.callB rfl rfl rfl (hB) (own_B _) rfl ?_ | refine Run.callB rfl rfl rfl (hC) (own_B _) rfl ?_
           | (refine wp_cond_k rfl rfl rfl ?_ ?_ <;> intro _) | (refine wp_cond_i rfl ?_ ?_ <;> intro _))
        · refine back_i [.keep [3, 24, 25, 26, 43, 44, 45] [24, 70], .ren 70 41] (j + 1, e ++ encIns i) rfl ?_ ⟨by simp; omega, by simpa using h5⟩ (by simp; omega)
          simp only [w_succ hlt2 (by omega)]
        · rename_i h; simp [hlt2] at h
      · have hj : j = p.ins.length := by omega
        subst hj
        simp [encInsL] at h5
        repeat' (first
           | refine wp_seq_i ?_ | refine wp_region_t k_PutCodeI rfl ?_ | refine Run.done rfl ?_ | refine then_n ?_ | refine then_r ?_ | refine then_e ?_ | refine Run.go1 rfl ?_ | refine wp_skip_i ?_ | refine wp_ret_i ?_
           | refine wp_exit_i ?_ | refine wp_block_i ?_ | refine block_n ?_ | refine block_r ?_ | refine block_e ?_ | refine block_o rfl ?_ | refine wp_cond_t rfl ?_ | refine wp_cond_f rfl ?_
           | (refine wp_cond_k rfl rfl rfl ?_ ?_ <;> intro _) | (refine wp_cond_i rfl ?_ ?_ <;> intro _))
        · rename_i h; simp at h
        · refine back_i [.keep [3, 24, 25, 26] [24, 41], .ren 41 17, .ren 24 99, .ren 99 24] (k + 1, d ++ encPiece p) rfl ?_ ⟨by simp; omega, by simpa using h3⟩ (by simp; omega)
          simp only [w_succ hlt (by omega), h5]
          try rfl
    · rename_i h; simp only [hkn] at h; simp [hlt] at h
  · have hk : k = fl.length := by omega
    subst hk
    have hkn : (c.funs.map (Piece.c false) ++ [Piece.c false c.main]).length = fl.length := by rw [hrows]; simp
    simp [encFuns] at h3
    repeat' (first
       | refine wp_seq_i ?_ | refine wp_region_t k_PutCodeI rfl ?_ | refine Run.done rfl ?_ | refine then_n ?_ | refine then_r ?_ | refine then_e ?_ | refine Run.go1 rfl ?_ | refine wp_skip_i ?_ | refine wp_ret_i ?_
       | refine wp_exit_i ?_ | refine wp_block_i ?_ | refine block_n ?_ | refine block_r ?_ | refine block_e ?_ | refine block_o rfl ?_ | refine wp_cond_t rfl ?_ | refine wp_cond_f rfl ?_
       | refine Run.callB rfl rfl rfl (codeSum_s d (by omega)) (own_B _) rfl ?_ | refine Run.cnd rfl rfl rfl ⟨by simp [sumBytes]; omega, len_uR _, len_uR _, .inl rfl, by simp [flatT, sumBytes]⟩ ?_
       | (refine wp_cond_k rfl rfl rfl ?_ ?_ <;> intro _) | (refine wp_cond_i rfl ?_ ?_ <;> intro _))
    · rename_i h; simp only [hkn] at h; simp at h
    · refine ret_m [] rfl rfl ?_
      rw [codeBytes, if_pos h, ← h3]
      simp
end Go.Proofs
