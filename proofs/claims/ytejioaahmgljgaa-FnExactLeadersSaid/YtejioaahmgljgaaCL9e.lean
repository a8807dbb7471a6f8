import Derived.Test.YtejioaahmgljgaaCL9d
set_option linter.unusedVariables false
set_option linter.unusedSimpArgs false
set_option maxHeartbeats 4000000
namespace Go.Proofs
open Go Go.Ev
set_option maxRecDepth 100000
variable {X : Rel3}
def inOf (l : List Piece) (k : Int) : Int := match l[k.toNat]? with
  | some p => p.in_
  | none => 0
def allF (funs : List Piece) (l : List Int) : Bool := l.all fun lam => !decide (funAt funs lam < 0)
theorem allF_step {funs : List Piece} {l : List Int} {k : Nat} (h : k < l.length) : allF funs (l.drop k) = (!decide (funAt funs l[k] < 0) && allF funs (l.drop (k + 1))) := all_step h
def lamI (funs : List Piece) (i : Ins) : Bool :=
  if i.op = 8 then !decide (funAt funs i.n < 0) && ((i.l.length : Int) == IntKind.i64.wrap (inOf funs (funAt funs i.n) - 1))
  else if i.op = 14 then allF funs i.l else true
def lamsB (funs : List Piece) (l : List Ins) : Bool := l.all (lamI funs)
theorem lamsB_step {funs : List Piece} {l : List Ins} {k : Nat} (h : k < l.length) : lamsB funs (l.drop k) = (lamI funs l[k] && lamsB funs (l.drop (k + 1))) := all_step h
theorem funAt_row {l : List Piece} {n : Int} (h : ¬ funAt l n < 0) : funAt l n = ((funAt l n).toNat : Int) ∧ (l.map (Piece.c false))[(funAt l n).toNat]? = some (Piece.c false ⟨(l[(funAt l n).toNat]?.getD ⟨0, 0, 0, []⟩).lam, inOf l (funAt l n), (l[(funAt l n).toNat]?.getD ⟨0, 0, 0, []⟩).regs, (l[(funAt l n).toNat]?.getD ⟨0, 0, 0, []⟩).ins⟩) := by
  have h1 : funAt l n < l.length := by have := idx_lt (f := fun p : Piece => p.lam == n) (l := l) (k := 0); unfold funAt; omega
  have h2 : (funAt l n).toNat < l.length := by omega
  refine ⟨by omega, ?_⟩
  rw [List.getElem?_map, inOf, List.getElem?_eq_getElem h2]
  rfl
def k_l9Lams : List (Nat × List Nat) := [(0, [2, 3]), (1, [2, 3, 5]), (2, [2, 3, 5, 13]), (3, [2, 3, 5]), (4, [2, 3, 5, 6]), (5, [2, 3, 5, 6, 23]), (6, [2, 3, 5, 6, 7]), (7, [2, 3, 5, 6, 42]), (8, [4]), (9, [2, 3, 5, 6, 8]), (10, [2, 3, 5, 6, 8, 52]), (11, [2, 3, 5, 6, 8]), (12, [2, 3, 5, 6, 8, 62]), (13, [4]), (14, [4])]
theorem l9Lams_t (c : Code) (p : Piece) (hc : c.funs.length ≤ 1048576) (hp : p.ok) : Tells Try.prog E0 X 64 [c.a false, p.a false] (bA (lamsB c.funs p.ins)) := by
  refine Tells.by Try.func64 (by simp [Try.f64]) (Body.i rfl rfl rfl (fun _ => rfl) fun f => ?_)
  repeat' (first
     | refine wp_seq_i ?_ | refine wp_region_t k_l9Lams rfl ?_ | refine Run.done rfl ?_ | refine then_n ?_ | refine then_r ?_ | refine then_e ?_ | refine Run.go1 rfl ?_ | refine wp_skip_i ?_ | refine wp_ret_i ?_
     | refine wp_exit_i ?_ | refine wp_block_i ?_ | refine block_n ?_ | refine block_r ?_ | refine block_e ?_ | refine block_o rfl ?_ | refine wp_cond_t rfl ?_ | refine wp_cond_f rfl ?_
     | (refine wp_cond_k rfl rfl rfl ?_ ?_ <;> intro _) | (refine wp_cond_i rfl ?_ ?_ <;> intro _))
  refine wp_loop_k (α := Nat) [.keep [2, 3, 5] [2, 3]] (fun k => [(5, iA k)]) (fun _ => []) (fun _ => []) (fun k => k ≤ p.ins.length ∧ lamsB c.funs (p.ins.drop k) = lamsB c.funs p.ins) (fun k => p.ins.length - k) 0 rfl (fun _ => rfl) rfl ⟨by simp, by simp⟩ ?_
  have hpl := hp.1
  rintro k ⟨hk, hI⟩
  by_cases hlt : k < p.ins.length
  · have hx : (p.ins.map (Ins.c false))[k]? = some (Ins.c false p.ins[k]) := map_at hlt
    have hil := hp.2 _ (List.getElem_mem hlt)
    rw [lamsB_step hlt] at hI
    generalize hi : p.ins[k] = i at hx hil hI
    repeat' (first
       | refine wp_seq_i ?_ | refine wp_region_t k_l9Lams rfl ?_ | refine Run.done rfl ?_ | refine then_n ?_ | refine then_r ?_ | refine then_e ?_ | refine Run.go1 rfl ?_ | refine wp_skip_i ?_ | refine wp_ret_i ?_
       | refine wp_exit_i ?_ | refine wp_block_i ?_ | refine block_n ?_ | refine block_r ?_ | refine block_e ?_ | refine block_o rfl ?_ | refine wp_cond_t rfl ?_ | refine wp_cond_f rfl ?_
       | refine wp_region_qt k_l9Lams rfl 15 (by decide +kernel) rfl rfl ?_ | refine RunQ.go1 rfl ?_ | refine RunQ.done rfl ?_ | refine Run.gT rfl rfl rfl rfl ?_ | refine Run.pT rfl rfl ?_
       | (refine Run.splitG rfl rfl rfl rfl rfl rfl ?_ ?_ <;> intro _) | (refine Run.splitP rfl rfl rfl rfl ?_ ?_ <;> intro _) | refine RunQ.gT rfl rfl rfl rfl ?_ | refine RunQ.pT rfl rfl ?_
       | (refine RunQ.splitG rfl rfl rfl rfl rfl rfl ?_ ?_ <;> intro _) | (refine RunQ.splitP rfl rfl rfl rfl ?_ ?_ <;> intro _) | refine Run.ix rfl rfl rfl rfl rfl rfl rfl hx rfl rfl rfl ?_
       | refine Run.call rfl rfl rfl (l9Fun_t c _ hc) rfl rfl ?_
       | refine RunQ.ix rfl rfl rfl rfl rfl rfl (funAt_row (by simpa using ‹decide (funAt c.funs i.n < 0) = false›)).1 (funAt_row (by simpa using ‹decide (funAt c.funs i.n < 0) = false›)).2 rfl rfl rfl ?_
       | (refine wp_cond_k rfl rfl rfl ?_ ?_ <;> intro _) | (refine wp_cond_i rfl ?_ ?_ <;> intro _))
    any_goals (
      refine ret_m [] rfl rfl ?_
      have hl : lamI c.funs i = false := by simp_all [lamI]
      rw [← hI, hl]; rfl)
    any_goals (rename_i h; simp [hlt] at h; done)
    all_goals (
      refine wp_loop_k (α := Nat) [.keep [2, 3, 5, 6, 8] [2, 3, 6]] (fun k => [(8, iA k)]) (fun _ => []) (fun _ => []) (fun k => k ≤ i.l.length ∧ (allF c.funs (i.l.drop k) = allF c.funs i.l)) (fun k => i.l.length - k) 0 rfl (fun _ => rfl) rfl ⟨by simp, by simp⟩ ?_
      rintro k2 ⟨hk2, hI2⟩
      by_cases hlt2 : k2 < i.l.length
      · have hx2 : (i.l.map iR)[k2]? = some (iR i.l[k2]) := map_at hlt2
        rw [allF_step hlt2] at hI2
        repeat' (first
           | refine wp_seq_i ?_ | refine wp_region_t k_l9Lams rfl ?_ | refine Run.done rfl ?_ | refine then_n ?_ | refine then_r ?_ | refine then_e ?_ | refine Run.go1 rfl ?_ | refine wp_skip_i ?_ | refine wp_ret_i ?_
           | refine wp_exit_i ?_ | refine wp_block_i ?_ | refine block_n ?_ | refine block_r ?_ | refine block_e ?_ | refine block_o rfl ?_ | refine wp_cond_t rfl ?_ | refine wp_cond_f rfl ?_
           | refine wp_region_qt k_l9Lams rfl 8 (by decide +kernel) rfl rfl ?_ | refine RunQ.go1 rfl ?_ | refine RunQ.done rfl ?_ | refine Run.gT rfl rfl rfl rfl ?_ | refine Run.pT rfl rfl ?_
           | (refine Run.splitG rfl rfl rfl rfl rfl rfl ?_ ?_ <;> intro _) | (refine Run.splitP rfl rfl rfl rfl ?_ ?_ <;> intro _) | refine RunQ.gT rfl rfl rfl rfl ?_ | refine RunQ.pT rfl rfl ?_
           | (refine RunQ.splitG rfl rfl rfl rfl rfl rfl ?_ ?_ <;> intro _) | (refine RunQ.splitP rfl rfl rfl rfl ?_ ?_ <;> intro _) | refine RunQ.ix rfl rfl rfl rfl rfl rfl rfl hx2 rfl rfl rfl ?_
           | refine RunQ.call rfl rfl rfl rfl rfl rfl (l9Fun_t c _ hc) (.inl rfl) rfl rfl ?_ | (refine wp_cond_k rfl rfl rfl ?_ ?_ <;> intro _) | (refine wp_cond_i rfl ?_ ?_ <;> intro _))
        all_goals first
        | (rename_i h; simp [hlt2] at h; done)
        | (exfalso; simp_all; done)
        | (refine ret_m [] rfl rfl ?_
           have hf : allF c.funs i.l = false := by rw [← hI2]; simp_all
           have hl : lamI c.funs i = false := by simp_all [lamI]
           rw [← hI, hl]; rfl)
        | (refine back_i [.keep [2, 3, 5, 6, 8] [2, 3, 6]] (k2 + 1) rfl ?_ ⟨by omega, ?_⟩ (by omega)
           · simp only [w_succ hlt2 (by omega)]
           · rw [← hI2]; simp_all)
        | (refine back_i [.keep [2, 3, 5] [2, 3]] (k + 1) rfl ?_ ⟨by omega, ?_⟩ (by omega)
           · simp only [w_succ hlt (by omega)]
           · have hl : lamI c.funs i = true := by simp_all [lamI]
             rw [← hI, hl, Bool.true_and])
      · have hk2 : k2 = i.l.length := by omega
        subst hk2
        repeat' (first
           | refine wp_seq_i ?_ | refine wp_region_t k_l9Lams rfl ?_ | refine Run.done rfl ?_ | refine then_n ?_ | refine then_r ?_ | refine then_e ?_ | refine Run.go1 rfl ?_ | refine wp_skip_i ?_ | refine wp_ret_i ?_
           | refine wp_exit_i ?_ | refine wp_block_i ?_ | refine block_n ?_ | refine block_r ?_ | refine block_e ?_ | refine block_o rfl ?_ | refine wp_cond_t rfl ?_ | refine wp_cond_f rfl ?_ | refine Run.gT rfl rfl rfl rfl ?_
           | refine Run.pT rfl rfl ?_ | (refine Run.splitG rfl rfl rfl rfl rfl rfl ?_ ?_ <;> intro _) | (refine Run.splitP rfl rfl rfl rfl ?_ ?_ <;> intro _) | (refine wp_cond_k rfl rfl rfl ?_ ?_ <;> intro _)
           | (refine wp_cond_i rfl ?_ ?_ <;> intro _))
        all_goals first
        | (rename_i h; simp at h; done)
        | (exfalso; simp_all; done)
        | (refine back_i [.keep [2, 3, 5] [2, 3]] (k + 1) rfl ?_ ⟨by omega, ?_⟩ (by omega)
           · simp only [w_succ hlt (by omega)]
           · have hf : allF c.funs i.l = true := by rw [← hI2]; simp [allF]
             have hl : lamI c.funs i = true := by simp_all [lamI]
             rw [← hI, hl, Bool.true_and]))
  · have hk : k = p.ins.length := by omega
    subst hk
    simp [lamsB] at hI
    repeat' (first
       | refine wp_seq_i ?_ | refine wp_region_t k_l9Lams rfl ?_ | refine Run.done rfl ?_ | refine then_n ?_ | refine then_r ?_ | refine then_e ?_ | refine Run.go1 rfl ?_ | refine wp_skip_i ?_ | refine wp_ret_i ?_
       | refine wp_exit_i ?_ | refine wp_block_i ?_ | refine block_n ?_ | refine block_r ?_ | refine block_e ?_ | refine block_o rfl ?_ | refine wp_cond_t rfl ?_ | refine wp_cond_f rfl ?_
       | (refine wp_cond_k rfl rfl rfl ?_ ?_ <;> intro _) | (refine wp_cond_i rfl ?_ ?_ <;> intro _))
    · rename_i h; simp at h
    · refine ret_m [] rfl rfl ?_; simp [lamsB]; exact hI
def fB (funs : List Piece) (p : Piece) : Bool := !decide (p.lam < 0) && (pieceB p && lamsB funs p.ins)
def allP (funs : List Piece) (l : List Piece) : Bool := l.all (fB funs)
theorem allP_step {funs l : List Piece} {k : Nat} (h : k < l.length) : allP funs (l.drop k) = (fB funs l[k] && allP funs (l.drop (k + 1))) := all_step h
abbrev lamsL (l : List Piece) : List Int := l.map fun p => p.lam
def codeB (c : Code) : Bool := (decide ((c.funs.length : Int) ≤ 200) && c.main.lam == -1) && ((pieceB c.main && lamsB c.funs c.main.ins) && (asc (lamsL c.funs) && allP c.funs c.funs))
theorem lams_step {l : List Piece} {k : Nat} (h : k + 1 < l.length) : asc ((lamsL l).drop k) = (decide (l[k].lam < l[k + 1].lam) && asc ((lamsL l).drop (k + 1))) := by
  rw [asc_step (by simpa using h)]; simp
def k_CodeOkS : List (Nat × List Nat) := [(0, [1]), (1, [1, 27]), (2, [2]), (3, [1, 3]), (4, [1, 3, 32]), (5, [1, 3]), (6, [1, 3, 4]), (7, [1, 3, 69]), (8, [2]), (9, [2])]
theorem CodeOkS_t (c : Code) (hc : c.ok) : Tells Try.prog E0 X 32 [c.a false] (bA (codeB c)) := by
  refine Tells.by Try.func32 (by simp [Try.f32]) (Body.i rfl rfl rfl (fun _ => rfl) fun f => ?_)
  repeat' (first
     | refine wp_seq_i ?_ | refine wp_region_t k_CodeOkS rfl ?_ | refine Run.done rfl ?_ | refine then_n ?_ | refine then_r ?_ | refine then_e ?_ | refine Run.go1 rfl ?_ | refine wp_skip_i ?_ | refine wp_ret_i ?_
     | refine wp_exit_i ?_ | refine wp_block_i ?_ | refine block_n ?_ | refine block_r ?_ | refine block_e ?_ | refine block_o rfl ?_ | refine wp_cond_t rfl ?_ | refine wp_cond_f rfl ?_ | refine Run.gT rfl rfl rfl rfl ?_
     | refine Run.pT rfl rfl ?_ | (refine Run.splitG rfl rfl rfl rfl rfl rfl ?_ ?_ <;> intro _) | (refine Run.splitP rfl rfl rfl rfl ?_ ?_ <;> intro _) | refine Run.call rfl rfl rfl (l9Piece_t c.main hc.2.2) rfl rfl ?_
     | refine Run.call rfl rfl rfl (l9Lams_t c c.main hc.1 hc.2.2) rfl rfl ?_ | (refine wp_cond_k rfl rfl rfl ?_ ?_ <;> intro _) | (refine wp_cond_i rfl ?_ ?_ <;> intro _))
  any_goals (refine ret_m [] rfl rfl ?_; simp_all [codeB]; done)
  any_goals (refine ret_m [] rfl rfl ?_; simp_all [codeB]; omega)
  have hcl := hc.1
  refine wp_loop_k (α := Nat) [.keep [1, 3] [1]] (fun k => [(3, iA k)]) (fun _ => []) (fun _ => []) (fun k => k ≤ c.funs.length ∧ asc ((lamsL c.funs).drop (k - 1)) = asc (lamsL c.funs) ∧ allP c.funs (c.funs.drop k) = allP c.funs c.funs) (fun k => c.funs.length - k) 0 rfl (fun _ => rfl) rfl ⟨by simp, by simp, by simp⟩ ?_
  rintro k ⟨hk, hA, hI⟩
  by_cases hlt : k < c.funs.length
  · have hx : (c.funs.map (Piece.c false))[k]? = some (Piece.c false c.funs[k]) := map_at hlt
    have hy : (c.funs.map (Piece.c false))[k - 1]? = some (Piece.c false (c.funs[k - 1]'(by omega))) := map_at (by omega)
    have hpo := hc.2.1 _ (List.getElem_mem hlt)
    rw [allP_step hlt] at hI
    have hkk : decide ((k : Int) > 0) = true → IntKind.i64.wrap ((k : Int) - 1) = ((k - 1 : Nat) : Int) := by intro h; simp at h; rw [w_pred] <;> omega
    have hA1 : 0 < k → asc (lamsL c.funs) = (decide ((c.funs[k - 1]'(by omega)).lam < c.funs[k].lam) && asc ((lamsL c.funs).drop k)) := by
      intro h
      obtain ⟨j, rfl⟩ : ∃ j, k = j + 1 := ⟨k - 1, by omega⟩
      rw [← hA]; exact lams_step hlt
    have hA0 : k = 0 → asc ((lamsL c.funs).drop k) = asc (lamsL c.funs) := by rintro rfl; simp
    repeat' (first
       | refine wp_seq_i ?_ | refine wp_region_t k_CodeOkS rfl ?_ | refine Run.done rfl ?_ | refine then_n ?_ | refine then_r ?_ | refine then_e ?_ | refine Run.go1 rfl ?_ | refine wp_skip_i ?_ | refine wp_ret_i ?_
       | refine wp_exit_i ?_ | refine wp_block_i ?_ | refine block_n ?_ | refine block_r ?_ | refine block_e ?_ | refine block_o rfl ?_ | refine wp_cond_t rfl ?_ | refine wp_cond_f rfl ?_
       | refine wp_region_qt k_CodeOkS rfl 30 (by decide +kernel) rfl rfl ?_ | refine wp_region_qt k_CodeOkS rfl 29 (by decide +kernel) rfl rfl ?_ | refine wp_region_qt k_CodeOkS rfl 28 (by decide +kernel) rfl rfl ?_
       | refine wp_region_qt k_CodeOkS rfl 27 (by decide +kernel) rfl rfl ?_ | refine wp_region_qt k_CodeOkS rfl 26 (by decide +kernel) rfl rfl ?_ | refine wp_region_qt k_CodeOkS rfl 25 (by decide +kernel) rfl rfl ?_
       | refine wp_region_qt k_CodeOkS rfl 24 (by decide +kernel) rfl rfl ?_ | refine RunQ.go1 rfl ?_ | refine RunQ.done rfl ?_ | refine Run.gT rfl rfl rfl rfl ?_ | refine Run.pT rfl rfl ?_
       | (refine Run.splitG rfl rfl rfl rfl rfl rfl ?_ ?_ <;> intro _) | (refine Run.splitP rfl rfl rfl rfl ?_ ?_ <;> intro _) | refine RunQ.gT rfl rfl rfl rfl ?_ | refine RunQ.pT rfl rfl ?_
       | (refine RunQ.splitG rfl rfl rfl rfl rfl rfl ?_ ?_ <;> intro _) | (refine RunQ.splitP rfl rfl rfl rfl ?_ ?_ <;> intro _) | refine Run.ix rfl rfl rfl rfl rfl rfl rfl hx rfl rfl rfl ?_
       | refine RunQ.ix rfl rfl rfl rfl rfl rfl rfl hx rfl rfl rfl ?_ | refine RunQ.ix rfl rfl rfl rfl rfl rfl (hkk (by assumption)) hy rfl rfl rfl ?_ | refine Run.call rfl rfl rfl (l9Piece_t _ hpo) rfl rfl ?_
       | refine Run.call rfl rfl rfl (l9Lams_t c _ hcl hpo) rfl rfl ?_ | refine RunQ.call rfl rfl rfl rfl rfl rfl (l9Piece_t _ hpo) (.inl rfl) rfl rfl ?_
       | refine RunQ.call rfl rfl rfl rfl rfl rfl (l9Lams_t c _ hcl hpo) (.inl rfl) rfl rfl ?_ | (refine wp_cond_k rfl rfl rfl ?_ ?_ <;> intro _) | (refine wp_cond_i rfl ?_ ?_ <;> intro _))
    all_goals first
    | (rename_i h; simp [hlt] at h; done)
    | (exfalso; clear hA0 hA1 hA hI; simp_all; done)
    | (refine ret_m [] rfl rfl ?_
       have hl : (0 < k ∧ ¬ (c.funs[k - 1]'(by omega)).lam < c.funs[k].lam) ∨ fB c.funs c.funs[k] = false := by
         clear hA0 hA1 hA hI
         rcases Nat.eq_zero_or_pos k with h0 | h0
         · right; simp_all [fB]
         · simp_all [fB]
       rcases hl with ⟨h0, hl⟩ | hl
       · have := hA1 h0; simp [hl] at this; simp [codeB, this]
       · rw [hl] at hI; simp [codeB, ← hI])
    | (refine back_i [.keep [1, 3] [1]] (k + 1) rfl ?_ ⟨by omega, ?_, ?_⟩ (by omega)
       · simp only [w_succ hlt (by omega)]
       · rcases Nat.eq_zero_or_pos k with h0 | h0
         · exact hA0 h0
         · have hq := hA1 h0
           have hl : (c.funs[k - 1]'(by omega)).lam < c.funs[k].lam := by clear hA0 hA1 hA hI hq; simp_all
           rw [hq]; simp [hl]
       · have hl : fB c.funs c.funs[k] = true := by clear hA0 hA1 hA hI; simp_all [fB]
         rw [← hI, hl, Bool.true_and])
  · have hk : k = c.funs.length := by omega
    subst hk
    have hA : asc (lamsL c.funs) = true := by rw [← hA]; exact asc_end (by simp; omega)
    simp [allP] at hI
    repeat' (first
       | refine wp_seq_i ?_ | refine wp_region_t k_CodeOkS rfl ?_ | refine Run.done rfl ?_ | refine then_n ?_ | refine then_r ?_ | refine then_e ?_ | refine Run.go1 rfl ?_ | refine wp_skip_i ?_ | refine wp_ret_i ?_
       | refine wp_exit_i ?_ | refine wp_block_i ?_ | refine block_n ?_ | refine block_r ?_ | refine block_e ?_ | refine block_o rfl ?_ | refine wp_cond_t rfl ?_ | refine wp_cond_f rfl ?_
       | (refine wp_cond_k rfl rfl rfl ?_ ?_ <;> intro _) | (refine wp_cond_i rfl ?_ ?_ <;> intro _))
    · rename_i h; simp at h
    · refine ret_m [] rfl rfl ?_; simp_all [codeB, allP]
end Go.Proofs
