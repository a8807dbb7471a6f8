import Derived.Test.YtejioaahmgljgaaCB5
import Derived.Test.YtejioaahmgljgaaCI4
set_option linter.unusedVariables false
set_option linter.unusedSimpArgs false
set_option maxHeartbeats 4000000
namespace Go.Proofs
open Go Go.Ev
set_option maxRecDepth 100000
variable {X : Rel3}
theorem blockOfI_s (l : List Int) (i : Int) (hl : l.length ≤ 1000000000000) : Tells Try.prog E0 X 58 [.t (.sl false (shrR (l.map iR))), iA i] (iA (blkI i (l.drop 1) 0 : Nat)) := by rw [shrI_b]; exact blockOfI_t l i hl
def k_LeadI : List (Nat × List Nat) := [(0, [1]), (1, [1, 9]), (2, [2]), (3, [1, 3]), (4, [1, 3, 12, 13, 14]), (5, [1, 3, 12, 13, 14, 15]), (6, [1, 3, 4, 5, 12, 13, 14]), (7, [1, 3, 4, 5, 6, 12, 13, 14]), (8, [1, 3, 4, 5, 6, 12, 13, 14, 22]), (9, [1, 3, 4, 5, 6, 12, 13, 14]), (10, [1, 3, 4, 12, 13, 14, 51]), (11, [1, 3, 12, 13, 14]), (12, [1, 3, 12, 13, 14]), (13, [2])]
theorem LeadersI_t (p : Piece) (hp : p.ok) : Tells Try.prog E0 XS 26 [p.a false] (.t (.sl true ((leadsB p).map iR))) := by
  have hpl := hp.1
  have hal := addsGo_len p.ins.length p.ins 0
  refine Tells.by Try.func26 (by simp [Try.f26]) (Body.i rfl rfl rfl (fun _ => rfl) fun f => ?_)
  repeat' (first
     | refine wp_seq_i ?_ | refine wp_region_t k_LeadI rfl ?_ | refine Run.done rfl ?_ | refine then_n ?_ | refine then_r ?_ | refine then_e ?_ | refine Run.go1 rfl ?_ | refine wp_skip_i ?_ | refine wp_ret_i ?_
     | refine wp_exit_i ?_ | refine wp_block_i ?_ | refine block_n ?_ | refine block_r ?_ | refine block_e ?_ | refine block_o rfl ?_ | refine wp_cond_t rfl ?_ | refine wp_cond_f rfl ?_
     | refine Run.call rfl rfl rfl (pieceOk_t p hp) rfl rfl ?_ | (refine wp_cond_k rfl rfl rfl ?_ ?_ <;> intro _) | (refine wp_cond_i rfl ?_ ?_ <;> intro _))
  · rename_i h
    refine ret_m [.nilT 2 7] rfl rfl ?_
    simp_all [leadsB]
  rename_i h
  have hpb : pieceB p = true := by simpa using h
  refine wp_loop_k (α := Nat × List Int) [.keep [1, 3, 12, 13, 14] [1, 10]] (fun q => [(14, iA q.1)]) (fun _ => []) (fun q => [(10, 0, q.2.map iR)]) (fun q => q.1 ≤ p.ins.length ∧ q.2.length ≤ 2 * q.1 + 1 ∧ q.2 ++ addsGo p.ins.length (p.ins.drop q.1) q.1 = 0 :: addsGo p.ins.length p.ins 0) (fun q => p.ins.length - q.1) (0, [0]) rfl (fun _ => rfl) rfl ⟨by simp, by simp, by simp⟩ ?_
  rintro ⟨k, c⟩ ⟨hk, hc, he⟩
  simp only at hk hc he
  by_cases hlt : k < p.ins.length
  · have hx : (p.ins.map (Ins.c false))[k]? = some (Ins.c false p.ins[k]) := by simp [hlt]
    rw [List.drop_eq_getElem_cons hlt, addsGo] at he
    generalize p.ins[k] = i at hx he
    have hw := w_succ hlt (by omega)
    repeat' (first
       | refine wp_seq_i ?_ | refine wp_region_t k_LeadI rfl ?_ | refine Run.done rfl ?_ | refine then_n ?_ | refine then_r ?_ | refine then_e ?_ | refine Run.go1 rfl ?_ | refine wp_skip_i ?_ | refine wp_ret_i ?_
       | refine wp_exit_i ?_ | refine wp_block_i ?_ | refine block_n ?_ | refine block_r ?_ | refine block_e ?_ | refine block_o rfl ?_ | refine wp_cond_t rfl ?_ | refine wp_cond_f rfl ?_ | refine Run.gT rfl rfl rfl rfl ?_
       | refine Run.pT rfl rfl ?_ | (refine Run.splitG rfl rfl rfl rfl rfl rfl ?_ ?_ <;> intro _) | (refine Run.splitP rfl rfl rfl rfl ?_ ?_ <;> intro _) | refine Run.ix rfl rfl rfl rfl rfl rfl rfl hx rfl rfl rfl ?_
       | refine Run.call rfl rfl rfl (hasT_t _) rfl rfl ?_
       | refine Run.cnd rfl rfl rfl ⟨by simp; omega, (by intro r hr; simp at hr; first | (rcases hr with ⟨a, _, rfl⟩ | rfl <;> rfl) | (obtain ⟨a, _, rfl⟩ := hr; rfl) | (rcases hr with (⟨a, _, rfl⟩ | rfl) | rfl <;> rfl)), by simp, .inl rfl, by simp [flatT]⟩ ?_
       | (refine wp_cond_k rfl rfl rfl ?_ ?_ <;> intro _) | (refine wp_cond_i rfl ?_ ?_ <;> intro _))
    all_goals first
    | (exfalso; clear he hx; simp_all; done)
    | (have hA : leadAdd p.ins.length k i = [i.to_, ((k + 1 : Nat) : Int)] := by (clear he hx; simp only [hw, List.length_map] at *; simp_all [leadAdd, jumpB] <;> omega)
       rw [hA] at he
       refine back_i [.keep [1, 3, 12, 13, 14] [1, 56], .ren 56 10] (k + 1, c ++ [i.to_, ((k + 1 : Nat) : Int)]) rfl ?_ ⟨by simp; omega, by simp; omega, by simpa using he⟩ (by simp; omega)
       simp only [hw, List.map_append, List.map_cons, List.map_nil, List.append_nil, List.append_assoc, List.cons_append, List.nil_append]; try rfl; done)
    | (have hA : leadAdd p.ins.length k i = [((k + 1 : Nat) : Int)] := by (clear he hx; simp only [hw, List.length_map] at *; simp_all [leadAdd, jumpB] <;> omega)
       rw [hA] at he
       refine back_i [.keep [1, 3, 12, 13, 14] [1, 56], .ren 56 10] (k + 1, c ++ [((k + 1 : Nat) : Int)]) rfl ?_ ⟨by simp; omega, by simp; omega, by simpa using he⟩ (by simp; omega)
       simp only [hw, List.map_append, List.map_cons, List.map_nil, List.append_nil, List.append_assoc, List.cons_append, List.nil_append]; try rfl; done)
    | (have hA : leadAdd p.ins.length k i = [i.to_] := by (clear he hx; simp only [hw, List.length_map] at *; simp_all [leadAdd, jumpB] <;> omega)
       rw [hA] at he
       refine back_i [.keep [1, 3, 12, 13, 14] [1, 27], .ren 27 10] (k + 1, c ++ [i.to_]) rfl ?_ ⟨by simp; omega, by simp; omega, by simpa using he⟩ (by simp; omega)
       simp only [hw, List.map_append, List.map_cons, List.map_nil, List.append_nil, List.append_assoc, List.cons_append, List.nil_append]; try rfl; done)
    | (have hA : leadAdd p.ins.length k i = [] := by (clear he hx; simp only [hw, List.length_map] at *; simp_all [leadAdd, jumpB] <;> omega)
       rw [hA] at he
       refine back_i [.keep [1, 3, 12, 13, 14] [1, 10]] (k + 1, c ++ []) rfl ?_ ⟨by simp; omega, by simp; omega, by simpa using he⟩ (by simp; omega)
       simp only [hw, List.map_append, List.map_cons, List.map_nil, List.append_nil, List.append_assoc, List.cons_append, List.nil_append]; try rfl; done)
    | trace_state
  · have hjl : k = p.ins.length := by omega
    subst hjl
    rw [List.drop_length, addsGo, List.append_nil] at he
    repeat' (first
       | refine wp_seq_i ?_ | refine wp_region_t k_LeadI rfl ?_ | refine Run.done rfl ?_ | refine then_n ?_ | refine then_r ?_ | refine then_e ?_ | refine Run.go1 rfl ?_ | refine wp_skip_i ?_ | refine wp_ret_i ?_
       | refine wp_exit_i ?_ | refine wp_block_i ?_ | refine block_n ?_ | refine block_r ?_ | refine block_e ?_ | refine block_o rfl ?_ | refine wp_cond_t rfl ?_ | refine wp_cond_f rfl ?_
       | refine Run.call rfl rfl rfl (ascending_t c (by omega)) rfl rfl ?_ | (refine wp_cond_k rfl rfl rfl ?_ ?_ <;> intro _) | (refine wp_cond_i rfl ?_ ?_ <;> intro _))
    all_goals first
    | (exfalso; simp at *; done)
    | (refine ret_m [] rfl rfl ?_; rw [he, leads_eq]; simp [leadsB, hpb]; done)
    | trace_state
def k_BlockI : List (Nat × List Nat) := [(0, [1, 2]), (1, [1, 2, 5]), (2, [1, 5, 19]), (3, [4]), (4, [4])]
theorem BlockOfI_t (p : Piece) (i : Int) (hp : p.ok) : Tells Try.prog E0 XS 23 [p.a false, iA i] (iA (blockB p i)) := by
  have hpl := hp.1
  have hll := leadsB_len p hp
  have hw : IntKind.i64.wrap (((p.ins.map (Ins.c false)).length : Int) - 1) = (p.ins.length : Int) - 1 := by rw [List.length_map, w64] <;> omega
  refine Tells.by Try.func23 (by simp [Try.f23]) (Body.i rfl rfl rfl (fun _ => rfl) fun f => ?_)
  repeat' (first
     | refine wp_seq_i ?_ | refine wp_region_t k_BlockI rfl ?_ | refine Run.done rfl ?_ | refine then_n ?_ | refine then_r ?_ | refine then_e ?_ | refine Run.go1 rfl ?_ | refine wp_skip_i ?_ | refine wp_ret_i ?_
     | refine wp_exit_i ?_ | refine wp_block_i ?_ | refine block_n ?_ | refine block_r ?_ | refine block_e ?_ | refine block_o rfl ?_ | refine wp_cond_t rfl ?_ | refine wp_cond_f rfl ?_ | refine Run.gT rfl rfl rfl rfl ?_
     | refine Run.pT rfl rfl ?_ | (refine Run.splitG rfl rfl rfl rfl rfl rfl ?_ ?_ <;> intro _) | (refine Run.splitP rfl rfl rfl rfl ?_ ?_ <;> intro _) | refine Run.call rfl rfl rfl (LeadersI_t p hp) rfl rfl ?_
     | refine Run.call rfl rfl rfl (in_t _ _ _) rfl rfl ?_ | refine Run.callB rfl rfl rfl (blockOfI_s _ _ (by omega)) (by simp [AV.own, T.own, ownI_b]) rfl ?_ | (refine wp_cond_k rfl rfl rfl ?_ ?_ <;> intro _)
     | (refine wp_cond_i rfl ?_ ?_ <;> intro _))
  any_goals (refine ret_m [] rfl rfl ?_; simp_all [blockB]; done)
  all_goals (
    have hn : (leads p.ins).length ≠ 0 := fun h => by have := leads_zero p.ins; rw [List.length_eq_zero_iff.1 h] at this; cases this
    cases hpb : pieceB p
    · first
      | (exfalso; simp_all [leadsB]; done)
      | (refine ret_m [] rfl rfl ?_; simp_all [blockB]; done)
    · first
      | (exfalso; simp_all [leadsB]; done)
      | (refine ret_m [] rfl rfl ?_; simp_all [blockB, leadsB]; done))
end Go.Proofs
