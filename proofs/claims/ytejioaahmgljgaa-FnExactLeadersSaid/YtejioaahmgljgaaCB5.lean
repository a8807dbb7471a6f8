import Derived.Test.YtejioaahmgljgaaCB4
import Derived.Test.YtejioaahmgljgaaCSort
set_option linter.unusedVariables false
set_option linter.unusedSimpArgs false
set_option maxHeartbeats 4000000
namespace Go.Proofs
open Go Go.Ev
set_option maxRecDepth 100000
variable {X : Rel3}
theorem ascending_t (l : List Int) (hz : l.length < 4611686018427387904) : Tells Try.prog E0 XS 62 [.t (.sl true (l.map iR))] (.t (.sl true ((ascOf l).map iR))) := by
  refine Tells.by Try.func62 (by simp [Try.f62]) (Body.i rfl rfl rfl (fun _ => rfl) fun f => ?_)
  repeat' (first
     | refine wp_seq_i ?_ | refine wp_region_i ?_ | refine Run.done rfl ?_ | refine then_n ?_ | refine then_r ?_ | refine then_e ?_ | refine Run.go1 rfl ?_ | refine wp_skip_i ?_ | refine wp_ret_i ?_ | refine wp_exit_i ?_
     | refine wp_block_i ?_ | refine block_n ?_ | refine block_r ?_ | refine block_e ?_ | refine block_o rfl ?_ | refine wp_cond_t rfl ?_ | refine wp_cond_f rfl ?_ | refine Run.call rfl rfl rfl (Sort_t l hz) rfl rfl ?_
     | refine Run.call rfl rfl rfl (Compact_t _ (by simp; omega)) rfl rfl ?_ | (refine wp_cond_k rfl rfl rfl ?_ ?_ <;> intro _) | (refine wp_cond_i rfl ?_ ?_ <;> intro _))
  refine ret_m [] rfl rfl rfl
def addsGo (n : Nat) : List Ins → Nat → List Int
  | [], _ => []
  | x :: r, i => leadAdd n i x ++ addsGo n r (i + 1)
theorem addL_app (c a b : List Int) : addL (addL c a) b = addL c (a ++ b) := by simp [addL]
theorem leadGo_eq (n : Nat) : ∀ (l : List Ins) (i : Nat) (c : List Int), leadGo n l i c = addL c (addsGo n l i)
  | [], _, c => rfl
  | x :: r, i, c => by rw [leadGo, leadGo_eq n r, addL_app, addsGo]
theorem addL_asc : ∀ (l c : List Int), Asc c → Asc (addL c l)
  | [], c, h => h
  | x :: r, c, h => addL_asc r _ (addGo_asc x c h)
theorem addL_mem : ∀ (l c : List Int) (x : Int), x ∈ addL c l ↔ x ∈ c ∨ x ∈ l
  | [], c, x => by simp [addL]
  | y :: r, c, x => by
    have h := addL_mem r (addGo y false c) x
    rw [addGo_mem] at h
    simp only [addL, List.foldl_cons] at h ⊢
    rw [h]
    by_cases e : x = y <;> simp [e]
theorem leads_eq (l : List Ins) : ascOf (0 :: addsGo l.length l 0) = leads l := by
  refine asc_ext (ascOf_asc _) (by rw [leads, leadGo_eq]; exact addL_asc _ _ (by simp [Asc])) fun x => ?_
  rw [ascOf_mem, leads, leadGo_eq, addL_mem]; simp
theorem leads_asc (l : List Ins) : Asc (leads l) := by rw [← leads_eq]; exact ascOf_asc _
theorem leads_zero (l : List Ins) : 0 ∈ leads l := by rw [← leads_eq, ascOf_mem]; simp
theorem blk_none (i : Int) : ∀ (l : List Int) (k : Nat) (b : Int), (∀ x ∈ l, i < x) → blk i l k b = b
  | [], _, _, _ => rfl
  | x :: r, k, b, h => by
    have := h x (List.mem_cons_self ..)
    rw [blk, if_neg (by omega)]; exact blk_none i r _ _ fun y hy => h y (List.mem_cons_of_mem _ hy)
theorem blk_asc (i : Int) : ∀ (l : List Int) (k : Nat), Asc l → blk i l (k + 1) k = blkI i l k
  | [], _, _ => rfl
  | x :: r, k, h => by
    obtain ⟨h1, h2⟩ := List.pairwise_cons.1 h
    by_cases hx : x ≤ i
    · have := blk_asc i r (k + 1) h2
      rw [blk, if_pos hx, blkI, if_pos hx, ← this]
    · rw [blk, if_neg hx, blkI, if_neg hx]; exact blk_none i r _ _ fun y hy => by have := h1 y hy; omega
theorem blk_leads (l : List Ins) (i : Int) (hi : 0 ≤ i) : blk i (leads l) 0 (-1) = blkI i ((leads l).drop 1) 0 := by
  have ha := leads_asc l
  have h0 := leads_zero l
  generalize leads l = m at ha h0
  cases m with
  | nil => cases h0
  | cons y r =>
    obtain ⟨h1, h2⟩ := List.pairwise_cons.1 ha
    have hy : y ≤ i := by
      rcases List.mem_cons.1 h0 with e | h
      · omega
      · have := h1 0 h; omega
    rw [blk, if_pos hy]
    exact blk_asc i r 0 h2
def leadsB (p : Piece) : List Int := if pieceB p then leads p.ins else []
def blockB (p : Piece) (i : Int) : Int := if pieceB p && rng i 0 (p.ins.length - 1) then blkI i ((leads p.ins).drop 1) 0 else -1
theorem leadsB_len (p : Piece) (hp : p.ok) : (leadsB p).length ≤ 3000000 := by
  have := leads_len p.ins
  have := hp.1
  unfold leadsB; split <;> simp; omega
theorem addsGo_len (n : Nat) : ∀ (l : List Ins) (i : Nat), (addsGo n l i).length ≤ 2 * l.length
  | [], _ => by simp [addsGo]
  | x :: r, i => by
    have h1 := addsGo_len n r (i + 1)
    have h3 := leadAdd_len n i x
    rw [addsGo]; simp only [List.length_cons, List.length_append]; omega
def k_LeadS : List (Nat × List Nat) := [(0, [1]), (1, [1, 5]), (2, [2]), (3, [2])]
theorem LeadersS_t (p : Piece) (hp : p.ok) : Tells Try.prog E0 X 25 [p.a false] (.t (.sl true ((leadsB p).map iR))) := by
  refine Tells.by Try.func25 (by simp [Try.f25]) (Body.i rfl rfl rfl (fun _ => rfl) fun f => ?_)
  repeat' (first
     | refine wp_seq_i ?_ | refine wp_region_t k_LeadS rfl ?_ | refine Run.done rfl ?_ | refine then_n ?_ | refine then_r ?_ | refine then_e ?_ | refine Run.go1 rfl ?_ | refine wp_skip_i ?_ | refine wp_ret_i ?_
     | refine wp_exit_i ?_ | refine wp_block_i ?_ | refine block_n ?_ | refine block_r ?_ | refine block_e ?_ | refine block_o rfl ?_ | refine wp_cond_t rfl ?_ | refine wp_cond_f rfl ?_
     | refine Run.call rfl rfl rfl (l9Piece_t p hp) rfl rfl ?_ | refine Run.call rfl rfl rfl (l20Lead_t p hp.1) rfl rfl ?_ | (refine wp_cond_k rfl rfl rfl ?_ ?_ <;> intro _) | (refine wp_cond_i rfl ?_ ?_ <;> intro _))
  all_goals first
  | (refine ret_m [] rfl rfl ?_; simp_all [leadsB]; done)
  | trace_state
theorem l20BlockOf_s (l : List Int) (i : Int) (hl : l.length ≤ 1000000000000) : Tells Try.prog E0 X 54 [.t (.sl false (shrR (l.map iR))), iA i] (iA (blk i l 0 (-1))) := by rw [shrI_b]; exact l20BlockOf_t l i hl
def k_BlockS : List (Nat × List Nat) := [(0, [1, 2]), (1, [1, 2, 16]), (2, [4]), (3, [4])]
theorem BlockOfS_t (p : Piece) (i : Int) (hp : p.ok) : Tells Try.prog E0 X 21 [p.a false, iA i] (iA (blockB p i)) := by
  have hpl := hp.1
  have hll := leads_len p.ins
  have hw : IntKind.i64.wrap (((p.ins.map (Ins.c false)).length : Int) - 1) = (p.ins.length : Int) - 1 := by rw [List.length_map, w64] <;> omega
  refine Tells.by Try.func21 (by simp [Try.f21]) (Body.i rfl rfl rfl (fun _ => rfl) fun f => ?_)
  repeat' (first
     | refine wp_seq_i ?_ | refine wp_region_t k_BlockS rfl ?_ | refine Run.done rfl ?_ | refine then_n ?_ | refine then_r ?_ | refine then_e ?_ | refine Run.go1 rfl ?_ | refine wp_skip_i ?_ | refine wp_ret_i ?_
     | refine wp_exit_i ?_ | refine wp_block_i ?_ | refine block_n ?_ | refine block_r ?_ | refine block_e ?_ | refine block_o rfl ?_ | refine wp_cond_t rfl ?_ | refine wp_cond_f rfl ?_ | refine Run.gT rfl rfl rfl rfl ?_
     | refine Run.pT rfl rfl ?_ | (refine Run.splitG rfl rfl rfl rfl rfl rfl ?_ ?_ <;> intro _) | (refine Run.splitP rfl rfl rfl rfl ?_ ?_ <;> intro _) | refine Run.call rfl rfl rfl (l9Piece_t p hp) rfl rfl ?_
     | refine Run.call rfl rfl rfl (l1In_t _ _ _) rfl rfl ?_ | refine Run.call rfl rfl rfl (l20Lead_t p hp.1) rfl rfl ?_ | refine Run.callB rfl rfl rfl (l20BlockOf_s _ _ (by omega)) (by simp [AV.own, T.own, ownI_b]) rfl ?_
     | (refine wp_cond_k rfl rfl rfl ?_ ?_ <;> intro _) | (refine wp_cond_i rfl ?_ ?_ <;> intro _))
  all_goals first
  | (refine ret_m [] rfl rfl ?_; simp_all [blockB]; done)
  | (refine ret_m [] rfl rfl ?_
     have hr : rng i 0 (p.ins.length - 1) = true := by simp_all
     have hp' : pieceB p = true := by simp_all
     rw [blk_leads _ _ (rng_iff.1 hr).1]; simp [blockB, hp', hr]; done)
  | trace_state
end Go.Proofs
