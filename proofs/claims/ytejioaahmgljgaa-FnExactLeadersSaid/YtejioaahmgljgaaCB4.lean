import Derived.Test.YtejioaahmgljgaaCB3
import Derived.Test.YtejioaahmgljgaaCAsc
import Derived.Test.YtejioaahmgljgaaCL9c
set_option linter.unusedVariables false
set_option linter.unusedSimpArgs false
set_option maxHeartbeats 4000000
namespace Go.Proofs
open Go Go.Ev
set_option maxRecDepth 100000
variable {X : Rel3}
theorem shrI_b (l : List Int) : shrR (l.map iR) = l.map iR := by
  induction l with
  | nil => rfl
  | cons x r ih => simp [shrR, shrL, T.shr, ih]
theorem ownI_b (l : List Int) : ownR (l.map iR) := by
  induction l with
  | nil => simp [ownR]
  | cons x r ih => simp [ownR, ownL, T.own, ih]
theorem l10Add_s (l : List Int) (n : Int) (hl : l.length ≤ 1000000000000) : Tells Try.prog E0 X 75 [.t (.sl false (shrR (l.map iR))), iA n] (.t (.sl true ((addGo n false l).map iR))) := by rw [shrI_b]; exact l10Add_t l n hl
def jumpB (op : Int) : Bool := uT op || op == 15 || op == 16 || op == 14
/-- the leaders that an instruction makes -/
def leadAdd (n i : Nat) (x : Ins) : List Int := (if uT x.op then [x.to_] else []) ++ (if jumpB x.op && decide (i + 1 < n) then [((i + 1 : Nat) : Int)] else [])
def addL (c l : List Int) : List Int := l.foldl (fun a m => addGo m false a) c
def leadGo (n : Nat) : List Ins → Nat → List Int → List Int
  | [], _, c => c
  | x :: r, i, c => leadGo n r (i + 1) (addL c (leadAdd n i x))
def leads (l : List Ins) : List Int := leadGo l.length l 0 [0]
theorem addL_len : ∀ (l c : List Int), (addL c l).length ≤ c.length + l.length
  | [], c => by simp [addL]
  | x :: r, c => by
    have h1 := addGo_len x false c
    have h2 := addL_len r (addGo x false c)
    simp [addL] at h1 h2 ⊢; omega
theorem leadAdd_len (n i : Nat) (x : Ins) : (leadAdd n i x).length ≤ 2 := by unfold leadAdd; split <;> split <;> simp
theorem leadGo_len (n : Nat) : ∀ (l : List Ins) (i : Nat) (c : List Int), (leadGo n l i c).length ≤ c.length + 2 * l.length
  | [], _, c => by simp [leadGo]
  | x :: r, i, c => by
    have h1 := leadGo_len n r (i + 1) (addL c (leadAdd n i x))
    have h2 := addL_len (leadAdd n i x) c
    have h3 := leadAdd_len n i x
    rw [leadGo]; simp only [List.length_cons]; omega
theorem leads_len (l : List Ins) : (leads l).length ≤ 1 + 2 * l.length := by have := leadGo_len l.length l 0 [0]; simpa [leads] using this
def k_l20Lead : List (Nat × List Nat) := [(0, [1]), (1, [1, 3]), (2, [1, 3, 4]), (3, [1, 3, 4, 12]), (4, [1, 3, 4]), (5, [1, 3, 4, 5]), (6, [1, 3, 4, 5, 6]), (7, [1, 3, 4, 5, 6, 24]), (8, [1, 3, 4, 5, 6]), (9, [1, 3, 4, 52]), (10, [1, 3, 4]), (11, [2])]
theorem l20Lead_t (p : Piece) (hp : p.ins.length ≤ 1048576) : Tells Try.prog E0 X 55 [p.a false] (.t (.sl true ((leads p.ins).map iR))) := by
  refine Tells.by Try.func55 (by simp [Try.f55]) (Body.i rfl rfl rfl (fun _ => rfl) fun f => ?_)
  repeat' (first
     | refine wp_seq_i ?_ | refine wp_region_t k_l20Lead rfl ?_ | refine Run.done rfl ?_ | refine then_n ?_ | refine then_r ?_ | refine then_e ?_ | refine Run.go1 rfl ?_ | refine wp_skip_i ?_ | refine wp_ret_i ?_
     | refine wp_exit_i ?_ | refine wp_block_i ?_ | refine block_n ?_ | refine block_r ?_ | refine block_e ?_ | refine block_o rfl ?_ | refine wp_cond_t rfl ?_ | refine wp_cond_f rfl ?_
     | (refine wp_cond_k rfl rfl rfl ?_ ?_ <;> intro _) | (refine wp_cond_i rfl ?_ ?_ <;> intro _))
  refine wp_loop_k (α := Nat × List Int) [.keep [1, 3, 4] [1, 7]] (fun q => [(4, iA q.1)]) (fun _ => []) (fun q => [(7, 0, q.2.map iR)]) (fun q => q.1 ≤ p.ins.length ∧ q.2.length ≤ 2 * q.1 + 1 ∧ leadGo p.ins.length (p.ins.drop q.1) q.1 q.2 = leads p.ins) (fun q => p.ins.length - q.1) (0, [0]) rfl (fun _ => rfl) rfl ⟨by simp, by simp, rfl⟩ ?_
  rintro ⟨k, c⟩ ⟨hk, hc, he⟩
  simp only at hk hc he
  by_cases hlt : k < p.ins.length
  · have hx : (p.ins.map (Ins.c false))[k]? = some (Ins.c false p.ins[k]) := by simp [hlt]
    rw [List.drop_eq_getElem_cons hlt, leadGo] at he
    generalize p.ins[k] = i at hx he
    have hw := w_succ hlt (by omega)
    repeat' (first
       | refine wp_seq_i ?_ | refine wp_region_t k_l20Lead rfl ?_ | refine Run.done rfl ?_ | refine then_n ?_ | refine then_r ?_ | refine then_e ?_ | refine Run.go1 rfl ?_ | refine wp_skip_i ?_ | refine wp_ret_i ?_
       | refine wp_exit_i ?_ | refine wp_block_i ?_ | refine block_n ?_ | refine block_r ?_ | refine block_e ?_ | refine block_o rfl ?_ | refine wp_cond_t rfl ?_ | refine wp_cond_f rfl ?_ | refine Run.gT rfl rfl rfl rfl ?_
       | refine Run.pT rfl rfl ?_ | (refine Run.splitG rfl rfl rfl rfl rfl rfl ?_ ?_ <;> intro _) | (refine Run.splitP rfl rfl rfl rfl ?_ ?_ <;> intro _) | refine Run.ix rfl rfl rfl rfl rfl rfl rfl hx rfl rfl rfl ?_
       | refine Run.call rfl rfl rfl (l9Uses_t _) rfl rfl ?_ | refine Run.callB rfl rfl rfl (l10Add_s _ _ (by simp; have := addGo_len i.to_ false c; simp at this; omega)) (by simp [AV.own, T.own, ownI_b]) rfl ?_
       | refine Run.callB rfl rfl rfl (l10Add_s _ _ (by simp; omega)) (by simp [AV.own, T.own, ownI_b]) rfl ?_ | (refine wp_cond_k rfl rfl rfl ?_ ?_ <;> intro _) | (refine wp_cond_i rfl ?_ ?_ <;> intro _))
    all_goals first
    | (exfalso; clear he hx; simp_all; done)
    | (have hA : leadAdd p.ins.length k i = [i.to_, ((k + 1 : Nat) : Int)] := by (clear he hx; simp only [hw, List.length_map] at *; simp_all [leadAdd, jumpB] <;> omega)
       have hl := addL_len (leadAdd p.ins.length k i) c
       rw [hA] at he hl
       refine back_i [.keep [1, 3, 4] [1, 56], .ren 56 7] (k + 1, addL c [i.to_, ((k + 1 : Nat) : Int)]) rfl ?_ ⟨by simp; omega, by simp at hl ⊢; omega, he⟩ (by simp; omega)
       simp only [hw, addL, List.foldl_cons, List.foldl_nil]; done)
    | (have hA : leadAdd p.ins.length k i = [((k + 1 : Nat) : Int)] := by (clear he hx; simp only [hw, List.length_map] at *; simp_all [leadAdd, jumpB] <;> omega)
       have hl := addL_len (leadAdd p.ins.length k i) c
       rw [hA] at he hl
       refine back_i [.keep [1, 3, 4] [1, 56], .ren 56 7] (k + 1, addL c [((k + 1 : Nat) : Int)]) rfl ?_ ⟨by simp; omega, by simp at hl ⊢; omega, he⟩ (by simp; omega)
       simp only [hw, addL, List.foldl_cons, List.foldl_nil]; done)
    | (have hA : leadAdd p.ins.length k i = [i.to_] := by (clear he hx; simp only [hw, List.length_map] at *; simp_all [leadAdd, jumpB] <;> omega)
       have hl := addL_len (leadAdd p.ins.length k i) c
       rw [hA] at he hl
       refine back_i [.keep [1, 3, 4] [1, 28], .ren 28 7] (k + 1, addL c [i.to_]) rfl ?_ ⟨by simp; omega, by simp at hl ⊢; omega, he⟩ (by simp; omega)
       simp only [hw, addL, List.foldl_cons, List.foldl_nil]; done)
    | (have hA : leadAdd p.ins.length k i = [] := by (clear he hx; simp only [hw, List.length_map] at *; simp_all [leadAdd, jumpB] <;> omega)
       have hl := addL_len (leadAdd p.ins.length k i) c
       rw [hA] at he hl
       refine back_i [.keep [1, 3, 4] [1, 7]] (k + 1, addL c []) rfl ?_ ⟨by simp; omega, by simp at hl ⊢; omega, he⟩ (by simp; omega)
       simp only [hw, addL, List.foldl_cons, List.foldl_nil]; done)
    | trace_state
  · have hjl : k = p.ins.length := by omega
    subst hjl
    rw [List.drop_length, leadGo] at he
    repeat' (first
       | refine wp_seq_i ?_ | refine wp_region_t k_l20Lead rfl ?_ | refine Run.done rfl ?_ | refine then_n ?_ | refine then_r ?_ | refine then_e ?_ | refine Run.go1 rfl ?_ | refine wp_skip_i ?_ | refine wp_ret_i ?_
       | refine wp_exit_i ?_ | refine wp_block_i ?_ | refine block_n ?_ | refine block_r ?_ | refine block_e ?_ | refine block_o rfl ?_ | refine wp_cond_t rfl ?_ | refine wp_cond_f rfl ?_
       | (refine wp_cond_k rfl rfl rfl ?_ ?_ <;> intro _) | (refine wp_cond_i rfl ?_ ?_ <;> intro _))
    all_goals first
    | (exfalso; simp at *; done)
    | (refine ret_m [] rfl rfl ?_; rw [← he]; done)
    | trace_state
end Go.Proofs
