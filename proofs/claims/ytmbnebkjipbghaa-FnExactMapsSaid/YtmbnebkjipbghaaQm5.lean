import Derived.Test.YtmbnebkjipbghaaQm4
import Derived.Test.YtmbnebkjipbghaaRows
import Derived.WalkKit
import Derived.ProofKit
import Derived.OpenShut
import Derived.ShutString
import Derived.ChangeOld
import Derived.Below
import Derived.SizedLaws
set_option linter.unusedVariables false
set_option linter.unusedSimpArgs false
set_option maxHeartbeats 4000000
namespace Go.Proofs
open Go Go.Ev
set_option maxRecDepth 100000
variable {X : Rel3}
theorem wmax (s : List Int) (h : s.length ≤ 9223372036854775807) : (if IntKind.i64.wrap (((s.map iR).length : Int) - 1) > 0 then IntKind.i64.wrap (((s.map iR).length : Int) - 1) else 0) = ((s.length - 1 : Nat) : Int) := by
  rw [List.length_map, w64 (by omega) (by omega)]
  split <;> omega
theorem cutMax (s : List Int) (h : s.length ≤ 9223372036854775807) : (List.take (if IntKind.i64.wrap (((s.map iR).length : Int) - 1) > 0 then IntKind.i64.wrap (((s.map iR).length : Int) - 1) else 0).toNat (s.map iR)) = s.dropLast.map iR := by
  rw [wmax s h, Int.toNat_natCast, List.dropLast_eq_take, List.map_take]
def k_guardOf : List (Nat × List Nat) := [(0, [1, 2]), (1, [1, 2, 14]), (2, [4]), (3, [1, 2, 5]), (4, [5, 19, 20, 21]), (5, [5, 19, 20, 21, 22]), (6, [5, 6, 7, 19, 20, 21]), (7, [5, 6, 19, 20, 21, 27]), (8, [5, 6, 19, 20, 21, 27, 28]), (9, [5, 19, 20, 21]), (10, [5, 19, 20, 21, 34]), (11, [5, 19, 20, 21]), (12, [5, 19, 20, 21]), (13, [5, 45]), (14, [4]), (15, [4])]
theorem guardOf_t (p : Piece) (i : Nat) (hp : p.ins.length ≤ 1048576) (hi : i < p.ins.length) : Tells Try.prog E0 X 50 [p.a false, iA i] (iA (guardI p.ins i)) := by
  have hrng : rng i 0 (IntKind.i64.wrap (((p.ins.map (Ins.c false)).length : Int) - 1)) = true := by rw [List.length_map, w64 (by omega) (by omega)]; simp [rng]; omega
  have hll : ((((p.ins.map (Ins.c false)).take (Int.toNat (i : Int))).drop (Int.toNat 0)).length) = i := by simp; omega
  refine Tells.by Try.func50 (by simp [Try.f50]) (Body.i rfl rfl rfl (fun _ => rfl) fun f => ?_)
  repeat' (first
     | refine wp_seq_i ?_ | refine wp_region_t k_guardOf rfl ?_ | refine Run.done rfl ?_ | refine then_n ?_ | refine then_r ?_ | refine then_e ?_ | refine Run.go1 rfl ?_ | refine wp_skip_i ?_ | refine wp_ret_i ?_
     | refine wp_exit_i ?_ | refine wp_block_i ?_ | refine block_n ?_ | refine block_r ?_ | refine block_e ?_ | refine block_o rfl ?_ | refine wp_cond_t rfl ?_ | refine wp_cond_f rfl ?_
     | refine Run.call rfl rfl rfl (in_t _ _ _) rfl rfl ?_ | refine Run.csl rfl rfl rfl ⟨by decide, by omega, by simp; omega, by simp⟩ rfl ?_ | (refine wp_cond_k rfl rfl rfl ?_ ?_ <;> intro _)
     | (refine wp_cond_i rfl ?_ ?_ <;> intro _))
  any_goals (exfalso; rename_i h; rw [hrng] at h; simp at h; done)
  refine wp_loop_k (α := Nat × List Int × Nat) [.keep [5, 19, 20, 21] [15]] (fun z => [(21, iA z.1)]) (fun _ => []) (fun z => [(15, ⟨z.2.2, none⟩, z.2.1.map iR)]) (fun z => z.1 ≤ i ∧ z.2.1.length ≤ z.1 ∧ (z.2.2 = 0 ∨ z.2.2 = 1) ∧ guardGo ((p.ins.take i).drop z.1) z.1 z.2.1 = guardGo (p.ins.take i) 0 []) (fun z => i - z.1) (0, [], 0) rfl (fun _ => rfl) rfl ⟨by simp, by simp, by simp, by simp⟩ ?_
  rintro ⟨k, s, q⟩ ⟨hk, hsl, hq, he⟩
  simp only at hk hsl hq he
  have hti : (p.ins.take i).length = i := by simp; omega
  by_cases hlt : k < i
  · have hx : (((p.ins.map (Ins.c false)).take (Int.toNat (i : Int))).drop (Int.toNat 0))[k]? = some (Ins.c false (p.ins[k]'(by omega))) := by
      rw [Int.toNat_natCast, Int.toNat_zero, List.drop_zero, List.getElem?_take, if_pos hlt]; exact map_at (by omega)
    have hdr : (p.ins.take i).drop k = (p.ins[k]'(by omega)) :: (p.ins.take i).drop (k + 1) := by
      rw [List.drop_eq_getElem_cons (by rw [hti]; exact hlt)]; simp
    rw [hdr, guardGo] at he
    generalize (p.ins[k]'(by omega)) = x at hx he
    have hw := w_succ hlt (by omega)
    repeat' (first
       | refine wp_seq_i ?_ | refine wp_region_t k_guardOf rfl ?_ | refine Run.done rfl ?_ | refine then_n ?_ | refine then_r ?_ | refine then_e ?_ | refine Run.go1 rfl ?_ | refine wp_skip_i ?_ | refine wp_ret_i ?_
       | refine wp_exit_i ?_ | refine wp_block_i ?_ | refine block_n ?_ | refine block_r ?_ | refine block_e ?_ | refine block_o rfl ?_ | refine wp_cond_t rfl ?_ | refine wp_cond_f rfl ?_ | refine Run.gT rfl rfl rfl rfl ?_
       | refine Run.pT rfl rfl ?_ | (refine Run.splitG rfl rfl rfl rfl rfl rfl ?_ ?_ <;> intro _) | (refine Run.splitP rfl rfl rfl rfl ?_ ?_ <;> intro _) | refine Run.ix rfl rfl rfl rfl rfl rfl rfl hx rfl rfl rfl ?_
       | refine Run.cnd rfl rfl rfl ⟨by first | (simp; done) | (simp; omega), (by intro r hr; first | (simp at hr; done) | skip; simp at hr; first | (rcases hr with ⟨a, _, rfl⟩ | rfl <;> rfl) | (obtain ⟨a, _, rfl⟩ := hr; rfl) | (subst hr; rfl)), by simp, by first | exact .inl rfl | exact hq, by simp [flatT]⟩ ?_
       | refine Run.cnd2 rfl rfl rfl ⟨by decide, by rw [wmax s (by omega)]; omega, by rw [wmax s (by omega)]; simp, by simp, by first | exact .inl rfl | exact hq, by decide⟩ ?_ | (refine wp_cond_k rfl rfl rfl ?_ ?_ <;> intro _)
       | (refine wp_cond_i rfl ?_ ?_ <;> intro _))
    all_goals first
    | (exfalso; clear he hx hdr; simp only [hll, beq_iff_eq, beq_eq_false_iff_ne, decide_eq_true_eq, decide_eq_false_iff_not] at *; omega)
    | (rename_i h17
       refine back_i [.keep [5, 19, 20, 21] [33], .ren 33 15] (k + 1, s ++ [(k : Int)], q) rfl ?_ ⟨by simp; omega, by simp; omega, by simpa using hq, by rw [← he, if_pos (by simpa using h17)]⟩ (by simp; omega)
       simp only [hw, List.map_append, List.map_cons, List.map_nil]; try rfl; done)
    | (refine back_i [.keep [5, 19, 20, 21] [41], .ren 41 15] (k + 1, s.dropLast, 1) rfl ?_ ⟨by simp; omega, by simp; omega, by simp, ?_⟩ (by simp; omega)
       · simp only [hw, Int.toNat_zero, List.drop_zero]; rw [cutMax s (by omega)]; try rfl
       · rw [← he, if_neg (by simp_all), if_pos (by simp_all)]; done)
    | (refine back_i [.keep [5, 19, 20, 21] [15]] (k + 1, s, q) rfl ?_ ⟨by simp; omega, by simp; omega, by simpa using hq, ?_⟩ (by simp; omega)
       · simp only [hw]; try rfl
       · rw [← he, if_neg (by simp_all), if_neg (by simp_all)]; done)
    | trace_state
  · have hki : k = i := by omega
    subst hki
    rw [List.drop_of_length_le (by omega), guardGo] at he
    have hg : guardI p.ins k = lastI s := by rw [guardI, he]
    by_cases hs : 0 < s.length
    · have hx2 : (s.map iR)[s.length - 1]? = some (iR s[s.length - 1]) := map_at (by omega)
      have hl := lastI_at hs
      repeat' (first
         | refine wp_seq_i ?_ | refine wp_region_t k_guardOf rfl ?_ | refine Run.done rfl ?_ | refine then_n ?_ | refine then_r ?_ | refine then_e ?_ | refine Run.go1 rfl ?_ | refine wp_skip_i ?_ | refine wp_ret_i ?_
         | refine wp_exit_i ?_ | refine wp_block_i ?_ | refine block_n ?_ | refine block_r ?_ | refine block_e ?_ | refine block_o rfl ?_ | refine wp_cond_t rfl ?_ | refine wp_cond_f rfl ?_ | refine Run.gT rfl rfl rfl rfl ?_
         | refine Run.pT rfl rfl ?_ | (refine Run.splitG rfl rfl rfl rfl rfl rfl ?_ ?_ <;> intro _) | (refine Run.splitP rfl rfl rfl rfl ?_ ?_ <;> intro _)
         | refine Run.ix rfl rfl rfl rfl rfl rfl (wlen s hs (by omega)) hx2 rfl rfl rfl ?_ | refine Run.ldr rfl rfl rfl hx2 rfl rfl ?_ | (refine wp_cond_k rfl rfl rfl ?_ ?_ <;> intro _) | (refine wp_cond_i rfl ?_ ?_ <;> intro _))
      all_goals first
      | (exfalso; clear he; simp only [hll, List.length_map, beq_iff_eq, beq_eq_false_iff_ne, decide_eq_true_eq, decide_eq_false_iff_not] at *; omega)
      | (refine ret_m [] rfl rfl ?_; rw [hg, hl]; done)
      | trace_state
    · have hl := lastI_nil hs
      repeat' (first
         | refine wp_seq_i ?_ | refine wp_region_t k_guardOf rfl ?_ | refine Run.done rfl ?_ | refine then_n ?_ | refine then_r ?_ | refine then_e ?_ | refine Run.go1 rfl ?_ | refine wp_skip_i ?_ | refine wp_ret_i ?_
         | refine wp_exit_i ?_ | refine wp_block_i ?_ | refine block_n ?_ | refine block_r ?_ | refine block_e ?_ | refine block_o rfl ?_ | refine wp_cond_t rfl ?_ | refine wp_cond_f rfl ?_ | refine Run.gT rfl rfl rfl rfl ?_
         | refine Run.pT rfl rfl ?_ | (refine Run.splitG rfl rfl rfl rfl rfl rfl ?_ ?_ <;> intro _) | (refine Run.splitP rfl rfl rfl rfl ?_ ?_ <;> intro _) | (refine wp_cond_k rfl rfl rfl ?_ ?_ <;> intro _)
         | (refine wp_cond_i rfl ?_ ?_ <;> intro _))
      all_goals first
      | (exfalso; clear he; simp only [hll, List.length_map, beq_iff_eq, beq_eq_false_iff_ne, decide_eq_true_eq, decide_eq_false_iff_not] at *; omega)
      | (refine ret_m [] rfl rfl ?_; rw [hg, hl]; done)
      | trace_state
def k_ways : List (Nat × List Nat) := [(0, [1, 2]), (1, [1, 5]), (2, [1, 5, 6]), (3, [1, 5, 6, 25]), (4, [1, 5, 6]), (5, [1, 6, 43]), (6, [6]), (7, [4])]
theorem ways_t (p : Piece) (i : Nat) (x : Ins) (hp : p.ins.length ≤ 1048576) (hx0 : p.ins[i]? = some x) : Tells Try.prog E0 X 49 [p.a false, iA i] (.t (.sl true ((waysL x i).map iR))) := by
  have hi : i < p.ins.length := (List.getElem?_eq_some_iff.1 hx0).1
  have hx : (p.ins.map (Ins.c false))[i]? = some (Ins.c false x) := by rw [List.getElem?_map, hx0]; rfl
  have hw := w_succ hi (by omega)
  refine Tells.by Try.func49 (by simp [Try.f49]) (Body.i rfl rfl rfl (fun _ => rfl) fun f => ?_)
  repeat' (first
     | refine wp_seq_i ?_ | refine wp_region_t k_ways rfl ?_ | refine Run.done rfl ?_ | refine then_n ?_ | refine then_r ?_ | refine then_e ?_ | refine Run.go1 rfl ?_ | refine wp_skip_i ?_ | refine wp_ret_i ?_
     | refine wp_exit_i ?_ | refine wp_block_i ?_ | refine block_n ?_ | refine block_r ?_ | refine block_e ?_ | refine block_o rfl ?_ | refine wp_cond_t rfl ?_ | refine wp_cond_f rfl ?_ | refine Run.gT rfl rfl rfl rfl ?_
     | refine Run.pT rfl rfl ?_ | (refine Run.splitG rfl rfl rfl rfl rfl rfl ?_ ?_ <;> intro _) | (refine Run.splitP rfl rfl rfl rfl ?_ ?_ <;> intro _) | refine Run.ix rfl rfl rfl rfl rfl rfl rfl hx rfl rfl rfl ?_
     | refine Run.cnd rfl rfl rfl ⟨by first | (simp; done) | (simp; omega), (by intro r hr; first | (simp at hr; done) | skip; simp at hr; first | (rcases hr with ⟨a, _, rfl⟩ | rfl <;> rfl) | (obtain ⟨a, _, rfl⟩ := hr; rfl) | (subst hr; rfl)), by simp, by first | exact .inl rfl | exact hq, by simp [flatT]⟩ ?_
     | (refine wp_cond_k rfl rfl rfl ?_ ?_ <;> intro _) | (refine wp_cond_i rfl ?_ ?_ <;> intro _))
  all_goals first
  | (exfalso; clear hx hx0; simp_all; done)
  | (refine ret_m [] rfl rfl ?_
     clear hx hx0
     rw [hw] at *
     simp_all [waysL]; done)
  | (refine ret_m [] rfl rfl ?_
     clear hx hx0
     simp_all [waysL]; done)
  | trace_state
theorem waysL_len (x : Ins) (i : Nat) : (waysL x i).length ≤ 2 := by
  unfold waysL
  split <;> split <;> simp
def k_NextsI : List (Nat × List Nat) := [(0, [1, 2]), (1, [1, 2, 13]), (2, [4]), (3, [1, 2, 5]), (4, [1, 2, 5, 6]), (5, [2, 5, 6, 30]), (6, [5]), (7, [5]), (8, [4])]
end Go.Proofs

set_option linter.unusedVariables false
set_option linter.unusedSimpArgs false
set_option maxHeartbeats 4000000
namespace Go.Proofs
open Go Go.Ev
set_option maxRecDepth 100000
variable {X : Rel3}
def k_WritesI : List (Nat × List Nat) := [(0, [1]), (1, [1, 10]), (2, [2]), (3, [2])]
theorem WritesI_t (x : Ins) : Tells Try.prog E0 X 68 [x.a false] (iA (wrI x)) := by
  have hD := partD x.op
  refine Tells.by Try.func68 (by simp [Try.f68]) (Body.i rfl rfl rfl (fun _ => rfl) fun f => ?_)
  repeat' (first
     | refine wp_seq_i ?_ | refine wp_region_t k_WritesI rfl ?_ | refine Run.done rfl ?_ | refine then_n ?_ | refine then_r ?_ | refine then_e ?_ | refine Run.go1 rfl ?_ | refine wp_skip_i ?_ | refine wp_ret_i ?_
     | refine wp_exit_i ?_ | refine wp_block_i ?_ | refine block_n ?_ | refine block_r ?_ | refine block_e ?_ | refine block_o rfl ?_ | refine wp_cond_t rfl ?_ | refine wp_cond_f rfl ?_ | refine Run.gT rfl rfl rfl rfl ?_
     | refine Run.pT rfl rfl ?_ | (refine Run.splitG rfl rfl rfl rfl rfl rfl ?_ ?_ <;> intro _) | (refine Run.splitP rfl rfl rfl rfl ?_ ?_ <;> intro _) | refine Run.call rfl rfl rfl (hasPart_t _ _) rfl rfl ?_
     | refine Run.one rfl rfl rfl ?_ | (refine wp_cond_k rfl rfl rfl ?_ ?_ <;> intro _) | (refine wp_cond_i rfl ?_ ?_ <;> intro _))
  all_goals (refine ret_m [] rfl rfl ?_; first | (simp_all [wrI]; done) | trace_state)
def k_ReadsI : List (Nat × List Nat) := [(0, [1]), (1, [1, 3]), (2, [1, 3, 7]), (3, [1, 3]), (4, [1, 3, 15]), (5, [1, 3]), (6, [1, 3, 23]), (7, [3]), (8, [3]), (9, [2])]
theorem ReadsI_t (x : Ins) (hl : x.l.length ≤ 1048576) : Tells Try.prog E0 XS 70 [x.a false] (.t (.sl true ((rdsL x).map iR))) := by
  have hX := partX x.op
  have hY := partY x.op
  have hr : rdsL x = ascOf ((if uX x.op then [x.x] else []) ++ (if uY x.op then [x.y] else []) ++ (if x.op = 8 then x.l else [])) := rfl
  have hSo : ∀ l : List Int, l.length ≤ 4000000 → Tells Try.prog E0 XS 74 [.t (.sl true (l.map iR))] (.io [.tp [], .t (.sl true ((l.mergeSort fun x y => decide (x ≤ y)).map iR))]) := fun l h => Sort_t l (by omega)
  have hCo : ∀ l : List Int, l.length ≤ 4000000 → Tells Try.prog E0 XS 75 [.t (.sl true ((l.mergeSort fun x y => decide (x ≤ y)).map iR))] (.t (.sl true ((ascOf l).map iR))) := fun l h => Compact_t _ (by simp; omega)
  by_cases eX : uX x.op = true <;> by_cases eY : uY x.op = true <;> by_cases e8 : x.op = 8
  · have hL : rdsL x = ascOf ([x.x, x.y] ++ x.l) := by rw [hr, if_pos eX, if_pos eY, if_pos e8]; rfl
    have hm : ([[T.sc (.int .i64 x.x)], [T.sc (.int .i64 x.y)]] ++ x.l.map iR : List (List T)) = ([x.x, x.y] ++ x.l).map iR := by simp
    have hS1 : Tells Try.prog E0 XS 74 [.t (.sl true ([[T.sc (.int .i64 x.x)], [T.sc (.int .i64 x.y)]] ++ x.l.map iR))] (.io [.tp [], .t (.sl true ((([x.x, x.y] ++ x.l).mergeSort fun x y => decide (x ≤ y)).map iR))]) := by rw [hm]; exact hSo _ (by simp <;> omega)
    have hC1 := hCo ([x.x, x.y] ++ x.l) (by simp <;> omega)
    refine Tells.by Try.func70 (by simp [Try.f70]) (Body.i rfl rfl rfl (fun _ => rfl) fun f => ?_)
    repeat' (first
       | refine wp_seq_i ?_ | refine wp_region_t k_ReadsI rfl ?_ | refine Run.done rfl ?_ | refine then_n ?_ | refine then_r ?_ | refine then_e ?_ | refine Run.go1 rfl ?_ | refine wp_skip_i ?_ | refine wp_ret_i ?_
       | refine wp_exit_i ?_ | refine wp_block_i ?_ | refine block_n ?_ | refine block_r ?_ | refine block_e ?_ | refine block_o rfl ?_ | refine wp_cond_t rfl ?_ | refine wp_cond_f rfl ?_ | refine Run.gT rfl rfl rfl rfl ?_
       | refine Run.pT rfl rfl ?_ | (refine Run.splitG rfl rfl rfl rfl rfl rfl ?_ ?_ <;> intro _) | (refine Run.splitP rfl rfl rfl rfl ?_ ?_ <;> intro _) | refine Run.call rfl rfl rfl (hasPart_t _ _) rfl rfl ?_
       | refine Run.cnd rfl rfl rfl ⟨by first | (simp; done) | (simp; omega), by first | (simp; done) | trace_state, by first | (simp; done) | (intro r hr; obtain ⟨a, _, rfl⟩ := List.mem_map.1 hr; rfl), by first | exact .inl rfl | exact .inr rfl, by simp [flatT]⟩ ?_
       | refine Run.call rfl rfl rfl (hS1) rfl rfl ?_ | refine Run.call rfl rfl rfl (hC1) rfl rfl ?_ | (refine wp_cond_k rfl rfl rfl ?_ ?_ <;> intro _) | (refine wp_cond_i rfl ?_ ?_ <;> intro _))
    all_goals first
    | (refine ret_m [] rfl rfl ?_; rw [hL]; done)
    | (exfalso; clear hS1 hC1 hSo hCo hL hm hr; simp_all; done)
    | trace_state
  · have hL : rdsL x = ascOf ([x.x, x.y]) := by rw [hr, if_pos eX, if_pos eY, if_neg e8]; rfl
    have hm : ([[T.sc (.int .i64 x.x)], [T.sc (.int .i64 x.y)]] : List (List T)) = ([x.x, x.y]).map iR := by simp
    have hS1 : Tells Try.prog E0 XS 74 [.t (.sl true ([[T.sc (.int .i64 x.x)], [T.sc (.int .i64 x.y)]]))] (.io [.tp [], .t (.sl true ((([x.x, x.y]).mergeSort fun x y => decide (x ≤ y)).map iR))]) := by rw [hm]; exact hSo _ (by simp <;> omega)
    have hC1 := hCo ([x.x, x.y]) (by simp <;> omega)
    refine Tells.by Try.func70 (by simp [Try.f70]) (Body.i rfl rfl rfl (fun _ => rfl) fun f => ?_)
    repeat' (first
       | refine wp_seq_i ?_ | refine wp_region_t k_ReadsI rfl ?_ | refine Run.done rfl ?_ | refine then_n ?_ | refine then_r ?_ | refine then_e ?_ | refine Run.go1 rfl ?_ | refine wp_skip_i ?_ | refine wp_ret_i ?_
       | refine wp_exit_i ?_ | refine wp_block_i ?_ | refine block_n ?_ | refine block_r ?_ | refine block_e ?_ | refine block_o rfl ?_ | refine wp_cond_t rfl ?_ | refine wp_cond_f rfl ?_ | refine Run.gT rfl rfl rfl rfl ?_
       | refine Run.pT rfl rfl ?_ | (refine Run.splitG rfl rfl rfl rfl rfl rfl ?_ ?_ <;> intro _) | (refine Run.splitP rfl rfl rfl rfl ?_ ?_ <;> intro _) | refine Run.call rfl rfl rfl (hasPart_t _ _) rfl rfl ?_
       | refine Run.cnd rfl rfl rfl ⟨by first | (simp; done) | (simp; omega), by first | (simp; done) | trace_state, by first | (simp; done) | (intro r hr; obtain ⟨a, _, rfl⟩ := List.mem_map.1 hr; rfl), by first | exact .inl rfl | exact .inr rfl, by simp [flatT]⟩ ?_
       | refine Run.call rfl rfl rfl (hS1) rfl rfl ?_ | refine Run.call rfl rfl rfl (hC1) rfl rfl ?_ | (refine wp_cond_k rfl rfl rfl ?_ ?_ <;> intro _) | (refine wp_cond_i rfl ?_ ?_ <;> intro _))
    all_goals first
    | (refine ret_m [] rfl rfl ?_; rw [hL]; done)
    | (exfalso; clear hS1 hC1 hSo hCo hL hm hr; simp_all; done)
    | trace_state
  · have hL : rdsL x = ascOf ([x.x] ++ x.l) := by rw [hr, if_pos eX, if_neg eY, if_pos e8]; rfl
    have hm : ([[T.sc (.int .i64 x.x)]] ++ x.l.map iR : List (List T)) = ([x.x] ++ x.l).map iR := by simp
    have hS1 : Tells Try.prog E0 XS 74 [.t (.sl true ([[T.sc (.int .i64 x.x)]] ++ x.l.map iR))] (.io [.tp [], .t (.sl true ((([x.x] ++ x.l).mergeSort fun x y => decide (x ≤ y)).map iR))]) := by rw [hm]; exact hSo _ (by simp <;> omega)
    have hC1 := hCo ([x.x] ++ x.l) (by simp <;> omega)
    refine Tells.by Try.func70 (by simp [Try.f70]) (Body.i rfl rfl rfl (fun _ => rfl) fun f => ?_)
    repeat' (first
       | refine wp_seq_i ?_ | refine wp_region_t k_ReadsI rfl ?_ | refine Run.done rfl ?_ | refine then_n ?_ | refine then_r ?_ | refine then_e ?_ | refine Run.go1 rfl ?_ | refine wp_skip_i ?_ | refine wp_ret_i ?_
       | refine wp_exit_i ?_ | refine wp_block_i ?_ | refine block_n ?_ | refine block_r ?_ | refine block_e ?_ | refine block_o rfl ?_ | refine wp_cond_t rfl ?_ | refine wp_cond_f rfl ?_ | refine Run.gT rfl rfl rfl rfl ?_
       | refine Run.pT rfl rfl ?_ | (refine Run.splitG rfl rfl rfl rfl rfl rfl ?_ ?_ <;> intro _) | (refine Run.splitP rfl rfl rfl rfl ?_ ?_ <;> intro _) | refine Run.call rfl rfl rfl (hasPart_t _ _) rfl rfl ?_
       | refine Run.cnd rfl rfl rfl ⟨by first | (simp; done) | (simp; omega), by first | (simp; done) | trace_state, by first | (simp; done) | (intro r hr; obtain ⟨a, _, rfl⟩ := List.mem_map.1 hr; rfl), by first | exact .inl rfl | exact .inr rfl, by simp [flatT]⟩ ?_
       | refine Run.call rfl rfl rfl (hS1) rfl rfl ?_ | refine Run.call rfl rfl rfl (hC1) rfl rfl ?_ | (refine wp_cond_k rfl rfl rfl ?_ ?_ <;> intro _) | (refine wp_cond_i rfl ?_ ?_ <;> intro _))
    all_goals first
    | (refine ret_m [] rfl rfl ?_; rw [hL]; done)
    | (exfalso; clear hS1 hC1 hSo hCo hL hm hr; simp_all; done)
    | trace_state
  · have hL : rdsL x = ascOf ([x.x]) := by rw [hr, if_pos eX, if_neg eY, if_neg e8]; rfl
    have hm : ([[T.sc (.int .i64 x.x)]] : List (List T)) = ([x.x]).map iR := by simp
    have hS1 : Tells Try.prog E0 XS 74 [.t (.sl true ([[T.sc (.int .i64 x.x)]]))] (.io [.tp [], .t (.sl true ((([x.x]).mergeSort fun x y => decide (x ≤ y)).map iR))]) := by rw [hm]; exact hSo _ (by simp <;> omega)
    have hC1 := hCo ([x.x]) (by simp <;> omega)
    refine Tells.by Try.func70 (by simp [Try.f70]) (Body.i rfl rfl rfl (fun _ => rfl) fun f => ?_)
    repeat' (first
       | refine wp_seq_i ?_ | refine wp_region_t k_ReadsI rfl ?_ | refine Run.done rfl ?_ | refine then_n ?_ | refine then_r ?_ | refine then_e ?_ | refine Run.go1 rfl ?_ | refine wp_skip_i ?_ | refine wp_ret_i ?_
       | refine wp_exit_i ?_ | refine wp_block_i ?_ | refine block_n ?_ | refine block_r ?_ | refine block_e ?_ | refine block_o rfl ?_ | refine wp_cond_t rfl ?_ | refine wp_cond_f rfl ?_ | refine Run.gT rfl rfl rfl rfl ?_
       | refine Run.pT rfl rfl ?_ | (refine Run.splitG rfl rfl rfl rfl rfl rfl ?_ ?_ <;> intro _) | (refine Run.splitP rfl rfl rfl rfl ?_ ?_ <;> intro _) | refine Run.call rfl rfl rfl (hasPart_t _ _) rfl rfl ?_
       | refine Run.cnd rfl rfl rfl ⟨by first | (simp; done) | (simp; omega), by first | (simp; done) | trace_state, by first | (simp; done) | (intro r hr; obtain ⟨a, _, rfl⟩ := List.mem_map.1 hr; rfl), by first | exact .inl rfl | exact .inr rfl, by simp [flatT]⟩ ?_
       | refine Run.call rfl rfl rfl (hS1) rfl rfl ?_ | refine Run.call rfl rfl rfl (hC1) rfl rfl ?_ | (refine wp_cond_k rfl rfl rfl ?_ ?_ <;> intro _) | (refine wp_cond_i rfl ?_ ?_ <;> intro _))
    all_goals first
    | (refine ret_m [] rfl rfl ?_; rw [hL]; done)
    | (exfalso; clear hS1 hC1 hSo hCo hL hm hr; simp_all; done)
    | trace_state
  · have hL : rdsL x = ascOf ([x.y] ++ x.l) := by rw [hr, if_neg eX, if_pos eY, if_pos e8]; rfl
    have hm : ([[T.sc (.int .i64 x.y)]] ++ x.l.map iR : List (List T)) = ([x.y] ++ x.l).map iR := by simp
    have hS1 : Tells Try.prog E0 XS 74 [.t (.sl true ([[T.sc (.int .i64 x.y)]] ++ x.l.map iR))] (.io [.tp [], .t (.sl true ((([x.y] ++ x.l).mergeSort fun x y => decide (x ≤ y)).map iR))]) := by rw [hm]; exact hSo _ (by simp <;> omega)
    have hC1 := hCo ([x.y] ++ x.l) (by simp <;> omega)
    refine Tells.by Try.func70 (by simp [Try.f70]) (Body.i rfl rfl rfl (fun _ => rfl) fun f => ?_)
    repeat' (first
       | refine wp_seq_i ?_ | refine wp_region_t k_ReadsI rfl ?_ | refine Run.done rfl ?_ | refine then_n ?_ | refine then_r ?_ | refine then_e ?_ | refine Run.go1 rfl ?_ | refine wp_skip_i ?_ | refine wp_ret_i ?_
       | refine wp_exit_i ?_ | refine wp_block_i ?_ | refine block_n ?_ | refine block_r ?_ | refine block_e ?_ | refine block_o rfl ?_ | refine wp_cond_t rfl ?_ | refine wp_cond_f rfl ?_ | refine Run.gT rfl rfl rfl rfl ?_
       | refine Run.pT rfl rfl ?_ | (refine Run.splitG rfl rfl rfl rfl rfl rfl ?_ ?_ <;> intro _) | (refine Run.splitP rfl rfl rfl rfl ?_ ?_ <;> intro _) | refine Run.call rfl rfl rfl (hasPart_t _ _) rfl rfl ?_
       | refine Run.cnd rfl rfl rfl ⟨by first | (simp; done) | (simp; omega), by first | (simp; done) | trace_state, by first | (simp; done) | (intro r hr; obtain ⟨a, _, rfl⟩ := List.mem_map.1 hr; rfl), by first | exact .inl rfl | exact .inr rfl, by simp [flatT]⟩ ?_
       | refine Run.call rfl rfl rfl (hS1) rfl rfl ?_ | refine Run.call rfl rfl rfl (hC1) rfl rfl ?_ | (refine wp_cond_k rfl rfl rfl ?_ ?_ <;> intro _) | (refine wp_cond_i rfl ?_ ?_ <;> intro _))
    all_goals first
    | (refine ret_m [] rfl rfl ?_; rw [hL]; done)
    | (exfalso; clear hS1 hC1 hSo hCo hL hm hr; simp_all; done)
    | trace_state
  · have hL : rdsL x = ascOf ([x.y]) := by rw [hr, if_neg eX, if_pos eY, if_neg e8]; rfl
    have hm : ([[T.sc (.int .i64 x.y)]] : List (List T)) = ([x.y]).map iR := by simp
    have hS1 : Tells Try.prog E0 XS 74 [.t (.sl true ([[T.sc (.int .i64 x.y)]]))] (.io [.tp [], .t (.sl true ((([x.y]).mergeSort fun x y => decide (x ≤ y)).map iR))]) := by rw [hm]; exact hSo _ (by simp <;> omega)
    have hC1 := hCo ([x.y]) (by simp <;> omega)
    refine Tells.by Try.func70 (by simp [Try.f70]) (Body.i rfl rfl rfl (fun _ => rfl) fun f => ?_)
    repeat' (first
       | refine wp_seq_i ?_ | refine wp_region_t k_ReadsI rfl ?_ | refine Run.done rfl ?_ | refine then_n ?_ | refine then_r ?_ | refine then_e ?_ | refine Run.go1 rfl ?_ | refine wp_skip_i ?_ | refine wp_ret_i ?_
       | refine wp_exit_i ?_ | refine wp_block_i ?_ | refine block_n ?_ | refine block_r ?_ | refine block_e ?_ | refine block_o rfl ?_ | refine wp_cond_t rfl ?_ | refine wp_cond_f rfl ?_ | refine Run.gT rfl rfl rfl rfl ?_
       | refine Run.pT rfl rfl ?_ | (refine Run.splitG rfl rfl rfl rfl rfl rfl ?_ ?_ <;> intro _) | (refine Run.splitP rfl rfl rfl rfl ?_ ?_ <;> intro _) | refine Run.call rfl rfl rfl (hasPart_t _ _) rfl rfl ?_
       | refine Run.cnd rfl rfl rfl ⟨by first | (simp; done) | (simp; omega), by first | (simp; done) | trace_state, by first | (simp; done) | (intro r hr; obtain ⟨a, _, rfl⟩ := List.mem_map.1 hr; rfl), by first | exact .inl rfl | exact .inr rfl, by simp [flatT]⟩ ?_
       | refine Run.call rfl rfl rfl (hS1) rfl rfl ?_ | refine Run.call rfl rfl rfl (hC1) rfl rfl ?_ | (refine wp_cond_k rfl rfl rfl ?_ ?_ <;> intro _) | (refine wp_cond_i rfl ?_ ?_ <;> intro _))
    all_goals first
    | (refine ret_m [] rfl rfl ?_; rw [hL]; done)
    | (exfalso; clear hS1 hC1 hSo hCo hL hm hr; simp_all; done)
    | trace_state
  · have hL : rdsL x = ascOf ([] ++ x.l) := by rw [hr, if_neg eX, if_neg eY, if_pos e8]; rfl
    have hm : ([] ++ x.l.map iR : List (List T)) = ([] ++ x.l).map iR := by simp
    have hS1 : Tells Try.prog E0 XS 74 [.t (.sl true ([] ++ x.l.map iR))] (.io [.tp [], .t (.sl true ((([] ++ x.l).mergeSort fun x y => decide (x ≤ y)).map iR))]) := by rw [hm]; exact hSo _ (by simp <;> omega)
    have hC1 := hCo ([] ++ x.l) (by simp <;> omega)
    refine Tells.by Try.func70 (by simp [Try.f70]) (Body.i rfl rfl rfl (fun _ => rfl) fun f => ?_)
    repeat' (first
       | refine wp_seq_i ?_ | refine wp_region_t k_ReadsI rfl ?_ | refine Run.done rfl ?_ | refine then_n ?_ | refine then_r ?_ | refine then_e ?_ | refine Run.go1 rfl ?_ | refine wp_skip_i ?_ | refine wp_ret_i ?_
       | refine wp_exit_i ?_ | refine wp_block_i ?_ | refine block_n ?_ | refine block_r ?_ | refine block_e ?_ | refine block_o rfl ?_ | refine wp_cond_t rfl ?_ | refine wp_cond_f rfl ?_ | refine Run.gT rfl rfl rfl rfl ?_
       | refine Run.pT rfl rfl ?_ | (refine Run.splitG rfl rfl rfl rfl rfl rfl ?_ ?_ <;> intro _) | (refine Run.splitP rfl rfl rfl rfl ?_ ?_ <;> intro _) | refine Run.call rfl rfl rfl (hasPart_t _ _) rfl rfl ?_
       | refine Run.cnd rfl rfl rfl ⟨by first | (simp; done) | (simp; omega), by first | (simp; done) | trace_state, by first | (simp; done) | (intro r hr; obtain ⟨a, _, rfl⟩ := List.mem_map.1 hr; rfl), by first | exact .inl rfl | exact .inr rfl, by simp [flatT]⟩ ?_
       | refine Run.call rfl rfl rfl (hS1) rfl rfl ?_ | refine Run.call rfl rfl rfl (hC1) rfl rfl ?_ | (refine wp_cond_k rfl rfl rfl ?_ ?_ <;> intro _) | (refine wp_cond_i rfl ?_ ?_ <;> intro _))
    all_goals first
    | (refine ret_m [] rfl rfl ?_; rw [hL]; done)
    | (exfalso; clear hS1 hC1 hSo hCo hL hm hr; simp_all; done)
    | trace_state
  · have hL : rdsL x = ascOf ([]) := by rw [hr, if_neg eX, if_neg eY, if_neg e8]; rfl
    have hm : ([] : List (List T)) = ([]).map iR := by simp
    have hS1 : Tells Try.prog E0 XS 74 [.t (.sl true ([]))] (.io [.tp [], .t (.sl true ((([]).mergeSort fun x y => decide (x ≤ y)).map iR))]) := by rw [hm]; exact hSo _ (by simp <;> omega)
    have hC1 := hCo ([]) (by simp <;> omega)
    refine Tells.by Try.func70 (by simp [Try.f70]) (Body.i rfl rfl rfl (fun _ => rfl) fun f => ?_)
    repeat' (first
       | refine wp_seq_i ?_ | refine wp_region_t k_ReadsI rfl ?_ | refine Run.done rfl ?_ | refine then_n ?_ | refine then_r ?_ | refine then_e ?_ | refine Run.go1 rfl ?_ | refine wp_skip_i ?_ | refine wp_ret_i ?_
       | refine wp_exit_i ?_ | refine wp_block_i ?_ | refine block_n ?_ | refine block_r ?_ | refine block_e ?_ | refine block_o rfl ?_ | refine wp_cond_t rfl ?_ | refine wp_cond_f rfl ?_ | refine Run.gT rfl rfl rfl rfl ?_
       | refine Run.pT rfl rfl ?_ | (refine Run.splitG rfl rfl rfl rfl rfl rfl ?_ ?_ <;> intro _) | (refine Run.splitP rfl rfl rfl rfl ?_ ?_ <;> intro _) | refine Run.call rfl rfl rfl (hasPart_t _ _) rfl rfl ?_
       | refine Run.cnd rfl rfl rfl ⟨by first | (simp; done) | (simp; omega), by first | (simp; done) | trace_state, by first | (simp; done) | (intro r hr; obtain ⟨a, _, rfl⟩ := List.mem_map.1 hr; rfl), by first | exact .inl rfl | exact .inr rfl, by simp [flatT]⟩ ?_
       | refine Run.call rfl rfl rfl (hS1) rfl rfl ?_ | refine Run.call rfl rfl rfl (hC1) rfl rfl ?_ | (refine wp_cond_k rfl rfl rfl ?_ ?_ <;> intro _) | (refine wp_cond_i rfl ?_ ?_ <;> intro _))
    all_goals first
    | (refine ret_m [] rfl rfl ?_; rw [hL]; done)
    | (exfalso; clear hS1 hC1 hSo hCo hL hm hr; simp_all; done)
    | trace_state
end Go.Proofs

set_option linter.unusedVariables false
set_option linter.unusedSimpArgs false
set_option maxHeartbeats 4000000
namespace Go.Proofs
open Go Go.Ev
set_option maxRecDepth 100000
variable {X : Rel3}
theorem takeGo_step {row out : List Bool} {but : Int} {k : Nat} {o v : Bool} (h1 : (takeGo row but k out)[k]? = some o) (h2 : row[k]? = some v) : takeGo row but (k + 1) out = (takeGo row but k out).set k (o || (v && ((k : Int) != but))) := by
  have e : row.getD k false = v := by rw [List.getD_eq_getElem?_getD, h2]; rfl
  rw [takeGo, e]
  split
  · rename_i h; rw [h]; simp
  · rename_i h
    rw [Bool.eq_false_iff.2 h, Bool.or_false, set_self h1]
def k_take : List (Nat × List Nat) := [(0, [1, 3, 11, 12, 13]), (1, [1, 3, 11, 12, 13, 14]), (2, [1, 3, 6, 7, 11, 12, 13]), (3, [1, 3, 11, 12, 13]), (4, [1, 3, 11, 12, 13])]
theorem take_t (L : List (List Bool)) (k : Nat) (but : Int) (out row : List Bool) (hk : L[k]? = some row) (hl : out.length = row.length) (hs : row.length ≤ 400) : Tells Try.prog E0 X 67 [iA k, iA but, .t (.pt [.sl false (L.map (bRow false))]), .io [.t (.sl true (out.map bR))]] (.io [.tp [], .u, .u, .u, .io [.t (.sl true ((takeGo row but row.length out).map bR))]]) := by
  have hx : (L.map (bRow false))[k]? = some (bRow false row) := by rw [List.getElem?_map, hk]; rfl
  refine Tells.by Try.func67 (by simp [Try.f67]) (Body.i rfl rfl rfl (fun _ => rfl) fun f => ?_)
  repeat' (first
     | refine wp_seq_i ?_ | refine wp_region_t k_take rfl ?_ | refine Run.done rfl ?_ | refine then_n ?_ | refine then_r ?_ | refine then_e ?_ | refine Run.go1 rfl ?_ | refine wp_skip_i ?_ | refine wp_ret_i ?_
     | refine wp_exit_i ?_ | refine wp_block_i ?_ | refine block_n ?_ | refine block_r ?_ | refine block_e ?_ | refine block_o rfl ?_ | refine wp_cond_t rfl ?_ | refine wp_cond_f rfl ?_
     | refine Run.ix rfl rfl rfl rfl rfl rfl rfl hx rfl rfl rfl ?_ | (refine wp_cond_k rfl rfl rfl ?_ ?_ <;> intro _) | (refine wp_cond_i rfl ?_ ?_ <;> intro _))
  refine wp_loop_k (α := Nat × Option Value) [.ren 401000 77, .keep [1, 3, 11, 12, 13] [400000, 77]] (fun z => [(13, iA z.1)]) (fun _ => []) (fun z => [(77, ⟨0, z.2⟩, (takeGo row but z.1 out).map bR)]) (fun z => z.1 ≤ row.length) (fun z => row.length - z.1) (0, some (f 401000)) rfl (fun _ => rfl) rfl (Nat.zero_le _) ?_
  rintro ⟨j, u⟩ hj
  simp only at hj
  have hgl := takeGo_len row but out j
  by_cases hlt : j < row.length
  · obtain ⟨v, hv⟩ : ∃ v, row[j]? = some v := ⟨_, List.getElem?_eq_getElem hlt⟩
    obtain ⟨o, ho⟩ : ∃ o, (takeGo row but j out)[j]? = some o := ⟨_, List.getElem?_eq_getElem (by rw [hgl, hl]; exact hlt)⟩
    have hst := takeGo_step ho hv
    have hxv : (row.map bR)[j]? = some (bR v) := by rw [List.getElem?_map, hv]; rfl
    have hxo : ((takeGo row but j out).map bR)[j]? = some (bR o) := by rw [List.getElem?_map, ho]; rfl
    cases o
    all_goals cases v
    all_goals simp only [Bool.true_or, Bool.false_or, Bool.true_and, Bool.false_and] at hst
    repeat' (first
       | refine wp_seq_i ?_ | refine wp_region_t k_take rfl ?_ | refine Run.done rfl ?_ | refine then_n ?_ | refine then_r ?_ | refine then_e ?_ | refine Run.go1 rfl ?_ | refine wp_skip_i ?_ | refine wp_ret_i ?_
       | refine wp_exit_i ?_ | refine wp_block_i ?_ | refine block_n ?_ | refine block_r ?_ | refine block_e ?_ | refine block_o rfl ?_ | refine wp_cond_t rfl ?_ | refine wp_cond_f rfl ?_
       | refine wp_region_qt k_take rfl 14 (by decide +kernel) rfl rfl ?_ | refine RunQ.go1 rfl ?_ | refine RunQ.done rfl ?_ | refine Run.gT rfl rfl rfl rfl ?_ | refine Run.pT rfl rfl ?_
       | (refine Run.splitG rfl rfl rfl rfl rfl rfl ?_ ?_ <;> intro _) | (refine Run.splitP rfl rfl rfl rfl ?_ ?_ <;> intro _) | refine RunQ.gT rfl rfl rfl rfl ?_ | refine RunQ.pT rfl rfl ?_
       | (refine RunQ.splitG rfl rfl rfl rfl rfl rfl ?_ ?_ <;> intro _) | (refine RunQ.splitP rfl rfl rfl rfl ?_ ?_ <;> intro _) | refine Run.ix rfl rfl rfl rfl rfl rfl rfl hxv rfl rfl rfl ?_
       | refine Run.ldr rfl rfl rfl hxv rfl rfl ?_ | refine RunQ.ix rfl rfl rfl rfl rfl rfl rfl hxo rfl rfl rfl ?_ | refine RunQ.ldr rfl rfl rfl hxo rfl rfl ?_ | refine Run.ix rfl rfl rfl rfl rfl rfl rfl hxo rfl rfl rfl ?_
       | refine Run.str rfl rfl rfl rfl rfl rfl hxo rfl rfl ?_ | refine Run.one rfl rfl rfl ?_ | (refine wp_cond_k rfl rfl rfl ?_ ?_ <;> intro _) | (refine wp_cond_i rfl ?_ ?_ <;> intro _))
    all_goals first
    | (exfalso; rename_i h; have h := of_decide_eq_false h; simp at h; omega)
    | (refine back_i [.keep [1, 3, 11, 12, 13] [400000, 77]] (j + 1, u) rfl ?_ (by simp; omega) (by simp; omega)
       simp only [w_succ hlt (by omega), hst, List.map_set]; first | done | rfl)
  · have hj2 : j = row.length := by omega
    subst hj2
    repeat' (first
       | refine wp_seq_i ?_ | refine wp_region_t k_take rfl ?_ | refine Run.done rfl ?_ | refine then_n ?_ | refine then_r ?_ | refine then_e ?_ | refine Run.go1 rfl ?_ | refine wp_skip_i ?_ | refine wp_ret_i ?_
       | refine wp_exit_i ?_ | refine wp_block_i ?_ | refine block_n ?_ | refine block_r ?_ | refine block_e ?_ | refine block_o rfl ?_ | refine wp_cond_t rfl ?_ | refine wp_cond_f rfl ?_
       | (refine wp_cond_k rfl rfl rfl ?_ ?_ <;> intro _) | (refine wp_cond_i rfl ?_ ?_ <;> intro _))
    · exfalso; rename_i h; have h := of_decide_eq_true h; simp at h
    · exact retn_o [false, false, false, true] [] rfl rfl rfl (by simp) rfl
theorem own_bL (l : List Bool) : ownR (l.map bR) := by
  induction l with
  | nil => simp [ownR]
  | cons x r ih => simp_all [ownR, ownL, T.own]
theorem foldTake_len (R : Nat) (L : List (List Bool)) (w : Int) : ∀ (ks : List Int) (o : List Bool), (ks.foldl (fun o k => takeGo (rowOf L k) w R o) o).length = o.length
  | [], _ => rfl
  | k :: ks, o => by rw [List.foldl_cons, foldTake_len R L w ks, takeGo_len]
def k_wanted : List (Nat × List Nat) := [(0, [1, 3, 5]), (1, [1, 3, 5, 7]), (2, [1, 3, 5, 7, 8]), (3, [1, 3, 5, 7, 8, 9]), (4, [1, 3, 5, 7, 8, 9, 26, 27, 28]), (5, [1, 3, 5, 7, 8, 9, 26, 27, 28, 29]), (6, [1, 3, 5, 7, 8, 9, 11, 26, 27, 28]), (7, [1, 3, 5, 7, 8, 9, 26, 27, 28]), (8, [1, 3, 5, 7, 8, 9, 26, 27, 28]), (9, [3, 5, 7, 8, 9, 12]), (10, [3, 5, 7, 8, 9, 12, 47]), (11, [7, 8]), (12, [7, 63, 64, 65]), (13, [7, 63, 64, 65, 66]), (14, [7, 14, 63, 64, 65]), (15, [7, 63, 64, 65]), (16, [7, 63, 64, 65]), (17, [6])]
theorem wanted_t (p : Piece) (L : List (List Bool)) (i : Nat) (x : Ins) (hb : pieceB p = true) (hok : p.ok) (hx0 : p.ins[i]? = some x) (hR : Rows p.ins.length p.regs.toNat L) : Tells Try.prog E0 XS 42 [p.a false, iA i, .t (.sl false (L.map (bRow false)))] (.t (.sl true ((wanted p.ins p.regs.toNat L i x).map bR))) := by
  have hi : i < p.ins.length := (List.getElem?_eq_some_iff.1 hx0).1
  have hx : (p.ins.map (Ins.c false))[i]? = some (Ins.c false x) := by rw [List.getElem?_map, hx0]; rfl
  have hxl := rds_len hb hx0
  have hrl := rdsL_len x
  have hreg := regs_of hb
  have hwl := waysL_len x i
  have hrin : ∀ r ∈ rdsL x, 0 ≤ r ∧ r < p.regs := fun r hr => rds_in hb hx0 hr
  have hwin : ∀ r ∈ waysL x i, 0 ≤ r ∧ r < p.ins.length := fun r hr => ways_in hb hx0 hr
  have hz : (List.replicate p.regs.toNat [T.sc (.bool false)]) = (List.replicate p.regs.toNat false).map bR := by simp
  refine Tells.by Try.func42 (by simp [Try.f42]) (Body.i rfl rfl rfl (fun _ => rfl) fun f => ?_)
  repeat' (first
     | refine wp_seq_i ?_ | refine wp_region_t k_wanted rfl ?_ | refine Run.done rfl ?_ | refine then_n ?_ | refine then_r ?_ | refine then_e ?_ | refine Run.go1 rfl ?_ | refine wp_skip_i ?_ | refine wp_ret_i ?_
     | refine wp_exit_i ?_ | refine wp_block_i ?_ | refine block_n ?_ | refine block_r ?_ | refine block_e ?_ | refine block_o rfl ?_ | refine wp_cond_t rfl ?_ | refine wp_cond_f rfl ?_
     | refine Run.ix rfl rfl rfl rfl rfl rfl rfl hx rfl rfl rfl ?_ | refine Run.cnd2 rfl rfl rfl ⟨by first | omega | (simp; omega), rfl, by first | omega | (simp; omega), by first | omega | (simp; omega)⟩ ?_
     | refine Run.call rfl rfl rfl (ways_t p i x hok.1 hx0) rfl rfl ?_ | (refine wp_cond_k rfl rfl rfl ?_ ?_ <;> intro _) | (refine wp_cond_i rfl ?_ ?_ <;> intro _))
  have hw0 : wanted p.ins p.regs.toNat L i x = setsL (rdsL x) (if decide (0 ≤ guardI p.ins i) && mayB x.op then takeGo (rowOf L (toAt p.ins (guardI p.ins i))) (dAt p.ins (guardI p.ins i)) p.regs.toNat ((waysL x i).foldl (fun o k => takeGo (rowOf L k) (wrI x) p.regs.toNat o) (List.replicate p.regs.toNat false)) else (waysL x i).foldl (fun o k => takeGo (rowOf L k) (wrI x) p.regs.toNat o) (List.replicate p.regs.toNat false)) := rfl
  rw [hw0]
  clear hw0
  refine wp_loop_k (α := Nat × Option Value) [.ren 17 77, .last 7, .keep [1, 3, 5, 7, 8, 9, 26, 27, 28] [3, 5, 7, 8, 26, 77]] (fun z => [(28, iA z.1)]) (fun _ => []) (fun z => [(77, ⟨0, z.2⟩, (((waysL x i).take z.1).foldl (fun o k => takeGo (rowOf L k) (wrI x) p.regs.toNat o) (List.replicate p.regs.toNat false)).map bR)]) (fun z => z.1 ≤ (waysL x i).length) (fun z => (waysL x i).length - z.1) (0, none) rfl (fun _ => rfl) ?_ (Nat.zero_le _) ?_
  · rw [List.take_zero, List.foldl_nil, ← hz]; rfl
  rintro ⟨k, u⟩ hk
  simp only at hk
  have hol := foldTake_len p.regs.toNat L (wrI x) ((waysL x i).take k) (List.replicate p.regs.toNat false)
  rw [List.length_replicate] at hol
  by_cases hlt : k < (waysL x i).length
  · obtain ⟨r, hrk⟩ : ∃ r, (waysL x i)[k]? = some r := ⟨_, List.getElem?_eq_getElem hlt⟩
    have hrr := hwin r (List.mem_of_getElem? hrk)
    have hsn : ((waysL x i).take (k + 1)).foldl (fun o k => takeGo (rowOf L k) (wrI x) p.regs.toNat o) (List.replicate p.regs.toNat false) = takeGo (rowOf L r) (wrI x) p.regs.toNat (((waysL x i).take k).foldl (fun o k => takeGo (rowOf L k) (wrI x) p.regs.toNat o) (List.replicate p.regs.toNat false)) := by
      have e : (waysL x i).take (k + 1) = (waysL x i).take k ++ [r] := by
        rw [List.take_succ_eq_append_getElem hlt, (List.getElem?_eq_some_iff.1 hrk).2]
      rw [e, List.foldl_append]; rfl
    generalize ((waysL x i).take k).foldl (fun o k => takeGo (rowOf L k) (wrI x) p.regs.toNat o) (List.replicate p.regs.toNat false) = G at *
    obtain ⟨rn, rfl⟩ := Int.eq_ofNat_of_zero_le hrr.1
    have hxr : ((waysL x i).map iR)[k]? = some (iR (rn : Int)) := by rw [List.getElem?_map, hrk]; rfl
    obtain ⟨row, hrow⟩ : ∃ row, L[rn]? = some row := ⟨_, List.getElem?_eq_getElem (by rw [hR.1]; omega)⟩
    have hrl2 : row.length = p.regs.toNat := hR.2 _ (List.mem_of_getElem? hrow)
    have hro : rowOf L (rn : Int) = row := by unfold rowOf; rw [Int.toNat_natCast, List.getD_eq_getElem?_getD, hrow]; rfl
    have hT := take_t (X := XS) L rn (wrI x) G row hrow (by omega) (by omega)
    rw [hrl2] at hT
    rw [hro] at hsn
    rw [← hsn] at hT
    repeat' (first
       | refine wp_seq_i ?_ | refine wp_region_t k_wanted rfl ?_ | refine Run.done rfl ?_ | refine then_n ?_ | refine then_r ?_ | refine then_e ?_ | refine Run.go1 rfl ?_ | refine wp_skip_i ?_ | refine wp_ret_i ?_
       | refine wp_exit_i ?_ | refine wp_block_i ?_ | refine block_n ?_ | refine block_r ?_ | refine block_e ?_ | refine block_o rfl ?_ | refine wp_cond_t rfl ?_ | refine wp_cond_f rfl ?_ | refine Run.gT rfl rfl rfl rfl ?_
       | refine Run.pT rfl rfl ?_ | (refine Run.splitG rfl rfl rfl rfl rfl rfl ?_ ?_ <;> intro _) | (refine Run.splitP rfl rfl rfl rfl ?_ ?_ <;> intro _) | refine Run.ix rfl rfl rfl rfl rfl rfl rfl hxr rfl rfl rfl ?_
       | refine Run.ldr rfl rfl rfl hxr rfl rfl ?_ | refine Run.call rfl rfl rfl (WritesI_t x) rfl rfl ?_
       | refine Run.callV [5, 7] rfl rfl rfl rfl rfl rfl (hT) (.inr (by simp [AV.own, AV.own.ownTL, AV.own.ownIL, T.own, ownCL, ownC, own_bL])) rfl ?_ | refine Run.one rfl rfl rfl ?_
       | (refine wp_cond_k rfl rfl rfl ?_ ?_ <;> intro _) | (refine wp_cond_i rfl ?_ ?_ <;> intro _))
    · refine back_i [.keep [1, 3, 5, 7, 8, 9, 26, 27, 28] [3, 5, 8, 7, 26, 10700000], .ren 10700000 77] (k + 1, none) rfl ?_ (by simp; omega) (by simp; omega)
      simp only [w_succ hlt (by omega)]; first | done | rfl
    · exfalso; rename_i h; have h := of_decide_eq_false h; simp at h; omega
  have hk2 : k = (waysL x i).length := by omega
  subst hk2
  rw [List.take_length] at hol ⊢
  generalize (waysL x i).foldl (fun o k => takeGo (rowOf L k) (wrI x) p.regs.toNat o) (List.replicate p.regs.toNat false) = O1 at *
  by_cases hg : 0 ≤ guardI p.ins i
  · obtain ⟨j, y, hj, hy0, hto, hdd, ht1, ht2⟩ := guard_in hb hg
    have hy : (p.ins.map (Ins.c false))[j]? = some (Ins.c false y) := by rw [List.getElem?_map, hy0]; rfl
    obtain ⟨tn, htn⟩ := Int.eq_ofNat_of_zero_le ht1
    obtain ⟨row, hrow⟩ : ∃ row, L[tn]? = some row := ⟨_, List.getElem?_eq_getElem (by rw [hR.1]; omega)⟩
    have hrl2 : row.length = p.regs.toNat := hR.2 _ (List.mem_of_getElem? hrow)
    have hro : rowOf L y.to_ = row := by unfold rowOf; rw [htn, Int.toNat_natCast, List.getD_eq_getElem?_getD, hrow]; rfl
    have hT := take_t (X := XS) L tn y.d O1 row hrow (by omega) (by omega)
    rw [hrl2, ← htn] at hT
    have hgl := takeGo_len row y.d O1 p.regs.toNat
    rw [hto, hdd, hro, decide_eq_true hg, Bool.true_and]
    repeat' (first
       | refine wp_seq_i ?_ | refine wp_region_t k_wanted rfl ?_ | refine Run.done rfl ?_ | refine then_n ?_ | refine then_r ?_ | refine then_e ?_ | refine Run.go1 rfl ?_ | refine wp_skip_i ?_ | refine wp_ret_i ?_
       | refine wp_exit_i ?_ | refine wp_block_i ?_ | refine block_n ?_ | refine block_r ?_ | refine block_e ?_ | refine block_o rfl ?_ | refine wp_cond_t rfl ?_ | refine wp_cond_f rfl ?_
       | refine wp_region_qt k_wanted rfl 13 (by decide +kernel) rfl rfl ?_ | refine RunQ.go1 rfl ?_ | refine RunQ.done rfl ?_ | refine Run.gT rfl rfl rfl rfl ?_ | refine Run.pT rfl rfl ?_
       | (refine Run.splitG rfl rfl rfl rfl rfl rfl ?_ ?_ <;> intro _) | (refine Run.splitP rfl rfl rfl rfl ?_ ?_ <;> intro _) | refine RunQ.gT rfl rfl rfl rfl ?_ | refine RunQ.pT rfl rfl ?_
       | (refine RunQ.splitG rfl rfl rfl rfl rfl rfl ?_ ?_ <;> intro _) | (refine RunQ.splitP rfl rfl rfl rfl ?_ ?_ <;> intro _) | refine Run.ix rfl rfl rfl rfl rfl rfl rfl hx rfl rfl rfl ?_
       | refine Run.call rfl rfl rfl (guardOf_t p i hok.1 hi) rfl rfl ?_ | refine Run.call rfl rfl rfl (raises_t _) rfl rfl ?_ | refine RunQ.ix rfl rfl rfl rfl rfl rfl hj hy rfl rfl rfl ?_
       | refine Run.callV [5, 7] rfl rfl rfl rfl rfl rfl (hT) (.inr (by simp [AV.own, AV.own.ownTL, AV.own.ownIL, T.own, ownCL, ownC, own_bL])) rfl ?_ | refine Run.call rfl rfl rfl (ReadsI_t x hxl) rfl rfl ?_
       | refine Run.one rfl rfl rfl ?_ | (refine wp_cond_k rfl rfl rfl ?_ ?_ <;> intro _) | (refine wp_cond_i rfl ?_ ?_ <;> intro _))
    · exfalso; rename_i h; have h := of_decide_eq_true h; simp at h
    · rename_i hm
      rw [if_pos hm]; generalize takeGo row y.d p.regs.toNat O1 = O2 at *
      refine wp_loop_k (α := Nat × Option Value) [.ren 10700000 76, .ren 76 77, .keep [7, 63, 64, 65] [7, 63, 77]] (fun z => [(65, iA z.1)]) (fun _ => []) (fun z => [(77, ⟨0, z.2⟩, (setsL ((rdsL x).take z.1) O2).map bR)]) (fun z => z.1 ≤ (rdsL x).length) (fun z => (rdsL x).length - z.1) (0, none) rfl (fun _ => rfl) rfl (Nat.zero_le _) ?_
      rintro ⟨k, u2⟩ hk
      simp only at hk
      have hsl := setsL_len ((rdsL x).take k) O2
      by_cases hlt : k < (rdsL x).length
      · obtain ⟨r, hrk⟩ : ∃ r, (rdsL x)[k]? = some r := ⟨_, List.getElem?_eq_getElem hlt⟩
        have hrr := hrin r (List.mem_of_getElem? hrk)
        have hsn : setsL ((rdsL x).take (k + 1)) O2 = (setsL ((rdsL x).take k) O2).set r.toNat true := by
          have e : (rdsL x).take (k + 1) = (rdsL x).take k ++ [r] := by
            rw [List.take_succ_eq_append_getElem hlt, (List.getElem?_eq_some_iff.1 hrk).2]
          rw [e, setsL, List.foldl_append]; rfl
        obtain ⟨rn, rfl⟩ := Int.eq_ofNat_of_zero_le hrr.1
        rw [Int.toNat_natCast] at hsn
        have hxr : ((rdsL x).map iR)[k]? = some (iR (rn : Int)) := by rw [List.getElem?_map, hrk]; rfl
        generalize setsL ((rdsL x).take k) O2 = G at *
        obtain ⟨v, hv⟩ : ∃ v, G[rn]? = some v := ⟨_, List.getElem?_eq_getElem (by omega)⟩
        have hxo : (G.map bR)[rn]? = some (bR v) := by rw [List.getElem?_map, hv]; rfl
        repeat' (first
           | refine wp_seq_i ?_ | refine wp_region_t k_wanted rfl ?_ | refine Run.done rfl ?_ | refine then_n ?_ | refine then_r ?_ | refine then_e ?_ | refine Run.go1 rfl ?_ | refine wp_skip_i ?_ | refine wp_ret_i ?_
           | refine wp_exit_i ?_ | refine wp_block_i ?_ | refine block_n ?_ | refine block_r ?_ | refine block_e ?_ | refine block_o rfl ?_ | refine wp_cond_t rfl ?_ | refine wp_cond_f rfl ?_ | refine Run.gT rfl rfl rfl rfl ?_
           | refine Run.pT rfl rfl ?_ | (refine Run.splitG rfl rfl rfl rfl rfl rfl ?_ ?_ <;> intro _) | (refine Run.splitP rfl rfl rfl rfl ?_ ?_ <;> intro _) | refine Run.ix rfl rfl rfl rfl rfl rfl rfl hxr rfl rfl rfl ?_
           | refine Run.ldr rfl rfl rfl hxr rfl rfl ?_ | refine Run.ix rfl rfl rfl rfl rfl rfl rfl hxo rfl rfl rfl ?_ | refine Run.str rfl rfl rfl rfl rfl rfl hxo rfl rfl ?_ | refine Run.one rfl rfl rfl ?_
           | (refine wp_cond_k rfl rfl rfl ?_ ?_ <;> intro _) | (refine wp_cond_i rfl ?_ ?_ <;> intro _))
        · refine back_i [.keep [7, 63, 64, 65] [7, 63, 77]] (k + 1, u2) rfl ?_ (by simp; omega) (by simp; omega)
          simp only [w_succ hlt (by omega), hsn, List.map_set]; first | done | rfl
        · exfalso; rename_i h; have h := of_decide_eq_false h; simp at h; omega
      · have hk3 : k = (rdsL x).length := by omega
        subst hk3
        rw [List.take_length]
        repeat' (first
           | refine wp_seq_i ?_ | refine wp_region_t k_wanted rfl ?_ | refine Run.done rfl ?_ | refine then_n ?_ | refine then_r ?_ | refine then_e ?_ | refine Run.go1 rfl ?_ | refine wp_skip_i ?_ | refine wp_ret_i ?_
           | refine wp_exit_i ?_ | refine wp_block_i ?_ | refine block_n ?_ | refine block_r ?_ | refine block_e ?_ | refine block_o rfl ?_ | refine wp_cond_t rfl ?_ | refine wp_cond_f rfl ?_
           | (refine wp_cond_k rfl rfl rfl ?_ ?_ <;> intro _) | (refine wp_cond_i rfl ?_ ?_ <;> intro _))
        · exfalso; rename_i h; have h := of_decide_eq_true h; simp at h
        · exact ret_m [] rfl rfl rfl
    · rename_i hm
      rw [if_neg (by rw [hm]; simp)]
      refine wp_loop_k (α := Nat × Option Value) [.ren 77 76, .ren 76 77, .keep [7, 63, 64, 65] [7, 63, 77]] (fun z => [(65, iA z.1)]) (fun _ => []) (fun z => [(77, ⟨0, z.2⟩, (setsL ((rdsL x).take z.1) O1).map bR)]) (fun z => z.1 ≤ (rdsL x).length) (fun z => (rdsL x).length - z.1) (0, u) rfl (fun _ => rfl) rfl (Nat.zero_le _) ?_
      rintro ⟨k, u2⟩ hk
      simp only at hk
      have hsl := setsL_len ((rdsL x).take k) O1
      by_cases hlt : k < (rdsL x).length
      · obtain ⟨r, hrk⟩ : ∃ r, (rdsL x)[k]? = some r := ⟨_, List.getElem?_eq_getElem hlt⟩
        have hrr := hrin r (List.mem_of_getElem? hrk)
        have hsn : setsL ((rdsL x).take (k + 1)) O1 = (setsL ((rdsL x).take k) O1).set r.toNat true := by
          have e : (rdsL x).take (k + 1) = (rdsL x).take k ++ [r] := by
            rw [List.take_succ_eq_append_getElem hlt, (List.getElem?_eq_some_iff.1 hrk).2]
          rw [e, setsL, List.foldl_append]; rfl
        obtain ⟨rn, rfl⟩ := Int.eq_ofNat_of_zero_le hrr.1
        rw [Int.toNat_natCast] at hsn
        have hxr : ((rdsL x).map iR)[k]? = some (iR (rn : Int)) := by rw [List.getElem?_map, hrk]; rfl
        generalize setsL ((rdsL x).take k) O1 = G at *
        obtain ⟨v, hv⟩ : ∃ v, G[rn]? = some v := ⟨_, List.getElem?_eq_getElem (by omega)⟩
        have hxo : (G.map bR)[rn]? = some (bR v) := by rw [List.getElem?_map, hv]; rfl
        repeat' (first
           | refine wp_seq_i ?_ | refine wp_region_t k_wanted rfl ?_ | refine Run.done rfl ?_ | refine then_n ?_ | refine then_r ?_ | refine then_e ?_ | refine Run.go1 rfl ?_ | refine wp_skip_i ?_ | refine wp_ret_i ?_
           | refine wp_exit_i ?_ | refine wp_block_i ?_ | refine block_n ?_ | refine block_r ?_ | refine block_e ?_ | refine block_o rfl ?_ | refine wp_cond_t rfl ?_ | refine wp_cond_f rfl ?_ | refine Run.gT rfl rfl rfl rfl ?_
           | refine Run.pT rfl rfl ?_ | (refine Run.splitG rfl rfl rfl rfl rfl rfl ?_ ?_ <;> intro _) | (refine Run.splitP rfl rfl rfl rfl ?_ ?_ <;> intro _) | refine Run.ix rfl rfl rfl rfl rfl rfl rfl hxr rfl rfl rfl ?_
           | refine Run.ldr rfl rfl rfl hxr rfl rfl ?_ | refine Run.ix rfl rfl rfl rfl rfl rfl rfl hxo rfl rfl rfl ?_ | refine Run.str rfl rfl rfl rfl rfl rfl hxo rfl rfl ?_ | refine Run.one rfl rfl rfl ?_
           | (refine wp_cond_k rfl rfl rfl ?_ ?_ <;> intro _) | (refine wp_cond_i rfl ?_ ?_ <;> intro _))
        · refine back_i [.keep [7, 63, 64, 65] [7, 63, 77]] (k + 1, u2) rfl ?_ (by simp; omega) (by simp; omega)
          simp only [w_succ hlt (by omega), hsn, List.map_set]; first | done | rfl
        · exfalso; rename_i h; have h := of_decide_eq_false h; simp at h; omega
      · have hk3 : k = (rdsL x).length := by omega
        subst hk3
        rw [List.take_length]
        repeat' (first
           | refine wp_seq_i ?_ | refine wp_region_t k_wanted rfl ?_ | refine Run.done rfl ?_ | refine then_n ?_ | refine then_r ?_ | refine then_e ?_ | refine Run.go1 rfl ?_ | refine wp_skip_i ?_ | refine wp_ret_i ?_
           | refine wp_exit_i ?_ | refine wp_block_i ?_ | refine block_n ?_ | refine block_r ?_ | refine block_e ?_ | refine block_o rfl ?_ | refine wp_cond_t rfl ?_ | refine wp_cond_f rfl ?_
           | (refine wp_cond_k rfl rfl rfl ?_ ?_ <;> intro _) | (refine wp_cond_i rfl ?_ ?_ <;> intro _))
        · exfalso; rename_i h; have h := of_decide_eq_true h; simp at h
        · exact ret_m [] rfl rfl rfl
    · exfalso; rename_i h; have h := of_decide_eq_false h; omega
  · rw [decide_eq_false hg, Bool.false_and]
    repeat' (first
       | refine wp_seq_i ?_ | refine wp_region_t k_wanted rfl ?_ | refine Run.done rfl ?_ | refine then_n ?_ | refine then_r ?_ | refine then_e ?_ | refine Run.go1 rfl ?_ | refine wp_skip_i ?_ | refine wp_ret_i ?_
       | refine wp_exit_i ?_ | refine wp_block_i ?_ | refine block_n ?_ | refine block_r ?_ | refine block_e ?_ | refine block_o rfl ?_ | refine wp_cond_t rfl ?_ | refine wp_cond_f rfl ?_ | refine Run.gT rfl rfl rfl rfl ?_
       | refine Run.pT rfl rfl ?_ | (refine Run.splitG rfl rfl rfl rfl rfl rfl ?_ ?_ <;> intro _) | (refine Run.splitP rfl rfl rfl rfl ?_ ?_ <;> intro _) | refine Run.ix rfl rfl rfl rfl rfl rfl rfl hx rfl rfl rfl ?_
       | refine Run.call rfl rfl rfl (guardOf_t p i hok.1 hi) rfl rfl ?_ | refine Run.call rfl rfl rfl (raises_t _) rfl rfl ?_ | refine Run.call rfl rfl rfl (ReadsI_t x hxl) rfl rfl ?_ | refine Run.one rfl rfl rfl ?_
       | (refine wp_cond_k rfl rfl rfl ?_ ?_ <;> intro _) | (refine wp_cond_i rfl ?_ ?_ <;> intro _))
    · exfalso; rename_i h; have h := of_decide_eq_true h; simp at h
    · exfalso; rename_i h _; have h := of_decide_eq_true h; omega
    · exfalso; rename_i h _; have h := of_decide_eq_true h; omega
    · skip
      rw [if_neg (by simp)]
      refine wp_loop_k (α := Nat × Option Value) [.ren 77 76, .ren 76 77, .keep [7, 63, 64, 65] [7, 63, 77]] (fun z => [(65, iA z.1)]) (fun _ => []) (fun z => [(77, ⟨0, z.2⟩, (setsL ((rdsL x).take z.1) O1).map bR)]) (fun z => z.1 ≤ (rdsL x).length) (fun z => (rdsL x).length - z.1) (0, u) rfl (fun _ => rfl) rfl (Nat.zero_le _) ?_
      rintro ⟨k, u2⟩ hk
      simp only at hk
      have hsl := setsL_len ((rdsL x).take k) O1
      by_cases hlt : k < (rdsL x).length
      · obtain ⟨r, hrk⟩ : ∃ r, (rdsL x)[k]? = some r := ⟨_, List.getElem?_eq_getElem hlt⟩
        have hrr := hrin r (List.mem_of_getElem? hrk)
        have hsn : setsL ((rdsL x).take (k + 1)) O1 = (setsL ((rdsL x).take k) O1).set r.toNat true := by
          have e : (rdsL x).take (k + 1) = (rdsL x).take k ++ [r] := by
            rw [List.take_succ_eq_append_getElem hlt, (List.getElem?_eq_some_iff.1 hrk).2]
          rw [e, setsL, List.foldl_append]; rfl
        obtain ⟨rn, rfl⟩ := Int.eq_ofNat_of_zero_le hrr.1
        rw [Int.toNat_natCast] at hsn
        have hxr : ((rdsL x).map iR)[k]? = some (iR (rn : Int)) := by rw [List.getElem?_map, hrk]; rfl
        generalize setsL ((rdsL x).take k) O1 = G at *
        obtain ⟨v, hv⟩ : ∃ v, G[rn]? = some v := ⟨_, List.getElem?_eq_getElem (by omega)⟩
        have hxo : (G.map bR)[rn]? = some (bR v) := by rw [List.getElem?_map, hv]; rfl
        repeat' (first
           | refine wp_seq_i ?_ | refine wp_region_t k_wanted rfl ?_ | refine Run.done rfl ?_ | refine then_n ?_ | refine then_r ?_ | refine then_e ?_ | refine Run.go1 rfl ?_ | refine wp_skip_i ?_ | refine wp_ret_i ?_
           | refine wp_exit_i ?_ | refine wp_block_i ?_ | refine block_n ?_ | refine block_r ?_ | refine block_e ?_ | refine block_o rfl ?_ | refine wp_cond_t rfl ?_ | refine wp_cond_f rfl ?_ | refine Run.gT rfl rfl rfl rfl ?_
           | refine Run.pT rfl rfl ?_ | (refine Run.splitG rfl rfl rfl rfl rfl rfl ?_ ?_ <;> intro _) | (refine Run.splitP rfl rfl rfl rfl ?_ ?_ <;> intro _) | refine Run.ix rfl rfl rfl rfl rfl rfl rfl hxr rfl rfl rfl ?_
           | refine Run.ldr rfl rfl rfl hxr rfl rfl ?_ | refine Run.ix rfl rfl rfl rfl rfl rfl rfl hxo rfl rfl rfl ?_ | refine Run.str rfl rfl rfl rfl rfl rfl hxo rfl rfl ?_ | refine Run.one rfl rfl rfl ?_
           | (refine wp_cond_k rfl rfl rfl ?_ ?_ <;> intro _) | (refine wp_cond_i rfl ?_ ?_ <;> intro _))
        · refine back_i [.keep [7, 63, 64, 65] [7, 63, 77]] (k + 1, u2) rfl ?_ (by simp; omega) (by simp; omega)
          simp only [w_succ hlt (by omega), hsn, List.map_set]; first | done | rfl
        · exfalso; rename_i h; have h := of_decide_eq_false h; simp at h; omega
      · have hk3 : k = (rdsL x).length := by omega
        subst hk3
        rw [List.take_length]
        repeat' (first
           | refine wp_seq_i ?_ | refine wp_region_t k_wanted rfl ?_ | refine Run.done rfl ?_ | refine then_n ?_ | refine then_r ?_ | refine then_e ?_ | refine Run.go1 rfl ?_ | refine wp_skip_i ?_ | refine wp_ret_i ?_
           | refine wp_exit_i ?_ | refine wp_block_i ?_ | refine block_n ?_ | refine block_r ?_ | refine block_e ?_ | refine block_o rfl ?_ | refine wp_cond_t rfl ?_ | refine wp_cond_f rfl ?_
           | (refine wp_cond_k rfl rfl rfl ?_ ?_ <;> intro _) | (refine wp_cond_i rfl ?_ ?_ <;> intro _))
        · exfalso; rename_i h; have h := of_decide_eq_true h; simp at h
        · exact ret_m [] rfl rfl rfl
end Go.Proofs

set_option linter.unusedVariables false
set_option linter.unusedSimpArgs false
set_option maxHeartbeats 4000000
namespace Go.Proofs
open Go Go.Ev
set_option maxRecDepth 100000
variable {X : Rel3}
theorem shr_bL (l : List Bool) : shrR (l.map bR) = l.map bR := by
  induction l with
  | nil => rfl
  | cons x r ih => simp only [List.map_cons, shrR, ih]; rfl
theorem shr_bRow (L : List (List Bool)) : shrR (L.map (bRow true)) = L.map (bRow false) := by
  induction L with
  | nil => rfl
  | cons x r ih => simp only [List.map_cons, shrR, ih]; rw [show shrL (bRow true x) = bRow false x by simp only [bRow, shrL, T.shr, shr_bL]]
def k_Eqb : List (Nat × List Nat) := [(0, [0, 1]), (1, [0, 1, 10]), (2, [4]), (3, [0, 1, 12, 13]), (4, [0, 1, 12, 13, 14]), (5, [0, 1, 5, 12, 13]), (6, [0, 1, 12, 13, 24]), (7, [4]), (8, [0, 1, 12, 13]), (9, [4])]
theorem Eqb_t (a b : List Bool) (hl : a.length ≤ 9223372036854775807) (hab : a.length = b.length) : Tells Try.prog E0 X 43 [.t (.sl false (a.map bR)), .t (.sl false (b.map bR))] (bA (decide (a = b))) := by
  refine Tells.by Try.func43 (by simp [Try.f43]) (Body.i rfl rfl rfl (fun _ => rfl) fun f => ?_)
  repeat' (first
     | refine wp_seq_i ?_ | refine wp_region_t k_Eqb rfl ?_ | refine Run.done rfl ?_ | refine then_n ?_ | refine then_r ?_ | refine then_e ?_ | refine Run.go1 rfl ?_ | refine wp_skip_i ?_ | refine wp_ret_i ?_ | refine wp_exit_i ?_
     | refine wp_block_i ?_ | refine block_n ?_ | refine block_r ?_ | refine block_e ?_ | refine block_o rfl ?_ | refine wp_cond_t rfl ?_ | refine wp_cond_f rfl ?_ | (refine wp_cond_k rfl rfl rfl ?_ ?_ <;> intro _)
     | (refine wp_cond_i rfl ?_ ?_ <;> intro _))
  · exfalso; rename_i h; simp [hab] at h
  refine wp_loop_k (α := Nat) [.keep [0, 1, 12, 13] []] (fun p => [(13, iA p)]) (fun _ => []) (fun _ => []) (fun p => p ≤ a.length ∧ a.take p = b.take p) (fun p => a.length - p) 0 rfl (fun _ => rfl) rfl ⟨by simp, by simp⟩ ?_
  rintro j ⟨hj, he⟩
  by_cases hlt : j < a.length
  · have hx : (a.map bR)[j]? = some (bR a[j]) := by simp [hlt]
    have hy : (b.map bR)[j]? = some (bR (b[j]'(by omega))) := by simp [← hab, hlt]
    have ta : a.take (j + 1) = a.take j ++ [a[j]] := by simp
    have tb : b.take (j + 1) = b.take j ++ [b[j]'(by omega)] := by simp
    repeat' (first
       | refine wp_seq_i ?_ | refine wp_region_t k_Eqb rfl ?_ | refine Run.done rfl ?_ | refine then_n ?_ | refine then_r ?_ | refine then_e ?_ | refine Run.go1 rfl ?_ | refine wp_skip_i ?_ | refine wp_ret_i ?_
       | refine wp_exit_i ?_ | refine wp_block_i ?_ | refine block_n ?_ | refine block_r ?_ | refine block_e ?_ | refine block_o rfl ?_ | refine wp_cond_t rfl ?_ | refine wp_cond_f rfl ?_
       | refine wp_region_qt k_Eqb rfl 9 (by decide +kernel) rfl rfl ?_ | refine RunQ.go1 rfl ?_ | refine RunQ.done rfl ?_ | refine RunQ.ix rfl rfl rfl rfl rfl rfl rfl hx rfl rfl rfl ?_
       | refine RunQ.ix rfl rfl rfl rfl rfl rfl rfl hy rfl rfl rfl ?_ | refine Run.ix rfl rfl rfl rfl rfl rfl rfl hx rfl rfl rfl ?_ | refine Run.ix rfl rfl rfl rfl rfl rfl rfl hy rfl rfl rfl ?_
       | (refine wp_cond_k rfl rfl rfl ?_ ?_ <;> intro _) | (refine wp_cond_i rfl ?_ ?_ <;> intro _))
    all_goals first
    | (rename_i h2
       refine ret_m [] rfl rfl ?_
       have hne : a[j] ≠ (b[j]'(by omega)) := by simpa using h2
       rw [decide_eq_false (fun e => hne (by subst e; rfl))]; done)
    | (rename_i h2
       have heq : a[j] = (b[j]'(by omega)) := by simpa using h2
       refine back_i [.keep [0, 1, 12, 13] []] (j + 1) rfl ?_ ⟨by omega, ?_⟩ (by omega)
       · simp only [w_succ hlt (show a.length ≤ 9223372036854775807 by omega)]
       · rw [ta, tb, he, heq])
    | (exfalso; rename_i h2; simp [hlt] at h2; done)
    | trace_state
  · have hjl : j = a.length := by omega
    repeat' (first
       | refine wp_seq_i ?_ | refine wp_region_t k_Eqb rfl ?_ | refine Run.done rfl ?_ | refine then_n ?_ | refine then_r ?_ | refine then_e ?_ | refine Run.go1 rfl ?_ | refine wp_skip_i ?_ | refine wp_ret_i ?_
       | refine wp_exit_i ?_ | refine wp_block_i ?_ | refine block_n ?_ | refine block_r ?_ | refine block_e ?_ | refine block_o rfl ?_ | refine wp_cond_t rfl ?_ | refine wp_cond_f rfl ?_
       | (refine wp_cond_k rfl rfl rfl ?_ ?_ <;> intro _) | (refine wp_cond_i rfl ?_ ?_ <;> intro _))
    · exfalso; rename_i h2; simp [hjl] at h2
    · refine ret_m [] rfl rfl ?_
      rw [hjl] at he
      have : a = b := by rw [List.take_length, hab, List.take_length] at he; exact he
      simp [this]
theorem Eqb_s (a b : List Bool) (hl : a.length ≤ 9223372036854775807) (hab : a.length = b.length) : Tells Try.prog E0 X 43 [.t (.sl false (shrR (a.map bR))), .t (.sl false (shrR (b.map bR)))] (bA (decide (a = b))) := by rw [shr_bL, shr_bL]; exact Eqb_t a b hl hab
def k_liveS : List (Nat × List Nat) := [(0, [1]), (1, [1, 3]), (2, [1, 3, 10, 11]), (3, [1, 3, 10, 11, 12]), (4, [1, 3, 10, 11]), (5, [1, 3, 10, 11]), (6, [1, 3, 4]), (7, [1, 3, 20]), (8, [1, 3, 4]), (9, [1, 3, 4, 5]), (10, [1, 3, 4, 5, 26]), (11, [1, 3, 4, 5]), (12, [1, 3, 4, 5, 6]), (13, [1, 3, 4, 5, 6, 39]), (14, [1, 3, 4, 5]), (15, [1, 3, 4, 5]), (16, [2])]
theorem liveSets_t (p : Piece) (hb : pieceB p = true) (hok : p.ok) : Tells Try.prog E0 XS 22 [p.a false] (.t (.sl true ((solL p.ins p.regs.toNat).map (bRow true)))) := by
  have hreg := regs_of hb
  have hlen := len_pos hb
  refine Tells.by Try.func22 (by simp [Try.f22]) (Body.i rfl rfl rfl (fun _ => rfl) fun f => ?_)
  repeat' (first
     | refine wp_seq_i ?_ | refine wp_region_t k_liveS rfl ?_ | refine Run.done rfl ?_ | refine then_n ?_ | refine then_r ?_ | refine then_e ?_ | refine Run.go1 rfl ?_ | refine wp_skip_i ?_ | refine wp_ret_i ?_
     | refine wp_exit_i ?_ | refine wp_block_i ?_ | refine block_n ?_ | refine block_r ?_ | refine block_e ?_ | refine block_o rfl ?_ | refine wp_cond_t rfl ?_ | refine wp_cond_f rfl ?_
     | (refine wp_cond_k rfl rfl rfl ?_ ?_ <;> intro _) | (refine wp_cond_i rfl ?_ ?_ <;> intro _))
  refine wp_loop_k (α := Nat) [.ren 7 77, .keep [1, 3, 10, 11] [1, 77]] (fun k => [(11, iA k)]) (fun _ => []) (fun k => [(77, 0, (init2 k p.regs.toNat).map (bRow true))]) (fun k => k ≤ p.ins.length) (fun k => p.ins.length - k) 0 rfl (fun _ => rfl) rfl (Nat.zero_le _) ?_
  intro k hk
  by_cases hlt : k < p.ins.length
  · have hap : ∀ (m : Nat), (init2 k m).map (bRow true) ++ [[T.sl true (List.replicate m [T.sc (.bool false)])]] = (init2 (k + 1) m).map (bRow true) := fun m => by
      simp [init2, List.replicate_succ', bRow]
    repeat' (first
       | refine wp_seq_i ?_ | refine wp_region_t k_liveS rfl ?_ | refine Run.done rfl ?_ | refine then_n ?_ | refine then_r ?_ | refine then_e ?_ | refine Run.go1 rfl ?_ | refine wp_skip_i ?_ | refine wp_ret_i ?_
       | refine wp_exit_i ?_ | refine wp_block_i ?_ | refine block_n ?_ | refine block_r ?_ | refine block_e ?_ | refine block_o rfl ?_ | refine wp_cond_t rfl ?_ | refine wp_cond_f rfl ?_
       | refine Run.cnd2 rfl rfl rfl ⟨by first | omega | (simp; omega), rfl, by first | omega | (simp; omega), by first | omega | (simp; omega)⟩ ?_
       | refine Run.cnd rfl rfl rfl ⟨by simp [init2]; omega, (by intro r hr; obtain ⟨a, _, rfl⟩ := List.mem_map.1 hr; rfl), by simp, .inl rfl, by first | trivial | (simp [flatT]; done)⟩ ?_ | refine Run.one rfl rfl rfl ?_
       | (refine wp_cond_k rfl rfl rfl ?_ ?_ <;> intro _) | (refine wp_cond_i rfl ?_ ?_ <;> intro _))
    · refine back_i [.keep [1, 3, 10, 11] [1, 18], .ren 18 77] (k + 1) rfl ?_ (by omega) (by omega)
      simp only [w_succ hlt (by omega), ← hap]; first | done | rfl
    · exfalso; rename_i h; have h := of_decide_eq_false h; simp at h; omega
  have hk2 : k = p.ins.length := by omega
  subst hk2
  repeat' (first
     | refine wp_seq_i ?_ | refine wp_region_t k_liveS rfl ?_ | refine Run.done rfl ?_ | refine then_n ?_ | refine then_r ?_ | refine then_e ?_ | refine Run.go1 rfl ?_ | refine wp_skip_i ?_ | refine wp_ret_i ?_
     | refine wp_exit_i ?_ | refine wp_block_i ?_ | refine block_n ?_ | refine block_r ?_ | refine block_e ?_ | refine block_o rfl ?_ | refine wp_cond_t rfl ?_ | refine wp_cond_f rfl ?_
     | (refine wp_cond_k rfl rfl rfl ?_ ?_ <;> intro _) | (refine wp_cond_i rfl ?_ ?_ <;> intro _))
  · exfalso; rename_i h; have h := of_decide_eq_true h; simp at h
  refine wp_loop_k (α := List (List Bool) × Bool × Option Value) [.keep [1, 3, 4] [1, 77]] (fun z => [(4, bA z.2.1)]) (fun _ => []) (fun z => [(77, ⟨0, z.2.2⟩, z.1.map (bRow true))]) (fun z => (Rows p.ins.length p.regs.toNat z.1 ∧ Post p.ins z.1 ∧ ∃ k, z.1 = iterP p.ins p.regs.toNat k (init2 p.ins.length p.regs.toNat) ∧ k + falses z.1 ≤ p.ins.length * p.regs.toNat) ∧ (z.2.1 = false → passL p.ins p.regs.toNat p.ins.length z.1 = z.1)) (fun z => 2 * falses z.1 + (if z.2.1 then 1 else 0)) (init2 p.ins.length p.regs.toNat, true, none) rfl (fun _ => rfl) rfl ⟨⟨init2_rows _ _, init2_post _ _ _, 0, rfl, by simp [init2_falses]⟩, by simp⟩ ?_
  rintro ⟨L, more, u⟩ ⟨⟨hR, hP, k, hk1, hk2⟩, hfix⟩
  simp only at hR hP hk1 hk2 hfix
  cases more with
  | false =>
    have hsol := solL_of hk1 hk2 (hfix rfl)
    repeat' (first
       | refine wp_seq_i ?_ | refine wp_region_t k_liveS rfl ?_ | refine Run.done rfl ?_ | refine then_n ?_ | refine then_r ?_ | refine then_e ?_ | refine Run.go1 rfl ?_ | refine wp_skip_i ?_ | refine wp_ret_i ?_
       | refine wp_exit_i ?_ | refine wp_block_i ?_ | refine block_n ?_ | refine block_r ?_ | refine block_e ?_ | refine block_o rfl ?_ | refine wp_cond_t rfl ?_ | refine wp_cond_f rfl ?_
       | (refine wp_cond_k rfl rfl rfl ?_ ?_ <;> intro _) | (refine wp_cond_i rfl ?_ ?_ <;> intro _))
    refine ret_m [] rfl rfl ?_
    rw [← hsol]
  | true =>
    clear hfix
    repeat' (first
       | refine wp_seq_i ?_ | refine wp_region_t k_liveS rfl ?_ | refine Run.done rfl ?_ | refine then_n ?_ | refine then_r ?_ | refine then_e ?_ | refine Run.go1 rfl ?_ | refine wp_skip_i ?_ | refine wp_ret_i ?_
       | refine wp_exit_i ?_ | refine wp_block_i ?_ | refine block_n ?_ | refine block_r ?_ | refine block_e ?_ | refine block_o rfl ?_ | refine wp_cond_t rfl ?_ | refine wp_cond_f rfl ?_
       | (refine wp_cond_k rfl rfl rfl ?_ ?_ <;> intro _) | (refine wp_cond_i rfl ?_ ?_ <;> intro _))
    refine wp_loop_k (α := Nat × List (List Bool) × Bool × Option Value) [.keep [1, 3, 4, 5] [1, 77]] (fun z => [(4, bA z.2.2.1), (5, iA ((z.1 : Int) - 1))]) (fun _ => []) (fun z => [(77, ⟨0, z.2.2.2⟩, z.2.1.map (bRow true))]) (fun z => (z.1 ≤ p.ins.length ∧ Rows p.ins.length p.regs.toNat z.2.1 ∧ Post p.ins z.2.1 ∧ le2 L z.2.1) ∧ passL p.ins p.regs.toNat z.1 z.2.1 = passL p.ins p.regs.toNat p.ins.length L ∧ z.2.2.1 = chg false L z.2.1) (fun z => z.1) (p.ins.length, L, false, u) rfl (fun _ => rfl) ?_ ⟨⟨Nat.le_refl _, hR, hP, le2.refl L⟩, rfl, by rw [chg_self]⟩ ?_
    · have e : IntKind.i64.wrap (((p.ins.map (Ins.c false)).length : Int) - 1) = (p.ins.length : Int) - 1 := by rw [List.length_map, w64] <;> omega
      simp only [e]; first | done | rfl
    rintro ⟨j, M, mo, u2⟩ ⟨⟨hj, hM1, hMP, hM2⟩, hpass, hmo⟩
    simp only at hj hM1 hMP hM2 hpass hmo
    subst hmo
    rcases j with _ | j
    · have hML : M = passL p.ins p.regs.toNat p.ins.length L := hpass
      repeat' (first
         | refine wp_seq_i ?_ | refine wp_region_t k_liveS rfl ?_ | refine Run.done rfl ?_ | refine then_n ?_ | refine then_r ?_ | refine then_e ?_ | refine Run.go1 rfl ?_ | refine wp_skip_i ?_ | refine wp_ret_i ?_
         | refine wp_exit_i ?_ | refine wp_block_i ?_ | refine block_n ?_ | refine block_r ?_ | refine block_e ?_ | refine block_o rfl ?_ | refine wp_cond_t rfl ?_ | refine wp_cond_f rfl ?_
         | (refine wp_cond_k rfl rfl rfl ?_ ?_ <;> intro _) | (refine wp_cond_i rfl ?_ ?_ <;> intro _))
      refine back_i [.keep [1, 3, 4] [1, 77]] (M, chg false L M, u2) rfl rfl ⟨⟨hM1, hMP, ?_⟩, fun hc => ?_⟩ ?_
      · by_cases e : M = L
        · exact ⟨k, by rw [e]; exact hk1, by rw [e]; exact hk2⟩
        · refine ⟨k + 1, by rw [hML]; exact iterP_snoc hk1, ?_⟩
          rcases falses_lt (by rw [hR.1]; exact hR) (by rw [hR.1]; exact hM1) hM2 with h | h
          · exact absurd h e
          · simp only; omega
      · have e : M = L := by simpa [chg] using hc
        simp only
        have h2 := hML.symm
        rw [e] at h2 ⊢
        exact h2
      · by_cases e : M = L
        · rw [e, chg_self]; simp
        · rcases falses_lt (by rw [hR.1]; exact hR) (by rw [hR.1]; exact hM1) hM2 with h | h
          · exact absurd h e
          · simp only; split <;> simp <;> omega
    · obtain ⟨x, hx0⟩ : ∃ x, p.ins[j]? = some x := ⟨_, List.getElem?_eq_getElem (by omega)⟩
      have hjn : j < p.ins.length := by omega
      have e1 : ((j + 1 : Nat) : Int) - 1 = (j : Int) := by omega
      have hWe := wanted_eq (ins := p.ins) (R := p.regs.toNat) (L := M) (i := j) (x := x) (fun r hr => (rds_in hb hx0 hr).1)
      have hN := nodeL_post_eq (n := p.ins.length) (R := p.regs.toNat) hMP hx0
      rw [← hWe] at hN
      have hNle := nodeL_le hM1 rfl j
      have hch := chg_trans (more := false) hR hM1 hM2 hNle
      have hNR := nodeL_rows (ins := p.ins) hM1 j
      have hNP := nodeL_post hM1 rfl hMP j
      obtain ⟨row, hrow⟩ : ∃ row, M[j]? = some row := ⟨_, List.getElem?_eq_getElem (by rw [hM1.1]; exact hjn)⟩
      have hrl : row.length = p.regs.toNat := hM1.2 _ (List.mem_of_getElem? hrow)
      have hwl : (wanted p.ins p.regs.toNat M j x).length = p.regs.toNat := by rw [hWe, mkR_len]
      have hx : (M.map (bRow true))[j]? = some (bRow true row) := by rw [List.getElem?_map, hrow]; rfl
      have hS : Tells Try.prog E0 XS 42 [p.a false, iA (((j + 1 : Nat) : Int) - 1), .t (.sl false (shrR (M.map (bRow true))))] (.t (.sl true ((wanted p.ins p.regs.toNat M j x).map bR))) := by
        rw [shr_bRow, e1]; exact wanted_t p M j x hb hok hx0 hM1
      generalize wanted p.ins p.regs.toNat M j x = W1 at *
      have hE := Eqb_s (X := XS) W1 row (by omega) (by omega)
      repeat' (first
         | refine wp_seq_i ?_ | refine wp_region_t k_liveS rfl ?_ | refine Run.done rfl ?_ | refine then_n ?_ | refine then_r ?_ | refine then_e ?_ | refine Run.go1 rfl ?_ | refine wp_skip_i ?_ | refine wp_ret_i ?_
         | refine wp_exit_i ?_ | refine wp_block_i ?_ | refine block_n ?_ | refine block_r ?_ | refine block_e ?_ | refine block_o rfl ?_ | refine wp_cond_t rfl ?_ | refine wp_cond_f rfl ?_
         | refine Run.callB rfl rfl rfl (hS) (by simp [AV.own, T.own, own_bL]) rfl ?_ | refine Run.ix rfl rfl rfl rfl rfl rfl e1 hx rfl rfl rfl ?_ | refine Run.ldr rfl rfl rfl hx rfl rfl ?_
         | refine Run.callB rfl rfl rfl (hE) (by simp [AV.own, T.own, own_bL]) rfl ?_ | refine Run.str rfl rfl rfl rfl rfl rfl hx rfl rfl ?_ | refine Run.one rfl rfl rfl ?_ | (refine wp_cond_k rfl rfl rfl ?_ ?_ <;> intro _)
         | (refine wp_cond_i rfl ?_ ?_ <;> intro _))
      · rename_i hne
        have hne : W1 ≠ row := by simpa using hne
        have hNM : M.set j W1 ≠ M := fun e => by
          have h := congrArg (fun Z : List (List Bool) => Z[j]?) e
          simp only [List.getElem?_set, if_true, (List.getElem?_eq_some_iff.1 hrow).1, hrow] at h
          exact hne (Option.some.inj h)
        have htr : chg false L (M.set j W1) = true := by
          rw [hN] at hch
          rw [← hch]
          unfold chg
          rw [decide_eq_false hNM]; simp
        have e2 : IntKind.i64.wrap (((j + 1 : Nat) : Int) - 1 - 1) = (j : Int) - 1 := by rw [w64] <;> omega
        refine back_i [.keep [1, 3, 4, 5] [1, 77]] (j, M.set j W1, true, u2) rfl ?_ ⟨⟨by simp; omega, by rw [← hN]; exact hNR, by rw [← hN]; exact hNP, by rw [← hN]; exact hM2.trans hNle⟩, by rw [← hN]; exact hpass, htr.symm⟩ (by simp)
        simp only [e2, List.map_set]; first | done | rfl
      · rename_i heq
        have heq : W1 = row := by simpa using heq
        have hNM : nodeL p.ins p.regs.toNat M j = M := by rw [hN, heq]; exact set_self hrow
        have e2 : IntKind.i64.wrap (((j + 1 : Nat) : Int) - 1 - 1) = (j : Int) - 1 := by rw [w64] <;> omega
        refine back_i [.keep [1, 3, 4, 5] [1, 77]] (j, M, chg false L M, u2) rfl ?_ ⟨⟨by simp; omega, hM1, hMP, hM2⟩, by rw [passL, hNM] at hpass; exact hpass, rfl⟩ (by simp)
        simp only [e2]; first | done | rfl
      · exfalso; rename_i h; have h := of_decide_eq_false h; omega
end Go.Proofs

set_option linter.unusedVariables false
set_option linter.unusedSimpArgs false
set_option maxHeartbeats 4000000
namespace Go.Proofs
open Go Go.Ev
set_option maxRecDepth 100000
variable {X : Rel3}
/-- the places where it holds, the first k -/
def thGo (row : List Bool) : Nat → List Int
  | 0 => []
  | k + 1 => if row.getD k false then thGo row k ++ [(k : Int)] else thGo row k
theorem thGo_len (row : List Bool) : ∀ k, (thGo row k).length ≤ k
  | 0 => by simp [thGo]
  | k + 1 => by
    have := thGo_len row k
    rw [thGo]; split <;> simp <;> omega
theorem thGo_go {row : List Bool} {k : Nat} {v : Bool} (h : row[k]? = some v) : thGo row (k + 1) = if v then thGo row k ++ [(k : Int)] else thGo row k := by
  rw [thGo, List.getD_eq_getElem?_getD, h]; rfl
abbrev thL (row : List Bool) : List Int := thGo row row.length
abbrev iRow (l : List Int) : List T := [.sl true (l.map iR)]
def k_things : List (Nat × List Nat) := [(0, [0]), (1, [0, 3]), (2, [3, 7, 8, 9]), (3, [3, 7, 8, 9, 10]), (4, [3, 4, 5, 7, 8, 9]), (5, [3, 4, 7, 8, 9, 14]), (6, [3, 7, 8, 9]), (7, [3, 7, 8, 9]), (8, [2])]
theorem things_t (row : List Bool) (hl : row.length ≤ 1048576) : Tells Try.prog E0 X 23 [.t (.sl false (row.map bR))] (.t (.sl true ((thL row).map iR))) := by
  refine Tells.by Try.func23 (by simp [Try.f23]) (Body.i rfl rfl rfl (fun _ => rfl) fun f => ?_)
  repeat' (first
     | refine wp_seq_i ?_ | refine wp_region_t k_things rfl ?_ | refine Run.done rfl ?_ | refine then_n ?_ | refine then_r ?_ | refine then_e ?_ | refine Run.go1 rfl ?_ | refine wp_skip_i ?_ | refine wp_ret_i ?_
     | refine wp_exit_i ?_ | refine wp_block_i ?_ | refine block_n ?_ | refine block_r ?_ | refine block_e ?_ | refine block_o rfl ?_ | refine wp_cond_t rfl ?_ | refine wp_cond_f rfl ?_
     | (refine wp_cond_k rfl rfl rfl ?_ ?_ <;> intro _) | (refine wp_cond_i rfl ?_ ?_ <;> intro _))
  refine wp_loop_k (α := Nat) [.ren 6 77, .keep [3, 7, 8, 9] [77]] (fun k => [(9, iA k)]) (fun _ => []) (fun k => [(77, 0, (thGo row k).map iR)]) (fun k => k ≤ row.length) (fun k => row.length - k) 0 rfl (fun _ => rfl) rfl (Nat.zero_le _) ?_
  intro k hk
  by_cases hlt : k < row.length
  · obtain ⟨v, hv⟩ : ∃ v, row[k]? = some v := ⟨_, List.getElem?_eq_getElem hlt⟩
    have hx : (row.map bR)[k]? = some (bR v) := by rw [List.getElem?_map, hv]; rfl
    have hg := thGo_go hv
    have hgl := thGo_len row k
    cases v
    all_goals simp only [if_true, Bool.false_eq_true, if_false] at hg
    repeat' (first
       | refine wp_seq_i ?_ | refine wp_region_t k_things rfl ?_ | refine Run.done rfl ?_ | refine then_n ?_ | refine then_r ?_ | refine then_e ?_ | refine Run.go1 rfl ?_ | refine wp_skip_i ?_ | refine wp_ret_i ?_
       | refine wp_exit_i ?_ | refine wp_block_i ?_ | refine block_n ?_ | refine block_r ?_ | refine block_e ?_ | refine block_o rfl ?_ | refine wp_cond_t rfl ?_ | refine wp_cond_f rfl ?_
       | refine Run.ix rfl rfl rfl rfl rfl rfl rfl hx rfl rfl rfl ?_
       | refine Run.cnd rfl rfl rfl ⟨by first | (simp; done) | (simp; omega), (by intro r hr; obtain ⟨a, _, rfl⟩ := List.mem_map.1 hr; rfl), by simp, .inl rfl, by simp [flatT]⟩ ?_ | refine Run.one rfl rfl rfl ?_
       | (refine wp_cond_k rfl rfl rfl ?_ ?_ <;> intro _) | (refine wp_cond_i rfl ?_ ?_ <;> intro _))
    all_goals first
    | (exfalso; rename_i h; have h := of_decide_eq_false h; simp at h; omega)
    | (refine back_i [.keep [3, 7, 8, 9] [77]] (k + 1) rfl ?_ (by omega) (by omega)
       simp only [w_succ hlt (by omega), hg]; first | done | rfl)
    | (refine back_i [.keep [3, 7, 8, 9] [18], .ren 18 77] (k + 1) rfl ?_ (by omega) (by omega)
       simp only [w_succ hlt (by omega), hg, List.map_append, List.map_cons, List.map_nil]; first | done | rfl)
    | trace_state
  · have hk2 : k = row.length := by omega
    subst hk2
    repeat' (first
       | refine wp_seq_i ?_ | refine wp_region_t k_things rfl ?_ | refine Run.done rfl ?_ | refine then_n ?_ | refine then_r ?_ | refine then_e ?_ | refine Run.go1 rfl ?_ | refine wp_skip_i ?_ | refine wp_ret_i ?_
       | refine wp_exit_i ?_ | refine wp_block_i ?_ | refine block_n ?_ | refine block_r ?_ | refine block_e ?_ | refine block_o rfl ?_ | refine wp_cond_t rfl ?_ | refine wp_cond_f rfl ?_
       | (refine wp_cond_k rfl rfl rfl ?_ ?_ <;> intro _) | (refine wp_cond_i rfl ?_ ?_ <;> intro _))
    · exfalso; rename_i h; have h := of_decide_eq_true h; simp at h
    · exact ret_m [] rfl rfl rfl
def k_lists : List (Nat × List Nat) := [(0, [0]), (1, [0, 3]), (2, [0, 3, 4]), (3, [0, 3, 4, 11]), (4, [0, 3, 4]), (5, [0, 3, 4, 5]), (6, [0, 3, 4, 5, 6]), (7, [0, 3, 4, 5, 6, 21]), (8, [0, 3, 4, 5, 6]), (9, [0, 3, 4, 5, 6, 30]), (10, [0, 3, 4, 5, 6]), (11, [0, 3, 4]), (12, [2])]
theorem Lists_t (L : List (List Bool)) (hL : L.length ≤ 1048576) (hr : ∀ row ∈ L, row.length ≤ 1048576) : Tells Try.prog E0 X 18 [.t (.sl false (L.map (bRow false)))] (.t (.sl true ((L.map thL).map iRow))) := by
  refine Tells.by Try.func18 (by simp [Try.f18]) (Body.i rfl rfl rfl (fun _ => rfl) fun f => ?_)
  repeat' (first
     | refine wp_seq_i ?_ | refine wp_region_t k_lists rfl ?_ | refine Run.done rfl ?_ | refine then_n ?_ | refine then_r ?_ | refine then_e ?_ | refine Run.go1 rfl ?_ | refine wp_skip_i ?_ | refine wp_ret_i ?_
     | refine wp_exit_i ?_ | refine wp_block_i ?_ | refine block_n ?_ | refine block_r ?_ | refine block_e ?_ | refine block_o rfl ?_ | refine wp_cond_t rfl ?_ | refine wp_cond_f rfl ?_
     | (refine wp_cond_k rfl rfl rfl ?_ ?_ <;> intro _) | (refine wp_cond_i rfl ?_ ?_ <;> intro _))
  refine wp_loop_k (α := Nat) [.ren 7 77, .keep [0, 3, 4] [77]] (fun k => [(4, iA k)]) (fun _ => []) (fun k => [(77, 0, ((L.take k).map thL).map iRow)]) (fun k => k ≤ L.length) (fun k => L.length - k) 0 rfl (fun _ => rfl) rfl (Nat.zero_le _) ?_
  intro k hk
  by_cases hlt : k < L.length
  · obtain ⟨row, hrow⟩ : ∃ row, L[k]? = some row := ⟨_, List.getElem?_eq_getElem hlt⟩
    have hrl := hr row (List.mem_of_getElem? hrow)
    have hx : (L.map (bRow false))[k]? = some (bRow false row) := by rw [List.getElem?_map, hrow]; rfl
    have hsn : L.take (k + 1) = L.take k ++ [row] := by rw [List.take_succ_eq_append_getElem hlt, (List.getElem?_eq_some_iff.1 hrow).2]
    repeat' (first
       | refine wp_seq_i ?_ | refine wp_region_t k_lists rfl ?_ | refine Run.done rfl ?_ | refine then_n ?_ | refine then_r ?_ | refine then_e ?_ | refine Run.go1 rfl ?_ | refine wp_skip_i ?_ | refine wp_ret_i ?_
       | refine wp_exit_i ?_ | refine wp_block_i ?_ | refine block_n ?_ | refine block_r ?_ | refine block_e ?_ | refine block_o rfl ?_ | refine wp_cond_t rfl ?_ | refine wp_cond_f rfl ?_
       | (refine wp_cond_k rfl rfl rfl ?_ ?_ <;> intro _) | (refine wp_cond_i rfl ?_ ?_ <;> intro _))
    · refine wp_loop_k (α := Nat) [.ren 14 78, .keep [0, 3, 4, 5, 6] [77, 78]] (fun j => [(6, iA j)]) (fun _ => []) (fun j => [(78, 0, (thGo row j).map iR)]) (fun j => j ≤ row.length) (fun j => row.length - j) 0 rfl (fun _ => rfl) rfl (Nat.zero_le _) ?_
      intro j hj
      by_cases hlj : j < row.length
      · obtain ⟨v, hv⟩ : ∃ v, row[j]? = some v := ⟨_, List.getElem?_eq_getElem hlj⟩
        have hy : (row.map bR)[j]? = some (bR v) := by rw [List.getElem?_map, hv]; rfl
        have hg := thGo_go hv
        have hgl := thGo_len row j
        cases v
        all_goals simp only [if_true, Bool.false_eq_true, if_false] at hg
        repeat' (first
           | refine wp_seq_i ?_ | refine wp_region_t k_lists rfl ?_ | refine Run.done rfl ?_ | refine then_n ?_ | refine then_r ?_ | refine then_e ?_ | refine Run.go1 rfl ?_ | refine wp_skip_i ?_ | refine wp_ret_i ?_
           | refine wp_exit_i ?_ | refine wp_block_i ?_ | refine block_n ?_ | refine block_r ?_ | refine block_e ?_ | refine block_o rfl ?_ | refine wp_cond_t rfl ?_ | refine wp_cond_f rfl ?_
           | refine Run.ix rfl rfl rfl rfl rfl rfl rfl hx rfl rfl rfl ?_ | refine Run.ix rfl rfl rfl rfl rfl rfl rfl hy rfl rfl rfl ?_
           | refine Run.cnd rfl rfl rfl ⟨by first | (simp; done) | (simp; omega), (by intro r hr; obtain ⟨a, _, rfl⟩ := List.mem_map.1 hr; rfl), by simp, .inl rfl, by simp [flatT]⟩ ?_ | refine Run.one rfl rfl rfl ?_
           | (refine wp_cond_k rfl rfl rfl ?_ ?_ <;> intro _) | (refine wp_cond_i rfl ?_ ?_ <;> intro _))
        all_goals first
        | (exfalso; rename_i h; have h := of_decide_eq_false h; simp at h; omega)
        | (refine back_i [.keep [0, 3, 4, 5, 6] [77, 78]] (j + 1) rfl ?_ (by omega) (by omega)
           simp only [w_succ hlj (by omega), hg]; first | done | rfl)
        | (refine back_i [.keep [0, 3, 4, 5, 6] [77, 34], .ren 34 78] (j + 1) rfl ?_ (by omega) (by omega)
           simp only [w_succ hlj (by omega), hg, List.map_append, List.map_cons, List.map_nil]; first | done | rfl)
        | trace_state
      · have hj2 : j = row.length := by omega
        subst hj2
        repeat' (first
           | refine wp_seq_i ?_ | refine wp_region_t k_lists rfl ?_ | refine Run.done rfl ?_ | refine then_n ?_ | refine then_r ?_ | refine then_e ?_ | refine Run.go1 rfl ?_ | refine wp_skip_i ?_ | refine wp_ret_i ?_
           | refine wp_exit_i ?_ | refine wp_block_i ?_ | refine block_n ?_ | refine block_r ?_ | refine block_e ?_ | refine block_o rfl ?_ | refine wp_cond_t rfl ?_ | refine wp_cond_f rfl ?_
           | refine Run.ix rfl rfl rfl rfl rfl rfl rfl hx rfl rfl rfl ?_
           | refine Run.cnd rfl rfl rfl ⟨by first | (simp; done) | (simp; omega), (by intro r hr; obtain ⟨a, _, rfl⟩ := List.mem_map.1 hr; rfl), by simp, .inl rfl, by first | trivial | (simp [flatT]; done)⟩ ?_
           | refine Run.one rfl rfl rfl ?_ | (refine wp_cond_k rfl rfl rfl ?_ ?_ <;> intro _) | (refine wp_cond_i rfl ?_ ?_ <;> intro _))
        · exfalso; rename_i h; have h := of_decide_eq_true h; simp at h
        · refine back_i [.keep [0, 3, 4] [38], .ren 38 77] (k + 1) rfl ?_ (by omega) (by omega)
          simp only [w_succ hlt (by omega), hsn, List.map_append, List.map_cons, List.map_nil]; first | done | rfl
    · exfalso; rename_i h; have h := of_decide_eq_false h; simp at h; omega
  · have hk2 : k = L.length := by omega
    subst hk2
    repeat' (first
       | refine wp_seq_i ?_ | refine wp_region_t k_lists rfl ?_ | refine Run.done rfl ?_ | refine then_n ?_ | refine then_r ?_ | refine then_e ?_ | refine Run.go1 rfl ?_ | refine wp_skip_i ?_ | refine wp_ret_i ?_
       | refine wp_exit_i ?_ | refine wp_block_i ?_ | refine block_n ?_ | refine block_r ?_ | refine block_e ?_ | refine block_o rfl ?_ | refine wp_cond_t rfl ?_ | refine wp_cond_f rfl ?_
       | (refine wp_cond_k rfl rfl rfl ?_ ?_ <;> intro _) | (refine wp_cond_i rfl ?_ ?_ <;> intro _))
    · exfalso; rename_i h; have h := of_decide_eq_true h; simp at h
    · refine ret_m [] rfl rfl ?_
      rw [List.take_length]
theorem own_iRow {α : Type} (g : α → List Int) (L : List α) : ownR (L.map fun x => iRow (g x)) := by
  induction L with
  | nil => simp [ownR]
  | cons x r ih => simp_all [ownR, ownL, T.own, ownI_b]
theorem own_lists (L : List (List Bool)) : (AV.t (.sl true ((L.map thL).map iRow))).own := by
  have := own_iRow thL L
  simp only [AV.own, T.own, List.map_map]
  exact ⟨trivial, this⟩
def mostB (l : List (List Int)) (m : Int) : Int := l.foldl (fun m x => if (x.length : Int) > m then (x.length : Int) else m) m
noncomputable def presB (p : Piece) : Int := if pieceB p then mostB ((solL p.ins p.regs.toNat).map thL) p.in_ else 0
theorem mostB_snoc (l : List (List Int)) (x : List Int) (m : Int) : mostB (l ++ [x]) m = if (x.length : Int) > mostB l m then (x.length : Int) else mostB l m := by simp [mostB, List.foldl_append]
theorem solL_rows (ins : List Ins) (R : Nat) : Rows ins.length R (solL ins R) := iterP_rows _ (init2_rows _ _)
def k_PresS : List (Nat × List Nat) := [(0, [1]), (1, [1, 8]), (2, [2]), (3, [1, 3]), (4, [3, 4]), (5, [3, 4, 5]), (6, [3, 4, 5, 20]), (7, [3, 4, 5]), (8, [3, 4, 5, 29]), (9, [3, 4, 5]), (10, [2])]
theorem PressureS_t (p : Piece) (hok : p.ok) : Tells Try.prog E0 X 6 [p.a false] (iA (presB p)) := by
  by_cases hb : pieceB p = true
  rotate_left 1
  · refine Tells.by Try.func6 (by simp [Try.f6]) (Body.i rfl rfl rfl (fun _ => rfl) fun f => ?_)
    repeat' (first
       | refine wp_seq_i ?_ | refine wp_region_t k_PresS rfl ?_ | refine Run.done rfl ?_ | refine then_n ?_ | refine then_r ?_ | refine then_e ?_ | refine Run.go1 rfl ?_ | refine wp_skip_i ?_ | refine wp_ret_i ?_
       | refine wp_exit_i ?_ | refine wp_block_i ?_ | refine block_n ?_ | refine block_r ?_ | refine block_e ?_ | refine block_o rfl ?_ | refine wp_cond_t rfl ?_ | refine wp_cond_f rfl ?_
       | refine Run.call rfl rfl rfl (l9Piece_t p hok) rfl rfl ?_ | (refine wp_cond_k rfl rfl rfl ?_ ?_ <;> intro _) | (refine wp_cond_i rfl ?_ ?_ <;> intro _))
    all_goals first
    | (exfalso; rename_i h; simp [hb] at h; done)
    | (refine ret_m [] rfl rfl ?_; simp [presB, hb]; done)
    | trace_state
  have hR := solL_rows p.ins p.regs.toNat
  have hreg := regs_of hb
  have hlen := len_pos hb
  have hpr : presB p = mostB ((solL p.ins p.regs.toNat).map thL) p.in_ := by unfold presB; rw [if_pos hb]
  have hLi : Tells Try.prog E0 X 18 [.t (.sl false (shrR ((solL p.ins p.regs.toNat).map (bRow true))))] (.t (.sl true (((solL p.ins p.regs.toNat).map thL).map iRow))) := by
    rw [shr_bRow]; exact Lists_t _ (by rw [hR.1]; omega) (fun row h => by rw [hR.2 row h]; omega)
  refine Tells.by Try.func6 (by simp [Try.f6]) (Body.i rfl rfl rfl (fun _ => rfl) fun f => ?_)
  repeat' (first
     | refine wp_seq_i ?_ | refine wp_region_t k_PresS rfl ?_ | refine Run.done rfl ?_ | refine then_n ?_ | refine then_r ?_ | refine then_e ?_ | refine Run.go1 rfl ?_ | refine wp_skip_i ?_ | refine wp_ret_i ?_
     | refine wp_exit_i ?_ | refine wp_block_i ?_ | refine block_n ?_ | refine block_r ?_ | refine block_e ?_ | refine block_o rfl ?_ | refine wp_cond_t rfl ?_ | refine wp_cond_f rfl ?_
     | refine Run.call rfl rfl rfl (l9Piece_t p hok) rfl rfl ?_ | refine Run.call rfl rfl rfl (Solve_t p hb hok) rfl rfl ?_ | refine Run.callB rfl rfl rfl (hLi) (own_lists _) rfl ?_
     | (refine wp_cond_k rfl rfl rfl ?_ ?_ <;> intro _) | (refine wp_cond_i rfl ?_ ?_ <;> intro _))
  all_goals try (exfalso; rename_i h; simp [hb] at h; done)
  rw [hpr]
  have hll : ((solL p.ins p.regs.toNat).map thL).length ≤ 600 := by rw [List.length_map, hR.1]; omega
  generalize (solL p.ins p.regs.toNat).map thL = G at *
  refine wp_loop_k (α := Nat) [.keep [3, 4, 5] [16]] (fun k => [(3, iA (mostB (G.take k) p.in_)), (5, iA k)]) (fun _ => []) (fun _ => []) (fun k => k ≤ G.length) (fun k => G.length - k) 0 rfl (fun _ => rfl) rfl (Nat.zero_le _) ?_
  intro k hk
  by_cases hlt : k < G.length
  · obtain ⟨l, hl⟩ : ∃ l, G[k]? = some l := ⟨_, List.getElem?_eq_getElem hlt⟩
    have hx : (G.map iRow)[k]? = some (iRow l) := by rw [List.getElem?_map, hl]; rfl
    have hsn : G.take (k + 1) = G.take k ++ [l] := by rw [List.take_succ_eq_append_getElem hlt, (List.getElem?_eq_some_iff.1 hl).2]
    have hm := mostB_snoc (G.take k) l p.in_
    rw [← hsn] at hm
    repeat' (first
       | refine wp_seq_i ?_ | refine wp_region_t k_PresS rfl ?_ | refine Run.done rfl ?_ | refine then_n ?_ | refine then_r ?_ | refine then_e ?_ | refine Run.go1 rfl ?_ | refine wp_skip_i ?_ | refine wp_ret_i ?_
       | refine wp_exit_i ?_ | refine wp_block_i ?_ | refine block_n ?_ | refine block_r ?_ | refine block_e ?_ | refine block_o rfl ?_ | refine wp_cond_t rfl ?_ | refine wp_cond_f rfl ?_
       | refine Run.ix rfl rfl rfl rfl rfl rfl rfl hx rfl rfl rfl ?_ | refine Run.ldr rfl rfl rfl hx rfl rfl ?_ | refine Run.one rfl rfl rfl ?_ | (refine wp_cond_k rfl rfl rfl ?_ ?_ <;> intro _)
       | (refine wp_cond_i rfl ?_ ?_ <;> intro _))
    all_goals first
    | (exfalso; rename_i h; have h := of_decide_eq_false h; simp at h; omega)
    | (have hc : decide (((l.map iR).length : Int) > mostB (G.take k) p.in_) = true := by assumption
       have hc := of_decide_eq_true hc
       rw [List.length_map] at hc
       rw [if_pos hc] at hm
       refine back_i [.keep [3, 4, 5] [16]] (k + 1) rfl ?_ (by omega) (by omega)
       simp only [w_succ hlt (by omega), hm, List.length_map]; first | done | rfl)
    | (have hc : decide (((l.map iR).length : Int) > mostB (G.take k) p.in_) = false := by assumption
       have hc := of_decide_eq_false hc
       rw [List.length_map] at hc
       rw [if_neg hc] at hm
       refine back_i [.keep [3, 4, 5] [16]] (k + 1) rfl ?_ (by omega) (by omega)
       simp only [w_succ hlt (by omega), hm]; first | done | rfl)
    | trace_state
  · have hk2 : k = G.length := by omega
    subst hk2
    repeat' (first
       | refine wp_seq_i ?_ | refine wp_region_t k_PresS rfl ?_ | refine Run.done rfl ?_ | refine then_n ?_ | refine then_r ?_ | refine then_e ?_ | refine Run.go1 rfl ?_ | refine wp_skip_i ?_ | refine wp_ret_i ?_
       | refine wp_exit_i ?_ | refine wp_block_i ?_ | refine block_n ?_ | refine block_r ?_ | refine block_e ?_ | refine block_o rfl ?_ | refine wp_cond_t rfl ?_ | refine wp_cond_f rfl ?_
       | (refine wp_cond_k rfl rfl rfl ?_ ?_ <;> intro _) | (refine wp_cond_i rfl ?_ ?_ <;> intro _))
    · exfalso; rename_i h; have h := of_decide_eq_true h; simp at h
    · refine ret_m [] rfl rfl ?_
      rw [List.take_length]
end Go.Proofs

set_option linter.unusedVariables false
set_option linter.unusedSimpArgs false
set_option maxHeartbeats 4000000
namespace Go.Proofs
open Go Go.Ev
set_option maxRecDepth 100000
variable {X : Rel3}
/-- what is needed at an instruction, when room is taken there -/
def trB (op : Int) : Bool := op == 6 || op == 7 || op == 8
def callW (ins : List Ins) (R : Nat) (L : List (List Bool)) (i : Nat) (x : Ins) (ks : List Int) : List Bool :=
  if decide (0 ≤ guardI ins i) then takeGo (rowOf L (toAt ins (guardI ins i))) (dAt ins (guardI ins i)) R (ks.foldl (fun o k => takeGo (rowOf L k) x.d R o) (List.replicate R false))
  else ks.foldl (fun o k => takeGo (rowOf L k) x.d R o) (List.replicate R false)
def mapW (ins : List Ins) (R : Nat) (L : List (List Bool)) (i : Nat) (x : Ins) : List Bool :=
  if trB x.op then L.getD i [] else if x.op = 14 then callW ins R L i x (waysL x i) else List.replicate R false
theorem callW_norm (ins : List Ins) (R : Nat) (L : List (List Bool)) (i : Nat) (x : Ins) : callW ins R L i x (normS x i) = callW ins R L i x (waysL x i) := by
  have e : (normS x i).foldl (fun o k => takeGo (rowOf L k) x.d R o) (List.replicate R false) = (waysL x i).foldl (fun o k => takeGo (rowOf L k) x.d R o) (List.replicate R false) := by
    rw [rep_mkR, foldTake, foldTake]
    exact mkR_ext fun r _ => by rw [any_norm]
  unfold callW
  rw [e]
theorem callW_len (ins : List Ins) (R : Nat) (L : List (List Bool)) (i : Nat) (x : Ins) (ks : List Int) : (callW ins R L i x ks).length = R := by
  unfold callW
  split
  · rw [takeGo_len, foldTake_len, List.length_replicate]
  · rw [foldTake_len, List.length_replicate]
theorem mapW_len {ins : List Ins} {n R : Nat} {L : List (List Bool)} (h : Rows n R L) {i : Nat} (hi : i < n) (x : Ins) : (mapW ins R L i x).length = R := by
  unfold mapW
  split
  · exact h.at hi
  · split
    · exact callW_len _ _ _ _ _ _
    · simp
theorem thGo_rep (R : Nat) : ∀ k, thGo (List.replicate R false) k = []
  | 0 => rfl
  | k + 1 => by
    rw [thGo, thGo_rep R k, if_neg]
    rw [List.getD_eq_getElem?_getD, List.getElem?_replicate]
    split <;> simp
def k_room : List (Nat × List Nat) := [(0, [0]), (1, [2])]
theorem room_t (op : Int) : Tells Try.prog E0 X 47 [iA op] (bA (trB op)) := by
  refine Tells.by Try.func47 (by simp [Try.f47]) (Body.i rfl rfl rfl (fun _ => rfl) fun f => ?_)
  repeat' (first
     | refine wp_seq_i ?_ | refine wp_region_t k_room rfl ?_ | refine Run.done rfl ?_ | refine then_n ?_ | refine then_r ?_ | refine then_e ?_ | refine Run.go1 rfl ?_ | refine wp_skip_i ?_ | refine wp_ret_i ?_
     | refine wp_exit_i ?_ | refine wp_block_i ?_ | refine block_n ?_ | refine block_r ?_ | refine block_e ?_ | refine block_o rfl ?_ | refine wp_cond_t rfl ?_ | refine wp_cond_f rfl ?_ | refine Run.gT rfl rfl rfl rfl ?_
     | refine Run.pT rfl rfl ?_ | (refine Run.splitG rfl rfl rfl rfl rfl rfl ?_ ?_ <;> intro _) | (refine Run.splitP rfl rfl rfl rfl ?_ ?_ <;> intro _) | (refine wp_cond_k rfl rfl rfl ?_ ?_ <;> intro _)
     | (refine wp_cond_i rfl ?_ ?_ <;> intro _))
  all_goals (refine ret_m [] rfl rfl ?_; simp_all [trB]; done)
def k_take2 : List (Nat × List Nat) := [(0, [1, 3, 11, 12, 13]), (1, [1, 3, 11, 12, 13, 14]), (2, [1, 3, 6, 7, 11, 12, 13]), (3, [1, 3, 11, 12, 13]), (4, [1, 3, 11, 12, 13])]
theorem take2_t (L : List (List Bool)) (k : Nat) (but : Int) (out row : List Bool) (hk : L[k]? = some row) (hl : out.length = row.length) (hs : row.length ≤ 400) : Tells Try.prog E0 X 48 [iA k, iA but, .t (.pt [.sl false (L.map (bRow false))]), .io [.t (.sl true (out.map bR))]] (.io [.tp [], .u, .u, .u, .io [.t (.sl true ((takeGo row but row.length out).map bR))]]) := by
  have hx : (L.map (bRow false))[k]? = some (bRow false row) := by rw [List.getElem?_map, hk]; rfl
  refine Tells.by Try.func48 (by simp [Try.f48]) (Body.i rfl rfl rfl (fun _ => rfl) fun f => ?_)
  repeat' (first
     | refine wp_seq_i ?_ | refine wp_region_t k_take2 rfl ?_ | refine Run.done rfl ?_ | refine then_n ?_ | refine then_r ?_ | refine then_e ?_ | refine Run.go1 rfl ?_ | refine wp_skip_i ?_ | refine wp_ret_i ?_
     | refine wp_exit_i ?_ | refine wp_block_i ?_ | refine block_n ?_ | refine block_r ?_ | refine block_e ?_ | refine block_o rfl ?_ | refine wp_cond_t rfl ?_ | refine wp_cond_f rfl ?_
     | refine Run.ix rfl rfl rfl rfl rfl rfl rfl hx rfl rfl rfl ?_ | (refine wp_cond_k rfl rfl rfl ?_ ?_ <;> intro _) | (refine wp_cond_i rfl ?_ ?_ <;> intro _))
  refine wp_loop_k (α := Nat × Option Value) [.ren 401000 77, .keep [1, 3, 11, 12, 13] [400000, 77]] (fun z => [(13, iA z.1)]) (fun _ => []) (fun z => [(77, ⟨0, z.2⟩, (takeGo row but z.1 out).map bR)]) (fun z => z.1 ≤ row.length) (fun z => row.length - z.1) (0, some (f 401000)) rfl (fun _ => rfl) rfl (Nat.zero_le _) ?_
  rintro ⟨j, u⟩ hj
  simp only at hj
  have hgl := takeGo_len row but out j
  by_cases hlt : j < row.length
  · obtain ⟨v, hv⟩ : ∃ v, row[j]? = some v := ⟨_, List.getElem?_eq_getElem hlt⟩
    obtain ⟨o, ho⟩ : ∃ o, (takeGo row but j out)[j]? = some o := ⟨_, List.getElem?_eq_getElem (by rw [hgl, hl]; exact hlt)⟩
    have hst := takeGo_step ho hv
    have hxv : (row.map bR)[j]? = some (bR v) := by rw [List.getElem?_map, hv]; rfl
    have hxo : ((takeGo row but j out).map bR)[j]? = some (bR o) := by rw [List.getElem?_map, ho]; rfl
    cases o
    all_goals cases v
    all_goals simp only [Bool.true_or, Bool.false_or, Bool.true_and, Bool.false_and] at hst
    repeat' (first
       | refine wp_seq_i ?_ | refine wp_region_t k_take2 rfl ?_ | refine Run.done rfl ?_ | refine then_n ?_ | refine then_r ?_ | refine then_e ?_ | refine Run.go1 rfl ?_ | refine wp_skip_i ?_ | refine wp_ret_i ?_
       | refine wp_exit_i ?_ | refine wp_block_i ?_ | refine block_n ?_ | refine block_r ?_ | refine block_e ?_ | refine block_o rfl ?_ | refine wp_cond_t rfl ?_ | refine wp_cond_f rfl ?_
       | refine wp_region_qt k_take2 rfl 14 (by decide +kernel) rfl rfl ?_ | refine RunQ.go1 rfl ?_ | refine RunQ.done rfl ?_ | refine Run.gT rfl rfl rfl rfl ?_ | refine Run.pT rfl rfl ?_
       | (refine Run.splitG rfl rfl rfl rfl rfl rfl ?_ ?_ <;> intro _) | (refine Run.splitP rfl rfl rfl rfl ?_ ?_ <;> intro _) | refine RunQ.gT rfl rfl rfl rfl ?_ | refine RunQ.pT rfl rfl ?_
       | (refine RunQ.splitG rfl rfl rfl rfl rfl rfl ?_ ?_ <;> intro _) | (refine RunQ.splitP rfl rfl rfl rfl ?_ ?_ <;> intro _) | refine Run.ix rfl rfl rfl rfl rfl rfl rfl hxv rfl rfl rfl ?_
       | refine Run.ldr rfl rfl rfl hxv rfl rfl ?_ | refine RunQ.ix rfl rfl rfl rfl rfl rfl rfl hxo rfl rfl rfl ?_ | refine RunQ.ldr rfl rfl rfl hxo rfl rfl ?_ | refine Run.ix rfl rfl rfl rfl rfl rfl rfl hxo rfl rfl rfl ?_
       | refine Run.str rfl rfl rfl rfl rfl rfl hxo rfl rfl ?_ | refine Run.one rfl rfl rfl ?_ | (refine wp_cond_k rfl rfl rfl ?_ ?_ <;> intro _) | (refine wp_cond_i rfl ?_ ?_ <;> intro _))
    all_goals first
    | (exfalso; rename_i h; have h := of_decide_eq_false h; simp at h; omega)
    | (refine back_i [.keep [1, 3, 11, 12, 13] [400000, 77]] (j + 1, u) rfl ?_ (by simp; omega) (by simp; omega)
       simp only [w_succ hlt (by omega), hst, List.map_set]; first | done | rfl)
  · have hj2 : j = row.length := by omega
    subst hj2
    repeat' (first
       | refine wp_seq_i ?_ | refine wp_region_t k_take2 rfl ?_ | refine Run.done rfl ?_ | refine then_n ?_ | refine then_r ?_ | refine then_e ?_ | refine Run.go1 rfl ?_ | refine wp_skip_i ?_ | refine wp_ret_i ?_
       | refine wp_exit_i ?_ | refine wp_block_i ?_ | refine block_n ?_ | refine block_r ?_ | refine block_e ?_ | refine block_o rfl ?_ | refine wp_cond_t rfl ?_ | refine wp_cond_f rfl ?_
       | (refine wp_cond_k rfl rfl rfl ?_ ?_ <;> intro _) | (refine wp_cond_i rfl ?_ ?_ <;> intro _))
    · exfalso; rename_i h; have h := of_decide_eq_true h; simp at h
    · exact retn_o [false, false, false, true] [] rfl rfl rfl (by simp) rfl
def k_mapOf : List (Nat × List Nat) := [(0, [1, 3, 5]), (1, [1, 3, 5, 7]), (2, [1, 3, 5, 7, 18]), (3, [6]), (4, [1, 3, 5, 7, 27]), (5, [6]), (6, [1, 3, 5, 7, 8]), (7, [1, 3, 5, 7, 8, 9]), (8, [1, 3, 5, 7, 8, 9, 37, 38, 39]), (9, [1, 3, 5, 7, 8, 9, 37, 38, 39, 40]), (10, [1, 3, 5, 7, 8, 9, 11, 37, 38, 39]), (11, [1, 3, 5, 7, 8, 9, 37, 38, 39]), (12, [1, 3, 5, 7, 8, 9, 37, 38, 39]), (13, [3, 5, 8, 9, 12]), (14, [3, 5, 8, 9, 12, 53]), (15, [8]), (16, [6])]
theorem mapOf_t (p : Piece) (L : List (List Bool)) (i : Nat) (x : Ins) (hb : pieceB p = true) (hok : p.ok) (hx0 : p.ins[i]? = some x) (hR : Rows p.ins.length p.regs.toNat L) : Tells Try.prog E0 XS 26 [p.a false, iA i, .t (.sl false (L.map (bRow false)))] (.t (.sl true ((thL (mapW p.ins p.regs.toNat L i x)).map iR))) := by
  have hi : i < p.ins.length := (List.getElem?_eq_some_iff.1 hx0).1
  have hx : (p.ins.map (Ins.c false))[i]? = some (Ins.c false x) := by rw [List.getElem?_map, hx0]; rfl
  have hreg := regs_of hb
  have hwl := waysL_len x i
  have hwin : ∀ r ∈ waysL x i, 0 ≤ r ∧ r < p.ins.length := fun r hr => ways_in hb hx0 hr
  obtain ⟨rowi, hrowi⟩ : ∃ row, L[i]? = some row := ⟨_, List.getElem?_eq_getElem (by rw [hR.1]; exact hi)⟩
  have hrli : rowi.length = p.regs.toNat := hR.2 _ (List.mem_of_getElem? hrowi)
  have hxl : (L.map (bRow false))[i]? = some (bRow false rowi) := by rw [List.getElem?_map, hrowi]; rfl
  have hgi : L.getD i [] = rowi := by rw [List.getD_eq_getElem?_getD, hrowi]; rfl
  have hTh := things_t (X := XS) rowi (by omega)
  have hz : (List.replicate p.regs.toNat [T.sc (.bool false)]) = (List.replicate p.regs.toNat false).map bR := by simp
  by_cases htr : trB x.op = true
  · have hm : mapW p.ins p.regs.toNat L i x = rowi := by unfold mapW; rw [if_pos htr, hgi]
    rw [hm]
    refine Tells.by Try.func26 (by simp [Try.f26]) (Body.i rfl rfl rfl (fun _ => rfl) fun f => ?_)
    repeat' (first
       | refine wp_seq_i ?_ | refine wp_region_t k_mapOf rfl ?_ | refine Run.done rfl ?_ | refine then_n ?_ | refine then_r ?_ | refine then_e ?_ | refine Run.go1 rfl ?_ | refine wp_skip_i ?_ | refine wp_ret_i ?_
       | refine wp_exit_i ?_ | refine wp_block_i ?_ | refine block_n ?_ | refine block_r ?_ | refine block_e ?_ | refine block_o rfl ?_ | refine wp_cond_t rfl ?_ | refine wp_cond_f rfl ?_
       | refine Run.ix rfl rfl rfl rfl rfl rfl rfl hx rfl rfl rfl ?_ | refine Run.call rfl rfl rfl (room_t _) rfl rfl ?_ | refine Run.ix rfl rfl rfl rfl rfl rfl rfl hxl rfl rfl rfl ?_ | refine Run.ldr rfl rfl rfl hxl rfl rfl ?_
       | refine Run.call rfl rfl rfl (hTh) rfl rfl ?_ | refine Run.one rfl rfl rfl ?_ | (refine wp_cond_k rfl rfl rfl ?_ ?_ <;> intro _) | (refine wp_cond_i rfl ?_ ?_ <;> intro _))
    all_goals first
    | (have h : trB x.op = false := by assumption
       rw [htr] at h; cases h)
    | (refine ret_m [] rfl rfl rfl; done)
    | trace_state
  have htr' : trB x.op = false := by simpa using htr
  by_cases h14 : x.op = 14
  rotate_left 1
  · have hm : thL (mapW p.ins p.regs.toNat L i x) = [] := by unfold mapW; rw [if_neg htr, if_neg h14]; exact thGo_rep _ _
    rw [hm]
    refine Tells.by Try.func26 (by simp [Try.f26]) (Body.i rfl rfl rfl (fun _ => rfl) fun f => ?_)
    repeat' (first
       | refine wp_seq_i ?_ | refine wp_region_t k_mapOf rfl ?_ | refine Run.done rfl ?_ | refine then_n ?_ | refine then_r ?_ | refine then_e ?_ | refine Run.go1 rfl ?_ | refine wp_skip_i ?_ | refine wp_ret_i ?_
       | refine wp_exit_i ?_ | refine wp_block_i ?_ | refine block_n ?_ | refine block_r ?_ | refine block_e ?_ | refine block_o rfl ?_ | refine wp_cond_t rfl ?_ | refine wp_cond_f rfl ?_
       | refine Run.ix rfl rfl rfl rfl rfl rfl rfl hx rfl rfl rfl ?_ | refine Run.call rfl rfl rfl (room_t _) rfl rfl ?_ | refine Run.one rfl rfl rfl ?_ | (refine wp_cond_k rfl rfl rfl ?_ ?_ <;> intro _)
       | (refine wp_cond_i rfl ?_ ?_ <;> intro _))
    all_goals first
    | (have h : trB x.op = true := by assumption
       rw [htr'] at h; cases h)
    | (refine ret_m [] rfl rfl rfl; done)
    | (exfalso; rename_i h; simp [h14] at h; done)
    | trace_state
  have hm : mapW p.ins p.regs.toNat L i x = callW p.ins p.regs.toNat L i x (waysL x i) := by unfold mapW; rw [if_neg htr, if_pos h14]
  rw [hm]
  clear hm
  refine Tells.by Try.func26 (by simp [Try.f26]) (Body.i rfl rfl rfl (fun _ => rfl) fun f => ?_)
  repeat' (first
     | refine wp_seq_i ?_ | refine wp_region_t k_mapOf rfl ?_ | refine Run.done rfl ?_ | refine then_n ?_ | refine then_r ?_ | refine then_e ?_ | refine Run.go1 rfl ?_ | refine wp_skip_i ?_ | refine wp_ret_i ?_
     | refine wp_exit_i ?_ | refine wp_block_i ?_ | refine block_n ?_ | refine block_r ?_ | refine block_e ?_ | refine block_o rfl ?_ | refine wp_cond_t rfl ?_ | refine wp_cond_f rfl ?_
     | refine Run.ix rfl rfl rfl rfl rfl rfl rfl hx rfl rfl rfl ?_ | refine Run.call rfl rfl rfl (room_t _) rfl rfl ?_
     | refine Run.cnd2 rfl rfl rfl ⟨by first | omega | (simp; omega), rfl, by first | omega | (simp; omega), by first | omega | (simp; omega)⟩ ?_ | refine Run.call rfl rfl rfl (ways_t p i x hok.1 hx0) rfl rfl ?_
     | refine Run.one rfl rfl rfl ?_ | (refine wp_cond_k rfl rfl rfl ?_ ?_ <;> intro _) | (refine wp_cond_i rfl ?_ ?_ <;> intro _))
  · exfalso; rename_i h; rw [htr'] at h; cases h
  · exfalso; rename_i h; simp [h14] at h
  unfold callW
  refine wp_loop_k (α := Nat × Option Value) [.ren 33 77, .last 8, .keep [1, 3, 5, 7, 8, 9, 37, 38, 39] [3, 5, 7, 8, 37, 77]] (fun z => [(39, iA z.1)]) (fun _ => []) (fun z => [(77, ⟨0, z.2⟩, (((waysL x i).take z.1).foldl (fun o k => takeGo (rowOf L k) x.d p.regs.toNat o) (List.replicate p.regs.toNat false)).map bR)]) (fun z => z.1 ≤ (waysL x i).length) (fun z => (waysL x i).length - z.1) (0, none) rfl (fun _ => rfl) ?_ (Nat.zero_le _) ?_
  · rw [List.take_zero, List.foldl_nil, ← hz]; rfl
  rintro ⟨k, u⟩ hk
  simp only at hk
  have hol := foldTake_len p.regs.toNat L x.d ((waysL x i).take k) (List.replicate p.regs.toNat false)
  rw [List.length_replicate] at hol
  by_cases hlt : k < (waysL x i).length
  · obtain ⟨r, hrk⟩ : ∃ r, (waysL x i)[k]? = some r := ⟨_, List.getElem?_eq_getElem hlt⟩
    have hrr := hwin r (List.mem_of_getElem? hrk)
    have hsn : ((waysL x i).take (k + 1)).foldl (fun o k => takeGo (rowOf L k) x.d p.regs.toNat o) (List.replicate p.regs.toNat false) = takeGo (rowOf L r) x.d p.regs.toNat (((waysL x i).take k).foldl (fun o k => takeGo (rowOf L k) x.d p.regs.toNat o) (List.replicate p.regs.toNat false)) := by
      have e : (waysL x i).take (k + 1) = (waysL x i).take k ++ [r] := by
        rw [List.take_succ_eq_append_getElem hlt, (List.getElem?_eq_some_iff.1 hrk).2]
      rw [e, List.foldl_append]; rfl
    generalize ((waysL x i).take k).foldl (fun o k => takeGo (rowOf L k) x.d p.regs.toNat o) (List.replicate p.regs.toNat false) = G at *
    obtain ⟨rn, rfl⟩ := Int.eq_ofNat_of_zero_le hrr.1
    have hxr : ((waysL x i).map iR)[k]? = some (iR (rn : Int)) := by rw [List.getElem?_map, hrk]; rfl
    obtain ⟨row, hrow⟩ : ∃ row, L[rn]? = some row := ⟨_, List.getElem?_eq_getElem (by rw [hR.1]; omega)⟩
    have hrl2 : row.length = p.regs.toNat := hR.2 _ (List.mem_of_getElem? hrow)
    have hro : rowOf L (rn : Int) = row := by unfold rowOf; rw [Int.toNat_natCast, List.getD_eq_getElem?_getD, hrow]; rfl
    have hT := take2_t (X := XS) L rn x.d G row hrow (by omega) (by omega)
    rw [hrl2] at hT
    rw [hro] at hsn
    rw [← hsn] at hT
    repeat' (first
       | refine wp_seq_i ?_ | refine wp_region_t k_mapOf rfl ?_ | refine Run.done rfl ?_ | refine then_n ?_ | refine then_r ?_ | refine then_e ?_ | refine Run.go1 rfl ?_ | refine wp_skip_i ?_ | refine wp_ret_i ?_
       | refine wp_exit_i ?_ | refine wp_block_i ?_ | refine block_n ?_ | refine block_r ?_ | refine block_e ?_ | refine block_o rfl ?_ | refine wp_cond_t rfl ?_ | refine wp_cond_f rfl ?_ | refine Run.gT rfl rfl rfl rfl ?_
       | refine Run.pT rfl rfl ?_ | (refine Run.splitG rfl rfl rfl rfl rfl rfl ?_ ?_ <;> intro _) | (refine Run.splitP rfl rfl rfl rfl ?_ ?_ <;> intro _) | refine Run.ix rfl rfl rfl rfl rfl rfl rfl hxr rfl rfl rfl ?_
       | refine Run.ldr rfl rfl rfl hxr rfl rfl ?_ | refine Run.callV [5, 8] rfl rfl rfl rfl rfl rfl (hT) (.inr (by simp [AV.own, AV.own.ownTL, AV.own.ownIL, T.own, ownCL, ownC, own_bL])) rfl ?_ | refine Run.one rfl rfl rfl ?_
       | (refine wp_cond_k rfl rfl rfl ?_ ?_ <;> intro _) | (refine wp_cond_i rfl ?_ ?_ <;> intro _))
    · refine back_i [.keep [1, 3, 5, 7, 8, 9, 37, 38, 39] [3, 5, 7, 8, 37, 10800000], .ren 10800000 77] (k + 1, none) rfl ?_ (by simp; omega) (by simp; omega)
      simp only [w_succ hlt (by omega)]; first | done | rfl
    · exfalso; rename_i h; have h := of_decide_eq_false h; simp at h; omega
  have hk2 : k = (waysL x i).length := by omega
  subst hk2
  rw [List.take_length] at hol ⊢
  generalize (waysL x i).foldl (fun o k => takeGo (rowOf L k) x.d p.regs.toNat o) (List.replicate p.regs.toNat false) = O1 at *
  have hTO : ∀ O : List Bool, O.length = p.regs.toNat → Tells Try.prog E0 XS 23 [.t (.sl false (shrR (O.map bR)))] (.t (.sl true ((thL O).map iR))) := fun O h => by rw [shr_bL]; exact things_t O (by omega)
  by_cases hg : 0 ≤ guardI p.ins i
  · obtain ⟨j, y, hj, hy0, hto, hdd, ht1, ht2⟩ := guard_in hb hg
    have hy : (p.ins.map (Ins.c false))[j]? = some (Ins.c false y) := by rw [List.getElem?_map, hy0]; rfl
    obtain ⟨tn, htn⟩ := Int.eq_ofNat_of_zero_le ht1
    obtain ⟨row, hrow⟩ : ∃ row, L[tn]? = some row := ⟨_, List.getElem?_eq_getElem (by rw [hR.1]; omega)⟩
    have hrl2 : row.length = p.regs.toNat := hR.2 _ (List.mem_of_getElem? hrow)
    have hro : rowOf L y.to_ = row := by unfold rowOf; rw [htn, Int.toNat_natCast, List.getD_eq_getElem?_getD, hrow]; rfl
    have hT := take2_t (X := XS) L tn y.d O1 row hrow (by omega) (by omega)
    rw [hrl2, ← htn] at hT
    have hgl := takeGo_len row y.d O1 p.regs.toNat
    rw [hto, hdd, hro, if_pos (decide_eq_true hg)]
    have hT2 := hTO (takeGo row y.d p.regs.toNat O1) (by omega)
    repeat' (first
       | refine wp_seq_i ?_ | refine wp_region_t k_mapOf rfl ?_ | refine Run.done rfl ?_ | refine then_n ?_ | refine then_r ?_ | refine then_e ?_ | refine Run.go1 rfl ?_ | refine wp_skip_i ?_ | refine wp_ret_i ?_
       | refine wp_exit_i ?_ | refine wp_block_i ?_ | refine block_n ?_ | refine block_r ?_ | refine block_e ?_ | refine block_o rfl ?_ | refine wp_cond_t rfl ?_ | refine wp_cond_f rfl ?_
       | refine wp_region_qt k_mapOf rfl 13 (by decide +kernel) rfl rfl ?_ | refine RunQ.go1 rfl ?_ | refine RunQ.done rfl ?_ | refine Run.gT rfl rfl rfl rfl ?_ | refine Run.pT rfl rfl ?_
       | (refine Run.splitG rfl rfl rfl rfl rfl rfl ?_ ?_ <;> intro _) | (refine Run.splitP rfl rfl rfl rfl ?_ ?_ <;> intro _) | refine RunQ.gT rfl rfl rfl rfl ?_ | refine RunQ.pT rfl rfl ?_
       | (refine RunQ.splitG rfl rfl rfl rfl rfl rfl ?_ ?_ <;> intro _) | (refine RunQ.splitP rfl rfl rfl rfl ?_ ?_ <;> intro _) | refine Run.call rfl rfl rfl (guardOf_t p i hok.1 hi) rfl rfl ?_
       | refine RunQ.ix rfl rfl rfl rfl rfl rfl hj hy rfl rfl rfl ?_ | refine Run.callV [5, 8] rfl rfl rfl rfl rfl rfl (hT) (.inr (by simp [AV.own, AV.own.ownTL, AV.own.ownIL, T.own, ownCL, ownC, own_bL])) rfl ?_
       | refine Run.callB rfl rfl rfl (hT2) (by simp [AV.own, T.own, ownI_b]) rfl ?_ | refine Run.one rfl rfl rfl ?_ | (refine wp_cond_k rfl rfl rfl ?_ ?_ <;> intro _) | (refine wp_cond_i rfl ?_ ?_ <;> intro _))
    all_goals first
    | (exfalso; rename_i h; have h := of_decide_eq_true h; simp at h; done)
    | (exfalso; rename_i h; have h := of_decide_eq_false h; omega)
    | (refine ret_m [] rfl rfl rfl; done)
    | trace_state
  · rw [if_neg (by simpa using hg)]
    have hT2 := hTO O1 (by omega)
    repeat' (first
       | refine wp_seq_i ?_ | refine wp_region_t k_mapOf rfl ?_ | refine Run.done rfl ?_ | refine then_n ?_ | refine then_r ?_ | refine then_e ?_ | refine Run.go1 rfl ?_ | refine wp_skip_i ?_ | refine wp_ret_i ?_
       | refine wp_exit_i ?_ | refine wp_block_i ?_ | refine block_n ?_ | refine block_r ?_ | refine block_e ?_ | refine block_o rfl ?_ | refine wp_cond_t rfl ?_ | refine wp_cond_f rfl ?_ | refine Run.gT rfl rfl rfl rfl ?_
       | refine Run.pT rfl rfl ?_ | (refine Run.splitG rfl rfl rfl rfl rfl rfl ?_ ?_ <;> intro _) | (refine Run.splitP rfl rfl rfl rfl ?_ ?_ <;> intro _) | refine Run.call rfl rfl rfl (guardOf_t p i hok.1 hi) rfl rfl ?_
       | refine Run.callB rfl rfl rfl (hT2) (by simp [AV.own, T.own, ownI_b]) rfl ?_ | refine Run.one rfl rfl rfl ?_ | (refine wp_cond_k rfl rfl rfl ?_ ?_ <;> intro _) | (refine wp_cond_i rfl ?_ ?_ <;> intro _))
    all_goals first
    | (exfalso; rename_i h; have h := of_decide_eq_true h; simp at h; done)
    | (exfalso; rename_i h; have h := of_decide_eq_true h; omega)
    | (refine ret_m [] rfl rfl rfl; done)
    | trace_state
end Go.Proofs

set_option linter.unusedVariables false
set_option linter.unusedSimpArgs false
set_option maxHeartbeats 4000000
namespace Go.Proofs
open Go Go.Ev
set_option maxRecDepth 100000
variable {X : Rel3}
def k_marks : List (Nat × List Nat) := [(0, [1, 2, 3]), (1, [1, 2, 3, 7]), (2, [1, 2, 3, 7, 8]), (3, [1, 2, 3, 7, 8, 23]), (4, [1, 2, 3, 7, 8, 23, 24]), (5, [1, 2, 3, 7, 8, 23, 24]), (6, [1, 2, 3, 7, 8, 23, 24]), (7, [7]), (8, [1, 2, 3, 7, 8, 34]), (9, [1, 2, 3, 7, 8, 9]), (10, [1, 2, 3, 7, 8, 9, 10]), (11, [1, 2, 3, 7, 8, 9, 10, 42]), (12, [1, 2, 3, 7, 8, 9, 10]), (13, [1, 2, 3, 7, 8, 9, 10, 11]), (14, [1, 2, 3, 7, 8, 9, 10, 11, 48]), (15, [1, 2, 3, 7, 8, 9, 10, 11]), (16, [1, 2, 3, 7, 8, 9, 10, 11]), (17, [1, 3, 7, 12]), (18, [1, 3, 7, 12, 13]), (19, [1, 3, 7, 12, 13, 86]), (20, [1, 3, 7, 12, 13]), (21, [1, 3, 7, 12, 13]), (22, [6])]
theorem Marks_t (p : Piece) (L : List (List Bool)) (i : Nat) (x : Ins) (hb : pieceB p = true) (hok : p.ok) (hx0 : p.ins[i]? = some x) (hR : Rows p.ins.length p.regs.toNat L) : Tells Try.prog E0 X 25 [p.a false, .t (.sl false (L.map (bRow false))), iA i] (.t (.sl true ((mapW p.ins p.regs.toNat L i x).map bR))) := by
  have hi : i < p.ins.length := (List.getElem?_eq_some_iff.1 hx0).1
  have hx : (p.ins.map (Ins.c false))[i]? = some (Ins.c false x) := by rw [List.getElem?_map, hx0]; rfl
  have hreg := regs_of hb
  have hnl := normS_len x i
  have hnin : ∀ r ∈ normS x i, 0 ≤ r ∧ r < p.ins.length := fun r hr => norm_in hb hx0 hr
  obtain ⟨rowi, hrowi⟩ : ∃ row, L[i]? = some row := ⟨_, List.getElem?_eq_getElem (by rw [hR.1]; exact hi)⟩
  have hrli : rowi.length = p.regs.toNat := hR.2 _ (List.mem_of_getElem? hrowi)
  have hxl : (L.map (bRow false))[i]? = some (bRow false rowi) := by rw [List.getElem?_map, hrowi]; rfl
  have hgi : L.getD i [] = rowi := by rw [List.getD_eq_getElem?_getD, hrowi]; rfl
  have hz : (List.replicate p.regs.toNat [T.sc (.bool false)]) = (List.replicate p.regs.toNat false).map bR := by simp
  by_cases htr : trB x.op = true
  · have hm : mapW p.ins p.regs.toNat L i x = rowi := by unfold mapW; rw [if_pos htr, hgi]
    rw [hm]
    simp only [trB, Bool.or_eq_true, beq_iff_eq] at htr
    refine Tells.by Try.func25 (by simp [Try.f25]) (Body.i rfl rfl rfl (fun _ => rfl) fun f => ?_)
    repeat' (first
       | refine wp_seq_i ?_ | refine wp_region_t k_marks rfl ?_ | refine Run.done rfl ?_ | refine then_n ?_ | refine then_r ?_ | refine then_e ?_ | refine Run.go1 rfl ?_ | refine wp_skip_i ?_ | refine wp_ret_i ?_
       | refine wp_exit_i ?_ | refine wp_block_i ?_ | refine block_n ?_ | refine block_r ?_ | refine block_e ?_ | refine block_o rfl ?_ | refine wp_cond_t rfl ?_ | refine wp_cond_f rfl ?_
       | refine Run.ix rfl rfl rfl rfl rfl rfl rfl hx rfl rfl rfl ?_ | refine Run.cnd2 rfl rfl rfl ⟨by first | omega | (simp; omega), rfl, by first | omega | (simp; omega), by first | omega | (simp; omega)⟩ ?_
       | refine Run.ix rfl rfl rfl rfl rfl rfl rfl hxl rfl rfl rfl ?_ | refine Run.ldr rfl rfl rfl hxl rfl rfl ?_
       | refine Run.cnd4 rfl rfl rfl (by refine ⟨rfl, by simp [hrli], fun r hr => ?_, fun r hr => ?_⟩; obtain ⟨v, _, rfl⟩ := List.mem_map.1 hr; exact ⟨_, rfl, rfl⟩; rw [(List.mem_replicate.1 hr).2]; rfl) ?_
       | refine Run.one rfl rfl rfl ?_ | (refine wp_cond_k rfl rfl rfl ?_ ?_ <;> intro _) | (refine wp_cond_i rfl ?_ ?_ <;> intro _))
    all_goals first
    | (refine ret_m [] rfl rfl rfl; done)
    | (exfalso; simp_all; done)
    | (exfalso; simp only [beq_iff_eq, beq_eq_false_iff_ne] at *; omega)
    | trace_state
  have htr' : x.op ≠ 6 ∧ x.op ≠ 7 ∧ x.op ≠ 8 := by simp [trB] at htr; omega
  by_cases h14 : x.op = 14
  rotate_left 1
  · have hm : mapW p.ins p.regs.toNat L i x = List.replicate p.regs.toNat false := by unfold mapW; rw [if_neg htr, if_neg h14]
    rw [hm, ← hz]
    refine Tells.by Try.func25 (by simp [Try.f25]) (Body.i rfl rfl rfl (fun _ => rfl) fun f => ?_)
    repeat' (first
       | refine wp_seq_i ?_ | refine wp_region_t k_marks rfl ?_ | refine Run.done rfl ?_ | refine then_n ?_ | refine then_r ?_ | refine then_e ?_ | refine Run.go1 rfl ?_ | refine wp_skip_i ?_ | refine wp_ret_i ?_
       | refine wp_exit_i ?_ | refine wp_block_i ?_ | refine block_n ?_ | refine block_r ?_ | refine block_e ?_ | refine block_o rfl ?_ | refine wp_cond_t rfl ?_ | refine wp_cond_f rfl ?_
       | refine Run.ix rfl rfl rfl rfl rfl rfl rfl hx rfl rfl rfl ?_ | refine Run.cnd2 rfl rfl rfl ⟨by first | omega | (simp; omega), rfl, by first | omega | (simp; omega), by first | omega | (simp; omega)⟩ ?_
       | refine Run.one rfl rfl rfl ?_ | (refine wp_cond_k rfl rfl rfl ?_ ?_ <;> intro _) | (refine wp_cond_i rfl ?_ ?_ <;> intro _))
    all_goals first
    | (refine ret_m [] rfl rfl rfl; done)
    | (exfalso; simp only [beq_iff_eq, beq_eq_false_iff_ne] at *; omega)
    | trace_state
  have hm : mapW p.ins p.regs.toNat L i x = callW p.ins p.regs.toNat L i x (normS x i) := by unfold mapW; rw [if_neg htr, if_pos h14, callW_norm]
  rw [hm]
  clear hm
  refine Tells.by Try.func25 (by simp [Try.f25]) (Body.i rfl rfl rfl (fun _ => rfl) fun f => ?_)
  repeat' (first
     | refine wp_seq_i ?_ | refine wp_region_t k_marks rfl ?_ | refine Run.done rfl ?_ | refine then_n ?_ | refine then_r ?_ | refine then_e ?_ | refine Run.go1 rfl ?_ | refine wp_skip_i ?_ | refine wp_ret_i ?_
     | refine wp_exit_i ?_ | refine wp_block_i ?_ | refine block_n ?_ | refine block_r ?_ | refine block_e ?_ | refine block_o rfl ?_ | refine wp_cond_t rfl ?_ | refine wp_cond_f rfl ?_
     | refine Run.ix rfl rfl rfl rfl rfl rfl rfl hx rfl rfl rfl ?_ | refine Run.cnd2 rfl rfl rfl ⟨by first | omega | (simp; omega), rfl, by first | omega | (simp; omega), by first | omega | (simp; omega)⟩ ?_
     | refine Run.call rfl rfl rfl (Normal_t p i x hok.1 hx0) rfl rfl ?_ | refine Run.one rfl rfl rfl ?_ | (refine wp_cond_k rfl rfl rfl ?_ ?_ <;> intro _) | (refine wp_cond_i rfl ?_ ?_ <;> intro _))
  all_goals try (exfalso; simp only [beq_iff_eq, beq_eq_false_iff_ne] at *; omega)
  unfold callW
  refine wp_loop_k (α := Nat) [.ren 16 76, .ren 76 77, .keep [1, 2, 3, 7, 8, 9, 10] [3, 8, 38, 77]] (fun k => [(10, iA k)]) (fun _ => []) (fun k => [(77, 0, (((normS x i).take k).foldl (fun o k => takeGo (rowOf L k) x.d p.regs.toNat o) (List.replicate p.regs.toNat false)).map bR)]) (fun k => k ≤ (normS x i).length) (fun k => (normS x i).length - k) 0 rfl (fun _ => rfl) ?_ (Nat.zero_le _) ?_
  · rw [List.take_zero, List.foldl_nil, ← hz]; rfl
  intro k hk
  have hol := foldTake_len p.regs.toNat L x.d ((normS x i).take k) (List.replicate p.regs.toNat false)
  rw [List.length_replicate] at hol
  by_cases hlt : k < (normS x i).length
  · obtain ⟨r, hrk⟩ : ∃ r, (normS x i)[k]? = some r := ⟨_, List.getElem?_eq_getElem hlt⟩
    have hrr := hnin r (List.mem_of_getElem? hrk)
    have hsn : ((normS x i).take (k + 1)).foldl (fun o k => takeGo (rowOf L k) x.d p.regs.toNat o) (List.replicate p.regs.toNat false) = takeGo (rowOf L r) x.d p.regs.toNat (((normS x i).take k).foldl (fun o k => takeGo (rowOf L k) x.d p.regs.toNat o) (List.replicate p.regs.toNat false)) := by
      have e : (normS x i).take (k + 1) = (normS x i).take k ++ [r] := by
        rw [List.take_succ_eq_append_getElem hlt, (List.getElem?_eq_some_iff.1 hrk).2]
      rw [e, List.foldl_append]; rfl
    generalize ((normS x i).take k).foldl (fun o k => takeGo (rowOf L k) x.d p.regs.toNat o) (List.replicate p.regs.toNat false) = G at *
    obtain ⟨rn, rfl⟩ := Int.eq_ofNat_of_zero_le hrr.1
    have hxr : ((normS x i).map iR)[k]? = some (iR (rn : Int)) := by rw [List.getElem?_map, hrk]; rfl
    obtain ⟨row, hrow⟩ : ∃ row, L[rn]? = some row := ⟨_, List.getElem?_eq_getElem (by rw [hR.1]; omega)⟩
    have hrl2 : row.length = p.regs.toNat := hR.2 _ (List.mem_of_getElem? hrow)
    have hro : rowOf L (rn : Int) = row := by unfold rowOf; rw [Int.toNat_natCast, List.getD_eq_getElem?_getD, hrow]; rfl
    have hxrow : (L.map (bRow false))[rn]? = some (bRow false row) := by rw [List.getElem?_map, hrow]; rfl
    rw [hro] at hsn
    repeat' (first
       | refine wp_seq_i ?_ | refine wp_region_t k_marks rfl ?_ | refine Run.done rfl ?_ | refine then_n ?_ | refine then_r ?_ | refine then_e ?_ | refine Run.go1 rfl ?_ | refine wp_skip_i ?_ | refine wp_ret_i ?_
       | refine wp_exit_i ?_ | refine wp_block_i ?_ | refine block_n ?_ | refine block_r ?_ | refine block_e ?_ | refine block_o rfl ?_ | refine wp_cond_t rfl ?_ | refine wp_cond_f rfl ?_ | refine Run.one rfl rfl rfl ?_
       | (refine wp_cond_k rfl rfl rfl ?_ ?_ <;> intro _) | (refine wp_cond_i rfl ?_ ?_ <;> intro _))
    rotate_left 1
    · exfalso; rename_i h; have h := of_decide_eq_false h; simp at h; omega
    refine wp_loop_k (α := Nat) [.keep [1, 2, 3, 7, 8, 9, 10, 11] [3, 8, 38, 77]] (fun r => [(11, iA r)]) (fun _ => []) (fun r => [(77, 0, (takeGo row x.d r G).map bR)]) (fun r => r ≤ p.regs.toNat) (fun r => p.regs.toNat - r) 0 rfl (fun _ => rfl) rfl (Nat.zero_le _) ?_
    intro r hr
    have hgl := takeGo_len row x.d G r
    by_cases hlr : r < p.regs.toNat
    · obtain ⟨v, hv⟩ : ∃ v, row[r]? = some v := ⟨_, List.getElem?_eq_getElem (by omega)⟩
      obtain ⟨o, ho⟩ : ∃ o, (takeGo row x.d r G)[r]? = some o := ⟨_, List.getElem?_eq_getElem (by omega)⟩
      have hst := takeGo_step ho hv
      have hxv : (row.map bR)[r]? = some (bR v) := by rw [List.getElem?_map, hv]; rfl
      have hxo : ((takeGo row x.d r G).map bR)[r]? = some (bR o) := by rw [List.getElem?_map, ho]; rfl
      cases o
      all_goals cases v
      all_goals simp only [Bool.true_or, Bool.false_or, Bool.true_and, Bool.false_and] at hst
      repeat' (first
         | refine wp_seq_i ?_ | refine wp_region_t k_marks rfl ?_ | refine Run.done rfl ?_ | refine then_n ?_ | refine then_r ?_ | refine then_e ?_ | refine Run.go1 rfl ?_ | refine wp_skip_i ?_ | refine wp_ret_i ?_
         | refine wp_exit_i ?_ | refine wp_block_i ?_ | refine block_n ?_ | refine block_r ?_ | refine block_e ?_ | refine block_o rfl ?_ | refine wp_cond_t rfl ?_ | refine wp_cond_f rfl ?_ | refine Run.gT rfl rfl rfl rfl ?_
         | refine Run.pT rfl rfl ?_ | (refine Run.splitG rfl rfl rfl rfl rfl rfl ?_ ?_ <;> intro _) | (refine Run.splitP rfl rfl rfl rfl ?_ ?_ <;> intro _) | refine Run.ix rfl rfl rfl rfl rfl rfl rfl hxr rfl rfl rfl ?_
         | refine Run.ldr rfl rfl rfl hxr rfl rfl ?_ | refine Run.ix rfl rfl rfl rfl rfl rfl rfl hxrow rfl rfl rfl ?_ | refine Run.ix rfl rfl rfl rfl rfl rfl rfl hxv rfl rfl rfl ?_
         | refine Run.ix rfl rfl rfl rfl rfl rfl rfl hxo rfl rfl rfl ?_ | refine Run.ldr rfl rfl rfl hxo rfl rfl ?_ | refine Run.str rfl rfl rfl rfl rfl rfl hxo rfl rfl ?_ | refine Run.one rfl rfl rfl ?_
         | (refine wp_cond_k rfl rfl rfl ?_ ?_ <;> intro _) | (refine wp_cond_i rfl ?_ ?_ <;> intro _))
      all_goals first
      | (have h : decide ((r : Int) < p.regs) = false := by assumption
         have h := of_decide_eq_false h; exfalso; omega)
      | (refine back_i [.keep [1, 2, 3, 7, 8, 9, 10, 11] [3, 8, 38, 77]] (r + 1) rfl ?_ (by omega) (by omega)
         simp only [w_succ (show r < 401 by omega) (by omega), hst, List.map_set]; first | done | rfl)
      | trace_state
    have hr2 : r = p.regs.toNat := by omega
    subst hr2
    repeat' (first
       | refine wp_seq_i ?_ | refine wp_region_t k_marks rfl ?_ | refine Run.done rfl ?_ | refine then_n ?_ | refine then_r ?_ | refine then_e ?_ | refine Run.go1 rfl ?_ | refine wp_skip_i ?_ | refine wp_ret_i ?_
       | refine wp_exit_i ?_ | refine wp_block_i ?_ | refine block_n ?_ | refine block_r ?_ | refine block_e ?_ | refine block_o rfl ?_ | refine wp_cond_t rfl ?_ | refine wp_cond_f rfl ?_ | refine Run.one rfl rfl rfl ?_
       | (refine wp_cond_k rfl rfl rfl ?_ ?_ <;> intro _) | (refine wp_cond_i rfl ?_ ?_ <;> intro _))
    · exfalso; rename_i h; have h := of_decide_eq_true h; omega
    · refine back_i [.keep [1, 2, 3, 7, 8, 9, 10] [3, 8, 38, 77]] (k + 1) rfl ?_ (by omega) (by omega)
      simp only [w_succ hlt (by omega), hsn]; first | done | rfl
  have hk2 : k = (normS x i).length := by omega
  subst hk2
  rw [List.take_length] at hol ⊢
  generalize (normS x i).foldl (fun o k => takeGo (rowOf L k) x.d p.regs.toNat o) (List.replicate p.regs.toNat false) = O1 at *
  repeat' (first
     | refine wp_seq_i ?_ | refine wp_region_t k_marks rfl ?_ | refine Run.done rfl ?_ | refine then_n ?_ | refine then_r ?_ | refine then_e ?_ | refine Run.go1 rfl ?_ | refine wp_skip_i ?_ | refine wp_ret_i ?_
     | refine wp_exit_i ?_ | refine wp_block_i ?_ | refine block_n ?_ | refine block_r ?_ | refine block_e ?_ | refine block_o rfl ?_ | refine wp_cond_t rfl ?_ | refine wp_cond_f rfl ?_
     | refine Run.call rfl rfl rfl (l10Guard_t p i hok.1 hi) rfl rfl ?_ | refine Run.one rfl rfl rfl ?_ | (refine wp_cond_k rfl rfl rfl ?_ ?_ <;> intro _) | (refine wp_cond_i rfl ?_ ?_ <;> intro _))
  · exfalso; rename_i h; have h := of_decide_eq_true h; simp at h
  by_cases hg : 0 ≤ guardI p.ins i
  · obtain ⟨j, y, hj, hy0, hto, hdd, ht1, ht2⟩ := guard_in hb hg
    have hy : (p.ins.map (Ins.c false))[j]? = some (Ins.c false y) := by rw [List.getElem?_map, hy0]; rfl
    obtain ⟨tn, htn⟩ := Int.eq_ofNat_of_zero_le ht1
    obtain ⟨row, hrow⟩ : ∃ row, L[tn]? = some row := ⟨_, List.getElem?_eq_getElem (by rw [hR.1]; omega)⟩
    have hrl2 : row.length = p.regs.toNat := hR.2 _ (List.mem_of_getElem? hrow)
    have hro : rowOf L y.to_ = row := by unfold rowOf; rw [htn, Int.toNat_natCast, List.getD_eq_getElem?_getD, hrow]; rfl
    have hxrow : (L.map (bRow false))[tn]? = some (bRow false row) := by rw [List.getElem?_map, hrow]; rfl
    rw [hto, hdd, hro, if_pos (decide_eq_true hg)]
    refine wp_loop_k (α := Nat) [.keep [1, 3, 7, 12, 13] [3, 77]] (fun r => [(13, iA r)]) (fun _ => []) (fun r => [(77, 0, (takeGo row y.d r O1).map bR)]) (fun r => r ≤ p.regs.toNat) (fun r => p.regs.toNat - r) 0 rfl (fun _ => rfl) rfl (Nat.zero_le _) ?_
    intro r hr
    have hgl := takeGo_len row y.d O1 r
    by_cases hlr : r < p.regs.toNat
    · obtain ⟨v, hv⟩ : ∃ v, row[r]? = some v := ⟨_, List.getElem?_eq_getElem (by omega)⟩
      obtain ⟨o, ho⟩ : ∃ o, (takeGo row y.d r O1)[r]? = some o := ⟨_, List.getElem?_eq_getElem (by omega)⟩
      have hst := takeGo_step ho hv
      have hxv : (row.map bR)[r]? = some (bR v) := by rw [List.getElem?_map, hv]; rfl
      have hxo : ((takeGo row y.d r O1).map bR)[r]? = some (bR o) := by rw [List.getElem?_map, ho]; rfl
      cases o
      all_goals cases v
      all_goals simp only [Bool.true_or, Bool.false_or, Bool.true_and, Bool.false_and] at hst
      repeat' (first
         | refine wp_seq_i ?_ | refine wp_region_t k_marks rfl ?_ | refine Run.done rfl ?_ | refine then_n ?_ | refine then_r ?_ | refine then_e ?_ | refine Run.go1 rfl ?_ | refine wp_skip_i ?_ | refine wp_ret_i ?_
         | refine wp_exit_i ?_ | refine wp_block_i ?_ | refine block_n ?_ | refine block_r ?_ | refine block_e ?_ | refine block_o rfl ?_ | refine wp_cond_t rfl ?_ | refine wp_cond_f rfl ?_ | refine Run.gT rfl rfl rfl rfl ?_
         | refine Run.pT rfl rfl ?_ | (refine Run.splitG rfl rfl rfl rfl rfl rfl ?_ ?_ <;> intro _) | (refine Run.splitP rfl rfl rfl rfl ?_ ?_ <;> intro _) | refine Run.ix rfl rfl rfl rfl rfl rfl hj hy rfl rfl rfl ?_
         | refine Run.ix rfl rfl rfl rfl rfl rfl htn hxrow rfl rfl rfl ?_ | refine Run.ix rfl rfl rfl rfl rfl rfl rfl hxv rfl rfl rfl ?_ | refine Run.ix rfl rfl rfl rfl rfl rfl rfl hxo rfl rfl rfl ?_
         | refine Run.ldr rfl rfl rfl hxo rfl rfl ?_ | refine Run.str rfl rfl rfl rfl rfl rfl hxo rfl rfl ?_ | refine Run.one rfl rfl rfl ?_ | (refine wp_cond_k rfl rfl rfl ?_ ?_ <;> intro _)
         | (refine wp_cond_i rfl ?_ ?_ <;> intro _))
      all_goals first
      | (have h : decide ((r : Int) < p.regs) = false := by assumption
         have h := of_decide_eq_false h; exfalso; omega)
      | (have h : decide (guardI p.ins i ≥ 0) = false := by assumption
         have h := of_decide_eq_false h; exfalso; omega)
      | (refine back_i [.keep [1, 3, 7, 12, 13] [3, 77]] (r + 1) rfl ?_ (by omega) (by omega)
         simp only [w_succ (show r < 401 by omega) (by omega), hst, List.map_set]; first | done | rfl)
      | trace_state
    have hr2 : r = p.regs.toNat := by omega
    subst hr2
    repeat' (first
       | refine wp_seq_i ?_ | refine wp_region_t k_marks rfl ?_ | refine Run.done rfl ?_ | refine then_n ?_ | refine then_r ?_ | refine then_e ?_ | refine Run.go1 rfl ?_ | refine wp_skip_i ?_ | refine wp_ret_i ?_
       | refine wp_exit_i ?_ | refine wp_block_i ?_ | refine block_n ?_ | refine block_r ?_ | refine block_e ?_ | refine block_o rfl ?_ | refine wp_cond_t rfl ?_ | refine wp_cond_f rfl ?_ | refine Run.gT rfl rfl rfl rfl ?_
       | refine Run.pT rfl rfl ?_ | (refine Run.splitG rfl rfl rfl rfl rfl rfl ?_ ?_ <;> intro _) | (refine Run.splitP rfl rfl rfl rfl ?_ ?_ <;> intro _) | refine Run.one rfl rfl rfl ?_
       | (refine wp_cond_k rfl rfl rfl ?_ ?_ <;> intro _) | (refine wp_cond_i rfl ?_ ?_ <;> intro _))
    all_goals first
    | (refine ret_m [] rfl rfl rfl; done)
    | (have h : decide (((p.regs.toNat : Nat) : Int) < p.regs) = true := by assumption
       have h := of_decide_eq_true h; exfalso; omega)
    | trace_state
  · rw [if_neg (by simpa using hg)]
    refine wp_loop_k (α := Unit) [.keep [1, 3, 7, 12, 13] [3, 77]] (fun _ => []) (fun _ => []) (fun _ => []) (fun _ => True) (fun _ => 0) () rfl (fun _ => rfl) rfl trivial ?_
    intro _ _
    repeat' (first
       | refine wp_seq_i ?_ | refine wp_region_t k_marks rfl ?_ | refine Run.done rfl ?_ | refine then_n ?_ | refine then_r ?_ | refine then_e ?_ | refine Run.go1 rfl ?_ | refine wp_skip_i ?_ | refine wp_ret_i ?_
       | refine wp_exit_i ?_ | refine wp_block_i ?_ | refine block_n ?_ | refine block_r ?_ | refine block_e ?_ | refine block_o rfl ?_ | refine wp_cond_t rfl ?_ | refine wp_cond_f rfl ?_ | refine Run.gT rfl rfl rfl rfl ?_
       | refine Run.pT rfl rfl ?_ | (refine Run.splitG rfl rfl rfl rfl rfl rfl ?_ ?_ <;> intro _) | (refine Run.splitP rfl rfl rfl rfl ?_ ?_ <;> intro _) | refine Run.one rfl rfl rfl ?_
       | (refine wp_cond_k rfl rfl rfl ?_ ?_ <;> intro _) | (refine wp_cond_i rfl ?_ ?_ <;> intro _))
    all_goals first
    | (refine ret_m [] rfl rfl rfl; done)
    | (have h : decide (guardI p.ins i ≥ 0) = true := by assumption
       have h := of_decide_eq_true h; exfalso; omega)
    | trace_state
end Go.Proofs

set_option linter.unusedVariables false
set_option linter.unusedSimpArgs false
set_option maxHeartbeats 4000000
namespace Go.Proofs
open Go Go.Ev
set_option maxRecDepth 100000
variable {X : Rel3}
theorem shr_It (l : List Int) : shrR (l.map iR) = l.map iR := by
  induction l with
  | nil => rfl
  | cons x r ih => simp [shrR, shrL, T.shr, ih]
theorem shr_Inst (l : List Ins) : shrR (l.map (Ins.c true)) = l.map (Ins.c false) := by
  induction l with
  | nil => rfl
  | cons x r ih => simp [shrR, shrL, T.shr, ih, shr_It]
theorem shr_Pt (l : List Piece) : shrR (l.map (Piece.c true)) = l.map (Piece.c false) := by
  induction l with
  | nil => rfl
  | cons x r ih => simp [shrR, shrL, T.shr, ih, shr_Inst]
/-- code whose memory is its own, to be read -/
abbrev Code.s (c : Code) : AV := .ag [.t (.sl false (shrR (c.funs.map (Piece.c true)))), iA c.main.lam, iA c.main.in_, iA c.main.regs, .t (.sl false (shrR (c.main.ins.map (Ins.c true))))]
theorem Code.s_eq (c : Code) : c.s = c.a false := by simp only [Code.s, Code.a, shr_Pt, shr_Inst]
theorem own_I (l : List Int) : ownR (l.map iR) := by
  induction l with
  | nil => simp [ownR]
  | cons x r ih => simp [ownR, ownL, T.own, ih]
theorem own_Ins (l : List Ins) : ownR (l.map (Ins.c true)) := by
  induction l with
  | nil => simp [ownR]
  | cons x r ih => simp [ownR, ownL, T.own, ih, own_I]
theorem own_P (l : List Piece) : ownR (l.map (Piece.c true)) := by
  induction l with
  | nil => simp [ownR]
  | cons x r ih => simp [ownR, ownL, T.own, ih, own_Ins]
theorem szIntS_ok {l : List Int} {left : Int} (hl : l.length ≤ 9223372036854775807) (h0 : 0 ≤ left ∧ left ≤ 1048576) (h : ¬ szIntS l left < 0) : l.length ≤ 1048576 ∧ 0 ≤ szIntS l left ∧ szIntS l left ≤ 1048576 := by
  unfold szIntS at h ⊢
  rw [w64 (by omega) (by omega)] at h ⊢
  split at h
  · omega
  · rename_i h1; rw [if_neg h1]; omega
theorem szIns_ok {i : Ins} {left : Int} (hl : i.l.length ≤ 9223372036854775807) (h0 : 0 ≤ left ∧ left ≤ 1048576) (h : ¬ szIns i left < 0) : i.l.length ≤ 1048576 ∧ 0 ≤ szIns i left ∧ szIns i left ≤ 1048576 := by
  unfold szIns at h ⊢
  split at h
  · omega
  · rename_i h1; rw [if_neg h1]; exact szIntS_ok hl h0 h1
theorem szL_ok {α : Type} {f : α → Int → Int} {ok : α → Prop} {pre : α → Prop} (hf : ∀ x left, pre x → 0 ≤ left ∧ left ≤ 1048576 → ¬ f x left < 0 → ok x ∧ 0 ≤ f x left ∧ f x left ≤ 1048576) :
    ∀ {l : List α} {left : Int}, (∀ x ∈ l, pre x) → 0 ≤ left ∧ left ≤ 1048576 → ¬ szL f l left < 0 → (∀ x ∈ l, ok x) ∧ 0 ≤ szL f l left ∧ szL f l left ≤ 1048576 := by
  intro l
  induction l with
  | nil => intro left _ h0 h; exact ⟨by simp, h0⟩
  | cons x r ih =>
    intro left hp h0 h
    rw [szL] at h ⊢
    split at h
    · omega
    · rename_i h1
      rw [if_neg h1]
      obtain ⟨a1, a2⟩ := hf x left (hp x (List.mem_cons_self ..)) h0 h1
      obtain ⟨b1, b2⟩ := ih (fun y hy => hp y (List.mem_cons_of_mem _ hy)) a2 h
      refine ⟨fun y hy => ?_, b2⟩
      rcases List.mem_cons.1 hy with rfl | hy
      · exact a1
      · exact b1 y hy
def Ins.len (i : Ins) : Prop := i.l.length ≤ 9223372036854775807
def Piece.len (p : Piece) : Prop := p.ins.length ≤ 9223372036854775807 ∧ ∀ i ∈ p.ins, i.len
def Code.len (c : Code) : Prop := c.funs.length ≤ 9223372036854775807 ∧ (∀ p ∈ c.funs, p.len) ∧ c.main.len
theorem szInsS_ok {l : List Ins} {left : Int} (hl : l.length ≤ 9223372036854775807) (hll : ∀ i ∈ l, i.len) (h0 : 0 ≤ left ∧ left ≤ 1048576) (h : ¬ szInsS l left < 0) : (l.length ≤ 1048576 ∧ ∀ i ∈ l, i.l.length ≤ 1048576) ∧ 0 ≤ szInsS l left ∧ szInsS l left ≤ 1048576 := by
  unfold szInsS at h ⊢
  rw [w64 (by omega) (by omega)] at h ⊢
  split at h
  · omega
  · rename_i h1
    rw [if_neg h1]
    obtain ⟨a, b⟩ := szL_ok (pre := Ins.len) (ok := fun i => i.l.length ≤ 1048576) (fun x left hp h0 h => szIns_ok hp h0 h) hll (by omega) h
    exact ⟨⟨by omega, a⟩, b⟩
theorem szPiece_ok {p : Piece} {left : Int} (hl : p.len) (h0 : 0 ≤ left ∧ left ≤ 1048576) (h : ¬ szPiece p left < 0) : p.ok ∧ 0 ≤ szPiece p left ∧ szPiece p left ≤ 1048576 := by
  unfold szPiece at h ⊢
  split at h
  · omega
  · rename_i h1; rw [if_neg h1]; exact szInsS_ok hl.1 hl.2 h0 h1
theorem szPieceS_ok {l : List Piece} {left : Int} (hl : l.length ≤ 9223372036854775807) (hll : ∀ i ∈ l, i.len) (h0 : 0 ≤ left ∧ left ≤ 1048576) (h : ¬ szPieceS l left < 0) : (l.length ≤ 1048576 ∧ ∀ p ∈ l, p.ok) ∧ 0 ≤ szPieceS l left ∧ szPieceS l left ≤ 1048576 := by
  unfold szPieceS at h ⊢
  rw [w64 (by omega) (by omega)] at h ⊢
  split at h
  · omega
  · rename_i h1
    rw [if_neg h1]
    obtain ⟨a, b⟩ := szL_ok (pre := Piece.len) (ok := Piece.ok) (fun x left hp h0 h => szPiece_ok hp h0 h) hll (by omega) h
    exact ⟨⟨by omega, a⟩, b⟩
theorem szCode_ok {c : Code} (hl : c.len) (h : ¬ szCode c 1048576 < 0) : c.ok := by
  unfold szCode at h
  split at h
  · omega
  · rename_i h1
    obtain ⟨⟨a1, a2⟩, a3⟩ := szPieceS_ok hl.1 hl.2.1 (by omega) h1
    split at h
    · omega
    · rename_i h2
      exact ⟨a1, a2, (szPiece_ok hl.2.2 a3 h2).1⟩
theorem nx_up {k : Int} (h0 : 0 ≤ k) (h : k ≤ 9223372036854775806) : nx k = k + 1 := by unfold nx; rw [w64] <;> omega
theorem mk_up : ∀ (l : List Int) (k : Int), 0 ≤ k → k + l.length ≤ 9223372036854775807 → (mk l k).2 = k + l.length
  | [], k, _, _ => by simp [mk]
  | x :: r, k, h0, h => by
    simp only [List.length_cons] at h ⊢
    have e : IntKind.i64.wrap (k + 1) = k + 1 := by rw [w64] <;> omega
    rw [mk, e]
    have := mk_up r (k + 1) (by omega) (by omega)
    simp only; omega
theorem mkB_up : ∀ (l : List Int) (k : Int), 0 ≤ k → k + l.length ≤ 9223372036854775806 → (mkB l k).2 = k + l.length
  | [], k, _, _ => by simp [mkB]
  | x :: r, k, h0, h => by
    simp only [List.length_cons] at h ⊢
    rw [mkB, nx_up h0 (by omega)]
    have := mkB_up r (k + 1) (by omega) (by omega)
    simp only; omega
theorem heB_mkB : ∀ (l : List Int) (k : Int), heB (mkB l k).1 k = (mkB l k).2
  | [], k => rfl
  | x :: r, k => by rw [mkB, heB, if_pos rfl]; exact heB_mkB r (nx k)
theorem mkB_len' (l : List Int) (k : Int) : (mkB l k).1.length = l.length := mkB_len l k
theorem mkIns_up {i : Ins} {k : Int} (hi : i.l.length ≤ 1048576) (h0 : 0 ≤ k) (h : k ≤ 9223372036850000000) : 0 ≤ (mkIns i k).2 ∧ (mkIns i k).2 ≤ k + 1048583 := by
  unfold mkIns
  simp only
  rw [nx_up h0 (by omega), nx_up (k := k + 1) (by omega) (by omega), nx_up (k := k + 1 + 1) (by omega) (by omega), nx_up (k := k + 1 + 1 + 1) (by omega) (by omega), nx_up (k := k + 1 + 1 + 1 + 1) (by omega) (by omega)]
  have h2 := mk_up i.l (k + 1 + 1 + 1 + 1 + 1) (by omega) (by omega)
  rw [h2, nx_up (by omega) (by omega)]
  omega
theorem mkInsS_up : ∀ {l : List Ins} {k : Int}, (∀ i ∈ l, i.l.length ≤ 1048576) → 0 ≤ k → k + 1048583 * l.length ≤ 9223372036850000000 → 0 ≤ (mkInsS l k).2 ∧ (mkInsS l k).2 ≤ k + 1048583 * l.length
  | [], k, _, h0, _ => by simp [mkInsS]; exact h0
  | i :: r, k, hl, h0, h => by
    simp only [List.length_cons] at h ⊢
    obtain ⟨a, b⟩ := mkIns_up (hl i (List.mem_cons_self ..)) h0 (by omega)
    obtain ⟨c, d⟩ := mkInsS_up (fun j hj => hl j (List.mem_cons_of_mem _ hj)) a (by omega)
    rw [mkInsS]
    simp only; omega
theorem mkPiece_up {p : Piece} {k : Int} (hp : p.ok) (h0 : 0 ≤ k) (h : k ≤ 9222000000000000000) : 0 ≤ (mkPiece p k).2 ∧ (mkPiece p k).2 ≤ k + 1099518968000 := by
  unfold mkPiece
  simp only
  have h1 := hp.1
  rw [nx_up h0 (by omega), nx_up (k := k + 1) (by omega) (by omega), nx_up (k := k + 1 + 1) (by omega) (by omega)]
  have := mkInsS_up (k := k + 1 + 1 + 1) hp.2 (by omega) (by omega)
  omega
theorem mkPieceS_up : ∀ {l : List Piece} {k : Int}, (∀ p ∈ l, p.ok) → 0 ≤ k → k + 1099518968000 * l.length ≤ 9222000000000000000 → 0 ≤ (mkPieceS l k).2 ∧ (mkPieceS l k).2 ≤ k + 1099518968000 * l.length
  | [], k, _, h0, _ => by simp [mkPieceS]; exact h0
  | i :: r, k, hl, h0, h => by
    simp only [List.length_cons] at h ⊢
    obtain ⟨a, b⟩ := mkPiece_up (hl i (List.mem_cons_self ..)) h0 (by omega)
    obtain ⟨c, d⟩ := mkPieceS_up (fun j hj => hl j (List.mem_cons_of_mem _ hj)) a (by omega)
    rw [mkPieceS]
    simp only; omega
theorem mkCode_up {c : Code} (hc : c.ok) : ¬ (mkInsS c.main.ins (mkPieceS c.funs 1).2).2 < 0 := by
  have h1 := hc.1
  have h2 := hc.2.2.1
  obtain ⟨a, b⟩ := mkPieceS_up (k := 1) hc.2.1 (by omega) (by omega)
  have := (mkInsS_up (k := (mkPieceS c.funs 1).2) hc.2.2.2 a (by omega)).1
  omega
end Go.Proofs

set_option linter.unusedVariables false
set_option linter.unusedSimpArgs false
set_option maxHeartbeats 4000000
namespace Go.Proofs
open Go Go.Ev
set_option maxRecDepth 100000
variable {X : Rel3}
/-- what is marked is held -/
def heI : List Int → Int → Int
  | [], k => k
  | x :: r, k => if x = k then heI r (IntKind.i64.wrap (k + 1)) else -1
theorem heI_mk : ∀ (l : List Int) (k : Int), heI (mk l k).1 k = (mk l k).2
  | [], k => rfl
  | x :: r, k => by rw [mk, heI, if_pos rfl]; exact heI_mk r _
theorem heldIntS_t (l : List Int) (k : Int) (hl : l.length ≤ 9223372036854775807) : Tells Try.prog E0 X 30 [.t (.sl false (l.map iR)), iA k] (iA (heI l k)) := by
  refine Tells.by Try.func30 (by simp [Try.f30]) (Body.i rfl rfl rfl (fun _ => rfl) fun f => ?_)
  repeat' (first
     | refine wp_seq_i ?_ | refine wp_region_i ?_ | refine Run.done rfl ?_ | refine then_n ?_ | refine then_r ?_ | refine then_e ?_ | refine Run.go1 rfl ?_ | refine wp_skip_i ?_ | refine wp_ret_i ?_ | refine wp_exit_i ?_
     | refine wp_block_i ?_ | refine block_n ?_ | refine block_r ?_ | refine block_e ?_ | refine block_o rfl ?_ | refine wp_cond_t rfl ?_ | refine wp_cond_f rfl ?_ | (refine wp_cond_k rfl rfl rfl ?_ ?_ <;> intro _)
     | (refine wp_cond_i rfl ?_ ?_ <;> intro _))
  refine wp_loop_k (α := Nat × Int) [.keep [0, 1, 4, 5] []] (fun p => [(1, iA p.2), (5, iA p.1)]) (fun _ => []) (fun _ => []) (fun p => p.1 ≤ l.length ∧ heI (l.drop p.1) p.2 = heI l k) (fun p => l.length - p.1) (0, k) rfl (fun _ => rfl) rfl ⟨by simp, by simp⟩ ?_
  rintro ⟨j, c⟩ ⟨hj, hc⟩
  simp only at hj hc
  by_cases hlt : j < l.length
  · have hx : (l.map iR)[j]? = some (iR l[j]) := by simp [hlt]
    rw [List.drop_eq_getElem_cons hlt, heI] at hc
    repeat' (first
       | refine wp_seq_i ?_ | refine wp_region_i ?_ | refine Run.done rfl ?_ | refine then_n ?_ | refine then_r ?_ | refine then_e ?_ | refine Run.go1 rfl ?_ | refine wp_skip_i ?_ | refine wp_ret_i ?_ | refine wp_exit_i ?_
       | refine wp_block_i ?_ | refine block_n ?_ | refine block_r ?_ | refine block_e ?_ | refine block_o rfl ?_ | refine wp_cond_t rfl ?_ | refine wp_cond_f rfl ?_ | refine Run.ix rfl rfl rfl rfl rfl rfl rfl hx rfl rfl rfl ?_
       | (refine wp_cond_k rfl rfl rfl ?_ ?_ <;> intro _) | (refine wp_cond_i rfl ?_ ?_ <;> intro _))
    · rename_i h
      rw [if_neg (by simpa using h)] at hc
      refine ret_m [] rfl rfl ?_
      rw [← hc]
    · rename_i h
      rw [if_pos (by simpa using h)] at hc
      refine back_i [.keep [0, 1, 4, 5] []] (j + 1, IntKind.i64.wrap (c + 1)) rfl ?_ ⟨by simp; omega, hc⟩ (by simp; omega)
      simp only [w_succ hlt hl]
    · rename_i h; simp [hlt] at h
  · have hjl : j = l.length := by omega
    repeat' (first
       | refine wp_seq_i ?_ | refine wp_region_i ?_ | refine Run.done rfl ?_ | refine then_n ?_ | refine then_r ?_ | refine then_e ?_ | refine Run.go1 rfl ?_ | refine wp_skip_i ?_ | refine wp_ret_i ?_ | refine wp_exit_i ?_
       | refine wp_block_i ?_ | refine block_n ?_ | refine block_r ?_ | refine block_e ?_ | refine block_o rfl ?_ | refine wp_cond_t rfl ?_ | refine wp_cond_f rfl ?_ | (refine wp_cond_k rfl rfl rfl ?_ ?_ <;> intro _)
       | (refine wp_cond_i rfl ?_ ?_ <;> intro _))
    · rename_i h; simp [hjl] at h
    · refine ret_m [] rfl rfl ?_
      rw [← hc, hjl, List.drop_length]; rfl
abbrev Piece.s (p : Piece) : AV := .ag [iA p.lam, iA p.in_, iA p.regs, .t (.sl false (shrR (p.ins.map (Ins.c true))))]
theorem Piece.s_eq (p : Piece) : p.s = p.a false := by simp only [Piece.s, Piece.a, shr_Inst]
theorem mkP_up {p : Piece} (hp : p.ok) : ¬ (mkInsS p.ins 1).2 < 0 := by
  have h2 := hp.1
  have := (mkInsS_up (k := 1) hp.2 (by omega) (by omega)).1
  omega
end Go.Proofs

set_option linter.unusedVariables false
set_option linter.unusedSimpArgs false
set_option maxHeartbeats 4000000
namespace Go.Proofs
open Go Go.Ev
set_option maxRecDepth 100000
variable {X : Rel3}
abbrev iRowB (l : List Int) : List T := [.sl false (l.map iR)]
theorem iRow_at {o : Bool} {L : List (List Int)} {k : Nat} {l : List Int} (h : L[k]? = some l) : (L.map fun l => [T.sl o (l.map iR)])[k]? = some [T.sl o (l.map iR)] := by rw [List.getElem?_map, h]; rfl
def k_eqSS : List (Nat × List Nat) := [(0, [0, 1]), (1, [0, 1, 10]), (2, [4]), (3, [0, 1, 5]), (4, [0, 1, 5, 14]), (5, [0, 1, 5]), (6, [0, 1, 5, 26]), (7, [4]), (8, [4])]
theorem eqIntSS_t (a b : List (List Int)) (hl : a.length ≤ 1048576) (hll : ∀ l ∈ a, l.length ≤ 1048576) : Tells Try.prog E0 X 12 [.t (.sl false (a.map iRowB)), .t (.sl false (b.map iRowB))] (bA (decide (a = b))) := by
  refine Tells.by Try.func12 (by simp [Try.f12]) (Body.i rfl rfl rfl (fun _ => rfl) fun f => ?_)
  repeat' (first
     | refine wp_seq_i ?_ | refine wp_region_t k_eqSS rfl ?_ | refine Run.done rfl ?_ | refine then_n ?_ | refine then_r ?_ | refine then_e ?_ | refine Run.go1 rfl ?_ | refine wp_skip_i ?_ | refine wp_ret_i ?_
     | refine wp_exit_i ?_ | refine wp_block_i ?_ | refine block_n ?_ | refine block_r ?_ | refine block_e ?_ | refine block_o rfl ?_ | refine wp_cond_t rfl ?_ | refine wp_cond_f rfl ?_
     | (refine wp_cond_k rfl rfl rfl ?_ ?_ <;> intro _) | (refine wp_cond_i rfl ?_ ?_ <;> intro _))
  · rename_i h
    refine ret_m [] rfl rfl ?_
    simp at h
    simp; intro e; exact h (by rw [e])
  rename_i h
  have hab : a.length = b.length := by
    have : (a.length : Int) = b.length := by simpa using h
    omega
  refine wp_loop_k (α := Nat) [.keep [0, 1, 5] []] (fun p => [(5, iA p)]) (fun _ => []) (fun _ => []) (fun p => p ≤ a.length ∧ a.take p = b.take p) (fun p => a.length - p) 0 rfl (fun _ => rfl) rfl ⟨by simp, by simp⟩ ?_
  rintro j ⟨hj, he⟩
  by_cases hlt : j < a.length
  · have hx : (a.map iRowB)[j]? = some (iRowB a[j]) := by simp [hlt]
    have hy : (b.map iRowB)[j]? = some (iRowB (b[j]'(by omega))) := by simp [← hab, hlt]
    have ta : a.take (j + 1) = a.take j ++ [a[j]] := by simp
    have tb : b.take (j + 1) = b.take j ++ [b[j]'(by omega)] := by simp
    have haj := hll a[j] (List.getElem_mem hlt)
    generalize a[j] = u at *
    generalize (b[j]'(by omega)) = v at *
    repeat' (first
       | refine wp_seq_i ?_ | refine wp_region_t k_eqSS rfl ?_ | refine Run.done rfl ?_ | refine then_n ?_ | refine then_r ?_ | refine then_e ?_ | refine Run.go1 rfl ?_ | refine wp_skip_i ?_ | refine wp_ret_i ?_
       | refine wp_exit_i ?_ | refine wp_block_i ?_ | refine block_n ?_ | refine block_r ?_ | refine block_e ?_ | refine block_o rfl ?_ | refine wp_cond_t rfl ?_ | refine wp_cond_f rfl ?_
       | refine wp_region_qt k_eqSS rfl 10 (by decide +kernel) rfl rfl ?_ | refine RunQ.go1 rfl ?_ | refine RunQ.done rfl ?_ | refine RunQ.ix rfl rfl rfl rfl rfl rfl rfl hx rfl rfl rfl ?_
       | refine RunQ.ix rfl rfl rfl rfl rfl rfl rfl hy rfl rfl rfl ?_ | refine RunQ.call rfl rfl rfl rfl rfl rfl (eqIntS_t u v haj) (.inl rfl) rfl rfl ?_ | (refine wp_cond_k rfl rfl rfl ?_ ?_ <;> intro _)
       | (refine wp_cond_i rfl ?_ ?_ <;> intro _))
    all_goals first
    | (rename_i h2
       refine ret_m [] rfl rfl ?_
       have hne : u ≠ v := by simpa using h2
       rw [decide_eq_false (fun e => hne (by
         have h3 : a.take (j + 1) = b.take (j + 1) := by rw [e]
         rw [ta, tb, he] at h3
         simpa using h3))]; done)
    | (rename_i h2
       have heq : u = v := by simpa using h2
       refine back_i [.keep [0, 1, 5] []] (j + 1) rfl ?_ ⟨by omega, ?_⟩ (by omega)
       · simp only [w_succ hlt (show a.length ≤ 9223372036854775807 by omega)]
       · rw [ta, tb, he, heq])
    | (exfalso; rename_i h2; simp [hlt] at h2; done)
    | trace_state
  · have hjl : j = a.length := by omega
    repeat' (first
       | refine wp_seq_i ?_ | refine wp_region_t k_eqSS rfl ?_ | refine Run.done rfl ?_ | refine then_n ?_ | refine then_r ?_ | refine then_e ?_ | refine Run.go1 rfl ?_ | refine wp_skip_i ?_ | refine wp_ret_i ?_
       | refine wp_exit_i ?_ | refine wp_block_i ?_ | refine block_n ?_ | refine block_r ?_ | refine block_e ?_ | refine block_o rfl ?_ | refine wp_cond_t rfl ?_ | refine wp_cond_f rfl ?_
       | (refine wp_cond_k rfl rfl rfl ?_ ?_ <;> intro _) | (refine wp_cond_i rfl ?_ ?_ <;> intro _))
    · exfalso; rename_i h2; simp [hjl] at h2
    · refine ret_m [] rfl rfl ?_
      rw [hjl] at he
      have : a = b := by rw [List.take_length, hab, List.take_length] at he; exact he
      simp [this]
def mkSS : List (List Int) → Int → List (List Int) × Int
  | [], k => ([], k)
  | i :: r, k => ((mk i k).1 :: (mkSS r (mk i k).2).1, (mkSS r (mk i k).2).2)
theorem mkSS_snoc (l : List (List Int)) (x : List Int) (k : Int) : mkSS (l ++ [x]) k = ((mkSS l k).1 ++ [(mk x (mkSS l k).2).1], (mk x (mkSS l k).2).2) := by
  induction l generalizing k with
  | nil => rfl
  | cons y l ih => simp [mkSS, ih]
theorem mkSS_len (l : List (List Int)) (k : Int) : (mkSS l k).1.length = l.length := by
  induction l generalizing k with
  | nil => rfl
  | cons y l ih => simp [mkSS, ih]
theorem mkSS_at : ∀ (l : List (List Int)) (k : Int) (j : Nat) (x : List Int), l[j]? = some x → (mkSS l k).1[j]? = some (mk x (mkSS (l.take j) k).2).1
  | [], k, j, x, h => by simp at h
  | i :: r, k, 0, x, h => by simp at h; subst h; simp [mkSS]
  | i :: r, k, j + 1, x, h => by
    have := mkSS_at r (mk i k).2 j x (by simpa using h)
    simp only [mkSS, List.getElem?_cons_succ, List.take_succ_cons]
    exact this
theorem mkSS_up : ∀ {l : List (List Int)} {k : Int}, (∀ x ∈ l, x.length ≤ 1048576) → 0 ≤ k → k + 1048576 * l.length ≤ 9223372036850000000 → 0 ≤ (mkSS l k).2 ∧ (mkSS l k).2 ≤ k + 1048576 * l.length
  | [], k, _, h0, h => by simp [mkSS]; exact h0
  | x :: r, k, hx, h0, h => by
    have hl := hx x (List.mem_cons_self ..)
    simp only [List.length_cons] at h ⊢
    have h1 := mk_up x k h0 (by omega)
    have h2 := mkSS_up (l := r) (k := (mk x k).2) (fun y hy => hx y (List.mem_cons_of_mem _ hy)) (by omega) (by omega)
    simp only [mkSS]
    omega
def k_mkSS : List (Nat × List Nat) := [(0, [0, 1]), (1, [0, 1, 5]), (2, [0, 1, 5, 9]), (3, [0, 1, 5]), (4, [0, 1, 5]), (5, [4])]
theorem markIntSS_t (l : List (List Int)) (k : Int) (hl : l.length ≤ 1048576) (hll : ∀ i ∈ l, i.length ≤ 1048576) : Tells Try.prog E0 X 14 [.t (.sl true (l.map iRow)), iA k] (.io [iA (mkSS l k).2, .t (.sl true ((mkSS l k).1.map iRow)), .u]) := by
  refine Tells.by Try.func14 (by simp [Try.f14]) (Body.i rfl rfl rfl (fun _ => rfl) fun f => ?_)
  repeat' (first
     | refine wp_seq_i ?_ | refine wp_region_t k_mkSS rfl ?_ | refine Run.done rfl ?_ | refine then_n ?_ | refine then_r ?_ | refine then_e ?_ | refine Run.go1 rfl ?_ | refine wp_skip_i ?_ | refine wp_ret_i ?_
     | refine wp_exit_i ?_ | refine wp_block_i ?_ | refine block_n ?_ | refine block_r ?_ | refine block_e ?_ | refine block_o rfl ?_ | refine wp_cond_t rfl ?_ | refine wp_cond_f rfl ?_
     | (refine wp_cond_k rfl rfl rfl ?_ ?_ <;> intro _) | (refine wp_cond_i rfl ?_ ?_ <;> intro _))
  refine wp_loop_k (α := Nat × Int × List (List Int)) [.keep [0, 1, 5] [100000]] (fun p => [(1, iA p.2.1), (5, iA p.1)]) (fun _ => []) (fun p => [(100000, ⟨0, some (f 100000)⟩, p.2.2.map iRow)]) (fun p => p.1 ≤ l.length ∧ p.2.1 = (mkSS (l.take p.1) k).2 ∧ p.2.2 = (mkSS (l.take p.1) k).1 ++ l.drop p.1) (fun p => l.length - p.1) (0, k, l) rfl (fun _ => rfl) rfl ⟨by simp, by simp [mkSS], by simp [mkSS]⟩ ?_
  rintro ⟨j, c, m⟩ ⟨hj, hc, hm⟩
  simp only at hj hc hm
  have hml : m.length = l.length := by rw [hm]; simp [mkSS_len]; omega
  by_cases hlt : j < l.length
  · have hj' : j < m.length := by omega
    have hx : (m.map iRow)[j]? = some (iRow m[j]) := by simp [hj']
    have ht : l.take (j + 1) = l.take j ++ [l[j]] := by simp
    have hmj : m[j] = l[j] := by subst hm; rw [List.getElem_append_right (by simp [mkSS_len]; omega)]; simp [mkSS_len, Nat.min_eq_left hj]
    have hlj : m[j].length ≤ 9223372036854775807 := by rw [hmj]; exact Nat.le_trans (hll _ (List.getElem_mem _)) (by decide)
    repeat' (first
      
       | refine Run.adjwOn 15 (.hole 100000 j 0 900000 _ _ _ _ _ _ rfl hx rfl (fun _ => rfl) fun u => .done _ (Run.ldr rfl rfl rfl (set_hit (by simp [hj'])) rfl rfl (Run.go1 rfl (Run.adjw (.tell 15 900000 _ _ _ _ _ rfl rfl rfl rfl (.done _ (Run.call rfl rfl rfl (markIntS_t _ _ hlj) rfl rfl (Run.adjw (.fill 100000 j 0 900000 _ _ _ _ _ _ _ rfl (set_hit (by simp [hj'])) rfl rfl rfl (.done _ ?_))))))))))
       | refine wp_seq_i ?_ | refine wp_region_t k_mkSS rfl ?_ | refine Run.done rfl ?_ | refine then_n ?_ | refine then_r ?_ | refine then_e ?_ | refine Run.go1 rfl ?_ | refine wp_skip_i ?_ | refine wp_ret_i ?_
       | refine wp_exit_i ?_ | refine wp_block_i ?_ | refine block_n ?_ | refine block_r ?_ | refine block_e ?_ | refine block_o rfl ?_ | refine wp_cond_t rfl ?_ | refine wp_cond_f rfl ?_
       | refine Run.ix rfl rfl rfl rfl rfl rfl rfl hx rfl rfl rfl ?_ | (refine wp_cond_k rfl rfl rfl ?_ ?_ <;> intro _) | (refine wp_cond_i rfl ?_ ?_ <;> intro _))
    · refine back_i [.keep [0, 1, 5] [100000]] (j + 1, (mk m[j] c).2, m.set j (mk m[j] c).1) rfl ?_ ⟨by simp; omega, ?_, ?_⟩ (by simp; omega)
      · simp only [List.map_set, List.set_set, w_succ hlt (show l.length ≤ 9223372036854775807 by omega)]; first | done | rfl
      · rw [ht, mkSS_snoc, hmj, hc]
      · rw [ht, mkSS_snoc, hmj, ← hc]
        conv => lhs; rw [hm]
        rw [List.drop_eq_getElem_cons hlt, List.set_append_right _ _ (by simp [mkSS_len]; omega)]
        simp only [mkSS_len, List.length_take, Nat.min_eq_left hj, Nat.sub_self, List.set_cons_zero, List.append_assoc, List.singleton_append]
    · rename_i h; simp [hml, hlt] at h
  · have hjl : j = l.length := by omega
    repeat' (first
       | refine wp_seq_i ?_ | refine wp_region_t k_mkSS rfl ?_ | refine Run.done rfl ?_ | refine then_n ?_ | refine then_r ?_ | refine then_e ?_ | refine Run.go1 rfl ?_ | refine wp_skip_i ?_ | refine wp_ret_i ?_
       | refine wp_exit_i ?_ | refine wp_block_i ?_ | refine block_n ?_ | refine block_r ?_ | refine block_e ?_ | refine block_o rfl ?_ | refine wp_cond_t rfl ?_ | refine wp_cond_f rfl ?_
       | (refine wp_cond_k rfl rfl rfl ?_ ?_ <;> intro _) | (refine wp_cond_i rfl ?_ ?_ <;> intro _))
    · rename_i h; simp [hml, hjl] at h
    · refine ret_o [true] [] rfl rfl rfl ⟨rfl, trivial⟩ ?_
      subst hjl
      simp [hc, hm]
def k_heSS : List (Nat × List Nat) := [(0, [0, 1]), (1, [0, 1, 5]), (2, [0, 1, 5, 9]), (3, [0, 1, 5]), (4, [0, 1, 5]), (5, [0, 1, 5, 19]), (6, [4]), (7, [4])]
theorem heldIntSS_t (l : List (List Int)) (k : Int) (hl : l.length ≤ 1048576) (hll : ∀ i ∈ l, i.length ≤ 1048576) (h0 : 0 ≤ k) (hk : k + 1048576 * l.length ≤ 9223372036850000000) : Tells Try.prog E0 X 15 [.t (.sl false ((mkSS l k).1.map iRowB)), iA k] (iA (mkSS l k).2) := by
  have hml := mkSS_len l k
  refine Tells.by Try.func15 (by simp [Try.f15]) (Body.i rfl rfl rfl (fun _ => rfl) fun f => ?_)
  repeat' (first
     | refine wp_seq_i ?_ | refine wp_region_t k_heSS rfl ?_ | refine Run.done rfl ?_ | refine then_n ?_ | refine then_r ?_ | refine then_e ?_ | refine Run.go1 rfl ?_ | refine wp_skip_i ?_ | refine wp_ret_i ?_
     | refine wp_exit_i ?_ | refine wp_block_i ?_ | refine block_n ?_ | refine block_r ?_ | refine block_e ?_ | refine block_o rfl ?_ | refine wp_cond_t rfl ?_ | refine wp_cond_f rfl ?_
     | (refine wp_cond_k rfl rfl rfl ?_ ?_ <;> intro _) | (refine wp_cond_i rfl ?_ ?_ <;> intro _))
  refine wp_loop_k (α := Nat) [.keep [0, 1, 5] []] (fun j => [(1, iA (mkSS (l.take j) k).2), (5, iA j)]) (fun _ => []) (fun _ => []) (fun j => j ≤ l.length) (fun j => l.length - j) 0 rfl (fun _ => rfl) rfl (by simp) ?_
  rintro j hj
  by_cases hlt : j < l.length
  · obtain ⟨x, hxx⟩ : ∃ x, l[j]? = some x := ⟨_, List.getElem?_eq_getElem hlt⟩
    have hat := mkSS_at l k j x hxx
    have hil := hll x (List.mem_of_getElem? hxx)
    have hup := mkSS_up (l := l.take j) (k := k) (fun i hi => hll i (List.mem_of_mem_take hi)) h0 (by simp; omega)
    have hsn : (mkSS (l.take (j + 1)) k).2 = (mk x (mkSS (l.take j) k).2).2 := by
      have e : l.take (j + 1) = l.take j ++ [x] := by
        rw [List.getElem?_eq_getElem hlt] at hxx
        rw [List.take_succ_eq_append_getElem hlt, Option.some.inj hxx]
      rw [e, mkSS_snoc]
    generalize (mkSS (l.take j) k).2 = c at hat hup hsn
    have hc0 : 0 ≤ c ∧ c ≤ 9223372036850000000 := by simp at hup; omega
    have hneg : ¬ (mk x c).2 < 0 := by rw [mk_up x c hc0.1 (by omega)]; omega
    have hx : ((mkSS l k).1.map iRowB)[j]? = some (iRowB (mk x c).1) := by rw [List.getElem?_map, hat]; rfl
    have hH : Tells Try.prog E0 X 30 [.t (.sl false ((mk x c).1.map iR)), iA c] (iA (mk x c).2) := by
      have := heldIntS_t (X := X) (mk x c).1 c (by rw [mk_len]; omega)
      rw [heI_mk] at this; exact this
    repeat' (first
       | refine wp_seq_i ?_ | refine wp_region_t k_heSS rfl ?_ | refine Run.done rfl ?_ | refine then_n ?_ | refine then_r ?_ | refine then_e ?_ | refine Run.go1 rfl ?_ | refine wp_skip_i ?_ | refine wp_ret_i ?_
       | refine wp_exit_i ?_ | refine wp_block_i ?_ | refine block_n ?_ | refine block_r ?_ | refine block_e ?_ | refine block_o rfl ?_ | refine wp_cond_t rfl ?_ | refine wp_cond_f rfl ?_
       | refine Run.ix rfl rfl rfl rfl rfl rfl rfl hx rfl rfl rfl ?_ | refine Run.call rfl rfl rfl (hH) rfl rfl ?_ | (refine wp_cond_k rfl rfl rfl ?_ ?_ <;> intro _) | (refine wp_cond_i rfl ?_ ?_ <;> intro _))
    all_goals first
    | (exfalso; rename_i h; exact hneg (of_decide_eq_true h); done)
    | (exfalso; rename_i h; simp [hml, hlt] at h; done)
    | (refine back_i [.keep [0, 1, 5] []] (j + 1) rfl ?_ (by omega) (by omega)
       simp only [w_succ hlt (show l.length ≤ 9223372036854775807 by omega), hsn]; first | done | rfl)
    | trace_state
  · have hjl : j = l.length := by omega
    subst hjl
    rw [List.take_length]
    repeat' (first
       | refine wp_seq_i ?_ | refine wp_region_t k_heSS rfl ?_ | refine Run.done rfl ?_ | refine then_n ?_ | refine then_r ?_ | refine then_e ?_ | refine Run.go1 rfl ?_ | refine wp_skip_i ?_ | refine wp_ret_i ?_
       | refine wp_exit_i ?_ | refine wp_block_i ?_ | refine block_n ?_ | refine block_r ?_ | refine block_e ?_ | refine block_o rfl ?_ | refine wp_cond_t rfl ?_ | refine wp_cond_f rfl ?_
       | (refine wp_cond_k rfl rfl rfl ?_ ?_ <;> intro _) | (refine wp_cond_i rfl ?_ ?_ <;> intro _))
    all_goals first
    | (exfalso; rename_i h; simp [hml] at h; done)
    | (refine ret_m [] rfl rfl rfl; done)
    | trace_state
end Go.Proofs

set_option linter.unusedVariables false
set_option linter.unusedSimpArgs false
set_option maxHeartbeats 4000000
namespace Go.Proofs
open Go Go.Ev
set_option maxRecDepth 100000
variable {X : Rel3}
def mapAt (ins : List Ins) (R : Nat) (L : List (List Bool)) (k : Nat) : List Bool := match ins[k]? with
  | some x => mapW ins R L k x
  | none => []
def rowsM (ins : List Ins) (R : Nat) (L : List (List Bool)) : Nat → List (List Bool)
  | 0 => []
  | k + 1 => rowsM ins R L k ++ [mapAt ins R L k]
theorem rowsM_len (ins : List Ins) (R : Nat) (L : List (List Bool)) : ∀ k, (rowsM ins R L k).length = k
  | 0 => rfl
  | k + 1 => by rw [rowsM, List.length_append, rowsM_len ins R L k]; rfl
theorem rowsM_row {ins : List Ins} {R : Nat} {L : List (List Bool)} (h : Rows ins.length R L) : ∀ k, k ≤ ins.length → ∀ row ∈ rowsM ins R L k, row.length = R
  | 0, _, row, hr => by simp [rowsM] at hr
  | k + 1, hk, row, hr => by
    rw [rowsM] at hr
    rcases List.mem_append.1 hr with hr | hr
    · exact rowsM_row h k (by omega) row hr
    · rw [List.mem_singleton.1 hr]
      unfold mapAt
      rw [List.getElem?_eq_getElem (show k < ins.length by omega)]
      exact mapW_len h (by omega) _
noncomputable def mapsB (p : Piece) : List (List Int) := if pieceB p then (rowsM p.ins p.regs.toNat (solL p.ins p.regs.toNat) p.ins.length).map thL else []
theorem mapsB_ok (p : Piece) : (mapsB p).length ≤ 600 ∧ ∀ l ∈ mapsB p, l.length ≤ 400 := by
  unfold mapsB
  split
  · rename_i hb
    have hreg := regs_of hb
    have hlen := len_pos hb
    refine ⟨by rw [List.length_map, rowsM_len]; omega, fun l hl => ?_⟩
    obtain ⟨row, hr, rfl⟩ := List.mem_map.1 hl
    have h1 := rowsM_row (solL_rows p.ins p.regs.toNat) _ (Nat.le_refl _) row hr
    have h2 := thGo_len row row.length
    show (thGo row row.length).length ≤ 400
    omega
  · exact ⟨by simp, by simp⟩
def k_MapsS : List (Nat × List Nat) := [(0, [1]), (1, [1, 8]), (2, [2]), (3, [1, 3]), (4, [1, 3, 4]), (5, [1, 3, 4, 5]), (6, [1, 3, 4, 5, 20]), (7, [1, 3, 4, 5]), (8, [1, 3, 4, 5]), (9, [2])]
theorem MapsS_t (p : Piece) (hok : p.ok) : Tells Try.prog E0 X 10 [p.a false] (.t (.sl true ((mapsB p).map iRow))) := by
  by_cases hb : pieceB p = true
  rotate_left 1
  · refine Tells.by Try.func10 (by simp [Try.f10]) (Body.i rfl rfl rfl (fun _ => rfl) fun f => ?_)
    repeat' (first
       | refine wp_seq_i ?_ | refine wp_region_t k_MapsS rfl ?_ | refine Run.done rfl ?_ | refine then_n ?_ | refine then_r ?_ | refine then_e ?_ | refine Run.go1 rfl ?_ | refine wp_skip_i ?_ | refine wp_ret_i ?_
       | refine wp_exit_i ?_ | refine wp_block_i ?_ | refine block_n ?_ | refine block_r ?_ | refine block_e ?_ | refine block_o rfl ?_ | refine wp_cond_t rfl ?_ | refine wp_cond_f rfl ?_
       | refine Run.call rfl rfl rfl (l9Piece_t p hok) rfl rfl ?_ | (refine wp_cond_k rfl rfl rfl ?_ ?_ <;> intro _) | (refine wp_cond_i rfl ?_ ?_ <;> intro _))
    all_goals first
    | (exfalso; rename_i h; simp [hb] at h; done)
    | (refine ret_m [] rfl rfl ?_; simp [mapsB, hb]; done)
    | trace_state
  have hR := solL_rows p.ins p.regs.toNat
  have hreg := regs_of hb
  have hlen := len_pos hb
  have hpr : mapsB p = (rowsM p.ins p.regs.toNat (solL p.ins p.regs.toNat) p.ins.length).map thL := by unfold mapsB; rw [if_pos hb]
  rw [hpr]
  clear hpr
  refine Tells.by Try.func10 (by simp [Try.f10]) (Body.i rfl rfl rfl (fun _ => rfl) fun f => ?_)
  repeat' (first
     | refine wp_seq_i ?_ | refine wp_region_t k_MapsS rfl ?_ | refine Run.done rfl ?_ | refine then_n ?_ | refine then_r ?_ | refine then_e ?_ | refine Run.go1 rfl ?_ | refine wp_skip_i ?_ | refine wp_ret_i ?_
     | refine wp_exit_i ?_ | refine wp_block_i ?_ | refine block_n ?_ | refine block_r ?_ | refine block_e ?_ | refine block_o rfl ?_ | refine wp_cond_t rfl ?_ | refine wp_cond_f rfl ?_
     | refine Run.call rfl rfl rfl (l9Piece_t p hok) rfl rfl ?_ | refine Run.call rfl rfl rfl (Solve_t p hb hok) rfl rfl ?_ | (refine wp_cond_k rfl rfl rfl ?_ ?_ <;> intro _) | (refine wp_cond_i rfl ?_ ?_ <;> intro _))
  all_goals try (exfalso; rename_i h; simp [hb] at h; done)
  generalize solL p.ins p.regs.toNat = G at *
  have hLi : Tells Try.prog E0 X 18 [.t (.sl false (shrR ((rowsM p.ins p.regs.toNat G p.ins.length).map (bRow true))))] (.t (.sl true (((rowsM p.ins p.regs.toNat G p.ins.length).map thL).map iRow))) := by
    have hrl := rowsM_len p.ins p.regs.toNat G p.ins.length
    have hrr := rowsM_row hR p.ins.length (Nat.le_refl _)
    rw [shr_bRow]; exact Lists_t _ (by omega) (fun row h => by rw [hrr row h]; omega)
  refine wp_loop_k (α := Nat) [.ren 15 77, .keep [1, 3, 4, 5] [1, 5011, 77]] (fun k => [(5, iA k)]) (fun _ => []) (fun k => [(77, 0, (rowsM p.ins p.regs.toNat G k).map (bRow true))]) (fun k => k ≤ p.ins.length) (fun k => p.ins.length - k) 0 rfl (fun _ => rfl) rfl (Nat.zero_le _) ?_
  intro k hk
  by_cases hlt : k < p.ins.length
  · obtain ⟨x, hx0⟩ : ∃ x, p.ins[k]? = some x := ⟨_, List.getElem?_eq_getElem hlt⟩
    have hS : Tells Try.prog E0 X 25 [p.a false, .t (.sl false (shrR (G.map (bRow true)))), iA k] (.t (.sl true ((mapW p.ins p.regs.toNat G k x).map bR))) := by rw [shr_bRow]; exact Marks_t p G k x hb hok hx0 hR
    have hat : rowsM p.ins p.regs.toNat G (k + 1) = rowsM p.ins p.regs.toNat G k ++ [mapW p.ins p.regs.toNat G k x] := by rw [rowsM, mapAt, hx0]
    have hrl := rowsM_len p.ins p.regs.toNat G k
    repeat' (first
       | refine wp_seq_i ?_ | refine wp_region_t k_MapsS rfl ?_ | refine Run.done rfl ?_ | refine then_n ?_ | refine then_r ?_ | refine then_e ?_ | refine Run.go1 rfl ?_ | refine wp_skip_i ?_ | refine wp_ret_i ?_
       | refine wp_exit_i ?_ | refine wp_block_i ?_ | refine block_n ?_ | refine block_r ?_ | refine block_e ?_ | refine block_o rfl ?_ | refine wp_cond_t rfl ?_ | refine wp_cond_f rfl ?_
       | refine Run.callB rfl rfl rfl (hS) (by simp [AV.own, T.own, own_bL]) rfl ?_
       | refine Run.cnd rfl rfl rfl ⟨by first | (simp; done) | (simp; omega), (by intro r hr; obtain ⟨a, _, rfl⟩ := List.mem_map.1 hr; rfl), by simp, .inl rfl, by first | trivial | (simp [flatT]; done)⟩ ?_
       | refine Run.one rfl rfl rfl ?_ | (refine wp_cond_k rfl rfl rfl ?_ ?_ <;> intro _) | (refine wp_cond_i rfl ?_ ?_ <;> intro _))
    · refine back_i [.keep [1, 3, 4, 5] [1, 5011, 29], .ren 29 77] (k + 1) rfl ?_ (by omega) (by omega)
      simp only [w_succ hlt (by omega), hat, List.map_append, List.map_cons, List.map_nil]; first | done | rfl
    · exfalso; rename_i h; have h := of_decide_eq_false h; simp at h; omega
  · have hk2 : k = p.ins.length := by omega
    subst hk2
    repeat' (first
       | refine wp_seq_i ?_ | refine wp_region_t k_MapsS rfl ?_ | refine Run.done rfl ?_ | refine then_n ?_ | refine then_r ?_ | refine then_e ?_ | refine Run.go1 rfl ?_ | refine wp_skip_i ?_ | refine wp_ret_i ?_
       | refine wp_exit_i ?_ | refine wp_block_i ?_ | refine block_n ?_ | refine block_r ?_ | refine block_e ?_ | refine block_o rfl ?_ | refine wp_cond_t rfl ?_ | refine wp_cond_f rfl ?_
       | refine Run.callB rfl rfl rfl (hLi) (own_lists _) rfl ?_ | refine Run.one rfl rfl rfl ?_ | (refine wp_cond_k rfl rfl rfl ?_ ?_ <;> intro _) | (refine wp_cond_i rfl ?_ ?_ <;> intro _))
    · exfalso; rename_i h; have h := of_decide_eq_true h; simp at h
    · exact ret_m [] rfl rfl rfl
def k_MapsI : List (Nat × List Nat) := [(0, [1]), (1, [1, 8]), (2, [2]), (3, [1, 3]), (4, [1, 3, 4]), (5, [1, 3, 4, 14, 15]), (6, [1, 3, 4, 14, 15, 16]), (7, [1, 3, 4, 5, 14, 15]), (8, [1, 3, 4, 14, 15]), (9, [1, 3, 4, 14, 15]), (10, [2])]
theorem MapsI_t (p : Piece) (hok : p.ok) : Tells Try.prog E0 XS 11 [p.a false] (.t (.sl true ((mapsB p).map iRow))) := by
  by_cases hb : pieceB p = true
  rotate_left 1
  · refine Tells.by Try.func11 (by simp [Try.f11]) (Body.i rfl rfl rfl (fun _ => rfl) fun f => ?_)
    repeat' (first
       | refine wp_seq_i ?_ | refine wp_region_t k_MapsI rfl ?_ | refine Run.done rfl ?_ | refine then_n ?_ | refine then_r ?_ | refine then_e ?_ | refine Run.go1 rfl ?_ | refine wp_skip_i ?_ | refine wp_ret_i ?_
       | refine wp_exit_i ?_ | refine wp_block_i ?_ | refine block_n ?_ | refine block_r ?_ | refine block_e ?_ | refine block_o rfl ?_ | refine wp_cond_t rfl ?_ | refine wp_cond_f rfl ?_
       | refine Run.call rfl rfl rfl (pieceOk_t p hok) rfl rfl ?_ | (refine wp_cond_k rfl rfl rfl ?_ ?_ <;> intro _) | (refine wp_cond_i rfl ?_ ?_ <;> intro _))
    all_goals first
    | (exfalso; rename_i h; simp [hb] at h; done)
    | (refine ret_m [] rfl rfl ?_; simp [mapsB, hb]; done)
    | trace_state
  have hR := solL_rows p.ins p.regs.toNat
  have hreg := regs_of hb
  have hlen := len_pos hb
  have hpr : mapsB p = (rowsM p.ins p.regs.toNat (solL p.ins p.regs.toNat) p.ins.length).map thL := by unfold mapsB; rw [if_pos hb]
  rw [hpr]
  clear hpr
  refine Tells.by Try.func11 (by simp [Try.f11]) (Body.i rfl rfl rfl (fun _ => rfl) fun f => ?_)
  repeat' (first
     | refine wp_seq_i ?_ | refine wp_region_t k_MapsI rfl ?_ | refine Run.done rfl ?_ | refine then_n ?_ | refine then_r ?_ | refine then_e ?_ | refine Run.go1 rfl ?_ | refine wp_skip_i ?_ | refine wp_ret_i ?_
     | refine wp_exit_i ?_ | refine wp_block_i ?_ | refine block_n ?_ | refine block_r ?_ | refine block_e ?_ | refine block_o rfl ?_ | refine wp_cond_t rfl ?_ | refine wp_cond_f rfl ?_
     | refine Run.call rfl rfl rfl (pieceOk_t p hok) rfl rfl ?_ | refine Run.call rfl rfl rfl (liveSets_t p hb hok) rfl rfl ?_ | (refine wp_cond_k rfl rfl rfl ?_ ?_ <;> intro _) | (refine wp_cond_i rfl ?_ ?_ <;> intro _))
  all_goals try (exfalso; rename_i h; simp [hb] at h; done)
  generalize solL p.ins p.regs.toNat = G at *
  refine wp_loop_k (α := Nat) [.ren 11 77, .keep [1, 3, 4, 14, 15] [1, 10, 77]] (fun k => [(15, iA k)]) (fun _ => []) (fun k => [(77, 0, ((rowsM p.ins p.regs.toNat G k).map thL).map iRow)]) (fun k => k ≤ p.ins.length) (fun k => p.ins.length - k) 0 rfl (fun _ => rfl) rfl (Nat.zero_le _) ?_
  intro k hk
  by_cases hlt : k < p.ins.length
  · obtain ⟨x, hx0⟩ : ∃ x, p.ins[k]? = some x := ⟨_, List.getElem?_eq_getElem hlt⟩
    have hS : Tells Try.prog E0 XS 26 [p.a false, iA k, .t (.sl false (shrR (G.map (bRow true))))] (.t (.sl true ((thL (mapW p.ins p.regs.toNat G k x)).map iR))) := by rw [shr_bRow]; exact mapOf_t p G k x hb hok hx0 hR
    have hat : rowsM p.ins p.regs.toNat G (k + 1) = rowsM p.ins p.regs.toNat G k ++ [mapW p.ins p.regs.toNat G k x] := by rw [rowsM, mapAt, hx0]
    have hrl := rowsM_len p.ins p.regs.toNat G k
    repeat' (first
       | refine wp_seq_i ?_ | refine wp_region_t k_MapsI rfl ?_ | refine Run.done rfl ?_ | refine then_n ?_ | refine then_r ?_ | refine then_e ?_ | refine Run.go1 rfl ?_ | refine wp_skip_i ?_ | refine wp_ret_i ?_
       | refine wp_exit_i ?_ | refine wp_block_i ?_ | refine block_n ?_ | refine block_r ?_ | refine block_e ?_ | refine block_o rfl ?_ | refine wp_cond_t rfl ?_ | refine wp_cond_f rfl ?_
       | refine Run.callB rfl rfl rfl (hS) (by simp [AV.own, T.own, ownI_b]) rfl ?_
       | refine Run.cnd rfl rfl rfl ⟨by first | (simp; done) | (simp; omega), (by intro r hr; obtain ⟨a, _, rfl⟩ := List.mem_map.1 hr; rfl), by simp, .inl rfl, by first | trivial | (simp [flatT]; done)⟩ ?_
       | refine Run.one rfl rfl rfl ?_ | (refine wp_cond_k rfl rfl rfl ?_ ?_ <;> intro _) | (refine wp_cond_i rfl ?_ ?_ <;> intro _))
    · refine back_i [.keep [1, 3, 4, 14, 15] [1, 10, 24], .ren 24 77] (k + 1) rfl ?_ (by omega) (by omega)
      simp only [w_succ hlt (by omega), hat, List.map_append, List.map_cons, List.map_nil]; first | done | rfl
    · exfalso; rename_i h; have h := of_decide_eq_false h; simp at h; omega
  · have hk2 : k = p.ins.length := by omega
    subst hk2
    repeat' (first
       | refine wp_seq_i ?_ | refine wp_region_t k_MapsI rfl ?_ | refine Run.done rfl ?_ | refine then_n ?_ | refine then_r ?_ | refine then_e ?_ | refine Run.go1 rfl ?_ | refine wp_skip_i ?_ | refine wp_ret_i ?_
       | refine wp_exit_i ?_ | refine wp_block_i ?_ | refine block_n ?_ | refine block_r ?_ | refine block_e ?_ | refine block_o rfl ?_ | refine wp_cond_t rfl ?_ | refine wp_cond_f rfl ?_ | refine Run.one rfl rfl rfl ?_
       | (refine wp_cond_k rfl rfl rfl ?_ ?_ <;> intro _) | (refine wp_cond_i rfl ?_ ?_ <;> intro _))
    · exfalso; rename_i h; have h := of_decide_eq_true h; simp at h
    · exact ret_m [] rfl rfl rfl
end Go.Proofs

set_option linter.unusedVariables false
set_option linter.unusedSimpArgs false
set_option maxHeartbeats 4000000
namespace Go.Proofs
open Go Go.Ev
set_option maxRecDepth 100000
variable {X : Rel3}
theorem shr_iL (l : List Int) : shrR (l.map iR) = l.map iR := by
  induction l with
  | nil => rfl
  | cons x r ih => simp only [List.map_cons, shrR, ih]; rfl
theorem shr_iRow (L : List (List Int)) : shrR (L.map iRow) = L.map iRowB := by
  induction L with
  | nil => rfl
  | cons x r ih => simp only [List.map_cons, shrR, ih]; rw [show shrL (iRow x) = iRowB x by simp only [iRow, iRowB, shrL, T.shr, shr_iL]]
theorem own_SS (L : List (List Int)) : (AV.t (.sl true (L.map iRow))).own := by
  have := own_iRow (fun l => l) L
  simp only [AV.own, T.own]
  exact ⟨trivial, this⟩
def k_lawMp : List (Nat × List Nat) := [(0, [1]), (1, [1, 3]), (2, [1, 3]), (3, [1, 15]), (4, [2]), (5, [1, 4]), (6, [1, 4, 5]), (7, [1, 4, 5, 6]), (8, [1, 4, 5, 6, 26]), (9, [2]), (10, [1, 4, 5, 6, 31]), (11, [2]), (12, [1, 4, 5, 6, 7]), (13, [1, 4, 6, 7]), (14, [1, 4, 6, 42]), (15, [2]), (16, [1, 4, 6, 8]), (17, [1, 4, 6, 8]), (18, [1, 4, 6, 8, 9]), (19, [1, 4, 6, 8, 9]), (20, [1, 4, 6, 8, 9, 50]), (21, [2]), (22, [1, 4, 6, 8, 53]), (23, [2]), (24, [4, 6, 8, 10]), (25, [6, 8, 60]), (26, [2]), (27, [6, 8, 9]), (28, [8, 9]), (29, [8, 9, 65]), (30, [2]), (31, [68]), (32, [2]), (33, [2])]
theorem lawMp_t (p : Piece) (hl : p.len) : Tells Try.prog E0 XS 4 [p.a false] (bA true) := by
  have hsz := szPiece_t (X := XS) p 1048576 hl.1
  refine Tells.by Try.func4 (by simp [Try.f4]) (Body.i rfl rfl rfl (fun _ => rfl) fun f => ?_)
  repeat' (first
     | refine wp_seq_i ?_ | refine wp_region_t k_lawMp rfl ?_ | refine Run.done rfl ?_ | refine then_n ?_ | refine then_r ?_ | refine then_e ?_ | refine Run.go1 rfl ?_ | refine wp_skip_i ?_ | refine wp_ret_i ?_
     | refine wp_exit_i ?_ | refine wp_block_i ?_ | refine block_n ?_ | refine block_r ?_ | refine block_e ?_ | refine block_o rfl ?_ | refine wp_cond_t rfl ?_ | refine wp_cond_f rfl ?_
     | refine Run.call rfl rfl rfl (hsz) rfl rfl ?_ | (refine wp_cond_k rfl rfl rfl ?_ ?_ <;> intro _) | (refine wp_cond_i rfl ?_ ?_ <;> intro _))
  · refine ret_m [] rfl rfl rfl
  rename_i h
  have hp : p.ok := (szPiece_ok (left := 1048576) hl (by omega) (by simpa using h)).1
  have hS : Tells Try.prog E0 XS 10 [p.s] (.t (.sl true ((mapsB p).map iRow))) := by rw [Piece.s_eq]; exact MapsS_t p hp
  have hI : Tells Try.prog E0 XS 11 [p.s] (.t (.sl true ((mapsB p).map iRow))) := by rw [Piece.s_eq]; exact MapsI_t p hp
  have hE : Tells Try.prog E0 XS 9 [p.s, p.s] (bA (decide (p = p))) := by rw [Piece.s_eq]; exact eqPiece_t p p hp
  obtain ⟨hbl, hbr⟩ := mapsB_ok p
  generalize mapsB p = m at *
  have hEi : Tells Try.prog E0 XS 12 [.t (.sl false (shrR (m.map iRow))), .t (.sl false (shrR (m.map iRow)))] (bA (decide (m = m))) := by rw [shr_iRow]; exact eqIntSS_t m m (by omega) (fun l h => Nat.le_trans (hbr l h) (by decide))
  have hMk := markIntSS_t (X := XS) m 1 (by omega) (fun l h => Nat.le_trans (hbr l h) (by decide))
  have hHe : Tells Try.prog E0 XS 15 [.t (.sl false (shrR ((mkSS m 1).1.map iRow))), iA 1] (iA (mkSS m 1).2) := by rw [shr_iRow]; exact heldIntSS_t m 1 (by omega) (fun l h => Nat.le_trans (hbr l h) (by decide)) (by omega) (by omega)
  have hM := mkP_up hp
  have hK : ¬ (mkSS m 1).2 < 0 := by
    have := mkSS_up (l := m) (k := 1) (fun l h => Nat.le_trans (hbr l h) (by decide)) (by omega) (by omega)
    omega
  repeat' (first
     | refine wp_seq_i ?_ | refine wp_region_t k_lawMp rfl ?_ | refine Run.done rfl ?_ | refine then_n ?_ | refine then_r ?_ | refine then_e ?_ | refine Run.go1 rfl ?_ | refine wp_skip_i ?_ | refine wp_ret_i ?_
     | refine wp_exit_i ?_ | refine wp_block_i ?_ | refine block_n ?_ | refine block_r ?_ | refine block_e ?_ | refine block_o rfl ?_ | refine wp_cond_t rfl ?_ | refine wp_cond_f rfl ?_ | refine RunQ.go1 rfl ?_
     | refine RunQ.done rfl ?_ | refine Run.gT rfl rfl rfl rfl ?_ | refine Run.pT rfl rfl ?_ | (refine Run.splitG rfl rfl rfl rfl rfl rfl ?_ ?_ <;> intro _) | (refine Run.splitP rfl rfl rfl rfl ?_ ?_ <;> intro _)
     | refine RunQ.gT rfl rfl rfl rfl ?_ | refine RunQ.pT rfl rfl ?_ | (refine RunQ.splitG rfl rfl rfl rfl rfl rfl ?_ ?_ <;> intro _) | (refine RunQ.splitP rfl rfl rfl rfl ?_ ?_ <;> intro _)
     | refine Run.call rfl rfl rfl (toPiece_t p hp) rfl rfl ?_ | refine Run.callB rfl rfl rfl (hS) (own_SS _) rfl ?_ | refine Run.callB rfl rfl rfl (hI) (own_SS _) rfl ?_
     | refine Run.callB rfl rfl rfl (hEi) (by simp [AV.own, T.own]) rfl ?_ | refine wp_region_l k_lawMp [0, 1] [2, 3] [0, 0, 2, 7, 15] rfl (by decide +kernel) (by decide +kernel) rfl rfl ?_
     | refine RunL.call rfl rfl rfl rfl (toPiece_t p hp) (.inl rfl) rfl rfl ?_ | refine RunL.call rfl rfl rfl rfl (hE) (.inr (by simp [AV.own, T.own])) rfl rfl ?_ | refine RunL.done ?_
     | refine Run.call rfl rfl rfl (markPiece_t p 1 hl.1 hl.2) rfl rfl ?_ | refine Run.call rfl rfl rfl (hMk) rfl rfl ?_ | refine Run.callB rfl rfl rfl (hHe) (by simp [AV.own, T.own]) rfl ?_
     | (refine wp_cond_k rfl rfl rfl ?_ ?_ <;> intro _) | (refine wp_cond_i rfl ?_ ?_ <;> intro _))
  all_goals first
    | (refine ret_m [] rfl rfl rfl; done)
    | (rename_i hx; exfalso; simp [hK, hM] at hx; done)
    | (rename_i hx; exfalso; simp at hx; omega)
    | trace_state
end Go.Proofs

set_option linter.unusedSimpArgs false
set_option linter.unusedVariables false
namespace Go.Ev
open Go
theorem vs_of {w : World} {B : Nat → Prop} {ts : List T} {vs : List Value} (hl : vs.length = ts.length) (h : ∀ (k : Nat) (y : T) (v : Value), ts[k]? = some y → vs[k]? = some v → Rep w B y v)
    (hs : ∀ y ∈ ts, (∃ v, y = .sc v) ∨ ∃ rows, y = .sl false rows) : VS w B (.ag (ts.map AV.t)) (.agg vs.toArray) (fun _ => False) := by
  refine .inr (.inl ⟨_, _, rfl, rfl, Fam.of (by simp [hl]) fun k x v h1 h2 => ?_⟩)
  rw [List.getElem?_map, Option.map_eq_some_iff] at h1
  obtain ⟨y, hy, rfl⟩ := h1
  have hr := h k y v hy h2
  rcases hs y (List.mem_of_getElem? hy) with ⟨u, rfl⟩ | ⟨rows, rfl⟩
  · cases hr; exact ⟨_, rfl, .sc _ _⟩
  · exact ⟨_, rfl, .sh _ _ _ hr⟩
theorem OpensAt.imp {P : Program} {N : Nat} {t : TypeId} {α : Type} {d : Kt α} {ok ok' : α → Prop} (h : OpensAt P N t d ok) (hok : ∀ x, ok x → ok' x) : OpensAt P N t d ok' := by
  constructor
  intro H enc W base held fuel cs y hf ht
  obtain ⟨x, hk, hx⟩ := h.get enc W base held fuel cs y hf ht
  exact ⟨x, hk, hok x hx⟩
theorem vx_bool {w : World} {B : Nat → Prop} {vs : List Value} {b : Bool} {v : Value} {F : Nat → Prop} (h : VX w B vs (.t (.sc (.bool b))) v F) : v = .bool b := by
  rcases h with ⟨_, (⟨y, hy, ho⟩ | ⟨cs, us, h, _⟩ | ⟨_, _, _, _, _, h, _⟩) | ⟨cs, us, h, _⟩⟩ | ⟨r0, outs, F1, F2, h, _⟩
  · cases hy; cases ho; rfl
  · cases h
  · cases h
  · cases h
  · cases h
theorem vs_int {w : World} {B : Nat → Prop} {k : IntKind} {n : Int} : VS w B (.t (.sc (.int k n))) (.int k n) (fun _ => False) := .inl ⟨_, rfl, .sc _ _⟩
end Go.Ev
namespace Go.Proofs.Ytmbnebkjipbghaa.fnExactMaps
open Go Go.Ev Go.Proofs
open Go.ChangeShapes Go.WideShapes Go.ChangeAt Go.RowKit
theorem own : ownKnob Try.prog.godebug = none := by kernel_rfl
theorem laidOut : laidOutB Try.prog = true := by kernel_rfl
abbrev kI : Kt Int := Kt.int .i64
abbrev kL : Kt (List Int) := Kt.slice kI
abbrev kIns : Kt Ins := Kt.iso (Kt.pair kI (Kt.pair kI (Kt.pair kI (Kt.pair kI (Kt.pair kI (Kt.pair kL kI)))))) fun i => (i.op, i.d, i.x, i.y, i.n, i.l, i.to_)
abbrev kPiece : Kt Piece := Kt.iso (Kt.pair kI (Kt.pair kI (Kt.pair kI (Kt.slice kIns)))) fun p => (p.lam, p.in_, p.regs, p.ins)
theorem max_le : maxLen ≤ 9223372036854775807 := by decide
theorem oInt (n : Nat) : OpensAt Try.prog n 3 kI (fun _ => True) := (opens_int Try.underlying3).imp fun _ _ => trivial
theorem oL (n : Nat) : OpensAt Try.prog (n + 1) 46 kL (fun l => l.length ≤ 9223372036854775807) := (opens_slice Try.underlying46 (by kernel_rfl) (by decide) (oInt n)).imp fun _ h => Nat.le_trans h.1 max_le
theorem oIns (n : Nat) : OpensAt Try.prog (n + 2) 59 kIns Ins.len :=
  (opens_iso (fun x => (⟨x.1, x.2.1, x.2.2.1, x.2.2.2.1, x.2.2.2.2.1, x.2.2.2.2.2.1, x.2.2.2.2.2.2⟩ : Ins)) (fun _ => rfl)
    (opens_struct Try.underlying59 (by kernel_rfl) (from_cons rfl (by kernel_rfl) (oInt _) (from_cons rfl (by kernel_rfl) (oInt _) (from_cons rfl (by kernel_rfl) (oInt _) (from_cons rfl (by kernel_rfl) (oInt _) (from_cons rfl (by kernel_rfl) (oInt _)
      (from_cons rfl (by kernel_rfl) (oL n) (from_one rfl (by kernel_rfl) (oInt _)))))))))).imp fun x h => h.2.2.2.2.2.1
theorem oInsS (n : Nat) : OpensAt Try.prog (n + 3) 22 (Kt.slice kIns) (fun l => l.length ≤ 9223372036854775807 ∧ ∀ i ∈ l, i.len) := (opens_slice Try.underlying22 (by kernel_rfl) (by decide) (oIns n)).imp fun _ h => ⟨Nat.le_trans h.1 max_le, h.2⟩
theorem oPiece (n : Nat) : OpensAt Try.prog (n + 4) 24 kPiece Piece.len :=
  (opens_iso (fun x => (⟨x.1, x.2.1, x.2.2.1, x.2.2.2⟩ : Piece)) (fun _ => rfl)
    (opens_struct Try.underlying24 (by kernel_rfl) (from_cons rfl (by kernel_rfl) (oInt _) (from_cons rfl (by kernel_rfl) (oInt _) (from_cons rfl (by kernel_rfl) (oInt _) (from_one rfl (by kernel_rfl) (oInsS n))))))).imp fun x h => h.2.2.2
theorem calls {W : World} {x0 : Piece} {cs0 : List Value} (hk0 : kPiece.K W x0 cs0) (hl0 : Piece.len x0) : Calls Try.prog 4 #[.agg cs0.toArray] W fun e W' => e = .returned (.bool true) ∧ Below W.heap.size W W' := by
  have h := (Tells.sound (X := XS) tab_ok XS_sound (lawMp_t x0 hl0)).2 W [.agg cs0.toArray] (fun b => b < W.heap.size) (fun _ => False) (fun b hb => ⟨hb, fun h => h⟩) (fun _ h => h.elim)
    (.cons _ _ _ _ (fun _ => False) (fun _ => False) _ (vs_of (ts := Piece.c false x0) hk0.1 hk0.2 (by
      intro y hy
      simp only [Piece.c, List.mem_cons, List.not_mem_nil, or_false] at hy
      rcases hy with rfl | rfl | rfl | rfl
      · exact .inl ⟨_, rfl⟩
      · exact .inl ⟨_, rfl⟩
      · exact .inl ⟨_, rfl⟩
      · exact .inr ⟨_, rfl⟩)) (.nil _) (fun _ h => h.elim) (fun _ h => h) (fun _ h => h))
  refine h.mono fun e W' ⟨v, B', F', he, hv, _, _, hkeep⟩ => ?_
  rw [he, vx_bool hv]
  exact ⟨rfl, hkeep.os, hkeep.tape, hkeep.output, hkeep.size, fun k hk => hkeep.block k hk fun h => h⟩
set_option maxRecDepth 100000 in
theorem lifted (os : Os) (started : os.Started) (H : Type) (enc : TypeId × Value → H) :
    ReturnsInHanded {} Try.checked os 4 .any (Rows.fnExactMapsSpec.pre6 enc Try.prog Try.f4 Rows.fnExactMapsRow.domain false) (Rows.fnExactMapsSpec.post enc Try.prog Try.f4 false true false false) := by
  refine returnsInHanded_of_change_sized (C := Try.checked) own started (by kernel_rfl) Try.func4
    (ChangeSpec.witness6 (enc := enc) (C := Try.checked) false ⟨#[], #[.agg #[.int .i64 0, .int .i64 0, .int .i64 0, .slice none 0 0]], []⟩ 8 (by kernel_rfl) (by kernel_rfl) (by kernel_rfl) (by kernel_rfl)) ?_
  intro W base args ds gs before hval0 hW hcnd hsz0 _
  have hval : ∀ (j : Nat) t v, Try.f4.params[j]? = some t → args[j]? = some v → Value.okWide Try.prog W .any base t v := hval0
  have hW' := hW
  obtain ⟨p, q, hA0, hV, rfl, hfz, hnd⟩ := hW
  have hA : DataW.TrodAll enc Try.prog W 0 (fun _ => true) true Try.f4.params.toList args.toList ds p := hA0
  rw [Try.params4] at hA hval
  obtain ⟨v0, vs0, d0, ds0, p0, q0, hargs, rfl, rfl, h0, r0⟩ := trodAll_cons hA
  obtain ⟨rfl, rfl, rfl⟩ := trodAll_nil r0
  obtain rfl : args = #[v0] := by cases args; simp_all
  obtain ⟨rfl, rfl⟩ := trodVars_none hV
  obtain ⟨cs0, rfl, hcs0⟩ := okWide_struct Try.underlying24 (hval 0 24 v0 rfl rfl)
  have k0 := h0
  have lt0 : ∀ x ∈ p0, x.block < W.heap.size := by obtain ⟨m, hm⟩ := k0; exact DataW.trod_lt m _ _ _ hm
  obtain ⟨x0, hk0, ok0⟩ : ∃ x, kPiece.K W x cs0.toList ∧ Piece.len x := by
    obtain ⟨m, hm⟩ := h0
    exact (oPiece m).get enc W _ _ m _ _ (by omega) hm
  refine (calls hk0 ok0).mono fun e W' ⟨he, bel0⟩ => ?_
  have bel : Below W.heap.size W W' := bel0
  subst he
  exact ⟨_, rfl, _, _, _, [], _, [], hW', trodAll_mk1 (shut_bool Try.underlying4 _), (trodAll_cons_mk (Below.trod laidOut (by kernel_rfl) (of_decide_eq_true (by kernel_rfl)) k0 bel lt0) trodAll_mk0), rfl, bel.frame _, fun h => by cases h⟩
theorem over : Rows.fnExactMapsRow.holds Try.pinned (OpenSpec.ofChange Rows.fnExactMapsSpec) :=
  OpenClaim.holds_of_wide 4 Try.f4 rfl rfl rfl rfl rfl rfl rfl ⟨rfl, rfl, rfl, rfl, rfl⟩ rfl rfl rfl rfl rfl (by kernel_rfl) Try.func4 (by kernel_rfl)
    (of_decide_eq_true (by kernel_rfl)) (by unfold Func.isWrapper; first | (rw [if_pos (by decide +kernel)]; kernel_rfl) | (rw [if_neg (by decide +kernel)]; exact ⟨rfl, rfl⟩))
    (fun os started H enc _ => lifted os started H enc)
theorem proved : Rows.FnExactMapsSaid := over
#print axioms proved
end Go.Proofs.Ytmbnebkjipbghaa.fnExactMaps
namespace Go.Proofs.Ytmbnebkjipbghaa
/-- The row, under a short name, for the claim. -/
theorem fnExactMaps_holds : Rows.FnExactMapsSaid := fnExactMaps.proved
end Go.Proofs.Ytmbnebkjipbghaa

