import Derived.Test.YthhlbnhgjijbaaaQt4
import Derived.Test.YthhlbnhgjijbaaaRows
import Derived.WalkKit
import Derived.ProofKit
import Derived.OpenShut
import Derived.ShutString
import Derived.ChangeOld
import Derived.Below
import Derived.SizedLaws
set_option linter.unusedVariables false
set_option linter.unusedSimpArgs false
set_option maxHeartbeats 4000000
namespace Go.Proofs
open Go Go.Ev
set_option maxRecDepth 100000
variable {X : Rel3}
theorem shr_Bo (l : List Bool) : shrR (l.map bR) = l.map bR := by
  induction l with
  | nil => rfl
  | cons x r ih => simp [shrR, shrL, T.shr, ih]
theorem own_Bo (l : List Bool) : ownR (l.map bR) := by
  induction l with
  | nil => simp [ownR]
  | cons x r ih => simp [ownR, ownL, T.own, ih]
theorem mkT_up : ∀ (l : List Bool) (k : Int), 0 ≤ k → k + l.length ≤ 9223372036854775806 → (mkT l k).2 = k + l.length
  | [], k, _, _ => by simp [mkT]
  | x :: r, k, h0, h => by
    simp only [List.length_cons] at h ⊢
    rw [mkT, nx_up h0 (by omega)]
    have := mkT_up r (k + 1) (by omega) (by omega)
    simp only; omega
theorem heT_mkT : ∀ (l : List Bool) (k : Int), heT (mkT l k).1 k = (mkT l k).2
  | [], k => rfl
  | x :: r, k => by rw [mkT, heT, if_pos rfl]; exact heT_mkT r (nx k)
theorem metB_len (p : Piece) : (metB p).length ≤ 600 := by
  unfold metB
  split
  · rename_i h; rw [metC_len]; exact (len_pos h).2
  · simp
def k_lawMt : List (Nat × List Nat) := [(0, [1]), (1, [1, 3]), (2, [1, 3]), (3, [1, 15]), (4, [2]), (5, [1, 4]), (6, [1, 4, 5]), (7, [1, 4, 5, 6]), (8, [1, 4, 5, 6, 26]), (9, [2]), (10, [1, 4, 5, 6, 31]), (11, [2]), (12, [1, 4, 5, 6, 7]), (13, [1, 4, 6, 7]), (14, [1, 4, 6, 42]), (15, [2]), (16, [1, 4, 6, 8]), (17, [1, 4, 6, 8]), (18, [1, 4, 6, 8, 9]), (19, [1, 4, 6, 8, 9]), (20, [1, 4, 6, 8, 9, 50]), (21, [2]), (22, [1, 4, 6, 8, 53]), (23, [2]), (24, [4, 6, 8, 10]), (25, [6, 8, 60]), (26, [2]), (27, [6, 8, 9]), (28, [8, 9]), (29, [8, 9, 65]), (30, [2]), (31, [68]), (32, [2]), (33, [2])]
theorem lawMt_t (p : Piece) (hl : p.len) : Tells Try.prog E0 XS 3 [p.a false] (bA true) := by
  have hsz := szPiece_t (X := XS) p 1048576 hl.1
  refine Tells.by Try.func3 (by simp [Try.f3]) (Body.i rfl rfl rfl (fun _ => rfl) fun f => ?_)
  repeat' (first
     | refine wp_seq_i ?_ | refine wp_region_t k_lawMt rfl ?_ | refine Run.done rfl ?_ | refine then_n ?_ | refine then_r ?_ | refine then_e ?_ | refine Run.go1 rfl ?_ | refine wp_skip_i ?_ | refine wp_ret_i ?_
     | refine wp_exit_i ?_ | refine wp_block_i ?_ | refine block_n ?_ | refine block_r ?_ | refine block_e ?_ | refine block_o rfl ?_ | refine wp_cond_t rfl ?_ | refine wp_cond_f rfl ?_
     | refine Run.call rfl rfl rfl (hsz) rfl rfl ?_ | (refine wp_cond_k rfl rfl rfl ?_ ?_ <;> intro _) | (refine wp_cond_i rfl ?_ ?_ <;> intro _))
  · refine ret_m [] rfl rfl rfl
  rename_i h
  have hp : p.ok := (szPiece_ok (left := 1048576) hl (by omega) (by simpa using h)).1
  have hS : Tells Try.prog E0 XS 9 [p.s] (.t (.sl true ((metB p).map bR))) := by rw [Piece.s_eq]; exact MetS_t p hp
  have hI : Tells Try.prog E0 XS 11 [p.s] (.t (.sl true ((metB p).map bR))) := by rw [Piece.s_eq]; exact MetI_t p hp
  have hE : Tells Try.prog E0 XS 13 [p.s, p.s] (bA (decide (p = p))) := by rw [Piece.s_eq]; exact eqPiece_t p p hp
  have hEi : ∀ a b : List Bool, a.length ≤ 600 → Tells Try.prog E0 XS 12 [.t (.sl false (shrR (a.map bR))), .t (.sl false (shrR (b.map bR)))] (bA (decide (a = b))) := fun a b ha => by rw [shr_Bo, shr_Bo]; exact eqBoolS_t a b (by omega)
  have hHe : ∀ l k, l.length ≤ 600 → Tells Try.prog E0 XS 16 [.t (.sl false (shrR (l.map bR))), iA k] (iA (heT l k)) := fun l k hk => by rw [shr_Bo]; exact heldBoolS_t l k (by omega)
  have hbl : (metB p).length ≤ 600 := metB_len p
  have hM := mkP_up hp
  have hK : ¬ (mkT (metB p) 1).2 < 0 := by rw [mkT_up _ _ (by omega) (by omega)]; omega
  repeat' (first
     | refine wp_seq_i ?_ | refine wp_region_t k_lawMt rfl ?_ | refine Run.done rfl ?_ | refine then_n ?_ | refine then_r ?_ | refine then_e ?_ | refine Run.go1 rfl ?_ | refine wp_skip_i ?_ | refine wp_ret_i ?_
     | refine wp_exit_i ?_ | refine wp_block_i ?_ | refine block_n ?_ | refine block_r ?_ | refine block_e ?_ | refine block_o rfl ?_ | refine wp_cond_t rfl ?_ | refine wp_cond_f rfl ?_ | refine RunQ.go1 rfl ?_
     | refine RunQ.done rfl ?_ | refine Run.gT rfl rfl rfl rfl ?_ | refine Run.pT rfl rfl ?_ | (refine Run.splitG rfl rfl rfl rfl rfl rfl ?_ ?_ <;> intro _) | (refine Run.splitP rfl rfl rfl rfl ?_ ?_ <;> intro _)
     | refine RunQ.gT rfl rfl rfl rfl ?_ | refine RunQ.pT rfl rfl ?_ | (refine RunQ.splitG rfl rfl rfl rfl rfl rfl ?_ ?_ <;> intro _) | (refine RunQ.splitP rfl rfl rfl rfl ?_ ?_ <;> intro _)
     | refine Run.call rfl rfl rfl (toPiece_t p hp) rfl rfl ?_ | refine Run.callB rfl rfl rfl (hS) (by simp [AV.own, T.own, own_Bo]) rfl ?_ | refine Run.callB rfl rfl rfl (hI) (by simp [AV.own, T.own, own_Bo]) rfl ?_
     | refine Run.callB rfl rfl rfl (hEi (metB p) (metB p) hbl) (by simp [AV.own, T.own]) rfl ?_ | refine wp_region_l k_lawMt [0, 1] [2, 3] [0, 0, 2, 7, 15] rfl (by decide +kernel) (by decide +kernel) rfl rfl ?_
     | refine RunL.call rfl rfl rfl rfl (toPiece_t p hp) (.inl rfl) rfl rfl ?_ | refine RunL.call rfl rfl rfl rfl (hE) (.inr (by simp [AV.own, T.own])) rfl rfl ?_ | refine RunL.done ?_
     | refine Run.call rfl rfl rfl (markPiece_t p 1 hl.1 hl.2) rfl rfl ?_ | refine Run.call rfl rfl rfl (markBoolS_t _ _ (by omega)) rfl rfl ?_
     | refine Run.callB rfl rfl rfl (hHe _ _ (by simp only [mkT_len]; omega)) (by simp [AV.own, T.own]) rfl ?_ | (refine wp_cond_k rfl rfl rfl ?_ ?_ <;> intro _) | (refine wp_cond_i rfl ?_ ?_ <;> intro _))
  all_goals first
    | (refine ret_m [] rfl rfl rfl; done)
    | (rename_i hx; exfalso; simp [heT_mkT, hK, hM] at hx; done)
    | (rename_i hx; exfalso; simp [heT_mkT] at hx; omega)
end Go.Proofs

set_option linter.unusedVariables false
set_option linter.unusedSimpArgs false
set_option maxHeartbeats 4000000
namespace Go.Proofs
open Go Go.Ev
set_option maxRecDepth 100000
variable {X : Rel3}
def keepB (l : List Ins) (met : List Bool) (i : Nat) (x : Ins) : Bool :=
  if i + 1 = l.length then true else if x.op = 17 ∨ x.op = 18 then true else if met[i]? = some false ∨ (x.op = 4 ∧ x.d = x.x) then false else !(x.op == 13 && x.to_ == ((i + 1 : Nat) : Int))
def idleB (met : List Bool) (i : Nat) (x : Ins) : Bool := (met[i]? == some false && x.op != 17 && x.op != 18) || (x.op == 4 && x.d == x.x) || (x.op == 13 && x.to_ == ((i + 1 : Nat) : Int))
theorem keep_idle {l : List Ins} {met : List Bool} {i : Nat} {x : Ins} (h : ¬ i + 1 = l.length) : keepB l met i x = !idleB met i x := by
  unfold keepB idleB
  rw [if_neg h]
  by_cases h1 : x.op = 17
  · simp [h1]
  by_cases h2 : x.op = 18
  · simp [h2]
  rw [if_neg (by omega)]
  by_cases h3 : met[i]? = some false
  · simp [h1, h2, h3]
  by_cases h4 : x.op = 4 ∧ x.d = x.x
  · simp [h4]
  · have h5 : (x.op == 4 && x.d == x.x) = false := by simpa using h4
    rw [if_neg (by simp [h3, h4]), h5]
    simp [h3]
def k_stays : List (Nat × List Nat) := [(0, [1, 2, 3]), (1, [1, 2, 3, 7]), (2, [1, 2, 7, 13]), (3, [6]), (4, [1, 2, 7, 20]), (5, [6]), (6, [2, 7, 29]), (7, [6]), (8, [6])]
theorem stays_t (p : Piece) (met : List Bool) (i : Nat) (x : Ins) (bb : Bool) (hp : p.ins.length ≤ 1048576) (hx0 : p.ins[i]? = some x) (hm : met[i]? = some bb) : Tells Try.prog E0 X 76 [p.a false, .t (.sl false (shrR (met.map bR))), iA i] (bA (keepB p.ins met i x)) := by
  have hi : i < p.ins.length := (List.getElem?_eq_some_iff.1 hx0).1
  have hx : (p.ins.map (Ins.c false))[i]? = some (Ins.c false x) := by rw [List.getElem?_map, hx0]; rfl
  have hz : (met.map bR)[i]? = some (bR bb) := by rw [List.getElem?_map, hm]; rfl
  have hw := w_succ hi (by omega)
  have hwl : IntKind.i64.wrap (((p.ins.map (Ins.c false)).length : Int) - 1) = (p.ins.length : Int) - 1 := by rw [List.length_map, w64] <;> omega
  rw [shr_Bo]
  refine Tells.by Try.func76 (by simp [Try.f76]) (Body.i rfl rfl rfl (fun _ => rfl) fun f => ?_)
  repeat' (first
     | refine wp_seq_i ?_ | refine wp_region_t k_stays rfl ?_ | refine Run.done rfl ?_ | refine then_n ?_ | refine then_r ?_ | refine then_e ?_ | refine Run.go1 rfl ?_ | refine wp_skip_i ?_ | refine wp_ret_i ?_
     | refine wp_exit_i ?_ | refine wp_block_i ?_ | refine block_n ?_ | refine block_r ?_ | refine block_e ?_ | refine block_o rfl ?_ | refine wp_cond_t rfl ?_ | refine wp_cond_f rfl ?_ | refine Run.gT rfl rfl rfl rfl ?_
     | refine Run.pT rfl rfl ?_ | (refine Run.splitG rfl rfl rfl rfl rfl rfl ?_ ?_ <;> intro _) | (refine Run.splitP rfl rfl rfl rfl ?_ ?_ <;> intro _) | refine Run.ix rfl rfl rfl rfl rfl rfl rfl hx rfl rfl rfl ?_
     | refine Run.ix rfl rfl rfl rfl rfl rfl rfl hz rfl rfl rfl ?_ | (refine wp_cond_k rfl rfl rfl ?_ ?_ <;> intro _) | (refine wp_cond_i rfl ?_ ?_ <;> intro _))
  all_goals first
  | (refine ret_m [] rfl rfl ?_
     clear hx hx0 hz
     simp only [hw, hwl] at *
     unfold keepB
     rw [hm]
     by_cases hlast : i + 1 = p.ins.length <;> cases bb <;> simp_all [bne] <;> omega)
  | trace_state
def k_idle : List (Nat × List Nat) := [(0, [1, 2, 3]), (1, [1, 2, 7]), (2, [6])]
theorem idle_t (p : Piece) (met : List Bool) (i : Nat) (x : Ins) (bb : Bool) (hp : p.ins.length ≤ 1048576) (hx0 : p.ins[i]? = some x) (hm : met[i]? = some bb) : Tells Try.prog E0 X 52 [p.a false, iA i, .t (.sl false (shrR (met.map bR)))] (bA (idleB met i x)) := by
  have hi : i < p.ins.length := (List.getElem?_eq_some_iff.1 hx0).1
  have hx : (p.ins.map (Ins.c false))[i]? = some (Ins.c false x) := by rw [List.getElem?_map, hx0]; rfl
  have hz : (met.map bR)[i]? = some (bR bb) := by rw [List.getElem?_map, hm]; rfl
  have hw := w_succ hi (by omega)
  rw [shr_Bo]
  refine Tells.by Try.func52 (by simp [Try.f52]) (Body.i rfl rfl rfl (fun _ => rfl) fun f => ?_)
  repeat' (first
     | refine wp_seq_i ?_ | refine wp_region_t k_idle rfl ?_ | refine Run.done rfl ?_ | refine then_n ?_ | refine then_r ?_ | refine then_e ?_ | refine Run.go1 rfl ?_ | refine wp_skip_i ?_ | refine wp_ret_i ?_
     | refine wp_exit_i ?_ | refine wp_block_i ?_ | refine block_n ?_ | refine block_r ?_ | refine block_e ?_ | refine block_o rfl ?_ | refine wp_cond_t rfl ?_ | refine wp_cond_f rfl ?_ | refine Run.gT rfl rfl rfl rfl ?_
     | refine Run.pT rfl rfl ?_ | (refine Run.splitG rfl rfl rfl rfl rfl rfl ?_ ?_ <;> intro _) | (refine Run.splitP rfl rfl rfl rfl ?_ ?_ <;> intro _) | refine Run.ix rfl rfl rfl rfl rfl rfl rfl hx rfl rfl rfl ?_
     | refine Run.ix rfl rfl rfl rfl rfl rfl rfl hz rfl rfl rfl ?_ | (refine wp_cond_k rfl rfl rfl ?_ ?_ <;> intro _) | (refine wp_cond_i rfl ?_ ?_ <;> intro _))
  all_goals first
  | (refine ret_m [] rfl rfl ?_
     clear hx hx0 hz
     simp only [hw] at *
     unfold idleB
     rw [hm]
     cases bb <;> simp_all)
  | trace_state
end Go.Proofs

set_option linter.unusedVariables false
set_option linter.unusedSimpArgs false
set_option maxHeartbeats 4000000
namespace Go.Proofs
open Go Go.Ev
set_option maxRecDepth 100000
variable {X : Rel3}
theorem shr_Insf (l : List Ins) : shrR (l.map (Ins.c false)) = l.map (Ins.c false) := by
  induction l with
  | nil => rfl
  | cons x r ih => simp [shrR, shrL, T.shr, ih, shr_It]
theorem cloneInts_t (l : List Int) (hl : l.length ≤ 1000000000000) : Tells Try.prog E0 X 78 [.t (.sl false (l.map iR))] (.t (.sl true (l.map iR))) := by
  refine Tells.by Try.func78 (by simp [Try.f78]) (Body.i rfl rfl rfl (fun _ => rfl) fun f => ?_)
  repeat' (first
     | refine wp_seq_i ?_ | refine wp_region_i ?_ | refine Run.done rfl ?_ | refine then_n ?_ | refine then_r ?_ | refine then_e ?_ | refine Run.go1 rfl ?_ | refine wp_skip_i ?_ | refine wp_ret_i ?_ | refine wp_exit_i ?_
     | refine wp_block_i ?_ | refine block_n ?_ | refine block_r ?_ | refine block_e ?_ | refine block_o rfl ?_ | refine wp_cond_t rfl ?_ | refine wp_cond_f rfl ?_
     | refine Run.nilc rfl rfl rfl (fun _ => rfl) (fun _ => ?_) (fun _ _ => ?_) | refine Run.cnd rfl rfl rfl ⟨by simp; omega, by simp, by simp, .inl rfl, by simp [flatT]⟩ ?_ | (refine wp_cond_k rfl rfl rfl ?_ ?_ <;> intro _)
     | (refine wp_cond_i rfl ?_ ?_ <;> intro _))
  all_goals (refine ret_m [] rfl rfl ?_; simp_all)
theorem cloneIns_t (l : List Ins) (hl : l.length ≤ 1048576) : Tells Try.prog E0 X 77 [.t (.sl false (l.map (Ins.c false)))] (.t (.sl true (l.map (Ins.c false)))) := by
  refine Tells.by Try.func77 (by simp [Try.f77]) (Body.i rfl rfl rfl (fun _ => rfl) fun f => ?_)
  repeat' (first
     | refine wp_seq_i ?_ | refine wp_region_i ?_ | refine Run.done rfl ?_ | refine then_n ?_ | refine then_r ?_ | refine then_e ?_ | refine Run.go1 rfl ?_ | refine wp_skip_i ?_ | refine wp_ret_i ?_ | refine wp_exit_i ?_
     | refine wp_block_i ?_ | refine block_n ?_ | refine block_r ?_ | refine block_e ?_ | refine block_o rfl ?_ | refine wp_cond_t rfl ?_ | refine wp_cond_f rfl ?_
     | refine Run.nilc rfl rfl rfl (fun _ => rfl) (fun _ => ?_) (fun _ _ => ?_) | refine Run.cnd rfl rfl rfl ⟨by simp [shrR_len]; omega, by simp, by simp [shr_Insf], .inl rfl, by simp [okT, Value.oneCell']⟩ ?_
     | (refine wp_cond_k rfl rfl rfl ?_ ?_ <;> intro _) | (refine wp_cond_i rfl ?_ ?_ <;> intro _))
  all_goals (refine ret_m [] rfl rfl ?_; simp_all [shr_Insf, shrR])
def k_clonePiece : List (Nat × List Nat) := [(0, [1, 2]), (1, [1, 2]), (2, [1, 2, 10, 11, 12]), (3, [1, 2, 10, 11, 12, 13]), (4, [1, 2, 3, 4, 10, 11, 12]), (5, [1, 2, 10, 11, 12]), (6, [1, 2, 10, 11, 12]), (7, [2])]
theorem clonePiece_t (p : Piece) (hp : p.ok) : Tells Try.prog E0 X 51 [p.a false] (p.a true) := by
  have hpl := hp.1
  refine Tells.by Try.func51 (by simp [Try.f51]) (Body.i rfl rfl rfl (fun _ => rfl) fun f => ?_)
  repeat' (first
     | refine wp_seq_i ?_ | refine wp_region_t k_clonePiece rfl ?_ | refine Run.done rfl ?_ | refine then_n ?_ | refine then_r ?_ | refine then_e ?_ | refine Run.go1 rfl ?_ | refine wp_skip_i ?_ | refine wp_ret_i ?_
     | refine wp_exit_i ?_ | refine wp_block_i ?_ | refine block_n ?_ | refine block_r ?_ | refine block_e ?_ | refine block_o rfl ?_ | refine wp_cond_t rfl ?_ | refine wp_cond_f rfl ?_
     | refine Run.call rfl rfl rfl (cloneIns_t p.ins hpl) rfl rfl ?_ | (refine wp_cond_k rfl rfl rfl ?_ ?_ <;> intro _) | (refine wp_cond_i rfl ?_ ?_ <;> intro _))
  refine wp_loop_k (α := Nat) [.keep [1, 2, 10, 11, 12] [1, 2, 7]] (fun k => [(12, iA k)]) (fun _ => []) (fun k => [(7, 0, (p.ins.take k).map (Ins.c true) ++ (p.ins.drop k).map (Ins.c false))]) (fun k => k ≤ p.ins.length) (fun k => p.ins.length - k) 0 rfl (fun _ => rfl) ?_ (by simp) ?_
  · simp
  rintro k hk
  by_cases hlt : k < p.ins.length
  · have hx : ((p.ins.take k).map (Ins.c true) ++ (p.ins.drop k).map (Ins.c false))[k]? = some (Ins.c false p.ins[k]) := by
      rw [List.getElem?_append_right (by simp; omega)]
      simp [Nat.min_eq_left hk, hlt]
    have hil := hp.2 _ (List.getElem_mem hlt)
    have hset : ((p.ins.take k).map (Ins.c true) ++ (p.ins.drop k).map (Ins.c false)).set k (Ins.c true p.ins[k]) = (p.ins.take (k + 1)).map (Ins.c true) ++ (p.ins.drop (k + 1)).map (Ins.c false) := by
      rw [List.set_append_right _ _ (by simp; omega)]
      simp only [List.length_map, List.length_take, Nat.min_eq_left hk, Nat.sub_self]
      rw [List.drop_eq_getElem_cons hlt, List.map_cons, List.set_cons_zero, List.take_succ_eq_append_getElem hlt, List.map_append, List.map_cons, List.map_nil, List.append_assoc, List.singleton_append]
    have hlen : ((p.ins.take k).map (Ins.c true) ++ (p.ins.drop k).map (Ins.c false)).length = p.ins.length := by simp; omega
    repeat' (first
       | refine wp_seq_i ?_ | refine wp_region_t k_clonePiece rfl ?_ | refine Run.done rfl ?_ | refine then_n ?_ | refine then_r ?_ | refine then_e ?_ | refine Run.go1 rfl ?_ | refine wp_skip_i ?_ | refine wp_ret_i ?_
       | refine wp_exit_i ?_ | refine wp_block_i ?_ | refine block_n ?_ | refine block_r ?_ | refine block_e ?_ | refine block_o rfl ?_ | refine wp_cond_t rfl ?_ | refine wp_cond_f rfl ?_
       | refine wp_region_qt k_clonePiece rfl 6 (by decide +kernel) rfl rfl ?_ | refine RunQ.go1 rfl ?_ | refine RunQ.done rfl ?_ | refine Run.ix rfl rfl rfl rfl rfl rfl rfl hx rfl rfl rfl ?_
       | refine Run.ldr rfl rfl rfl hx rfl rfl ?_ | refine RunQ.ix rfl rfl rfl rfl rfl rfl rfl hx rfl rfl rfl ?_ | refine RunQ.ldr rfl rfl rfl hx rfl rfl ?_
       | refine RunQ.callO rfl rfl rfl rfl rfl rfl (cloneInts_t p.ins[k].l (by omega)) (.inl rfl) rfl rfl rfl ?_ | refine Run.str rfl rfl rfl rfl rfl rfl hx rfl rfl ?_ | (refine wp_cond_k rfl rfl rfl ?_ ?_ <;> intro _)
       | (refine wp_cond_i rfl ?_ ?_ <;> intro _))
    all_goals first
    | (exfalso; rename_i h; simp [hlt] at h; done)
    | (refine back_i [.keep [1, 2, 10, 11, 12] [1, 2, 7]] (k + 1) rfl ?_ (by omega) (by omega)
       rw [w_succ hlt (by omega), ← hset]; done)
    | trace_state
  · have hkn : k = p.ins.length := by omega
    subst hkn
    have hlen : ((p.ins.take p.ins.length).map (Ins.c true) ++ (p.ins.drop p.ins.length).map (Ins.c false)).length = p.ins.length := by simp
    repeat' (first
       | refine wp_seq_i ?_ | refine wp_region_t k_clonePiece rfl ?_ | refine Run.done rfl ?_ | refine then_n ?_ | refine then_r ?_ | refine then_e ?_ | refine Run.go1 rfl ?_ | refine wp_skip_i ?_ | refine wp_ret_i ?_
       | refine wp_exit_i ?_ | refine wp_block_i ?_ | refine block_n ?_ | refine block_r ?_ | refine block_e ?_ | refine block_o rfl ?_ | refine wp_cond_t rfl ?_ | refine wp_cond_f rfl ?_
       | (refine wp_cond_k rfl rfl rfl ?_ ?_ <;> intro _) | (refine wp_cond_i rfl ?_ ?_ <;> intro _))
    all_goals first
    | (exfalso; rename_i h; simp at h; done)
    | (refine ret_m [] rfl rfl ?_; simp; done)
    | trace_state
def k_copyP : List (Nat × List Nat) := [(0, [1, 2]), (1, [1, 2, 3]), (2, [1, 2, 3]), (3, [1, 2, 3, 4]), (4, [1, 2, 3, 4, 13]), (5, [1, 2, 3, 4]), (6, [1, 2, 3, 4, 5]), (7, [1, 2, 3, 4, 5]), (8, [1, 2, 3, 4]), (9, [2])]
theorem copyPiece_t (p : Piece) (hp : p.ok) : Tells Try.prog E0 X 49 [p.a false] (p.a true) := by
  have hpl := hp.1
  refine Tells.by Try.func49 (by simp [Try.f49]) (Body.i rfl rfl rfl (fun _ => rfl) fun f => ?_)
  repeat' (first
     | refine wp_seq_i ?_ | refine wp_region_t k_copyP rfl ?_ | refine Run.done rfl ?_ | refine then_n ?_ | refine then_r ?_ | refine then_e ?_ | refine Run.go1 rfl ?_ | refine wp_skip_i ?_ | refine wp_ret_i ?_
     | refine wp_exit_i ?_ | refine wp_block_i ?_ | refine block_n ?_ | refine block_r ?_ | refine block_e ?_ | refine block_o rfl ?_ | refine wp_cond_t rfl ?_ | refine wp_cond_f rfl ?_
     | (refine wp_cond_k rfl rfl rfl ?_ ?_ <;> intro _) | (refine wp_cond_i rfl ?_ ?_ <;> intro _))
  refine wp_loop_k (α := Nat × List Ins) [.keep [1, 2, 3, 4] [1, 2, 3, 7]] (fun z => [(4, iA z.1)]) (fun _ => []) (fun z => [(7, 0, z.2.map (Ins.c true))]) (fun z => z.1 ≤ p.ins.length ∧ z.2 = p.ins.take z.1) (fun z => p.ins.length - z.1) (0, []) rfl (fun _ => rfl) rfl ⟨by simp, by simp⟩ ?_
  rintro ⟨k, c⟩ ⟨hk, hc⟩
  simp only at hk hc
  by_cases hlt : k < p.ins.length
  · have hx : (p.ins.map (Ins.c false))[k]? = some (Ins.c false p.ins[k]) := map_at hlt
    have hil := hp.2 _ (List.getElem_mem hlt)
    have hcl : c.length = k := by rw [hc]; simp; omega
    have htk : p.ins.take (k + 1) = c ++ [p.ins[k]] := by rw [hc]; simp
    repeat' (first
       | refine wp_seq_i ?_ | refine wp_region_t k_copyP rfl ?_ | refine Run.done rfl ?_ | refine then_n ?_ | refine then_r ?_ | refine then_e ?_ | refine Run.go1 rfl ?_ | refine wp_skip_i ?_ | refine wp_ret_i ?_
       | refine wp_exit_i ?_ | refine wp_block_i ?_ | refine block_n ?_ | refine block_r ?_ | refine block_e ?_ | refine block_o rfl ?_ | refine wp_cond_t rfl ?_ | refine wp_cond_f rfl ?_
       | refine Run.ix rfl rfl rfl rfl rfl rfl rfl hx rfl rfl rfl ?_ | refine Run.cnd rfl rfl rfl ⟨by simp; omega, by simp, by simp, .inl rfl, by first | (simp [flatT]; done) | trivial⟩ ?_
       | (refine wp_cond_k rfl rfl rfl ?_ ?_ <;> intro _) | (refine wp_cond_i rfl ?_ ?_ <;> intro _))
    all_goals first
    | (exfalso; rename_i h; simp [hlt] at h; done)
    | (refine back_i [.keep [1, 2, 3, 4] [1, 2, 3, 30], .ren 30 7] (k + 1, c ++ [p.ins[k]]) rfl ?_ ⟨by simp; omega, htk.symm⟩ (by simp; omega)
       simp only [w_succ hlt (by omega), List.map_append, List.map_cons, List.map_nil, List.nil_append]; try rfl; done)
    | trace_state
  · have hkn : k = p.ins.length := by omega
    subst hkn
    rw [List.take_length] at hc
    repeat' (first
       | refine wp_seq_i ?_ | refine wp_region_t k_copyP rfl ?_ | refine Run.done rfl ?_ | refine then_n ?_ | refine then_r ?_ | refine then_e ?_ | refine Run.go1 rfl ?_ | refine wp_skip_i ?_ | refine wp_ret_i ?_
       | refine wp_exit_i ?_ | refine wp_block_i ?_ | refine block_n ?_ | refine block_r ?_ | refine block_e ?_ | refine block_o rfl ?_ | refine wp_cond_t rfl ?_ | refine wp_cond_f rfl ?_
       | (refine wp_cond_k rfl rfl rfl ?_ ?_ <;> intro _) | (refine wp_cond_i rfl ?_ ?_ <;> intro _))
    all_goals first
    | (exfalso; rename_i h; simp at h; done)
    | (refine ret_m [] rfl rfl ?_; rw [hc]; done)
    | trace_state
end Go.Proofs

set_option linter.unusedVariables false
set_option linter.unusedSimpArgs false
set_option maxHeartbeats 4000000
namespace Go.Proofs
open Go Go.Ev
set_option maxRecDepth 100000
variable {X : Rel3}
def k_l20Cut : List (Nat × List Nat) := [(0, [1, 2]), (1, [1, 2, 5]), (2, [1, 2, 5, 6]), (3, [1, 2, 5, 6, 16]), (4, [1, 2, 5, 6]), (5, [1, 2, 5, 6]), (6, [1, 2, 5, 6, 7]), (7, [1, 2, 5, 6, 7, 25]), (8, [1, 2, 5, 6, 7]), (9, [1, 2, 5, 6, 7, 8]), (10, [1, 2, 5, 6, 7, 8, 9]), (11, [1, 2, 5, 6, 7, 8, 9, 37]), (12, [1, 2, 5, 6, 7, 8, 9]), (13, [1, 2, 5, 6, 7, 8, 9, 55]), (14, [1, 2, 5, 6, 7, 8, 9]), (15, [1, 2, 5, 6, 7, 8, 9]), (16, [4])]
theorem l20Cut_t (p : Piece) (c : Nat) (hb : pieceB p = true) (hp : p.ins.length ≤ 1048576) : Tells Try.prog E0 X 46 [p.a false, iA c] (.t (.sl true ((metC p.ins c).map bR))) := by
  have hz0 : (List.replicate (Int.toNat ((p.ins.map (Ins.c false)).length : Int)) [T.sc (.bool false)])[0]? = some [T.sc (.bool false)] := by
    have := (len_pos hb).1
    rw [List.getElem?_replicate, if_pos (by simp; omega)]
  have hi0 : ∃ o0 q0, Bf p.ins c o0 q0 ∧ ((c : Int) ≠ 0 → o0 = (List.replicate p.ins.length false).set 0 true ∧ q0 = [0]) ∧ ((c : Int) = 0 → o0 = List.replicate p.ins.length false ∧ q0 = []) := by
    by_cases hc : (c : Int) = 0
    · exact ⟨_, _, by rw [hc]; exact Bf.none _, fun h => absurd hc h, fun _ => ⟨rfl, rfl⟩⟩
    · exact ⟨_, _, Bf.zero hb hc, fun _ => ⟨rfl, rfl⟩, fun h => absurd h hc⟩
  obtain ⟨o0, q0, hB0, hn0, hy0⟩ := hi0
  refine Tells.by Try.func46 (by simp [Try.f46]) (Body.i rfl rfl rfl (fun _ => rfl) fun f => ?_)
  repeat' (first
     | refine wp_seq_i ?_ | refine wp_region_t k_l20Cut rfl ?_ | refine Run.done rfl ?_ | refine then_n ?_ | refine then_r ?_ | refine then_e ?_ | refine Run.go1 rfl ?_ | refine wp_skip_i ?_ | refine wp_ret_i ?_
     | refine wp_exit_i ?_ | refine wp_block_i ?_ | refine block_n ?_ | refine block_r ?_ | refine block_e ?_ | refine block_o rfl ?_ | refine wp_cond_t rfl ?_ | refine wp_cond_f rfl ?_
     | refine Run.cnd2 rfl rfl rfl ⟨by simp, rfl, by simp; omega, by simp; omega⟩ ?_ | refine Run.ix rfl rfl rfl rfl rfl rfl rfl hz0 rfl rfl rfl ?_ | refine Run.str rfl rfl rfl rfl rfl rfl hz0 rfl rfl ?_
     | refine Run.cnd rfl rfl rfl ⟨by first | (simp; done) | (simp; omega), (by intro r hr; first | (simp at hr; done) | skip; simp at hr; first | (rcases hr with ⟨a, _, rfl⟩ | rfl <;> rfl) | (obtain ⟨a, _, rfl⟩ := hr; rfl) | (subst hr; rfl)), by simp, by first | exact .inl rfl | exact hq | exact .inr rfl, by simp [flatT]⟩ ?_
     | (refine wp_cond_k rfl rfl rfl ?_ ?_ <;> intro _) | (refine wp_cond_i rfl ?_ ?_ <;> intro _))
  all_goals rename_i hcc
  · have hcn : (c : Int) ≠ 0 := by simpa using hcc
    refine wp_loop_k (α := Nat × List Bool × List Int) [.keep [1, 2, 5, 6, 7] [2, 13, 21], .ren 21 14] (fun z => [(7, iA z.1)]) (fun _ => []) (fun z => [(13, 0, z.2.1.map bR), (14, 0, z.2.2.map iR)]) (fun z => z.1 ≤ z.2.2.length ∧ Bf p.ins c z.2.1 z.2.2 ∧ (∀ (j : Nat) (x : Int), j < z.1 → z.2.2[j]? = some x → ∀ y ∈ nexts p.ins x.toNat, y ≠ c → y ∈ z.2.2) ∧ ((c : Int) ≠ 0 → 0 ∈ z.2.2)) (fun z => p.ins.length - z.1) (0, o0, q0) rfl (fun _ => rfl) ?_ ⟨by simp, hB0, by simp, fun h => by rw [(hn0 h).2]; simp⟩ ?_
    · rw [(hn0 hcn).1, (hn0 hcn).2]; simp [List.map_set]; rfl
    rintro ⟨k, out, q⟩ ⟨hk, hB, hC, hZ⟩
    simp only at hk hB hC hZ
    by_cases hlt : k < q.length
    · have hqk := hB.inr q[k] (List.getElem_mem hlt)
      obtain ⟨i0, hi0⟩ : ∃ i0 : Nat, q[k] = (i0 : Int) := ⟨q[k].toNat, by omega⟩
      have hri : Reach p.ins c i0 := by have := hqk.2; rw [hi0] at this; simpa using this
      have hil : i0 < p.ins.length := reach_lt hb hri
      have hx : (q.map iR)[k]? = some (iR (i0 : Int)) := by rw [← hi0]; exact map_at hlt
      repeat' (first
         | refine wp_seq_i ?_ | refine wp_region_t k_l20Cut rfl ?_ | refine Run.done rfl ?_ | refine then_n ?_ | refine then_r ?_ | refine then_e ?_ | refine Run.go1 rfl ?_ | refine wp_skip_i ?_ | refine wp_ret_i ?_
         | refine wp_exit_i ?_ | refine wp_block_i ?_ | refine block_n ?_ | refine block_r ?_ | refine block_e ?_ | refine block_o rfl ?_ | refine wp_cond_t rfl ?_ | refine wp_cond_f rfl ?_
         | refine wp_region_qt k_l20Cut rfl 7 (by decide +kernel) rfl rfl ?_ | refine RunQ.go1 rfl ?_ | refine RunQ.done rfl ?_ | refine RunQ.ix rfl rfl rfl rfl rfl rfl rfl hx rfl rfl rfl ?_ | refine RunQ.ldr rfl rfl rfl hx rfl rfl ?_
         | refine RunQ.callO rfl rfl rfl rfl rfl rfl (NextsS_t p i0 hb hp hil) (.inl rfl) rfl rfl rfl ?_ | (refine wp_cond_k rfl rfl rfl ?_ ?_ <;> intro _) | (refine wp_cond_i rfl ?_ ?_ <;> intro _))
      any_goals (exfalso; rename_i h; simp [hlt] at h; done)
      have hin : ∀ y ∈ nexts p.ins i0, 0 ≤ y ∧ y < p.ins.length := fun y hy => nexts_in hb hy
      have hrn : ∀ y : Nat, (y : Int) ∈ nexts p.ins i0 → (y : Int) ≠ c → Reach p.ins c y := fun y hy hyc => .step hri hy hyc
      generalize hnx : nexts p.ins i0 = nx at hin hrn
      refine wp_loop_k (α := Nat × List Bool × List Int) [.keep [1, 2, 5, 6, 7, 8, 9] [2, 13, 14, 33]] (fun z => [(9, iA z.1)]) (fun _ => []) (fun z => [(13, 0, z.2.1.map bR), (14, 0, z.2.2.map iR)]) (fun z => z.1 ≤ nx.length ∧ Bf p.ins c z.2.1 z.2.2 ∧ (∃ t, z.2.2 = q ++ t) ∧ ∀ y ∈ nx.take z.1, y ≠ c → y ∈ z.2.2) (fun z => nx.length - z.1) (0, out, q) rfl (fun _ => rfl) rfl ⟨by simp, hB, ⟨[], by simp⟩, by simp⟩ ?_
      rintro ⟨m, ou, qu⟩ ⟨hm, hB2, hpre, hall⟩
      simp only at hm hB2 hpre hall
      have hql := hB2.le
      by_cases hlm : m < nx.length
      · have hym := hin nx[m] (List.getElem_mem hlm)
        obtain ⟨y0, hy0⟩ : ∃ y0 : Nat, nx[m] = (y0 : Int) := ⟨nx[m].toNat, by omega⟩
        have hry : (y0 : Int) ≠ c → Reach p.ins c y0 := hrn y0 (by rw [← hy0]; exact List.getElem_mem hlm)
        have hyl : y0 < ou.length := by rw [hB2.len]; omega
        have hx2 : (nx.map iR)[m]? = some (iR (y0 : Int)) := by rw [← hy0]; exact map_at hlm
        have ht : nx.take (m + 1) = nx.take m ++ [(y0 : Int)] := by rw [← hy0]; simp
        obtain ⟨b, hob⟩ : ∃ b, ou[y0]? = some b := ⟨_, List.getElem?_eq_getElem hyl⟩
        have hz : (ou.map bR)[y0]? = some (bR b) := by rw [List.getElem?_map, hob]; rfl
        have hwm := w_succ hlm (by have := nexts_len p.ins i0; rw [hnx] at this; omega)
        cases b
        all_goals (
          repeat' (first
             | refine wp_seq_i ?_ | refine wp_region_t k_l20Cut rfl ?_ | refine Run.done rfl ?_ | refine then_n ?_ | refine then_r ?_ | refine then_e ?_ | refine Run.go1 rfl ?_ | refine wp_skip_i ?_ | refine wp_ret_i ?_
             | refine wp_exit_i ?_ | refine wp_block_i ?_ | refine block_n ?_ | refine block_r ?_ | refine block_e ?_ | refine block_o rfl ?_ | refine wp_cond_t rfl ?_ | refine wp_cond_f rfl ?_ | refine Run.gT rfl rfl rfl rfl ?_
             | refine Run.pT rfl rfl ?_ | (refine Run.splitG rfl rfl rfl rfl rfl rfl ?_ ?_ <;> intro _) | (refine Run.splitP rfl rfl rfl rfl ?_ ?_ <;> intro _) | refine Run.ix rfl rfl rfl rfl rfl rfl rfl hx2 rfl rfl rfl ?_
             | refine Run.ix rfl rfl rfl rfl rfl rfl rfl hz rfl rfl rfl ?_ | refine Run.ldr rfl rfl rfl hx2 rfl rfl ?_ | refine Run.ldr rfl rfl rfl hz rfl rfl ?_ | refine Run.str rfl rfl rfl rfl rfl rfl hz rfl rfl ?_
             | refine Run.cnd rfl rfl rfl ⟨by first | (simp; done) | (simp; omega), (by intro r hr; first | (simp at hr; done) | skip; simp at hr; first | (rcases hr with ⟨a, _, rfl⟩ | rfl <;> rfl) | (obtain ⟨a, _, rfl⟩ := hr; rfl) | (subst hr; rfl)), by simp, by first | exact .inl rfl | exact hq | exact .inr rfl, by simp [flatT]⟩ ?_
             | (refine wp_cond_k rfl rfl rfl ?_ ?_ <;> intro _) | (refine wp_cond_i rfl ?_ ?_ <;> intro _))
          all_goals first
          | (exfalso; rename_i h; simp [hlm] at h; done)
          | (exfalso; rename_i h; simp at h; done)
          | (rename_i hyc
             have hyc : (y0 : Int) ≠ c := by simpa using hyc
             refine back_i [.keep [1, 2, 5, 6, 7, 8, 9] [2, 13, 33, 68], .ren 68 14] (m + 1, ou.set y0 true, qu ++ [(y0 : Int)]) rfl ?_ ⟨by simp; omega, hB2.push hob (hry hyc), ?_, ?_⟩ (by simp; omega)
             · simp only [hwm, List.map_append, List.map_cons, List.map_nil, List.map_set]; try rfl
             · obtain ⟨t, ht'⟩ := hpre; exact ⟨t ++ [(y0 : Int)], by rw [ht', List.append_assoc]⟩
             · (intro y hy hyn
                rw [ht] at hy
                rcases List.mem_append.1 hy with hy | hy
                · exact List.mem_append.2 (.inl (hall y hy hyn))
                · exact List.mem_append.2 (.inr hy)); done)
          | (refine back_i [.keep [1, 2, 5, 6, 7, 8, 9] [2, 13, 14, 33]] (m + 1, ou, qu) rfl ?_ ⟨by simp; omega, hB2, hpre, ?_⟩ (by simp; omega)
             · simp only [hwm]; try rfl
             · (intro y hy hyn
                rw [ht] at hy
                rcases List.mem_append.1 hy with hy | hy
                · exact hall y hy hyn
                · obtain rfl : y = (y0 : Int) := by simpa using hy
                  exact (hB2.mem y0).1 hob); done)
          | (rename_i hyc
             have hyc : (y0 : Int) = c := by simpa using hyc
             refine back_i [.keep [1, 2, 5, 6, 7, 8, 9] [2, 13, 14, 33]] (m + 1, ou, qu) rfl ?_ ⟨by simp; omega, hB2, hpre, ?_⟩ (by simp; omega)
             · simp only [hwm]; try rfl
             · (intro y hy hyn
                rw [ht] at hy
                rcases List.mem_append.1 hy with hy | hy
                · exact hall y hy hyn
                · obtain rfl : y = (y0 : Int) := by simpa using hy
                  exact absurd hyc hyn); done)
          | trace_state)
      · have hmn : m = nx.length := by omega
        subst hmn
        rw [List.take_length] at hall
        repeat' (first
           | refine wp_seq_i ?_ | refine wp_region_t k_l20Cut rfl ?_ | refine Run.done rfl ?_ | refine then_n ?_ | refine then_r ?_ | refine then_e ?_ | refine Run.go1 rfl ?_ | refine wp_skip_i ?_ | refine wp_ret_i ?_
           | refine wp_exit_i ?_ | refine wp_block_i ?_ | refine block_n ?_ | refine block_r ?_ | refine block_e ?_ | refine block_o rfl ?_ | refine wp_cond_t rfl ?_ | refine wp_cond_f rfl ?_
           | (refine wp_cond_k rfl rfl rfl ?_ ?_ <;> intro _) | (refine wp_cond_i rfl ?_ ?_ <;> intro _))
        all_goals first
        | (exfalso; rename_i h; simp at h; done)
        | (refine back_i [.keep [1, 2, 5, 6, 7] [2, 13, 14]] (k + 1, ou, qu) rfl ?_ ⟨?_, hB2, ?_, ?_⟩ ?_
           · simp only [w_succ hlt (by have := hB.le; omega)]; try rfl
           · obtain ⟨t, ht'⟩ := hpre; simp [ht']; omega
           · obtain ⟨t, ht'⟩ := hpre
             intro j x hj hjx y hy hyn
             have hjq : j < q.length := by omega
             rw [ht', List.getElem?_append_left hjq] at hjx
             by_cases hjk : j < k
             · rw [ht']; exact List.mem_append.2 (.inl (hC j x hjk hjx y hy hyn))
             · have : j = k := by omega
               subst this
               rw [List.getElem?_eq_getElem hlt, hi0] at hjx
               cases hjx
               rw [Int.toNat_natCast, hnx] at hy
               exact hall y hy hyn
           · intro hc0; obtain ⟨t, ht'⟩ := hpre; rw [ht']; exact List.mem_append.2 (.inl (hZ hc0))
           · have := hB.le; simp; omega)
        | trace_state
    · have hki : k = q.length := by omega
      subst hki
      have hfin : out = metC p.ins c := hB.done (fun j x hj y hy hyn => hC j x (List.getElem?_eq_some_iff.1 hj).1 hj y hy hyn) hZ
      repeat' (first
         | refine wp_seq_i ?_ | refine wp_region_t k_l20Cut rfl ?_ | refine Run.done rfl ?_ | refine then_n ?_ | refine then_r ?_ | refine then_e ?_ | refine Run.go1 rfl ?_ | refine wp_skip_i ?_ | refine wp_ret_i ?_
         | refine wp_exit_i ?_ | refine wp_block_i ?_ | refine block_n ?_ | refine block_r ?_ | refine block_e ?_ | refine block_o rfl ?_ | refine wp_cond_t rfl ?_ | refine wp_cond_f rfl ?_
         | (refine wp_cond_k rfl rfl rfl ?_ ?_ <;> intro _) | (refine wp_cond_i rfl ?_ ?_ <;> intro _))
      all_goals first
      | (exfalso; simp at *; done)
      | (refine ret_m [] rfl rfl ?_; rw [hfin]; done)
      | trace_state
  · have hcn : (c : Int) = 0 := by simpa using hcc
    refine wp_loop_k (α := Nat × List Bool × List Int) [.keep [1, 2, 5, 6, 7] [2, 13, 14]] (fun z => [(7, iA z.1)]) (fun _ => []) (fun z => [(13, 0, z.2.1.map bR), (14, 0, z.2.2.map iR)]) (fun z => z.1 ≤ z.2.2.length ∧ Bf p.ins c z.2.1 z.2.2 ∧ (∀ (j : Nat) (x : Int), j < z.1 → z.2.2[j]? = some x → ∀ y ∈ nexts p.ins x.toNat, y ≠ c → y ∈ z.2.2) ∧ ((c : Int) ≠ 0 → 0 ∈ z.2.2)) (fun z => p.ins.length - z.1) (0, o0, q0) rfl (fun _ => rfl) ?_ ⟨by simp, hB0, by simp, fun h => by rw [(hn0 h).2]; simp⟩ ?_
    · rw [(hy0 hcn).1, (hy0 hcn).2]; simp
    rintro ⟨k, out, q⟩ ⟨hk, hB, hC, hZ⟩
    simp only at hk hB hC hZ
    by_cases hlt : k < q.length
    · have hqk := hB.inr q[k] (List.getElem_mem hlt)
      obtain ⟨i0, hi0⟩ : ∃ i0 : Nat, q[k] = (i0 : Int) := ⟨q[k].toNat, by omega⟩
      have hri : Reach p.ins c i0 := by have := hqk.2; rw [hi0] at this; simpa using this
      have hil : i0 < p.ins.length := reach_lt hb hri
      have hx : (q.map iR)[k]? = some (iR (i0 : Int)) := by rw [← hi0]; exact map_at hlt
      repeat' (first
         | refine wp_seq_i ?_ | refine wp_region_t k_l20Cut rfl ?_ | refine Run.done rfl ?_ | refine then_n ?_ | refine then_r ?_ | refine then_e ?_ | refine Run.go1 rfl ?_ | refine wp_skip_i ?_ | refine wp_ret_i ?_
         | refine wp_exit_i ?_ | refine wp_block_i ?_ | refine block_n ?_ | refine block_r ?_ | refine block_e ?_ | refine block_o rfl ?_ | refine wp_cond_t rfl ?_ | refine wp_cond_f rfl ?_
         | refine wp_region_qt k_l20Cut rfl 7 (by decide +kernel) rfl rfl ?_ | refine RunQ.go1 rfl ?_ | refine RunQ.done rfl ?_ | refine RunQ.ix rfl rfl rfl rfl rfl rfl rfl hx rfl rfl rfl ?_ | refine RunQ.ldr rfl rfl rfl hx rfl rfl ?_
         | refine RunQ.callO rfl rfl rfl rfl rfl rfl (NextsS_t p i0 hb hp hil) (.inl rfl) rfl rfl rfl ?_ | (refine wp_cond_k rfl rfl rfl ?_ ?_ <;> intro _) | (refine wp_cond_i rfl ?_ ?_ <;> intro _))
      any_goals (exfalso; rename_i h; simp [hlt] at h; done)
      have hin : ∀ y ∈ nexts p.ins i0, 0 ≤ y ∧ y < p.ins.length := fun y hy => nexts_in hb hy
      have hrn : ∀ y : Nat, (y : Int) ∈ nexts p.ins i0 → (y : Int) ≠ c → Reach p.ins c y := fun y hy hyc => .step hri hy hyc
      generalize hnx : nexts p.ins i0 = nx at hin hrn
      refine wp_loop_k (α := Nat × List Bool × List Int) [.keep [1, 2, 5, 6, 7, 8, 9] [2, 13, 14, 33]] (fun z => [(9, iA z.1)]) (fun _ => []) (fun z => [(13, 0, z.2.1.map bR), (14, 0, z.2.2.map iR)]) (fun z => z.1 ≤ nx.length ∧ Bf p.ins c z.2.1 z.2.2 ∧ (∃ t, z.2.2 = q ++ t) ∧ ∀ y ∈ nx.take z.1, y ≠ c → y ∈ z.2.2) (fun z => nx.length - z.1) (0, out, q) rfl (fun _ => rfl) rfl ⟨by simp, hB, ⟨[], by simp⟩, by simp⟩ ?_
      rintro ⟨m, ou, qu⟩ ⟨hm, hB2, hpre, hall⟩
      simp only at hm hB2 hpre hall
      have hql := hB2.le
      by_cases hlm : m < nx.length
      · have hym := hin nx[m] (List.getElem_mem hlm)
        obtain ⟨y0, hy0⟩ : ∃ y0 : Nat, nx[m] = (y0 : Int) := ⟨nx[m].toNat, by omega⟩
        have hry : (y0 : Int) ≠ c → Reach p.ins c y0 := hrn y0 (by rw [← hy0]; exact List.getElem_mem hlm)
        have hyl : y0 < ou.length := by rw [hB2.len]; omega
        have hx2 : (nx.map iR)[m]? = some (iR (y0 : Int)) := by rw [← hy0]; exact map_at hlm
        have ht : nx.take (m + 1) = nx.take m ++ [(y0 : Int)] := by rw [← hy0]; simp
        obtain ⟨b, hob⟩ : ∃ b, ou[y0]? = some b := ⟨_, List.getElem?_eq_getElem hyl⟩
        have hz : (ou.map bR)[y0]? = some (bR b) := by rw [List.getElem?_map, hob]; rfl
        have hwm := w_succ hlm (by have := nexts_len p.ins i0; rw [hnx] at this; omega)
        cases b
        all_goals (
          repeat' (first
             | refine wp_seq_i ?_ | refine wp_region_t k_l20Cut rfl ?_ | refine Run.done rfl ?_ | refine then_n ?_ | refine then_r ?_ | refine then_e ?_ | refine Run.go1 rfl ?_ | refine wp_skip_i ?_ | refine wp_ret_i ?_
             | refine wp_exit_i ?_ | refine wp_block_i ?_ | refine block_n ?_ | refine block_r ?_ | refine block_e ?_ | refine block_o rfl ?_ | refine wp_cond_t rfl ?_ | refine wp_cond_f rfl ?_ | refine Run.gT rfl rfl rfl rfl ?_
             | refine Run.pT rfl rfl ?_ | (refine Run.splitG rfl rfl rfl rfl rfl rfl ?_ ?_ <;> intro _) | (refine Run.splitP rfl rfl rfl rfl ?_ ?_ <;> intro _) | refine Run.ix rfl rfl rfl rfl rfl rfl rfl hx2 rfl rfl rfl ?_
             | refine Run.ix rfl rfl rfl rfl rfl rfl rfl hz rfl rfl rfl ?_ | refine Run.ldr rfl rfl rfl hx2 rfl rfl ?_ | refine Run.ldr rfl rfl rfl hz rfl rfl ?_ | refine Run.str rfl rfl rfl rfl rfl rfl hz rfl rfl ?_
             | refine Run.cnd rfl rfl rfl ⟨by first | (simp; done) | (simp; omega), (by intro r hr; first | (simp at hr; done) | skip; simp at hr; first | (rcases hr with ⟨a, _, rfl⟩ | rfl <;> rfl) | (obtain ⟨a, _, rfl⟩ := hr; rfl) | (subst hr; rfl)), by simp, by first | exact .inl rfl | exact hq | exact .inr rfl, by simp [flatT]⟩ ?_
             | (refine wp_cond_k rfl rfl rfl ?_ ?_ <;> intro _) | (refine wp_cond_i rfl ?_ ?_ <;> intro _))
          all_goals first
          | (exfalso; rename_i h; simp [hlm] at h; done)
          | (exfalso; rename_i h; simp at h; done)
          | (rename_i hyc
             have hyc : (y0 : Int) ≠ c := by simpa using hyc
             refine back_i [.keep [1, 2, 5, 6, 7, 8, 9] [2, 13, 33, 68], .ren 68 14] (m + 1, ou.set y0 true, qu ++ [(y0 : Int)]) rfl ?_ ⟨by simp; omega, hB2.push hob (hry hyc), ?_, ?_⟩ (by simp; omega)
             · simp only [hwm, List.map_append, List.map_cons, List.map_nil, List.map_set]; try rfl
             · obtain ⟨t, ht'⟩ := hpre; exact ⟨t ++ [(y0 : Int)], by rw [ht', List.append_assoc]⟩
             · (intro y hy hyn
                rw [ht] at hy
                rcases List.mem_append.1 hy with hy | hy
                · exact List.mem_append.2 (.inl (hall y hy hyn))
                · exact List.mem_append.2 (.inr hy)); done)
          | (refine back_i [.keep [1, 2, 5, 6, 7, 8, 9] [2, 13, 14, 33]] (m + 1, ou, qu) rfl ?_ ⟨by simp; omega, hB2, hpre, ?_⟩ (by simp; omega)
             · simp only [hwm]; try rfl
             · (intro y hy hyn
                rw [ht] at hy
                rcases List.mem_append.1 hy with hy | hy
                · exact hall y hy hyn
                · obtain rfl : y = (y0 : Int) := by simpa using hy
                  exact (hB2.mem y0).1 hob); done)
          | (rename_i hyc
             have hyc : (y0 : Int) = c := by simpa using hyc
             refine back_i [.keep [1, 2, 5, 6, 7, 8, 9] [2, 13, 14, 33]] (m + 1, ou, qu) rfl ?_ ⟨by simp; omega, hB2, hpre, ?_⟩ (by simp; omega)
             · simp only [hwm]; try rfl
             · (intro y hy hyn
                rw [ht] at hy
                rcases List.mem_append.1 hy with hy | hy
                · exact hall y hy hyn
                · obtain rfl : y = (y0 : Int) := by simpa using hy
                  exact absurd hyc hyn); done)
          | trace_state)
      · have hmn : m = nx.length := by omega
        subst hmn
        rw [List.take_length] at hall
        repeat' (first
           | refine wp_seq_i ?_ | refine wp_region_t k_l20Cut rfl ?_ | refine Run.done rfl ?_ | refine then_n ?_ | refine then_r ?_ | refine then_e ?_ | refine Run.go1 rfl ?_ | refine wp_skip_i ?_ | refine wp_ret_i ?_
           | refine wp_exit_i ?_ | refine wp_block_i ?_ | refine block_n ?_ | refine block_r ?_ | refine block_e ?_ | refine block_o rfl ?_ | refine wp_cond_t rfl ?_ | refine wp_cond_f rfl ?_
           | (refine wp_cond_k rfl rfl rfl ?_ ?_ <;> intro _) | (refine wp_cond_i rfl ?_ ?_ <;> intro _))
        all_goals first
        | (exfalso; rename_i h; simp at h; done)
        | (refine back_i [.keep [1, 2, 5, 6, 7] [2, 13, 14]] (k + 1, ou, qu) rfl ?_ ⟨?_, hB2, ?_, ?_⟩ ?_
           · simp only [w_succ hlt (by have := hB.le; omega)]; try rfl
           · obtain ⟨t, ht'⟩ := hpre; simp [ht']; omega
           · obtain ⟨t, ht'⟩ := hpre
             intro j x hj hjx y hy hyn
             have hjq : j < q.length := by omega
             rw [ht', List.getElem?_append_left hjq] at hjx
             by_cases hjk : j < k
             · rw [ht']; exact List.mem_append.2 (.inl (hC j x hjk hjx y hy hyn))
             · have : j = k := by omega
               subst this
               rw [List.getElem?_eq_getElem hlt, hi0] at hjx
               cases hjx
               rw [Int.toNat_natCast, hnx] at hy
               exact hall y hy hyn
           · intro hc0; obtain ⟨t, ht'⟩ := hpre; rw [ht']; exact List.mem_append.2 (.inl (hZ hc0))
           · have := hB.le; simp; omega)
        | trace_state
    · have hki : k = q.length := by omega
      subst hki
      have hfin : out = metC p.ins c := hB.done (fun j x hj y hy hyn => hC j x (List.getElem?_eq_some_iff.1 hj).1 hj y hy hyn) hZ
      repeat' (first
         | refine wp_seq_i ?_ | refine wp_region_t k_l20Cut rfl ?_ | refine Run.done rfl ?_ | refine then_n ?_ | refine then_r ?_ | refine then_e ?_ | refine Run.go1 rfl ?_ | refine wp_skip_i ?_ | refine wp_ret_i ?_
         | refine wp_exit_i ?_ | refine wp_block_i ?_ | refine block_n ?_ | refine block_r ?_ | refine block_e ?_ | refine block_o rfl ?_ | refine wp_cond_t rfl ?_ | refine wp_cond_f rfl ?_
         | (refine wp_cond_k rfl rfl rfl ?_ ?_ <;> intro _) | (refine wp_cond_i rfl ?_ ?_ <;> intro _))
      all_goals first
      | (exfalso; simp at *; done)
      | (refine ret_m [] rfl rfl ?_; rw [hfin]; done)
      | trace_state
def k_metW : List (Nat × List Nat) := [(0, [1, 2]), (1, [1, 2, 5]), (2, [1, 2, 5, 6]), (3, [1, 2, 5, 6, 15]), (4, [1, 2, 5, 6, 7]), (5, [1, 2, 5, 6, 7]), (6, [1, 2, 5, 6, 7, 30]), (7, [1, 2, 5, 6, 7]), (8, [1, 2, 5, 6]), (9, [4])]
theorem metWithout_t (p : Piece) (c : Nat) (hb : pieceB p = true) (hp : p.ins.length ≤ 1048576) : Tells Try.prog E0 XS 47 [p.a false, iA c] (.t (.sl true ((metC p.ins c).map bR))) := by
  refine Tells.by Try.func47 (by simp [Try.f47]) (Body.i rfl rfl rfl (fun _ => rfl) fun f => ?_)
  repeat' (first
     | refine wp_seq_i ?_ | refine wp_region_t k_metW rfl ?_ | refine Run.done rfl ?_ | refine then_n ?_ | refine then_r ?_ | refine then_e ?_ | refine Run.go1 rfl ?_ | refine wp_skip_i ?_ | refine wp_ret_i ?_
     | refine wp_exit_i ?_ | refine wp_block_i ?_ | refine block_n ?_ | refine block_r ?_ | refine block_e ?_ | refine block_o rfl ?_ | refine wp_cond_t rfl ?_ | refine wp_cond_f rfl ?_
     | refine Run.cnd2 rfl rfl rfl ⟨by simp, rfl, by simp; omega, by simp; omega⟩ ?_ | (refine wp_cond_k rfl rfl rfl ?_ ?_ <;> intro _) | (refine wp_cond_i rfl ?_ ?_ <;> intro _))
  refine wp_loop_k (α := List Bool × List Int × Nat) [.keep [1, 2, 5, 6] [2, 11, 12]] (fun _ => []) (fun _ => []) (fun z => [(11, 0, z.1.map bR), (12, ⟨z.2.2, none⟩, z.2.1.map iR)]) (fun z => Im p.ins c z.1 z.2.1 ∧ z.2.1.length ≤ 3 * cntT z.1 + 1 ∧ (z.2.2 = 0 ∨ z.2.2 = 1)) (fun z => 4 * (p.ins.length - cntT z.1) + z.2.1.length) (List.replicate p.ins.length false, [0], 0) rfl (fun _ => rfl) ?_ ⟨Im.start hb c, by simp, by simp⟩ ?_
  · simp; rfl
  rintro ⟨out, qu, q⟩ ⟨hI, hql, hq⟩
  simp only at hI hql hq
  have hcl := cntT_le out
  have hol := hI.len
  rcases qu with _ | ⟨x, r⟩
  · have hfin := hI.done
    repeat' (first
       | refine wp_seq_i ?_ | refine wp_region_t k_metW rfl ?_ | refine Run.done rfl ?_ | refine then_n ?_ | refine then_r ?_ | refine then_e ?_ | refine Run.go1 rfl ?_ | refine wp_skip_i ?_ | refine wp_ret_i ?_
       | refine wp_exit_i ?_ | refine wp_block_i ?_ | refine block_n ?_ | refine block_r ?_ | refine block_e ?_ | refine block_o rfl ?_ | refine wp_cond_t rfl ?_ | refine wp_cond_f rfl ?_
       | (refine wp_cond_k rfl rfl rfl ?_ ?_ <;> intro _) | (refine wp_cond_i rfl ?_ ?_ <;> intro _))
    all_goals first
    | (exfalso; rename_i h; simp at h; done)
    | (refine ret_m [] rfl rfl ?_; rw [hfin]; done)
    | trace_state
  · have hxr := hI.inr x (List.mem_cons_self ..)
    obtain ⟨x0, rfl⟩ : ∃ x0 : Nat, x = (x0 : Int) := ⟨x.toNat, by omega⟩
    have hxl : x0 < p.ins.length := by omega
    have hx : (((x0 : Int) :: r).map iR)[0]? = some (iR (x0 : Int)) := rfl
    obtain ⟨bb, hob⟩ : ∃ bb, out[x0]? = some bb := ⟨_, List.getElem?_eq_getElem (by omega)⟩
    have hz : (out.map bR)[x0]? = some (bR bb) := by rw [List.getElem?_map, hob]; rfl
    have hnl := nexts_len p.ins x0
    have hdr : List.drop (Int.toNat 1) (List.take (Int.toNat ((((x0 : Int) :: r).map iR).length : Int)) (((x0 : Int) :: r).map iR)) = r.map iR := by rw [Int.toNat_natCast, List.take_length]; rfl
    simp only [List.length_cons] at hql
    cases bb
    all_goals (
      repeat' (first
         | refine wp_seq_i ?_ | refine wp_region_t k_metW rfl ?_ | refine Run.done rfl ?_ | refine then_n ?_ | refine then_r ?_ | refine then_e ?_ | refine Run.go1 rfl ?_ | refine wp_skip_i ?_ | refine wp_ret_i ?_
         | refine wp_exit_i ?_ | refine wp_block_i ?_ | refine block_n ?_ | refine block_r ?_ | refine block_e ?_ | refine block_o rfl ?_ | refine wp_cond_t rfl ?_ | refine wp_cond_f rfl ?_ | refine Run.gT rfl rfl rfl rfl ?_
         | refine Run.pT rfl rfl ?_ | (refine Run.splitG rfl rfl rfl rfl rfl rfl ?_ ?_ <;> intro _) | (refine Run.splitP rfl rfl rfl rfl ?_ ?_ <;> intro _) | refine Run.ix rfl rfl rfl rfl rfl rfl rfl hx rfl rfl rfl ?_
         | refine Run.ldr rfl rfl rfl hx rfl rfl ?_ | refine Run.ix rfl rfl rfl rfl rfl rfl rfl hz rfl rfl rfl ?_ | refine Run.ldr rfl rfl rfl hz rfl rfl ?_ | refine Run.str rfl rfl rfl rfl rfl rfl hz rfl rfl ?_
         | refine Run.cnd2 rfl rfl rfl ⟨by decide, by first | (simp; done) | (simp; omega), by simp, by simp, by first | exact .inl rfl | exact hq, by decide⟩ ?_ | refine Run.call rfl rfl rfl (NextsI_t p x0 hp hxl) rfl rfl ?_
         | refine Run.cnd rfl rfl rfl ⟨by simp only [hdr]; simp; omega, by simp only [hdr]; simp, by simp, by first | exact .inl rfl | exact hq | exact .inr rfl, by simp [flatT]⟩ ?_
         | (refine wp_cond_k rfl rfl rfl ?_ ?_ <;> intro _) | (refine wp_cond_i rfl ?_ ?_ <;> intro _))
      all_goals first
      | (exfalso; rename_i h; simp at h; done)
      | (rename_i hxc
         have hxc : (x0 : Int) ≠ c := by simpa using hxc
         have hc2 := cntT_set hob
         have hc3 := cntT_lt hob
         refine back_i [.keep [1, 2, 5, 6] [2, 11, 38], .ren 38 12] (out.set x0 true, r ++ nexts p.ins x0, 1) rfl ?_ ⟨Im.mark hb hI hob hxc, by simp [hc2]; omega, by simp⟩ (by simp [hc2]; omega)
         simp only [hdr]; simp [List.map_set]; done)
      | (have hsk : out[x0]? = some true ∨ (x0 : Int) = c := by first | exact .inl hob | (rename_i hxc; exact .inr (by simpa using hxc))
         refine back_i [.keep [1, 2, 5, 6] [2, 11, 20], .ren 20 12] (out, r, 1) rfl ?_ ⟨hI.skip hsk, by simp only; omega, by simp⟩ (by simp only [List.length_cons]; omega)
         simp only [hdr]; first | done | rfl)
      | trace_state)
end Go.Proofs

set_option linter.unusedVariables false
set_option linter.unusedSimpArgs false
set_option maxHeartbeats 4000000
namespace Go.Proofs
open Go Go.Ev Go.Sort
set_option maxRecDepth 100000
theorem clip_c (a : Option Addr) (n cap : Nat) (h : n ≤ cap) (h2 : a = none → n = 0 ∧ cap = 0) (w : World) : Calls Try.prog 48 #[.slice a n cap] w fun e w' => e = .returned (.slice a n n) ∧ w' = w := by
  go_enter Try.func48, Try.ntmps48
  go_wp2
  go_ret
  exact ⟨rfl, rfl⟩
theorem clip_sound (rows : List (List T)) : Sound Try.prog 48 [.t (.sl true rows)] (.t (.sl true rows)) := by
  refine ⟨⟨Try.f48, Try.func48, rfl, by simp [Try.f48]⟩, ?_⟩
  intro w vs B Fin hB hF hfam
  obtain ⟨v, G, rfl, ho, hG⟩ := fam_one hfam
  cases ho with
  | nil =>
    refine (clip_c none 0 0 (Nat.le_refl _) (fun _ => ⟨rfl, rfl⟩) w).mono ?_
    rintro e w' ⟨rfl, rfl⟩
    exact ⟨_, B, G, rfl, .inl ⟨rfl, .inl (.inl ⟨_, rfl, .nil _⟩)⟩, fun k hk => ⟨(hB k hk).1, fun h => (hB k hk).2 (hG k h), .inl hk⟩, fun k h => ⟨hF k (hG k h), .inl (hG k h)⟩, Keeps.refl _ _⟩
  | sl _ b off cap sz us Fs F cs ty hh hcap hc hl hw hrr hoo hdd hbb hFb hFF htt =>
    refine (clip_c (some ⟨b, off, none⟩) rows.length cap hc (by simp) w).mono ?_
    rintro e w' ⟨rfl, rfl⟩
    have hle : off + rows.length * sz ≤ cs.size := Nat.le_trans (Nat.add_le_add_left (Nat.mul_le_mul_right sz hc) off) hcap
    exact ⟨_, B, G, rfl, .inl ⟨rfl, .inl (.inl ⟨_, rfl, .sl rows b off rows.length sz us Fs G cs ty hh hle (Nat.le_refl _) hl hw hrr hoo hdd hbb hFb hFF (fun h => by simp [h])⟩)⟩, fun k hk => ⟨(hB k hk).1, fun h => (hB k hk).2 (hG k h), .inl hk⟩, fun k h => ⟨hF k (hG k h), .inl (hG k h)⟩, Keeps.refl _ _⟩
/-- what is told from outside, with slices.Clip -/
def XC : Rel3 := fun f args r => XS f args r ∨ ∃ rows : List (List T), f = 48 ∧ args = [.t (.sl true rows)] ∧ r = .t (.sl true rows)
theorem XC_sound (f : FuncId) (args : List AV) (r : AV) (h : XC f args r) : Sound Try.prog f args r := by
  rcases h with h | ⟨rows, rfl, rfl, rfl⟩
  · exact XS_sound f args r h
  · exact clip_sound rows
theorem Clip_t (rows : List (List T)) : Tells Try.prog E0 XC 48 [.t (.sl true rows)] (.t (.sl true rows)) := Tells.of (.inr ⟨rows, rfl, rfl, rfl⟩)
theorem XC_of {f : FuncId} {args : List AV} {r : AV} (h : Tells Try.prog E0 XS f args r) : Tells Try.prog E0 XC f args r := fun R hX hR => h R (fun _ _ _ hx => hX _ _ _ (.inl hx)) hR
end Go.Proofs

set_option linter.unusedVariables false
set_option linter.unusedSimpArgs false
set_option maxHeartbeats 4000000
namespace Go.Proofs
open Go Go.Ev
set_option maxRecDepth 100000
variable {X : Rel3}
theorem reach_ne {l : List Ins} {c : Int} {y : Nat} (h : Reach l c y) : (y : Int) ≠ c := by
  cases h with
  | zero h => exact fun e => h (by omega)
  | step _ _ hc => exact hc
theorem reach_no {l : List Ins} {k y : Nat} (hk : ¬ Reach l (-1) k) (h : Reach l (-1) y) : Reach l (k : Int) y := by
  induction h with
  | zero h =>
    by_cases e : k = 0
    · subst e; exact absurd (.zero (by decide)) hk
    · exact .zero (by omega)
  | step h hy hc ih =>
    rename_i i z
    by_cases e : z = k
    · subst e; exact absurd (.step h hy hc) hk
    · exact .step ih hy (by omega)
noncomputable def metAt (l : List Ins) (c : Int) (i : Nat) : Bool := ((metC l c)[i]?).getD false
theorem metAt_iff {l : List Ins} {c : Int} {i : Nat} (hi : i < l.length) : metAt l c i = true ↔ Reach l c i := by
  unfold metAt
  have e : (metC l c)[i]? = some ((metC l c)[i]'(by rw [metC_len]; exact hi)) := List.getElem?_eq_getElem (by rw [metC_len]; exact hi)
  have h := metC_at (l := l) (c := c) (i := i)
  rw [e] at h ⊢
  simp only [Option.some.injEq, Option.getD_some] at h ⊢
  rw [h]; simp [hi]
theorem met_row {l : List Ins} {c : Int} {i : Nat} (hi : i < l.length) : ((metC l c).map bR)[i]? = some (bR (metAt l c i)) := by
  have e : (metC l c)[i]? = some ((metC l c)[i]'(by rw [metC_len]; exact hi)) := List.getElem?_eq_getElem (by rw [metC_len]; exact hi)
  rw [List.getElem?_map, metAt, e]; rfl
noncomputable def aheadF (l : List Ins) (i : Nat) (k : Nat) : Bool := (k == i) || !metAt l k i
noncomputable def aheadL (f : Nat → Bool) (n : Nat) : List Int := ((List.range n).filter f).map fun k : Nat => (k : Int)
theorem aheadL_step (f : Nat → Bool) (n : Nat) : aheadL f (n + 1) = aheadL f n ++ (if f n then [(n : Int)] else []) := by
  unfold aheadL
  rw [List.range_succ, List.filter_append, List.map_append]
  congr 1
  by_cases h : f n <;> simp [h]
theorem aheadL_len (f : Nat → Bool) (n : Nat) : (aheadL f n).length ≤ n := by
  unfold aheadL
  rw [List.length_map]
  exact Nat.le_trans (List.length_filter_le ..) (by simp)
theorem ahead_eq {l : List Ins} {i k : Nat} (hi : i < l.length) (hk : k < l.length) (hr : metAt l (-1) i = true) : (metAt l (-1) k && !metAt l k i) = aheadF l i k := by
  have hri := (metAt_iff hi).1 hr
  unfold aheadF
  by_cases e : k = i
  · subst e
    have : metAt l (k : Int) k = false := by
      cases h : metAt l (k : Int) k with
      | false => rfl
      | true => exact absurd rfl (reach_ne ((metAt_iff hi).1 h))
    simp [hr, this]
  · have : (k == i) = false := by simpa using e
    rw [this, Bool.false_or]
    cases h : metAt l (-1) k with
    | true => simp
    | false =>
      have hn : ¬ Reach l (-1) k := fun h' => by rw [(metAt_iff hk).2 h'] at h; cases h
      rw [(metAt_iff hi).2 (reach_no hn hri)]; rfl
noncomputable def aheadB (p : Piece) (i : Int) : List Int := if pieceB p && (rng i 0 (p.ins.length - 1) && metAt p.ins (-1) i.toNat) then aheadL (aheadF p.ins i.toNat) p.ins.length else []
def k_AheadS : List (Nat × List Nat) := [(0, [1, 2]), (1, [1, 2, 5]), (2, [1, 2, 5, 27]), (3, [4]), (4, [1, 2, 5, 6]), (5, [1, 2, 5, 6, 33]), (6, [1, 2, 5, 6]), (7, [1, 2, 5, 6, 47]), (8, [1, 2, 5, 6]), (9, [4])]
theorem AheadS_t (p : Piece) (i : Int) (hp : p.ok) : Tells Try.prog E0 X 22 [p.a false, iA i] (.t (.sl true ((aheadB p i).map iR))) := by
  have hpl := hp.1
  have hw : IntKind.i64.wrap (((p.ins.map (Ins.c false)).length : Int) - 1) = (p.ins.length : Int) - 1 := by rw [List.length_map, w64] <;> omega
  by_cases hc : pieceB p = true ∧ rng i 0 (p.ins.length - 1) = true
  · obtain ⟨hb, hr⟩ := hc
    obtain ⟨i0, rfl⟩ : ∃ i0 : Nat, i = (i0 : Int) := ⟨i.toNat, by have := rng_iff.1 hr; omega⟩
    have hi : i0 < p.ins.length := by have := rng_iff.1 hr; omega
    have hz := met_row (c := -1) hi
    refine Tells.by Try.func22 (by simp [Try.f22]) (Body.i rfl rfl rfl (fun _ => rfl) fun f => ?_)
    repeat' (first
       | refine wp_seq_i ?_ | refine wp_region_t k_AheadS rfl ?_ | refine Run.done rfl ?_ | refine then_n ?_ | refine then_r ?_ | refine then_e ?_ | refine Run.go1 rfl ?_ | refine wp_skip_i ?_ | refine wp_ret_i ?_
       | refine wp_exit_i ?_ | refine wp_block_i ?_ | refine block_n ?_ | refine block_r ?_ | refine block_e ?_ | refine block_o rfl ?_ | refine wp_cond_t rfl ?_ | refine wp_cond_f rfl ?_ | refine Run.gT rfl rfl rfl rfl ?_
       | refine Run.pT rfl rfl ?_ | (refine Run.splitG rfl rfl rfl rfl rfl rfl ?_ ?_ <;> intro _) | (refine Run.splitP rfl rfl rfl rfl ?_ ?_ <;> intro _) | refine Run.call rfl rfl rfl (l9Piece_t p hp) rfl rfl ?_
       | refine Run.call rfl rfl rfl (l1In_t _ _ _) rfl rfl ?_ | refine Run.call rfl rfl rfl (l15Met_t p hb hpl) rfl rfl ?_ | refine Run.ix rfl rfl rfl rfl rfl rfl rfl hz rfl rfl rfl ?_ | refine Run.ldr rfl rfl rfl hz rfl rfl ?_
       | (refine wp_cond_k rfl rfl rfl ?_ ?_ <;> intro _) | (refine wp_cond_i rfl ?_ ?_ <;> intro _))
    all_goals first
    | (exfalso; rename_i h; simp only [hw, hr, hb] at *; simp at *; done)
    | (exfalso; simp_all; done)
    | (refine ret_m [] rfl rfl ?_; simp_all [aheadB]; done)
    | skip
    all_goals (
      have hm : metAt p.ins (-1) i0 = true := by simp_all
      have hfin : aheadB p i0 = aheadL (aheadF p.ins i0) p.ins.length := by simp [aheadB, hb, hr, hm]
      refine wp_loop_k (α := Nat × List Int) [.keep [1, 2, 5, 6] [2, 7]] (fun z => [(6, iA z.1)]) (fun _ => []) (fun z => [(7, 0, z.2.map iR)]) (fun z => z.1 ≤ p.ins.length ∧ z.2 = aheadL (aheadF p.ins i0) z.1) (fun z => p.ins.length - z.1) (0, []) rfl (fun _ => rfl) rfl ⟨by simp, by simp [aheadL]⟩ ?_
      rintro ⟨k, c⟩ ⟨hk, hc0⟩
      simp only at hk hc0
      subst hc0
      have hcl := aheadL_len (aheadF p.ins i0) k
      by_cases hlt : k < p.ins.length
      · have hz2 := met_row (c := (k : Int)) hi
        have hst := aheadL_step (aheadF p.ins i0) k
        have hw2 := w_succ hlt (by omega)
        repeat' (first
           | refine wp_seq_i ?_ | refine wp_region_t k_AheadS rfl ?_ | refine Run.done rfl ?_ | refine then_n ?_ | refine then_r ?_ | refine then_e ?_ | refine Run.go1 rfl ?_ | refine wp_skip_i ?_ | refine wp_ret_i ?_
           | refine wp_exit_i ?_ | refine wp_block_i ?_ | refine block_n ?_ | refine block_r ?_ | refine block_e ?_ | refine block_o rfl ?_ | refine wp_cond_t rfl ?_ | refine wp_cond_f rfl ?_ | refine Run.gT rfl rfl rfl rfl ?_
           | refine Run.pT rfl rfl ?_ | (refine Run.splitG rfl rfl rfl rfl rfl rfl ?_ ?_ <;> intro _) | (refine Run.splitP rfl rfl rfl rfl ?_ ?_ <;> intro _) | refine Run.call rfl rfl rfl (l20Cut_t p k hb hpl) rfl rfl ?_
           | refine Run.ix rfl rfl rfl rfl rfl rfl rfl hz2 rfl rfl rfl ?_ | refine Run.ldr rfl rfl rfl hz2 rfl rfl ?_
           | refine Run.cnd rfl rfl rfl ⟨by first | (simp; done) | (simp; omega), (by intro r hr; first | (simp at hr; done) | skip; simp at hr; first | (rcases hr with ⟨a, _, rfl⟩ | rfl <;> rfl) | (obtain ⟨a, _, rfl⟩ := hr; rfl) | (subst hr; rfl)), by simp, .inl rfl, by simp [flatT]⟩ ?_
           | (refine wp_cond_k rfl rfl rfl ?_ ?_ <;> intro _) | (refine wp_cond_i rfl ?_ ?_ <;> intro _))
        all_goals first
        | (exfalso; rename_i h; simp [hlt] at h; done)
        | (rename_i h
           have hF : aheadF p.ins i0 k = true := by
             unfold aheadF
             first
             | (rw [h]; simp; done)
             | (have e : (k : Int) = i0 := by simpa using h
                have e2 : k = i0 := by omega
                simp [e2]; done)
           rw [hF, if_pos rfl] at hst
           refine back_i [.keep [1, 2, 5, 6] [2, 51], .ren 51 7] (k + 1, aheadL (aheadF p.ins i0) (k + 1)) rfl ?_ ⟨by simp; omega, rfl⟩ (by simp; omega)
           simp only [hst, hw2, List.map_append, List.map_cons, List.map_nil]; try rfl; done)
        | (rename_i h1 h2
           have hF : aheadF p.ins i0 k = false := by
             have e : ¬ (k : Int) = i0 := by simpa using h1
             unfold aheadF
             rw [h2]
             simp; omega
           rw [hF] at hst
           simp only [Bool.false_eq_true, if_false, List.append_nil] at hst
           refine back_i [.keep [1, 2, 5, 6] [2, 7]] (k + 1, aheadL (aheadF p.ins i0) (k + 1)) rfl ?_ ⟨by simp; omega, rfl⟩ (by simp; omega)
           simp only [hst, hw2]; done)
        | trace_state
      · have hkn : k = p.ins.length := by omega
        subst hkn
        repeat' (first
           | refine wp_seq_i ?_ | refine wp_region_t k_AheadS rfl ?_ | refine Run.done rfl ?_ | refine then_n ?_ | refine then_r ?_ | refine then_e ?_ | refine Run.go1 rfl ?_ | refine wp_skip_i ?_ | refine wp_ret_i ?_
           | refine wp_exit_i ?_ | refine wp_block_i ?_ | refine block_n ?_ | refine block_r ?_ | refine block_e ?_ | refine block_o rfl ?_ | refine wp_cond_t rfl ?_ | refine wp_cond_f rfl ?_
           | (refine wp_cond_k rfl rfl rfl ?_ ?_ <;> intro _) | (refine wp_cond_i rfl ?_ ?_ <;> intro _))
        all_goals first
        | (exfalso; simp at *; done)
        | (refine ret_m [] rfl rfl ?_; rw [hfin]; done)
        | trace_state)
  · have hn : aheadB p i = [] := by unfold aheadB; rw [if_neg (by simp; intro h1 h2; exact absurd ⟨h1, h2⟩ hc)]
    refine Tells.by Try.func22 (by simp [Try.f22]) (Body.i rfl rfl rfl (fun _ => rfl) fun f => ?_)
    repeat' (first
       | refine wp_seq_i ?_ | refine wp_region_t k_AheadS rfl ?_ | refine Run.done rfl ?_ | refine then_n ?_ | refine then_r ?_ | refine then_e ?_ | refine Run.go1 rfl ?_ | refine wp_skip_i ?_ | refine wp_ret_i ?_
       | refine wp_exit_i ?_ | refine wp_block_i ?_ | refine block_n ?_ | refine block_r ?_ | refine block_e ?_ | refine block_o rfl ?_ | refine wp_cond_t rfl ?_ | refine wp_cond_f rfl ?_ | refine Run.gT rfl rfl rfl rfl ?_
       | refine Run.pT rfl rfl ?_ | (refine Run.splitG rfl rfl rfl rfl rfl rfl ?_ ?_ <;> intro _) | (refine Run.splitP rfl rfl rfl rfl ?_ ?_ <;> intro _) | refine Run.call rfl rfl rfl (l9Piece_t p hp) rfl rfl ?_
       | refine Run.call rfl rfl rfl (l1In_t _ _ _) rfl rfl ?_ | (refine wp_cond_k rfl rfl rfl ?_ ?_ <;> intro _) | (refine wp_cond_i rfl ?_ ?_ <;> intro _))
    all_goals first
    | (refine ret_m [] rfl rfl ?_; rw [hn]; rfl)
    | (exfalso; simp only [hw] at *; simp_all; done)
    | trace_state
end Go.Proofs

set_option linter.unusedVariables false
set_option linter.unusedSimpArgs false
set_option maxHeartbeats 4000000
namespace Go.Proofs
open Go Go.Ev
set_option maxRecDepth 100000
variable {X : Rel3}
/-- how many of the first are so -/
def kept (f : Nat → Bool) : Nat → Nat
  | 0 => 0
  | k + 1 => kept f k + (if f k then 1 else 0)
theorem kept_le (f : Nat → Bool) : ∀ k, kept f k ≤ k
  | 0 => Nat.le_refl _
  | k + 1 => by have := kept_le f k; rw [kept]; split <;> omega
def keptL (f : Nat → Bool) (n : Nat) : List Int := (List.range n).map fun k => ((kept f k : Nat) : Int)
theorem keptL_step (f : Nat → Bool) (n : Nat) : keptL f (n + 1) = keptL f n ++ [((kept f n : Nat) : Int)] := by simp [keptL, List.range_succ]
theorem keptL_row (f : Nat → Bool) {n k : Nat} (h : k < n) : ((keptL f n).map iR)[k]? = some (iR ((kept f k : Nat) : Int)) := by
  simp [keptL, h]
def fixI (f : Nat → Bool) (x : Ins) : Ins := if uT x.op then { x with to_ := ((kept f x.to_.toNat : Nat) : Int) } else x
def selI (f : Nat → Bool) (l : List Ins) : Nat → List Ins
  | 0 => []
  | k + 1 => selI f l k ++ (if f k then (match l[k]? with
    | some x => [x]
    | none => []) else [])
theorem selI_len (f : Nat → Bool) (l : List Ins) : ∀ k, k ≤ l.length → (selI f l k).length = kept f k
  | 0, _ => rfl
  | k + 1, h => by
    have := selI_len f l k (by omega)
    rw [selI, kept, List.length_append, this, List.getElem?_eq_getElem (show k < l.length by omega)]
    split <;> rfl
theorem selI_step (f : Nat → Bool) (l : List Ins) {k : Nat} {x : Ins} (h : l[k]? = some x) : selI f l (k + 1) = selI f l k ++ (if f k then [x] else []) := by rw [selI, h]
noncomputable def keepF (l : List Ins) (i : Nat) : Bool := match l[i]? with
  | some x => keepB l (metC l (-1)) i x
  | none => false
noncomputable def trimP (p : Piece) : Piece := { p with ins := (selI (keepF p.ins) p.ins p.ins.length).map (fixI (keepF p.ins)) }
noncomputable def trimB (p : Piece) : Piece := if pieceB p then trimP p else p
def k_l15Trim : List (Nat × List Nat) := [(0, [1, 2]), (1, [1, 2, 3]), (2, [1, 2, 3, 4]), (3, [1, 2, 3, 4, 5]), (4, [1, 2, 3, 4, 5, 6]), (5, [1, 2, 3, 4, 5, 6, 17]), (6, [1, 2, 3, 4, 5, 6]), (7, [1, 2, 3, 4, 5, 6]), (8, [1, 2, 3, 4, 5, 6, 27]), (9, [1, 2, 3, 4, 5, 6]), (10, [1, 2, 3, 4, 7]), (11, [1, 2, 3, 4, 7]), (12, [1, 2, 3, 4, 7, 8]), (13, [1, 2, 3, 4, 7, 8, 38]), (14, [1, 2, 3, 4, 7, 8]), (15, [1, 2, 3, 4, 7, 8, 45]), (16, [1, 2, 3, 4, 7, 8, 9]), (17, [1, 2, 3, 4, 7, 8, 9]), (18, [1, 2, 3, 4, 7, 8, 9, 59]), (19, [1, 2, 3, 4, 7, 8, 9]), (20, [1, 2, 3, 4, 7, 8]), (21, [2])]
theorem l15Trim_t (p : Piece) (hb : pieceB p = true) (hp : p.ok) : Tells Try.prog E0 X 50 [p.a false] ((trimP p).a true) := by
  have hpl := hp.1
  have met : ∀ i (hi : i < p.ins.length), (metC p.ins (-1))[i]? = some (metAt p.ins (-1) i) := fun i hi => by
    have e : (metC p.ins (-1))[i]? = some ((metC p.ins (-1))[i]'(by rw [metC_len]; exact hi)) := List.getElem?_eq_getElem (by rw [metC_len]; exact hi)
    rw [metAt, e]; rfl
  have hkp : ∀ i (hi : i < p.ins.length), Tells Try.prog E0 X 76 [p.a false, .t (.sl false (shrR ((metC p.ins (-1)).map bR))), iA i] (bA (keepF p.ins i)) := fun i hi => by
    have := stays_t (X := X) p (metC p.ins (-1)) i p.ins[i] _ hpl (List.getElem?_eq_getElem hi) (met i hi)
    unfold keepF
    rw [List.getElem?_eq_getElem hi]
    exact this
  refine Tells.by Try.func50 (by simp [Try.f50]) (Body.i rfl rfl rfl (fun _ => rfl) fun f => ?_)
  repeat' (first
     | refine wp_seq_i ?_ | refine wp_region_t k_l15Trim rfl ?_ | refine Run.done rfl ?_ | refine then_n ?_ | refine then_r ?_ | refine then_e ?_ | refine Run.go1 rfl ?_ | refine wp_skip_i ?_ | refine wp_ret_i ?_
     | refine wp_exit_i ?_ | refine wp_block_i ?_ | refine block_n ?_ | refine block_r ?_ | refine block_e ?_ | refine block_o rfl ?_ | refine wp_cond_t rfl ?_ | refine wp_cond_f rfl ?_
     | refine Run.call rfl rfl rfl (l15Met_t p hb hpl) rfl rfl ?_ | (refine wp_cond_k rfl rfl rfl ?_ ?_ <;> intro _) | (refine wp_cond_i rfl ?_ ?_ <;> intro _))
  refine wp_loop_k (α := Nat) [.keep [1, 2, 3, 4, 5, 6] [1, 2, 11, 12]] (fun z => [(5, iA (kept (keepF p.ins) z : Nat)), (6, iA z)]) (fun _ => []) (fun z => [(12, 0, (keptL (keepF p.ins) z).map iR)]) (fun z => z ≤ p.ins.length) (fun z => p.ins.length - z) 0 rfl (fun _ => rfl) rfl (by simp) ?_
  rintro k hk
  have hkl := kept_le (keepF p.ins) k
  by_cases hlt : k < p.ins.length
  · have hx : (p.ins.map (Ins.c false))[k]? = some (Ins.c false p.ins[k]) := map_at hlt
    have hst := keptL_step (keepF p.ins) k
    have hks : kept (keepF p.ins) (k + 1) = kept (keepF p.ins) k + (if keepF p.ins k then 1 else 0) := rfl
    have hll : (keptL (keepF p.ins) k).length = k := by simp [keptL]
    have hwk : IntKind.i64.wrap (((kept (keepF p.ins) k : Nat) : Int) + 1) = ((kept (keepF p.ins) k + 1 : Nat) : Int) := by rw [w64] <;> omega
    repeat' (first
       | refine wp_seq_i ?_ | refine wp_region_t k_l15Trim rfl ?_ | refine Run.done rfl ?_ | refine then_n ?_ | refine then_r ?_ | refine then_e ?_ | refine Run.go1 rfl ?_ | refine wp_skip_i ?_ | refine wp_ret_i ?_
       | refine wp_exit_i ?_ | refine wp_block_i ?_ | refine block_n ?_ | refine block_r ?_ | refine block_e ?_ | refine block_o rfl ?_ | refine wp_cond_t rfl ?_ | refine wp_cond_f rfl ?_
       | refine Run.cnd rfl rfl rfl ⟨by simp; omega, (by intro r hr; first | (simp at hr; done) | skip; simp at hr; first | (rcases hr with ⟨a, _, rfl⟩ | rfl <;> rfl) | (obtain ⟨a, _, rfl⟩ := hr; rfl) | (subst hr; rfl)), by simp, .inl rfl, by first | (simp [flatT]; done) | trivial⟩ ?_
       | refine Run.callB rfl rfl rfl (hkp k hlt) (by simp [AV.own, T.own]) rfl ?_ | (refine wp_cond_k rfl rfl rfl ?_ ?_ <;> intro _) | (refine wp_cond_i rfl ?_ ?_ <;> intro _))
    all_goals first
    | (exfalso; rename_i h; simp [hlt] at h; done)
    | (rename_i h
       rw [h] at hks
       refine back_i [.keep [1, 2, 3, 4, 5, 6] [1, 2, 11, 23], .ren 23 12] (k + 1) rfl ?_ (by omega) (by omega)
       simp only [w_succ hlt (by omega), hks, hst, hwk, if_true, List.map_append, List.map_cons, List.map_nil]; try rfl; done)
    | (rename_i h
       rw [h] at hks
       refine back_i [.keep [1, 2, 3, 4, 5, 6] [1, 2, 11, 23], .ren 23 12] (k + 1) rfl ?_ (by omega) (by omega)
       simp only [w_succ hlt (by omega), hks, hst, Bool.false_eq_true, if_false, Nat.add_zero, List.map_append, List.map_cons, List.map_nil]; try rfl; done)
    | trace_state
  · have hkn : k = p.ins.length := by omega
    subst hkn
    repeat' (first
       | refine wp_seq_i ?_ | refine wp_region_t k_l15Trim rfl ?_ | refine Run.done rfl ?_ | refine then_n ?_ | refine then_r ?_ | refine then_e ?_ | refine Run.go1 rfl ?_ | refine wp_skip_i ?_ | refine wp_ret_i ?_
       | refine wp_exit_i ?_ | refine wp_block_i ?_ | refine block_n ?_ | refine block_r ?_ | refine block_e ?_ | refine block_o rfl ?_ | refine wp_cond_t rfl ?_ | refine wp_cond_f rfl ?_
       | refine Run.call rfl rfl rfl (copyPiece_t p hp) rfl rfl ?_ | (refine wp_cond_k rfl rfl rfl ?_ ?_ <;> intro _) | (refine wp_cond_i rfl ?_ ?_ <;> intro _))
    any_goals (exfalso; rename_i h; simp at h; done)
    refine wp_loop_k (α := Nat) [.keep [1, 2, 3, 4, 7, 8] [1, 2, 7, 11, 12, 32]] (fun z => [(8, iA z)]) (fun _ => []) (fun z => [(32, 0, ((selI (keepF p.ins) p.ins z).map (fixI (keepF p.ins))).map (Ins.c true))]) (fun z => z ≤ p.ins.length) (fun z => p.ins.length - z) 0 rfl (fun _ => rfl) rfl (by simp) ?_
    rintro k hk
    by_cases hlt : k < p.ins.length
    · have hx : (p.ins.map (Ins.c false))[k]? = some (Ins.c false p.ins[k]) := map_at hlt
      have hil := hp.2 _ (List.getElem_mem hlt)
      have hsl := selI_len (keepF p.ins) p.ins k hk
      have hkl := kept_le (keepF p.ins) k
      have hst := selI_step (keepF p.ins) p.ins (List.getElem?_eq_getElem hlt)
      have hK := hkp k hlt
      have hto : uT p.ins[k].op = true → p.ins[k].to_ = ((p.ins[k].to_.toNat : Nat) : Int) ∧ p.ins[k].to_.toNat < p.ins.length := fun h => by have := to_at hb (List.getElem?_eq_getElem hlt) h; omega
      have hnow : uT p.ins[k].op = true → ((keptL (keepF p.ins) p.ins.length).map iR)[p.ins[k].to_.toNat]? = some (iR ((kept (keepF p.ins) p.ins[k].to_.toNat : Nat) : Int)) := fun h => keptL_row _ (hto h).2
      generalize p.ins[k] = x at *
      by_cases hu : uT x.op = true
      · have hn := hnow hu
        have ht := (hto hu).1
        repeat' (first
           | refine wp_seq_i ?_ | refine wp_region_t k_l15Trim rfl ?_ | refine Run.done rfl ?_ | refine then_n ?_ | refine then_r ?_ | refine then_e ?_ | refine Run.go1 rfl ?_ | refine wp_skip_i ?_ | refine wp_ret_i ?_
           | refine wp_exit_i ?_ | refine wp_block_i ?_ | refine block_n ?_ | refine block_r ?_ | refine block_e ?_ | refine block_o rfl ?_ | refine wp_cond_t rfl ?_ | refine wp_cond_f rfl ?_
           | refine Run.ix rfl rfl rfl rfl rfl rfl rfl hx rfl rfl rfl ?_ | refine Run.callB rfl rfl rfl (hK) (by simp [AV.own, T.own]) rfl ?_ | refine Run.call rfl rfl rfl (l9Uses_t _) rfl rfl ?_
           | refine Run.ix rfl rfl rfl rfl rfl rfl ht hn rfl rfl rfl ?_ | refine Run.ldr rfl rfl rfl hn rfl rfl ?_
           | refine Run.cnd rfl rfl rfl ⟨by simp; omega, (by intro r hr; first | (simp at hr; done) | skip; simp at hr; first | (rcases hr with ⟨a, _, rfl⟩ | rfl <;> rfl) | (obtain ⟨a, _, rfl⟩ := hr; rfl) | (subst hr; rfl)), by simp, .inl rfl, by first | (simp [flatT]; done) | trivial⟩ ?_
           | (refine wp_cond_k rfl rfl rfl ?_ ?_ <;> intro _) | (refine wp_cond_i rfl ?_ ?_ <;> intro _))
        all_goals first
        | (exfalso; rename_i h; simp [hlt] at h; done)
        | (exfalso; rename_i h2; rw [hu] at h2; cases h2; done)
        | (rename_i h1 h2
           have hkf : keepF p.ins k = true := by simpa using h1
           rw [hkf, if_pos rfl] at hst
           refine back_i [.keep [1, 2, 3, 4, 7, 8] [1, 2, 7, 11, 12, 70], .ren 70 32] (k + 1) rfl ?_ (by omega) (by omega)
           simp only [w_succ hlt (by omega), hst, fixI, hu, if_true, Bool.false_eq_true, if_false, List.map_append, List.map_cons, List.map_nil, List.nil_append]; try rfl; done)
        | (rename_i h1
           have hkf : keepF p.ins k = false := by simpa using h1
           rw [hkf] at hst
           simp only [Bool.false_eq_true, if_false, List.append_nil] at hst
           refine back_i [.keep [1, 2, 3, 4, 7, 8] [1, 2, 7, 11, 12, 32]] (k + 1) rfl ?_ (by omega) (by omega)
           simp only [w_succ hlt (by omega), hst]; try rfl; done)
        | trace_state
      · have hu : uT x.op = false := by simpa using hu
        repeat' (first
           | refine wp_seq_i ?_ | refine wp_region_t k_l15Trim rfl ?_ | refine Run.done rfl ?_ | refine then_n ?_ | refine then_r ?_ | refine then_e ?_ | refine Run.go1 rfl ?_ | refine wp_skip_i ?_ | refine wp_ret_i ?_
           | refine wp_exit_i ?_ | refine wp_block_i ?_ | refine block_n ?_ | refine block_r ?_ | refine block_e ?_ | refine block_o rfl ?_ | refine wp_cond_t rfl ?_ | refine wp_cond_f rfl ?_
           | refine Run.ix rfl rfl rfl rfl rfl rfl rfl hx rfl rfl rfl ?_ | refine Run.callB rfl rfl rfl (hK) (by simp [AV.own, T.own]) rfl ?_ | refine Run.call rfl rfl rfl (l9Uses_t _) rfl rfl ?_
           | refine Run.cnd rfl rfl rfl ⟨by simp; omega, (by intro r hr; first | (simp at hr; done) | skip; simp at hr; first | (rcases hr with ⟨a, _, rfl⟩ | rfl <;> rfl) | (obtain ⟨a, _, rfl⟩ := hr; rfl) | (subst hr; rfl)), by simp, .inl rfl, by first | (simp [flatT]; done) | trivial⟩ ?_
           | (refine wp_cond_k rfl rfl rfl ?_ ?_ <;> intro _) | (refine wp_cond_i rfl ?_ ?_ <;> intro _))
        all_goals first
        | (exfalso; rename_i h; simp [hlt] at h; done)
        | (exfalso; rename_i h2; rw [hu] at h2; cases h2; done)
        | (rename_i h1 h2
           have hkf : keepF p.ins k = true := by simpa using h1
           rw [hkf, if_pos rfl] at hst
           refine back_i [.keep [1, 2, 3, 4, 7, 8] [1, 2, 7, 11, 12, 70], .ren 70 32] (k + 1) rfl ?_ (by omega) (by omega)
           simp only [w_succ hlt (by omega), hst, fixI, hu, if_true, Bool.false_eq_true, if_false, List.map_append, List.map_cons, List.map_nil, List.nil_append]; try rfl; done)
        | (rename_i h1
           have hkf : keepF p.ins k = false := by simpa using h1
           rw [hkf] at hst
           simp only [Bool.false_eq_true, if_false, List.append_nil] at hst
           refine back_i [.keep [1, 2, 3, 4, 7, 8] [1, 2, 7, 11, 12, 32]] (k + 1) rfl ?_ (by omega) (by omega)
           simp only [w_succ hlt (by omega), hst]; try rfl; done)
        | trace_state
    · have hkn : k = p.ins.length := by omega
      subst hkn
      repeat' (first
         | refine wp_seq_i ?_ | refine wp_region_t k_l15Trim rfl ?_ | refine Run.done rfl ?_ | refine then_n ?_ | refine then_r ?_ | refine then_e ?_ | refine Run.go1 rfl ?_ | refine wp_skip_i ?_ | refine wp_ret_i ?_
         | refine wp_exit_i ?_ | refine wp_block_i ?_ | refine block_n ?_ | refine block_r ?_ | refine block_e ?_ | refine block_o rfl ?_ | refine wp_cond_t rfl ?_ | refine wp_cond_f rfl ?_
         | (refine wp_cond_k rfl rfl rfl ?_ ?_ <;> intro _) | (refine wp_cond_i rfl ?_ ?_ <;> intro _))
      all_goals first
      | (exfalso; rename_i h; simp at h; done)
      | (refine ret_m [] rfl rfl rfl; done)
      | trace_state
def k_TrimS : List (Nat × List Nat) := [(0, [1, 2]), (1, [1, 2, 5]), (2, [2]), (3, [2])]
theorem TrimS_t (p : Piece) (hp : p.ok) : Tells Try.prog E0 X 24 [p.a false] ((trimB p).a true) := by
  by_cases hb : pieceB p = true
  · refine Tells.by Try.func24 (by simp [Try.f24]) (Body.i rfl rfl rfl (fun _ => rfl) fun f => ?_)
    repeat' (first
       | refine wp_seq_i ?_ | refine wp_region_t k_TrimS rfl ?_ | refine Run.done rfl ?_ | refine then_n ?_ | refine then_r ?_ | refine then_e ?_ | refine Run.go1 rfl ?_ | refine wp_skip_i ?_ | refine wp_ret_i ?_
       | refine wp_exit_i ?_ | refine wp_block_i ?_ | refine block_n ?_ | refine block_r ?_ | refine block_e ?_ | refine block_o rfl ?_ | refine wp_cond_t rfl ?_ | refine wp_cond_f rfl ?_
       | refine Run.call rfl rfl rfl (l9Piece_t p hp) rfl rfl ?_ | refine Run.call rfl rfl rfl (l15Trim_t p hb hp) rfl rfl ?_ | (refine wp_cond_k rfl rfl rfl ?_ ?_ <;> intro _) | (refine wp_cond_i rfl ?_ ?_ <;> intro _))
    all_goals first
    | (exfalso; rename_i h; simp [hb] at h; done)
    | (refine ret_m [] rfl rfl ?_; simp only [trimB, if_pos hb]; done)
    | trace_state
  · refine Tells.by Try.func24 (by simp [Try.f24]) (Body.i rfl rfl rfl (fun _ => rfl) fun f => ?_)
    repeat' (first
       | refine wp_seq_i ?_ | refine wp_region_t k_TrimS rfl ?_ | refine Run.done rfl ?_ | refine then_n ?_ | refine then_r ?_ | refine then_e ?_ | refine Run.go1 rfl ?_ | refine wp_skip_i ?_ | refine wp_ret_i ?_
       | refine wp_exit_i ?_ | refine wp_block_i ?_ | refine block_n ?_ | refine block_r ?_ | refine block_e ?_ | refine block_o rfl ?_ | refine wp_cond_t rfl ?_ | refine wp_cond_f rfl ?_
       | refine Run.call rfl rfl rfl (l9Piece_t p hp) rfl rfl ?_ | refine Run.call rfl rfl rfl (copyPiece_t p hp) rfl rfl ?_ | (refine wp_cond_k rfl rfl rfl ?_ ?_ <;> intro _) | (refine wp_cond_i rfl ?_ ?_ <;> intro _))
    all_goals first
    | (exfalso; rename_i h; simp [hb] at h; done)
    | (refine ret_m [] rfl rfl ?_; simp only [trimB, if_neg hb]; done)
    | trace_state
end Go.Proofs

set_option linter.unusedVariables false
set_option linter.unusedSimpArgs false
set_option maxHeartbeats 4000000
namespace Go.Proofs
open Go Go.Ev
set_option maxRecDepth 100000
variable {X : Rel3}
theorem keepF_at {l : List Ins} {k : Nat} {x : Ins} (h : l[k]? = some x) : keepF l k = ((k : Int) == (l.length : Int) - 1 || !idleB (metC l (-1)) k x) := by
  have hk : k < l.length := (List.getElem?_eq_some_iff.1 h).1
  unfold keepF
  rw [h]
  simp only
  by_cases e : k + 1 = l.length
  · have e2 : ((k : Int) == (l.length : Int) - 1) = true := by simp; omega
    rw [e2, Bool.true_or]; unfold keepB; rw [if_pos e]
  · have e2 : ((k : Int) == (l.length : Int) - 1) = false := by simp; omega
    rw [e2, Bool.false_or, keep_idle e]
theorem selI_mem (f : Nat → Bool) (l : List Ins) : ∀ k, ∀ x ∈ selI f l k, x ∈ l
  | 0, x, h => by cases h
  | k + 1, x, h => by
    rw [selI] at h
    rcases List.mem_append.1 h with h | h
    · exact selI_mem f l k x h
    · split at h
      · split at h
        · rename_i y hy
          obtain rfl : x = y := by simpa using h
          exact List.mem_of_getElem? hy
        · cases h
      · cases h
def k_TrimI : List (Nat × List Nat) := [(0, [1, 2]), (1, [1, 2, 3]), (2, [1, 2, 3, 15]), (3, [2]), (4, [1, 2, 3, 4]), (5, [1, 2, 3, 4]), (6, [1, 2, 3, 4, 5]), (7, [1, 2, 3, 4, 5, 6]), (8, [1, 2, 3, 4, 5, 6, 27, 28, 29]), (9, [1, 2, 3, 4, 5, 6, 27, 28, 29, 30]), (10, [1, 2, 3, 4, 5, 6, 7, 8, 27, 28, 29]), (11, [1, 2, 3, 4, 5, 6, 7, 8, 27, 28, 29]), (12, [1, 2, 3, 4, 5, 6, 8, 27, 28, 29, 49]), (13, [1, 2, 3, 4, 5, 6, 27, 28, 29]), (14, [1, 2, 3, 4, 5, 6, 27, 28, 29]), (15, [2, 3, 5, 58, 59, 60]), (16, [2, 3, 5, 58, 59, 60, 61]), (17, [2, 3, 5, 9, 10, 58, 59, 60]), (18, [2, 3, 5, 9, 10, 58, 59, 60, 67]), (19, [2, 3, 5, 58, 59, 60]), (20, [2, 3, 5, 58, 59, 60]), (21, [2])]
theorem TrimI_t (p : Piece) (hp : p.ok) : Tells Try.prog E0 XS 25 [p.a false] ((trimB p).a true) := by
  have hpl := hp.1
  by_cases hb : pieceB p = true
  rotate_left 1
  · refine Tells.by Try.func25 (by simp [Try.f25]) (Body.i rfl rfl rfl (fun _ => rfl) fun f => ?_)
    repeat' (first
       | refine wp_seq_i ?_ | refine wp_region_t k_TrimI rfl ?_ | refine Run.done rfl ?_ | refine then_n ?_ | refine then_r ?_ | refine then_e ?_ | refine Run.go1 rfl ?_ | refine wp_skip_i ?_ | refine wp_ret_i ?_
       | refine wp_exit_i ?_ | refine wp_block_i ?_ | refine block_n ?_ | refine block_r ?_ | refine block_e ?_ | refine block_o rfl ?_ | refine wp_cond_t rfl ?_ | refine wp_cond_f rfl ?_
       | refine Run.call rfl rfl rfl (clonePiece_t p hp) rfl rfl ?_ | refine Run.call rfl rfl rfl (pieceOk_t p hp) rfl rfl ?_ | (refine wp_cond_k rfl rfl rfl ?_ ?_ <;> intro _) | (refine wp_cond_i rfl ?_ ?_ <;> intro _))
    all_goals first
    | (exfalso; rename_i h; simp [hb] at h; done)
    | (refine ret_m [] rfl rfl ?_; simp only [trimB, if_neg hb]; done)
    | trace_state
  have hlp := len_pos hb
  have hmb : metB p = metC p.ins (-1) := by simp [metB, hb]
  have hM : Tells Try.prog E0 XS 11 [p.a false] (.t (.sl true ((metC p.ins (-1)).map bR))) := by have := MetI_t p hp; rw [hmb] at this; exact this
  have hwl : IntKind.i64.wrap (((p.ins.map (Ins.c false)).length : Int) - 1) = (p.ins.length : Int) - 1 := by rw [List.length_map, w64] <;> omega
  refine Tells.by Try.func25 (by simp [Try.f25]) (Body.i rfl rfl rfl (fun _ => rfl) fun f => ?_)
  repeat' (first
     | refine wp_seq_i ?_ | refine wp_region_t k_TrimI rfl ?_ | refine Run.done rfl ?_ | refine then_n ?_ | refine then_r ?_ | refine then_e ?_ | refine Run.go1 rfl ?_ | refine wp_skip_i ?_ | refine wp_ret_i ?_
     | refine wp_exit_i ?_ | refine wp_block_i ?_ | refine block_n ?_ | refine block_r ?_ | refine block_e ?_ | refine block_o rfl ?_ | refine wp_cond_t rfl ?_ | refine wp_cond_f rfl ?_
     | refine Run.call rfl rfl rfl (clonePiece_t p hp) rfl rfl ?_ | refine Run.call rfl rfl rfl (pieceOk_t p hp) rfl rfl ?_ | refine Run.call rfl rfl rfl (hM) rfl rfl ?_ | (refine wp_cond_k rfl rfl rfl ?_ ?_ <;> intro _)
     | (refine wp_cond_i rfl ?_ ?_ <;> intro _))
  any_goals (exfalso; rename_i h; simp [hb] at h; done)
  refine wp_loop_k (α := Nat × List (List T)) [.nilH 3 3 77, .keep [1, 2, 3, 4, 5, 6, 27, 28, 29] [1, 2, 3, 18, 20, 3026, 77]] (fun z => [(29, iA z.1)]) (fun _ => []) (fun z => [(20, 0, (keptL (keepF p.ins) z.1).map iR), (3026, 0, z.2), (77, 0, (selI (keepF p.ins) p.ins z.1).map (Ins.c true))]) (fun z => z.1 ≤ p.ins.length ∧ z.2.length = p.ins.length ∧ ∀ (j : Nat) (x : Ins), z.1 ≤ j → p.ins[j]? = some x → z.2[j]? = some (Ins.c true x)) (fun z => p.ins.length - z.1) (0, p.ins.map (Ins.c true)) rfl (fun _ => rfl) rfl ⟨by simp, by simp, fun j x _ h => by rw [List.getElem?_map, h]; rfl⟩ ?_
  rintro ⟨k, rows⟩ ⟨hk, hrl, hrow⟩
  simp only at hk hrl hrow
  have hkl := kept_le (keepF p.ins) k
  have hll : (keptL (keepF p.ins) k).length = k := by simp [keptL]
  have hsl := selI_len (keepF p.ins) p.ins k hk
  by_cases hlt : k < p.ins.length
  · obtain ⟨x, hxx⟩ : ∃ x, p.ins[k]? = some x := ⟨_, List.getElem?_eq_getElem hlt⟩
    have hx := hrow k x (Nat.le_refl _) hxx
    have hlr : k < rows.length := by omega
    have hst := keptL_step (keepF p.ins) k
    have hss := selI_step (keepF p.ins) p.ins hxx
    have hkf := keepF_at hxx
    have hil : x.l.length ≤ 1048576 := hp.2 _ (List.mem_of_getElem? hxx)
    have hmt : (metC p.ins (-1))[k]? = some (metAt p.ins (-1) k) := by
      have e : (metC p.ins (-1))[k]? = some ((metC p.ins (-1))[k]'(by rw [metC_len]; exact hlt)) := List.getElem?_eq_getElem (by rw [metC_len]; exact hlt)
      rw [metAt, e]; rfl
    have hrest : ∀ (r : List T) (j : Nat) (y : Ins), k + 1 ≤ j → p.ins[j]? = some y → (rows.set k r)[j]? = some (Ins.c true y) := fun r j y hj hy => by rw [List.getElem?_set_ne (by omega)]; exact hrow j y (by omega) hy
    repeat' (first
       | refine wp_seq_i ?_ | refine wp_region_t k_TrimI rfl ?_ | refine Run.done rfl ?_ | refine then_n ?_ | refine then_r ?_ | refine then_e ?_ | refine Run.go1 rfl ?_ | refine wp_skip_i ?_ | refine wp_ret_i ?_
       | refine wp_exit_i ?_ | refine wp_block_i ?_ | refine block_n ?_ | refine block_r ?_ | refine block_e ?_ | refine block_o rfl ?_ | refine wp_cond_t rfl ?_ | refine wp_cond_f rfl ?_ | refine Run.gT rfl rfl rfl rfl ?_
       | refine Run.pT rfl rfl ?_ | (refine Run.splitG rfl rfl rfl rfl rfl rfl ?_ ?_ <;> intro _) | (refine Run.splitP rfl rfl rfl rfl ?_ ?_ <;> intro _) | refine Run.ix rfl rfl rfl rfl rfl rfl rfl hx rfl rfl rfl ?_
       | refine Run.adjw (.hole 3026 k 5 900000 _ _ _ _ _ _ rfl hx rfl (fun _ => rfl) fun u => .done _ (Run.ldr rfl rfl rfl (set_hit hlr) rfl rfl (Run.adjw (.tellC 33 5 900000 _ _ _ _ _ _ _ rfl rfl rfl rfl rfl rfl (.done _ ?_)))))
       | refine Run.cnd rfl rfl rfl ⟨by simp; omega, (by intro r hr; first | (simp at hr; done) | skip; simp at hr; first | (rcases hr with ⟨a, _, rfl⟩ | rfl <;> rfl) | (obtain ⟨a, _, rfl⟩ := hr; rfl) | (subst hr; rfl)), by simp, .inl rfl, by first | (simp [flatT]; done) | trivial⟩ ?_
       | refine Run.callB rfl rfl rfl (idle_t p (metC p.ins (-1)) k x _ hpl hxx hmt) (by simp [AV.own, T.own]) rfl ?_ | (refine wp_cond_k rfl rfl rfl ?_ ?_ <;> intro _) | (refine wp_cond_i rfl ?_ ?_ <;> intro _))
    all_goals first
    | (exfalso; rename_i h; simp [hlt] at h; done)
    | (rename_i u h
       have hkt : keepF p.ins k = true := by rw [hwl] at h; rw [hkf, show ((k : Int) == (p.ins.length : Int) - 1) = true from h]; rfl
       refine back_i [.keep [1, 2, 3, 4, 5, 6, 27, 28, 29] [1, 2, 3, 18, 39, 3026, 54], .ren 39 20, .ren 3026 98, .ren 98 3026, .ren 54 77] (k + 1, rows.set k [iT x.op, iT x.d, iT x.x, iT x.y, iT x.n, .sc u, iT x.to_]) rfl ?_ ⟨by simp; omega, by simp [hrl], fun j y hj hy => hrest _ j y hj hy⟩ (by simp; omega)
       simp only [w_succ hlt (by omega), hst, hss, hkt, if_true, List.map_append, List.map_cons, List.map_nil, List.length_map, hsl]; first | done | rfl)
    | (rename_i u h1 h2
       have hkt : keepF p.ins k = true := by rw [hkf, h2, Bool.or_true]
       refine back_i [.keep [1, 2, 3, 4, 5, 6, 27, 28, 29] [1, 2, 3, 18, 39, 3026, 54], .ren 39 20, .ren 3026 98, .ren 98 3026, .ren 54 77] (k + 1, rows.set k [iT x.op, iT x.d, iT x.x, iT x.y, iT x.n, .sc u, iT x.to_]) rfl ?_ ⟨by simp; omega, by simp [hrl], fun j y hj hy => hrest _ j y hj hy⟩ (by simp; omega)
       simp only [w_succ hlt (by omega), hst, hss, hkt, if_true, List.map_append, List.map_cons, List.map_nil, List.length_map, hsl]; first | done | rfl)
    | (rename_i u h1 h2
       have hkt : keepF p.ins k = false := by rw [hwl] at h1; rw [hkf, show ((k : Int) == (p.ins.length : Int) - 1) = false from h1, h2]; rfl
       refine back_i [.keep [1, 2, 3, 4, 5, 6, 27, 28, 29] [1, 2, 3, 18, 39, 3026, 77], .ren 39 20, .ren 3026 98, .ren 98 3026, .ren 77 99, .ren 99 77] (k + 1, rows.set k [iT x.op, iT x.d, iT x.x, iT x.y, iT x.n, .sc u, iT x.to_]) rfl ?_ ⟨by simp; omega, by simp [hrl], fun j y hj hy => hrest _ j y hj hy⟩ (by simp; omega)
       simp only [w_succ hlt (by omega), hst, hss, hkt, Bool.false_eq_true, if_false, List.append_nil, List.map_append, List.map_cons, List.map_nil, List.length_map, hsl]; first | done | rfl)
    | trace_state
  · have hkn : k = p.ins.length := by omega
    subst hkn
    repeat' (first
       | refine wp_seq_i ?_ | refine wp_region_t k_TrimI rfl ?_ | refine Run.done rfl ?_ | refine then_n ?_ | refine then_r ?_ | refine then_e ?_ | refine Run.go1 rfl ?_ | refine wp_skip_i ?_ | refine wp_ret_i ?_
       | refine wp_exit_i ?_ | refine wp_block_i ?_ | refine block_n ?_ | refine block_r ?_ | refine block_e ?_ | refine block_o rfl ?_ | refine wp_cond_t rfl ?_ | refine wp_cond_f rfl ?_
       | (refine wp_cond_k rfl rfl rfl ?_ ?_ <;> intro _) | (refine wp_cond_i rfl ?_ ?_ <;> intro _))
    any_goals (exfalso; rename_i h; simp at h; done)
    have hmem : ∀ x ∈ selI (keepF p.ins) p.ins p.ins.length, x ∈ p.ins := selI_mem _ _ _
    have htr : trimB p = { p with ins := (selI (keepF p.ins) p.ins p.ins.length).map (fixI (keepF p.ins)) } := by rw [trimB, if_pos hb]; rfl
    generalize hmm : selI (keepF p.ins) p.ins p.ins.length = m at hmem htr
    refine wp_loop_k (α := Nat) [.keep [2, 3, 5, 58, 59, 60] [2, 3, 20, 77]] (fun z => [(60, iA z)]) (fun _ => []) (fun z => [(77, 0, ((m.take z).map (fixI (keepF p.ins)) ++ m.drop z).map (Ins.c true))]) (fun z => z ≤ m.length) (fun z => m.length - z) 0 rfl (fun _ => rfl) (by simp only [List.take_zero, List.map_nil, List.drop_zero, List.nil_append, hmm]; try rfl) (by simp) ?_
    rintro z hz
    have hml : m.length ≤ 600 := by rw [← hmm, hsl]; omega
    by_cases hzl : z < m.length
    · obtain ⟨x, hxx⟩ : ∃ x, m[z]? = some x := ⟨_, List.getElem?_eq_getElem hzl⟩
      have hx : (((m.take z).map (fixI (keepF p.ins)) ++ m.drop z).map (Ins.c true))[z]? = some (Ins.c true x) := by
        rw [List.getElem?_map, List.getElem?_append_right (by simp; omega)]
        simp only [List.length_map, List.length_take, Nat.min_eq_left hz, Nat.sub_self]
        rw [List.getElem?_drop, Nat.add_zero, hxx]; rfl
      have hset : (((m.take z).map (fixI (keepF p.ins)) ++ m.drop z).map (Ins.c true)).set z (Ins.c true (fixI (keepF p.ins) x)) = ((m.take (z + 1)).map (fixI (keepF p.ins)) ++ m.drop (z + 1)).map (Ins.c true) := by
        have e : m[z] = x := by rw [List.getElem?_eq_getElem hzl] at hxx; exact Option.some.inj hxx
        rw [← List.map_set, List.set_append_right _ _ (by simp; omega)]
        simp only [List.length_map, List.length_take, Nat.min_eq_left hz, Nat.sub_self]
        rw [List.drop_eq_getElem_cons hzl, List.set_cons_zero, List.take_succ_eq_append_getElem hzl, e]
        simp
      have hnoset : uT x.op = false → ((m.take (z + 1)).map (fixI (keepF p.ins)) ++ m.drop (z + 1)).map (Ins.c true) = ((m.take z).map (fixI (keepF p.ins)) ++ m.drop z).map (Ins.c true) := fun h => by
        have e : m[z] = x := by rw [List.getElem?_eq_getElem hzl] at hxx; exact Option.some.inj hxx
        have hf : fixI (keepF p.ins) x = x := by simp [fixI, h]
        rw [List.take_succ_eq_append_getElem hzl, e, List.drop_eq_getElem_cons hzl, e]
        simp [hf]
      obtain ⟨j0, hj0⟩ := List.getElem?_of_mem (hmem x (List.mem_of_getElem? hxx))
      have hto : uT x.op = true → x.to_ = ((x.to_.toNat : Nat) : Int) ∧ x.to_.toNat < p.ins.length := fun h => by have := to_at hb hj0 h; omega
      have hnow : uT x.op = true → ((keptL (keepF p.ins) p.ins.length).map iR)[x.to_.toNat]? = some (iR ((kept (keepF p.ins) x.to_.toNat : Nat) : Int)) := fun h => keptL_row _ (hto h).2
      by_cases hu : uT x.op = true
      · have hn := hnow hu
        have ht := (hto hu).1
        repeat' (first
           | refine wp_seq_i ?_ | refine wp_region_t k_TrimI rfl ?_ | refine Run.done rfl ?_ | refine then_n ?_ | refine then_r ?_ | refine then_e ?_ | refine Run.go1 rfl ?_ | refine wp_skip_i ?_ | refine wp_ret_i ?_
           | refine wp_exit_i ?_ | refine wp_block_i ?_ | refine block_n ?_ | refine block_r ?_ | refine block_e ?_ | refine block_o rfl ?_ | refine wp_cond_t rfl ?_ | refine wp_cond_f rfl ?_
           | refine wp_region_qt k_TrimI rfl 8 (by decide +kernel) rfl rfl ?_ | refine RunQ.go1 rfl ?_ | refine RunQ.done rfl ?_ | refine Run.ix rfl rfl rfl rfl rfl rfl rfl hx rfl rfl rfl ?_
           | refine Run.ldr rfl rfl rfl hx rfl rfl ?_ | refine Run.call rfl rfl rfl (hasT_t _) rfl rfl ?_ | refine RunQ.ix rfl rfl rfl rfl rfl rfl ht hn rfl rfl rfl ?_ | refine RunQ.ldr rfl rfl rfl hn rfl rfl ?_
           | refine Run.str rfl rfl rfl rfl rfl rfl hx rfl rfl ?_ | (refine wp_cond_k rfl rfl rfl ?_ ?_ <;> intro _) | (refine wp_cond_i rfl ?_ ?_ <;> intro _))
        all_goals first
        | (exfalso; rename_i h; simp [hzl] at h; done)
        | (exfalso; rename_i h; rw [hu] at h; cases h; done)
        | (refine back_i [.keep [2, 3, 5, 58, 59, 60] [2, 3, 20, 77]] (z + 1) rfl ?_ (by omega) (by omega)
           rw [← hset]
           simp only [w_succ hzl (by omega), fixI, hu, if_true, Bool.false_eq_true, if_false]; first | done | rfl)
        | (refine back_i [.keep [2, 3, 5, 58, 59, 60] [2, 3, 20, 77]] (z + 1) rfl ?_ (by omega) (by omega)
           rw [hnoset hu]
           simp only [w_succ hzl (by omega)]; first | done | rfl)
        | trace_state
      · have hu : uT x.op = false := by simpa using hu
        repeat' (first
           | refine wp_seq_i ?_ | refine wp_region_t k_TrimI rfl ?_ | refine Run.done rfl ?_ | refine then_n ?_ | refine then_r ?_ | refine then_e ?_ | refine Run.go1 rfl ?_ | refine wp_skip_i ?_ | refine wp_ret_i ?_
           | refine wp_exit_i ?_ | refine wp_block_i ?_ | refine block_n ?_ | refine block_r ?_ | refine block_e ?_ | refine block_o rfl ?_ | refine wp_cond_t rfl ?_ | refine wp_cond_f rfl ?_
           | refine wp_region_qt k_TrimI rfl 8 (by decide +kernel) rfl rfl ?_ | refine RunQ.go1 rfl ?_ | refine RunQ.done rfl ?_ | refine Run.ix rfl rfl rfl rfl rfl rfl rfl hx rfl rfl rfl ?_
           | refine Run.ldr rfl rfl rfl hx rfl rfl ?_ | refine Run.call rfl rfl rfl (hasT_t _) rfl rfl ?_ | (refine wp_cond_k rfl rfl rfl ?_ ?_ <;> intro _) | (refine wp_cond_i rfl ?_ ?_ <;> intro _))
        all_goals first
        | (exfalso; rename_i h; simp [hzl] at h; done)
        | (exfalso; rename_i h; rw [hu] at h; cases h; done)
        | (refine back_i [.keep [2, 3, 5, 58, 59, 60] [2, 3, 20, 77]] (z + 1) rfl ?_ (by omega) (by omega)
           rw [← hset]
           simp only [w_succ hzl (by omega), fixI, hu, if_true, Bool.false_eq_true, if_false]; first | done | rfl)
        | (refine back_i [.keep [2, 3, 5, 58, 59, 60] [2, 3, 20, 77]] (z + 1) rfl ?_ (by omega) (by omega)
           rw [hnoset hu]
           simp only [w_succ hzl (by omega)]; first | done | rfl)
        | trace_state
    · have hzm : z = m.length := by omega
      subst hzm
      repeat' (first
         | refine wp_seq_i ?_ | refine wp_region_t k_TrimI rfl ?_ | refine Run.done rfl ?_ | refine then_n ?_ | refine then_r ?_ | refine then_e ?_ | refine Run.go1 rfl ?_ | refine wp_skip_i ?_ | refine wp_ret_i ?_
         | refine wp_exit_i ?_ | refine wp_block_i ?_ | refine block_n ?_ | refine block_r ?_ | refine block_e ?_ | refine block_o rfl ?_ | refine wp_cond_t rfl ?_ | refine wp_cond_f rfl ?_
         | (refine wp_cond_k rfl rfl rfl ?_ ?_ <;> intro _) | (refine wp_cond_i rfl ?_ ?_ <;> intro _))
      all_goals first
      | (exfalso; rename_i h; simp at h; done)
      | (refine ret_m [] rfl rfl ?_
         rw [htr]
         simp only [List.take_length, List.drop_length, List.append_nil]; done)
      | trace_state
end Go.Proofs

set_option linter.unusedVariables false
set_option linter.unusedSimpArgs false
set_option maxHeartbeats 4000000
namespace Go.Proofs
open Go Go.Ev
set_option maxRecDepth 100000
variable {X : Rel3}
theorem mkInsS_len2 (l : List Ins) (k : Int) : (mkInsS l k).1.length = l.length := mkInsS_len l k
theorem mkInsS_at : ∀ (l : List Ins) (k : Int) (j : Nat) (x : Ins), l[j]? = some x → (mkInsS l k).1[j]? = some (mkIns x (mkInsS (l.take j) k).2).1
  | [], k, j, x, h => by simp at h
  | i :: r, k, 0, x, h => by simp at h; subst h; simp [mkInsS]
  | i :: r, k, j + 1, x, h => by
    have := mkInsS_at r (mkIns i k).2 j x (by simpa using h)
    simp only [mkInsS, List.getElem?_cons_succ, List.take_succ_cons]
    exact this
theorem mkIns_up5 {i : Ins} {k : Int} (hi : i.l.length ≤ 1048576) (h0 : 0 ≤ k) (h : k ≤ 9223372036850000000) : ¬ (mk i.l (nx (nx (nx (nx (nx k)))))).2 < 0 := by
  rw [nx_up h0 (by omega), nx_up (k := k + 1) (by omega) (by omega), nx_up (k := k + 1 + 1) (by omega) (by omega), nx_up (k := k + 1 + 1 + 1) (by omega) (by omega), nx_up (k := k + 1 + 1 + 1 + 1) (by omega) (by omega)]
  rw [mk_up i.l (k + 1 + 1 + 1 + 1 + 1) (by omega) (by omega)]
  omega
def k_heldInsS : List (Nat × List Nat) := [(0, [0, 1]), (1, [0, 1, 5]), (2, [0, 1, 5, 9]), (3, [0, 1, 5]), (4, [0, 1, 5, 18]), (5, [4]), (6, [0, 1, 5]), (7, [0, 1, 5, 27]), (8, [4]), (9, [0, 1, 5]), (10, [0, 1, 5, 36]), (11, [4]), (12, [0, 1, 5]), (13, [0, 1, 5, 45]), (14, [4]), (15, [0, 1, 5]), (16, [0, 1, 5, 54]), (17, [4]), (18, [0, 1, 5]), (19, [0, 1, 5]), (20, [0, 1, 5, 65]), (21, [4]), (22, [0, 1, 5, 72]), (23, [4]), (24, [0, 1, 5]), (25, [4])]
theorem heldInsS_t (l : List Ins) (k : Int) (hl : l.length ≤ 1048576) (hll : ∀ i ∈ l, i.l.length ≤ 1048576) (h0 : 0 ≤ k) (hk : k ≤ 1000000000000) : Tells Try.prog E0 X 54 [.t (.sl false ((mkInsS l k).1.map (Ins.c false))), iA k] (iA (mkInsS l k).2) := by
  have hml := mkInsS_len l k
  refine Tells.by Try.func54 (by simp [Try.f54]) (Body.i rfl rfl rfl (fun _ => rfl) fun f => ?_)
  repeat' (first
     | refine wp_seq_i ?_ | refine wp_region_t k_heldInsS rfl ?_ | refine Run.done rfl ?_ | refine then_n ?_ | refine then_r ?_ | refine then_e ?_ | refine Run.go1 rfl ?_ | refine wp_skip_i ?_ | refine wp_ret_i ?_
     | refine wp_exit_i ?_ | refine wp_block_i ?_ | refine block_n ?_ | refine block_r ?_ | refine block_e ?_ | refine block_o rfl ?_ | refine wp_cond_t rfl ?_ | refine wp_cond_f rfl ?_
     | (refine wp_cond_k rfl rfl rfl ?_ ?_ <;> intro _) | (refine wp_cond_i rfl ?_ ?_ <;> intro _))
  refine wp_loop_k (α := Nat) [.keep [0, 1, 4, 5] []] (fun j => [(1, iA (mkInsS (l.take j) k).2), (5, iA j)]) (fun _ => []) (fun _ => []) (fun j => j ≤ l.length) (fun j => l.length - j) 0 rfl (fun _ => rfl) rfl (by simp) ?_
  rintro j hj
  by_cases hlt : j < l.length
  · obtain ⟨x, hxx⟩ : ∃ x, l[j]? = some x := ⟨_, List.getElem?_eq_getElem hlt⟩
    have hat := mkInsS_at l k j x hxx
    have hil := hll x (List.mem_of_getElem? hxx)
    have hup := mkInsS_up (l := l.take j) (k := k) (fun i hi => hll i (List.mem_of_mem_take hi)) h0 (by simp; omega)
    have hsn : (mkInsS (l.take (j + 1)) k).2 = (mkIns x (mkInsS (l.take j) k).2).2 := by
      have e : l.take (j + 1) = l.take j ++ [x] := by
        rw [List.getElem?_eq_getElem hlt] at hxx
        rw [List.take_succ_eq_append_getElem hlt, Option.some.inj hxx]
      rw [e, mkInsS_snoc]
    have hln : (l.take j).length ≤ 1048576 := by simp; omega
    generalize (mkInsS (l.take j) k).2 = c at hat hup hsn
    have hc0 : 0 ≤ c ∧ c ≤ 9223372036850000000 := by simp at hup; omega
    have hneg := mkIns_up5 hil hc0.1 hc0.2
    have hx : ((mkInsS l k).1.map (Ins.c false))[j]? = some (Ins.c false ⟨c, nx c, nx (nx c), nx (nx (nx c)), nx (nx (nx (nx c))), (mk x.l (nx (nx (nx (nx (nx c)))))).1, (mk x.l (nx (nx (nx (nx (nx c)))))).2⟩) := by rw [List.getElem?_map, hat]; rfl
    have hH : Tells Try.prog E0 X 21 [.t (.sl false ((mk x.l (nx (nx (nx (nx (nx c)))))).1.map iR)), iA (nx (nx (nx (nx (nx c)))))] (iA (mk x.l (nx (nx (nx (nx (nx c)))))).2) := by
      have := heldIntS_t (X := X) (mk x.l (nx (nx (nx (nx (nx c)))))).1 (nx (nx (nx (nx (nx c))))) (by rw [mk_len]; omega)
      rw [heI_mk] at this; exact this
    repeat' (first
       | refine wp_seq_i ?_ | refine wp_region_t k_heldInsS rfl ?_ | refine Run.done rfl ?_ | refine then_n ?_ | refine then_r ?_ | refine then_e ?_ | refine Run.go1 rfl ?_ | refine wp_skip_i ?_ | refine wp_ret_i ?_
       | refine wp_exit_i ?_ | refine wp_block_i ?_ | refine block_n ?_ | refine block_r ?_ | refine block_e ?_ | refine block_o rfl ?_ | refine wp_cond_t rfl ?_ | refine wp_cond_f rfl ?_
       | refine Run.ix rfl rfl rfl rfl rfl rfl rfl hx rfl rfl rfl ?_ | refine Run.call rfl rfl rfl (hH) rfl rfl ?_ | (refine wp_cond_k rfl rfl rfl ?_ ?_ <;> intro _) | (refine wp_cond_i rfl ?_ ?_ <;> intro _))
    all_goals first
    | (exfalso; rename_i h; exact hneg (of_decide_eq_true h); done)
    | (exfalso; rename_i h; simp [nx] at h; done)
    | (exfalso; rename_i h; simp [hml, hlt] at h; done)
    | (refine back_i [.keep [0, 1, 4, 5] []] (j + 1) rfl ?_ (by omega) (by omega)
       simp only [w_succ hlt (by omega), hsn]; first | done | rfl)
    | trace_state
  · have hjl : j = l.length := by omega
    subst hjl
    rw [List.take_length]
    repeat' (first
       | refine wp_seq_i ?_ | refine wp_region_t k_heldInsS rfl ?_ | refine Run.done rfl ?_ | refine then_n ?_ | refine then_r ?_ | refine then_e ?_ | refine Run.go1 rfl ?_ | refine wp_skip_i ?_ | refine wp_ret_i ?_
       | refine wp_exit_i ?_ | refine wp_block_i ?_ | refine block_n ?_ | refine block_r ?_ | refine block_e ?_ | refine block_o rfl ?_ | refine wp_cond_t rfl ?_ | refine wp_cond_f rfl ?_
       | (refine wp_cond_k rfl rfl rfl ?_ ?_ <;> intro _) | (refine wp_cond_i rfl ?_ ?_ <;> intro _))
    all_goals first
    | (exfalso; rename_i h; simp [hml] at h; done)
    | (refine ret_m [] rfl rfl rfl; done)
    | trace_state
theorem heldPiece_t (p : Piece) (k : Int) (hp : p.ok) (h0 : 0 ≤ k) (hk : k ≤ 1000000000000) : Tells Try.prog E0 X 26 [({ p with ins := (mkInsS p.ins k).1 } : Piece).a false, iA k] (iA (mkInsS p.ins k).2) := by
  have hpl := hp.1
  have hup := mkInsS_up (l := p.ins) (k := k) hp.2 h0 (by omega)
  refine Tells.by Try.func26 (by simp [Try.f26]) (Body.i rfl rfl rfl (fun _ => rfl) fun f => ?_)
  repeat' (first
     | refine wp_seq_i ?_ | refine wp_region_i ?_ | refine Run.done rfl ?_ | refine then_n ?_ | refine then_r ?_ | refine then_e ?_ | refine Run.go1 rfl ?_ | refine wp_skip_i ?_ | refine wp_ret_i ?_ | refine wp_exit_i ?_
     | refine wp_block_i ?_ | refine block_n ?_ | refine block_r ?_ | refine block_e ?_ | refine block_o rfl ?_ | refine wp_cond_t rfl ?_ | refine wp_cond_f rfl ?_
     | refine Run.call rfl rfl rfl (heldInsS_t p.ins k hpl hp.2 h0 hk) rfl rfl ?_ | (refine wp_cond_k rfl rfl rfl ?_ ?_ <;> intro _) | (refine wp_cond_i rfl ?_ ?_ <;> intro _))
  all_goals first
  | (exfalso; rename_i h; simp at h; omega)
  | (refine ret_m [] rfl rfl rfl; done)
  | trace_state
theorem trimB_ok (p : Piece) (hp : p.ok) : (trimB p).ok := by
  unfold trimB
  split
  · refine ⟨?_, fun i hi => ?_⟩
    · simp only [trimP, List.length_map]
      rw [selI_len _ _ _ (Nat.le_refl _)]
      exact Nat.le_trans (kept_le _ _) hp.1
    · simp only [trimP] at hi
      obtain ⟨x, hx, rfl⟩ := List.mem_map.1 hi
      have := hp.2 x (selI_mem _ _ _ x hx)
      unfold fixI
      split
      · exact this
      · exact this
  · exact hp
end Go.Proofs

set_option linter.unusedVariables false
set_option linter.unusedSimpArgs false
set_option maxHeartbeats 4000000
namespace Go.Proofs
open Go Go.Ev
set_option maxRecDepth 100000
variable {X : Rel3}
theorem Run.adjwAt {Φ : Rel3} {E : Env} {all : List Oper} {D : List Nat} {lo : Option (List Nat)} {rest : List Oper} {s : St} {K : St → Prop} (d : Nat) {op : Op} {ty : Nat} {pos : String} {after : Array Edge} {g : Option (Nat × Bool)}
  (h : AdjW (fun s1 => Run Φ E all D lo (⟨some d, op, ty, pos, after, g⟩ :: rest) s1 K) s) : Run Φ E all D lo (⟨some d, op, ty, pos, after, g⟩ :: rest) s K := Run.adjw h
def k_lawTr : List (Nat × List Nat) := [(0, [1]), (1, [1, 3]), (2, [1, 3]), (3, [1, 15]), (4, [2]), (5, [1, 4]), (6, [1, 4, 5]), (7, [1, 4, 5, 6]), (8, [1, 4, 5, 6, 26]), (9, [2]), (10, [1, 4, 5, 6, 31]), (11, [2]), (12, [1, 4, 5, 6, 7]), (13, [1, 4, 6, 7]), (14, [1, 4, 6, 42]), (15, [2]), (16, [1, 4, 6, 8]), (17, [1, 4, 6, 8]), (18, [1, 4, 6, 8, 9]), (19, [1, 4, 6, 8, 9]), (20, [1, 4, 6, 8, 9, 50]), (21, [2]), (22, [1, 4, 6, 8, 53]), (23, [2]), (24, [4, 6, 8, 10]), (25, [6, 8, 60]), (26, [2]), (27, [6, 8, 9]), (28, [8, 9]), (29, [8, 9, 65]), (30, [2]), (31, [68]), (32, [2]), (33, [2])]
theorem lawTr_t (p : Piece) (hl : p.len) : Tells Try.prog E0 XS 6 [p.a false] (bA true) := by
  have hsz := szPiece_t (X := XS) p 1048576 hl.1
  refine Tells.by Try.func6 (by simp [Try.f6]) (Body.i rfl rfl rfl (fun _ => rfl) fun f => ?_)
  repeat' (first
     | refine wp_seq_i ?_ | refine wp_region_t k_lawTr rfl ?_ | refine Run.done rfl ?_ | refine then_n ?_ | refine then_r ?_ | refine then_e ?_ | refine Run.go1 rfl ?_ | refine wp_skip_i ?_ | refine wp_ret_i ?_
     | refine wp_exit_i ?_ | refine wp_block_i ?_ | refine block_n ?_ | refine block_r ?_ | refine block_e ?_ | refine block_o rfl ?_ | refine wp_cond_t rfl ?_ | refine wp_cond_f rfl ?_
     | refine Run.call rfl rfl rfl (hsz) rfl rfl ?_ | (refine wp_cond_k rfl rfl rfl ?_ ?_ <;> intro _) | (refine wp_cond_i rfl ?_ ?_ <;> intro _))
  · refine ret_m [] rfl rfl rfl
  rename_i h
  have hp : p.ok := (szPiece_ok (left := 1048576) hl (by omega) (by simpa using h)).1
  have hS : Tells Try.prog E0 XS 24 [p.s] ((trimB p).a true) := by rw [Piece.s_eq]; exact TrimS_t p hp
  have hI : Tells Try.prog E0 XS 25 [p.s] ((trimB p).a true) := by rw [Piece.s_eq]; exact TrimI_t p hp
  have hE : Tells Try.prog E0 XS 13 [p.s, p.s] (bA (decide (p = p))) := by rw [Piece.s_eq]; exact eqPiece_t p p hp
  have ht := trimB_ok p hp
  generalize trimB p = q at hS hI ht
  have hEt : Tells Try.prog E0 XS 13 [q.s, q.s] (bA (decide (q = q))) := by rw [Piece.s_eq]; exact eqPiece_t q q ht
  have hHe : Tells Try.prog E0 XS 26 [({ q with ins := (mkInsS q.ins 1).1 } : Piece).s, iA 1] (iA (mkInsS q.ins 1).2) := by rw [Piece.s_eq]; exact heldPiece_t q 1 ht (by omega) (by omega)
  have hM := mkP_up hp
  have hK := mkP_up ht
  have hqi := ht.1
  have hqk : ∀ i ∈ q.ins, i.l.length ≤ 9223372036854775807 := fun i hi => by have := ht.2 i hi; omega
  repeat' (first
    
     | refine Run.adjwAt 43 (.ask 3022 _ _ _ _ rfl (fun _ => rfl) fun u => .holdB 6 3 3022 _ _ _ _ _ _ _ rfl rfl rfl rfl rfl rfl (.done _ (Run.go1 rfl (Run.adjw (.tellC 43 3 3022 _ _ _ _ _ _ _ rfl rfl rfl rfl rfl rfl (.done _ ?_))))))
     | refine Run.adjwAt 8 (.tellB 6 3 3022 _ _ _ _ _ _ _ rfl rfl rfl rfl rfl rfl (.done _ ?_)) | refine wp_seq_i ?_ | refine wp_region_t k_lawTr rfl ?_ | refine Run.done rfl ?_ | refine then_n ?_ | refine then_r ?_
     | refine then_e ?_ | refine Run.go1 rfl ?_ | refine wp_skip_i ?_ | refine wp_ret_i ?_ | refine wp_exit_i ?_ | refine wp_block_i ?_ | refine block_n ?_ | refine block_r ?_ | refine block_e ?_ | refine block_o rfl ?_
     | refine wp_cond_t rfl ?_ | refine wp_cond_f rfl ?_ | refine RunQ.go1 rfl ?_ | refine RunQ.done rfl ?_ | refine Run.gT rfl rfl rfl rfl ?_ | refine Run.pT rfl rfl ?_
     | (refine Run.splitG rfl rfl rfl rfl rfl rfl ?_ ?_ <;> intro _) | (refine Run.splitP rfl rfl rfl rfl ?_ ?_ <;> intro _) | refine RunQ.gT rfl rfl rfl rfl ?_ | refine RunQ.pT rfl rfl ?_
     | (refine RunQ.splitG rfl rfl rfl rfl rfl rfl ?_ ?_ <;> intro _) | (refine RunQ.splitP rfl rfl rfl rfl ?_ ?_ <;> intro _) | refine Run.call rfl rfl rfl (toPiece_t p hp) rfl rfl ?_
     | refine Run.callB rfl rfl rfl (hS) (by simp [AV.own, T.own, ownCL, ownC, own_Ins]) rfl ?_ | refine Run.callB rfl rfl rfl (hI) (by simp [AV.own, T.own, ownCL, ownC, own_Ins]) rfl ?_
     | refine Run.callB rfl rfl rfl (hEt) (by simp [AV.own, T.own]) rfl ?_ | refine wp_region_l k_lawTr [0, 1] [2, 3] [0, 0, 2, 7, 15] rfl (by decide +kernel) (by decide +kernel) rfl rfl ?_
     | refine RunL.call rfl rfl rfl rfl (toPiece_t p hp) (.inl rfl) rfl rfl ?_ | refine RunL.call rfl rfl rfl rfl (hE) (.inr (by simp [AV.own, T.own])) rfl rfl ?_ | refine RunL.done ?_
     | refine Run.call rfl rfl rfl (markPiece_t p 1 hl.1 hl.2) rfl rfl ?_ | refine Run.call rfl rfl rfl (markPiece_t q 1 (by omega) hqk) rfl rfl ?_ | refine Run.callB rfl rfl rfl (hHe) (by simp [AV.own, T.own]) rfl ?_
     | (refine wp_cond_k rfl rfl rfl ?_ ?_ <;> intro _) | (refine wp_cond_i rfl ?_ ?_ <;> intro _))
  all_goals first
    | (refine ret_m [] rfl rfl rfl; done)
    | (rename_i hx; exfalso; simp [hK, hM] at hx; done)
    | (rename_i hx; exfalso; simp at hx; omega)
    | trace_state
end Go.Proofs

set_option linter.unusedSimpArgs false
set_option linter.unusedVariables false
namespace Go.Ev
open Go
theorem vs_of {w : World} {B : Nat → Prop} {ts : List T} {vs : List Value} (hl : vs.length = ts.length) (h : ∀ (k : Nat) (y : T) (v : Value), ts[k]? = some y → vs[k]? = some v → Rep w B y v)
    (hs : ∀ y ∈ ts, (∃ v, y = .sc v) ∨ ∃ rows, y = .sl false rows) : VS w B (.ag (ts.map AV.t)) (.agg vs.toArray) (fun _ => False) := by
  refine .inr (.inl ⟨_, _, rfl, rfl, Fam.of (by simp [hl]) fun k x v h1 h2 => ?_⟩)
  rw [List.getElem?_map, Option.map_eq_some_iff] at h1
  obtain ⟨y, hy, rfl⟩ := h1
  have hr := h k y v hy h2
  rcases hs y (List.mem_of_getElem? hy) with ⟨u, rfl⟩ | ⟨rows, rfl⟩
  · cases hr; exact ⟨_, rfl, .sc _ _⟩
  · exact ⟨_, rfl, .sh _ _ _ hr⟩
theorem OpensAt.imp {P : Program} {N : Nat} {t : TypeId} {α : Type} {d : Kt α} {ok ok' : α → Prop} (h : OpensAt P N t d ok) (hok : ∀ x, ok x → ok' x) : OpensAt P N t d ok' := by
  constructor
  intro H enc W base held fuel cs y hf ht
  obtain ⟨x, hk, hx⟩ := h.get enc W base held fuel cs y hf ht
  exact ⟨x, hk, hok x hx⟩
theorem vx_bool {w : World} {B : Nat → Prop} {vs : List Value} {b : Bool} {v : Value} {F : Nat → Prop} (h : VX w B vs (.t (.sc (.bool b))) v F) : v = .bool b := by
  rcases h with ⟨_, (⟨y, hy, ho⟩ | ⟨cs, us, h, _⟩ | ⟨_, _, _, _, _, h, _⟩) | ⟨cs, us, h, _⟩⟩ | ⟨r0, outs, F1, F2, h, _⟩
  · cases hy; cases ho; rfl
  · cases h
  · cases h
  · cases h
  · cases h
theorem vs_int {w : World} {B : Nat → Prop} {k : IntKind} {n : Int} : VS w B (.t (.sc (.int k n))) (.int k n) (fun _ => False) := .inl ⟨_, rfl, .sc _ _⟩
end Go.Ev
namespace Go.Proofs.Ythhlbnhgjijbaaa.fnExactTrim
open Go Go.Ev Go.Proofs
open Go.ChangeShapes Go.WideShapes Go.ChangeAt Go.RowKit
theorem own : ownKnob Try.prog.godebug = none := by kernel_rfl
theorem laidOut : laidOutB Try.prog = true := by kernel_rfl
abbrev kI : Kt Int := Kt.int .i64
abbrev kL : Kt (List Int) := Kt.slice kI
abbrev kIns : Kt Ins := Kt.iso (Kt.pair kI (Kt.pair kI (Kt.pair kI (Kt.pair kI (Kt.pair kI (Kt.pair kL kI)))))) fun i => (i.op, i.d, i.x, i.y, i.n, i.l, i.to_)
abbrev kPiece : Kt Piece := Kt.iso (Kt.pair kI (Kt.pair kI (Kt.pair kI (Kt.slice kIns)))) fun p => (p.lam, p.in_, p.regs, p.ins)
theorem max_le : maxLen ≤ 9223372036854775807 := by decide
theorem oInt (n : Nat) : OpensAt Try.prog n 3 kI (fun _ => True) := (opens_int Try.underlying3).imp fun _ _ => trivial
theorem oL (n : Nat) : OpensAt Try.prog (n + 1) 37 kL (fun l => l.length ≤ 9223372036854775807) := (opens_slice Try.underlying37 (by kernel_rfl) (by decide) (oInt n)).imp fun _ h => Nat.le_trans h.1 max_le
theorem oIns (n : Nat) : OpensAt Try.prog (n + 2) 68 kIns Ins.len :=
  (opens_iso (fun x => (⟨x.1, x.2.1, x.2.2.1, x.2.2.2.1, x.2.2.2.2.1, x.2.2.2.2.2.1, x.2.2.2.2.2.2⟩ : Ins)) (fun _ => rfl)
    (opens_struct Try.underlying68 (by kernel_rfl) (from_cons rfl (by kernel_rfl) (oInt _) (from_cons rfl (by kernel_rfl) (oInt _) (from_cons rfl (by kernel_rfl) (oInt _) (from_cons rfl (by kernel_rfl) (oInt _) (from_cons rfl (by kernel_rfl) (oInt _)
      (from_cons rfl (by kernel_rfl) (oL n) (from_one rfl (by kernel_rfl) (oInt _)))))))))).imp fun x h => h.2.2.2.2.2.1
theorem oInsS (n : Nat) : OpensAt Try.prog (n + 3) 22 (Kt.slice kIns) (fun l => l.length ≤ 9223372036854775807 ∧ ∀ i ∈ l, i.len) := (opens_slice Try.underlying22 (by kernel_rfl) (by decide) (oIns n)).imp fun _ h => ⟨Nat.le_trans h.1 max_le, h.2⟩
theorem oPiece (n : Nat) : OpensAt Try.prog (n + 4) 24 kPiece Piece.len :=
  (opens_iso (fun x => (⟨x.1, x.2.1, x.2.2.1, x.2.2.2⟩ : Piece)) (fun _ => rfl)
    (opens_struct Try.underlying24 (by kernel_rfl) (from_cons rfl (by kernel_rfl) (oInt _) (from_cons rfl (by kernel_rfl) (oInt _) (from_cons rfl (by kernel_rfl) (oInt _) (from_one rfl (by kernel_rfl) (oInsS n))))))).imp fun x h => h.2.2.2
theorem calls {W : World} {x0 : Piece} {cs0 : List Value} (hk0 : kPiece.K W x0 cs0) (hl0 : Piece.len x0) : Calls Try.prog 6 #[.agg cs0.toArray] W fun e W' => e = .returned (.bool true) ∧ Below W.heap.size W W' := by
  have h := (Tells.sound (X := XS) tab_ok XS_sound (lawTr_t x0 hl0)).2 W [.agg cs0.toArray] (fun b => b < W.heap.size) (fun _ => False) (fun b hb => ⟨hb, fun h => h⟩) (fun _ h => h.elim)
    (.cons _ _ _ _ (fun _ => False) (fun _ => False) _ (vs_of (ts := Piece.c false x0) hk0.1 hk0.2 (by
      intro y hy
      simp only [Piece.c, List.mem_cons, List.not_mem_nil, or_false] at hy
      rcases hy with rfl | rfl | rfl | rfl
      · exact .inl ⟨_, rfl⟩
      · exact .inl ⟨_, rfl⟩
      · exact .inl ⟨_, rfl⟩
      · exact .inr ⟨_, rfl⟩)) (.nil _) (fun _ h => h.elim) (fun _ h => h) (fun _ h => h))
  refine h.mono fun e W' ⟨v, B', F', he, hv, _, _, hkeep⟩ => ?_
  rw [he, vx_bool hv]
  exact ⟨rfl, hkeep.os, hkeep.tape, hkeep.output, hkeep.size, fun k hk => hkeep.block k hk fun h => h⟩
set_option maxRecDepth 100000 in
theorem lifted (os : Os) (started : os.Started) (H : Type) (enc : TypeId × Value → H) :
    ReturnsInHanded {} Try.checked os 6 .any (Rows.fnExactTrimSpec.pre6 enc Try.prog Try.f6 Rows.fnExactTrimRow.domain false) (Rows.fnExactTrimSpec.post enc Try.prog Try.f6 false true false false) := by
  refine returnsInHanded_of_change_sized (C := Try.checked) own started (by kernel_rfl) Try.func6
    (ChangeSpec.witness6 (enc := enc) (C := Try.checked) false ⟨#[], #[.agg #[.int .i64 0, .int .i64 0, .int .i64 0, .slice none 0 0]], []⟩ 8 (by kernel_rfl) (by kernel_rfl) (by kernel_rfl) (by kernel_rfl)) ?_
  intro W base args ds gs before hval0 hW hcnd hsz0 _
  have hval : ∀ (j : Nat) t v, Try.f6.params[j]? = some t → args[j]? = some v → Value.okWide Try.prog W .any base t v := hval0
  have hW' := hW
  obtain ⟨p, q, hA0, hV, rfl, hfz, hnd⟩ := hW
  have hA : DataW.TrodAll enc Try.prog W 0 (fun _ => true) true Try.f6.params.toList args.toList ds p := hA0
  rw [Try.params6] at hA hval
  obtain ⟨v0, vs0, d0, ds0, p0, q0, hargs, rfl, rfl, h0, r0⟩ := trodAll_cons hA
  obtain ⟨rfl, rfl, rfl⟩ := trodAll_nil r0
  obtain rfl : args = #[v0] := by cases args; simp_all
  obtain ⟨rfl, rfl⟩ := trodVars_none hV
  obtain ⟨cs0, rfl, hcs0⟩ := okWide_struct Try.underlying24 (hval 0 24 v0 rfl rfl)
  have k0 := h0
  have lt0 : ∀ x ∈ p0, x.block < W.heap.size := by obtain ⟨m, hm⟩ := k0; exact DataW.trod_lt m _ _ _ hm
  obtain ⟨x0, hk0, ok0⟩ : ∃ x, kPiece.K W x cs0.toList ∧ Piece.len x := by
    obtain ⟨m, hm⟩ := h0
    exact (oPiece m).get enc W _ _ m _ _ (by omega) hm
  refine (calls hk0 ok0).mono fun e W' ⟨he, bel0⟩ => ?_
  have bel : Below W.heap.size W W' := bel0
  subst he
  exact ⟨_, rfl, _, _, _, [], _, [], hW', trodAll_mk1 (shut_bool Try.underlying4 _), (trodAll_cons_mk (Below.trod laidOut (by kernel_rfl) (of_decide_eq_true (by kernel_rfl)) k0 bel lt0) trodAll_mk0), rfl, bel.frame _, fun h => by cases h⟩
theorem over : Rows.fnExactTrimRow.holds Try.pinned (OpenSpec.ofChange Rows.fnExactTrimSpec) :=
  OpenClaim.holds_of_wide 6 Try.f6 rfl rfl rfl rfl rfl rfl rfl ⟨rfl, rfl, rfl, rfl, rfl⟩ rfl rfl rfl rfl rfl (by kernel_rfl) Try.func6 (by kernel_rfl)
    (of_decide_eq_true (by kernel_rfl)) (by unfold Func.isWrapper; first | (rw [if_pos (by decide +kernel)]; kernel_rfl) | (rw [if_neg (by decide +kernel)]; exact ⟨rfl, rfl⟩))
    (fun os started H enc _ => lifted os started H enc)
theorem proved : Rows.FnExactTrimSaid := over
#print axioms proved
end Go.Proofs.Ythhlbnhgjijbaaa.fnExactTrim
namespace Go.Proofs.Ythhlbnhgjijbaaa
/-- The row, under a short name, for the claim. -/
theorem fnExactTrim_holds : Rows.FnExactTrimSaid := fnExactTrim.proved
end Go.Proofs.Ythhlbnhgjijbaaa

