import Derived.Test.YtamcbocdcnndfaaFA4
import Derived.WalkKit
import Derived.Maps.AppendAt
import Derived.Lib.AppendZeros
set_option linter.unusedVariables false
set_option linter.unusedSimpArgs false
set_option maxHeartbeats 4000000
namespace Go.Proofs
open Go Go.Ev
set_option maxRecDepth 100000
variable {X : Rel3}
abbrev sR (s : ByteArray) : List T := [sT s]
theorem shr_S (l : List ByteArray) : shrR (l.map sR) = l.map sR := by
  induction l with
  | nil => rfl
  | cons x r ih => rw [List.map_cons, shrR, ih]; rfl
theorem own_S (l : List ByteArray) : ownR (l.map sR) := by
  induction l with
  | nil => trivial
  | cons x r ih => exact ⟨⟨trivial, trivial⟩, ih⟩
/-- is a name among others? -/
def has (l : List ByteArray) (s : ByteArray) : Bool := l.any fun x => decide (x = s)
def idxS (s : ByteArray) : List ByteArray → Nat → Int
  | [], _ => -1
  | t :: r, k => if t = s then k else idxS s r (k + 1)
theorem idxS_has (s : ByteArray) : ∀ (l : List ByteArray) (k : Nat), decide (idxS s l k ≥ 0) = has l s
  | [], k => by rw [idxS]; rfl
  | t :: r, k => by
    rw [idxS, has, List.any_cons]
    by_cases h : t = s
    · rw [if_pos h, decide_eq_true h, Bool.true_or]; exact decide_eq_true (by omega)
    · rw [if_neg h, decide_eq_false h, Bool.false_or]; exact idxS_has s r (k + 1)
def k_l2Has : List (Nat × List Nat) := [(0, [0, 1]), (1, [0, 1, 5]), (2, [0, 1, 5, 9]), (3, [0, 1, 5]), (4, [0, 1, 5, 17]), (5, [4]), (6, [4])]
theorem l2Has_t (l : List ByteArray) (s : ByteArray) (hl : l.length ≤ 1000000000) : Tells Try.prog E0 X 49 [.t (.sl false (l.map sR)), sA s] (bA (has l s)) := by
  refine Tells.by Try.func49 (by simp [Try.f49]) (Body.i rfl rfl rfl (fun _ => rfl) fun f => ?_)
  repeat' (first
     | refine wp_seq_i ?_ | refine wp_region_t k_l2Has rfl ?_ | refine Run.done rfl ?_ | refine then_n ?_ | refine then_r ?_ | refine then_e ?_ | refine Run.go1 rfl ?_ | refine wp_skip_i ?_ | refine wp_ret_i ?_
     | refine wp_exit_i ?_ | refine wp_block_i ?_ | refine block_n ?_ | refine block_r ?_ | refine block_e ?_ | refine block_o rfl ?_ | refine wp_cond_t rfl ?_ | refine wp_cond_f rfl ?_
     | (refine wp_cond_k rfl rfl rfl ?_ ?_ <;> intro _) | (refine wp_cond_i rfl ?_ ?_ <;> intro _))
  refine wp_loop_k (α := Nat) [.keep [0, 1, 5] []] (fun k => [(5, iA k)]) (fun _ => []) (fun _ => []) (fun k => k ≤ l.length ∧ has (l.drop k) s = has l s) (fun k => l.length - k) 0 rfl (fun _ => rfl) rfl ⟨by simp, rfl⟩ ?_
  rintro k ⟨hk, hI⟩
  by_cases hlt : k < l.length
  · obtain ⟨t, ht⟩ : ∃ t, l[k]? = some t := ⟨_, List.getElem?_eq_getElem hlt⟩
    rw [List.drop_eq_getElem_cons hlt, (List.getElem?_eq_some_iff.1 ht).2, has, List.any_cons, ← str_beq] at hI
    have hx : (l.map sR)[k]? = some [sT t] := by rw [List.getElem?_map, ht]; rfl
    repeat' (first
       | refine wp_seq_i ?_ | refine wp_region_t k_l2Has rfl ?_ | refine Run.done rfl ?_ | refine then_n ?_ | refine then_r ?_ | refine then_e ?_ | refine Run.go1 rfl ?_ | refine wp_skip_i ?_ | refine wp_ret_i ?_
       | refine wp_exit_i ?_ | refine wp_block_i ?_ | refine block_n ?_ | refine block_r ?_ | refine block_e ?_ | refine block_o rfl ?_ | refine wp_cond_t rfl ?_ | refine wp_cond_f rfl ?_
       | refine Run.ix rfl rfl rfl rfl rfl rfl rfl hx rfl rfl rfl ?_ | (refine wp_cond_k rfl rfl rfl ?_ ?_ <;> intro _) | (refine wp_cond_i rfl ?_ ?_ <;> intro _))
    all_goals first
    | (exfalso; rename_i h; simp [hlt] at h; done)
    | (rename_i h
       refine ret_m [] rfl rfl ?_
       rw [← hI, h, Bool.true_or]; done)
    | (rename_i h
       refine back_i [.keep [0, 1, 5] []] (k + 1) rfl ?_ ⟨by omega, ?_⟩ (by omega)
       · simp only [w_succ hlt (show l.length ≤ 9223372036854775807 by omega)]
       · rw [← hI, h, Bool.false_or]; rfl)
    | trace_state
  · have hk : k = l.length := by omega
    subst hk
    simp [has] at hI
    repeat' (first
       | refine wp_seq_i ?_ | refine wp_region_t k_l2Has rfl ?_ | refine Run.done rfl ?_ | refine then_n ?_ | refine then_r ?_ | refine then_e ?_ | refine Run.go1 rfl ?_ | refine wp_skip_i ?_ | refine wp_ret_i ?_
       | refine wp_exit_i ?_ | refine wp_block_i ?_ | refine block_n ?_ | refine block_r ?_ | refine block_e ?_ | refine block_o rfl ?_ | refine wp_cond_t rfl ?_ | refine wp_cond_f rfl ?_
       | (refine wp_cond_k rfl rfl rfl ?_ ?_ <;> intro _) | (refine wp_cond_i rfl ?_ ?_ <;> intro _))
    all_goals first
    | (exfalso; rename_i h; simp at h; done)
    | (refine ret_m [] rfl rfl ?_
       have : has l s = false := by unfold has; simpa using hI
       rw [this]; done)
    | trace_state
def k_IdxS : List (Nat × List Nat) := [(0, [0, 1]), (1, [0, 1, 7, 8]), (2, [0, 1, 7, 8, 9]), (3, [0, 1, 5, 7, 8]), (4, [0, 1, 5, 7, 8, 16]), (5, [4]), (6, [0, 1, 7, 8]), (7, [4])]
theorem IdxS_t (l : List ByteArray) (s : ByteArray) (hl : l.length ≤ 1000000000) : Tells Try.prog E0 X 72 [.t (.sl false (l.map sR)), sA s] (iA (idxS s l 0)) := by
  refine Tells.by Try.func72 (by simp [Try.f72]) (Body.i rfl rfl rfl (fun _ => rfl) fun f => ?_)
  repeat' (first
     | refine wp_seq_i ?_ | refine wp_region_t k_IdxS rfl ?_ | refine Run.done rfl ?_ | refine then_n ?_ | refine then_r ?_ | refine then_e ?_ | refine Run.go1 rfl ?_ | refine wp_skip_i ?_ | refine wp_ret_i ?_
     | refine wp_exit_i ?_ | refine wp_block_i ?_ | refine block_n ?_ | refine block_r ?_ | refine block_e ?_ | refine block_o rfl ?_ | refine wp_cond_t rfl ?_ | refine wp_cond_f rfl ?_
     | (refine wp_cond_k rfl rfl rfl ?_ ?_ <;> intro _) | (refine wp_cond_i rfl ?_ ?_ <;> intro _))
  refine wp_loop_k (α := Nat) [.keep [0, 1, 7, 8] []] (fun k => [(8, iA k)]) (fun _ => []) (fun _ => []) (fun k => k ≤ l.length ∧ idxS s (l.drop k) k = idxS s l 0) (fun k => l.length - k) 0 rfl (fun _ => rfl) rfl ⟨by simp, rfl⟩ ?_
  rintro k ⟨hk, hI⟩
  by_cases hlt : k < l.length
  · obtain ⟨t, ht⟩ : ∃ t, l[k]? = some t := ⟨_, List.getElem?_eq_getElem hlt⟩
    rw [List.drop_eq_getElem_cons hlt, (List.getElem?_eq_some_iff.1 ht).2, idxS] at hI
    have hse := str_beq s t
    have hx : (l.map sR)[k]? = some [sT t] := by rw [List.getElem?_map, ht]; rfl
    repeat' (first
       | refine wp_seq_i ?_ | refine wp_region_t k_IdxS rfl ?_ | refine Run.done rfl ?_ | refine then_n ?_ | refine then_r ?_ | refine then_e ?_ | refine Run.go1 rfl ?_ | refine wp_skip_i ?_ | refine wp_ret_i ?_
       | refine wp_exit_i ?_ | refine wp_block_i ?_ | refine block_n ?_ | refine block_r ?_ | refine block_e ?_ | refine block_o rfl ?_ | refine wp_cond_t rfl ?_ | refine wp_cond_f rfl ?_
       | refine Run.ix rfl rfl rfl rfl rfl rfl rfl hx rfl rfl rfl ?_ | (refine wp_cond_k rfl rfl rfl ?_ ?_ <;> intro _) | (refine wp_cond_i rfl ?_ ?_ <;> intro _))
    all_goals first
    | (exfalso; rename_i h; simp [hlt] at h; done)
    | (rename_i h
       refine ret_m [] rfl rfl ?_
       rw [hse] at h
       rw [← hI, if_pos (of_decide_eq_true h).symm]; done)
    | (rename_i h
       rw [hse] at h
       refine back_i [.keep [0, 1, 7, 8] []] (k + 1) rfl ?_ ⟨by omega, ?_⟩ (by omega)
       · simp only [w_succ hlt (show l.length ≤ 9223372036854775807 by omega)]
       · rw [← hI, if_neg (fun e => of_decide_eq_false h e.symm)])
    | trace_state
  · have hk : k = l.length := by omega
    subst hk
    simp [idxS] at hI
    repeat' (first
       | refine wp_seq_i ?_ | refine wp_region_t k_IdxS rfl ?_ | refine Run.done rfl ?_ | refine then_n ?_ | refine then_r ?_ | refine then_e ?_ | refine Run.go1 rfl ?_ | refine wp_skip_i ?_ | refine wp_ret_i ?_
       | refine wp_exit_i ?_ | refine wp_block_i ?_ | refine block_n ?_ | refine block_r ?_ | refine block_e ?_ | refine block_o rfl ?_ | refine wp_cond_t rfl ?_ | refine wp_cond_f rfl ?_
       | (refine wp_cond_k rfl rfl rfl ?_ ?_ <;> intro _) | (refine wp_cond_i rfl ?_ ?_ <;> intro _))
    all_goals first
    | (exfalso; rename_i h; simp at h; done)
    | (refine ret_m [] rfl rfl ?_; rw [hI]; done)
    | trace_state
theorem ConS_t (l : List ByteArray) (s : ByteArray) (hl : l.length ≤ 1000000000) : Tells Try.prog E0 X 61 [.t (.sl false (l.map sR)), sA s] (bA (has l s)) := by
  have hi := idxS_has s l 0
  refine Tells.by Try.func61 (by simp [Try.f61]) (Body.i rfl rfl rfl (fun _ => rfl) fun f => ?_)
  repeat' (first
     | refine wp_seq_i ?_ | refine wp_region_i ?_ | refine Run.done rfl ?_ | refine then_n ?_ | refine then_r ?_ | refine then_e ?_ | refine Run.go1 rfl ?_ | refine wp_skip_i ?_ | refine wp_ret_i ?_ | refine wp_exit_i ?_
     | refine wp_block_i ?_ | refine block_n ?_ | refine block_r ?_ | refine block_e ?_ | refine block_o rfl ?_ | refine wp_cond_t rfl ?_ | refine wp_cond_f rfl ?_ | refine Run.call rfl rfl rfl (IdxS_t l s hl) rfl rfl ?_
     | (refine wp_cond_k rfl rfl rfl ?_ ?_ <;> intro _) | (refine wp_cond_i rfl ?_ ?_ <;> intro _))
  all_goals (refine ret_m [] rfl rfl ?_; rw [← hi])
/-- the names that a term binds in its part at a place -/
def bndL (k : Int) (s z : ByteArray) (i : Nat) : List ByteArray :=
  if k = 4 ∨ k = 7 ∨ ((k = 6 ∨ k = 17) ∧ i = 1) then [s] else if k = 14 ∧ i = 2 then [s, z] else []
theorem bndL_len (k : Int) (s z : ByteArray) (i : Nat) : (bndL k s z i).length ≤ 2 := by
  unfold bndL
  split
  · simp
  · split <;> simp
def k_l2Binds : List (Nat × List Nat) := [(0, [1, 2]), (1, [1, 2, 5]), (2, [4]), (3, [2, 35]), (4, [4]), (5, [4])]
theorem l2Binds_t (kk nn : Int) (ss zz : ByteArray) (tk tn : Int) (ta ts : List Ty) (aa : List Tm) (i : Nat) : Tells Try.prog E0 X 58 [tmA false kk nn ss zz tk tn ta ts aa, iA i] (.t (.sl true ((bndL kk ss zz i).map sR))) := by
  have hb1 : ∀ B : Bool, decide (kk = 4 ∨ kk = 7 ∨ ((kk = 6 ∨ kk = 17) ∧ i = 1)) = B → B = true → (bndL kk ss zz i) = [ss] := fun B h hB => by unfold bndL; rw [if_pos (of_decide_eq_true (h.trans hB))]
  have hb2 : kk = 14 ∧ i = 2 → ¬(kk = 4 ∨ kk = 7 ∨ ((kk = 6 ∨ kk = 17) ∧ i = 1)) → (bndL kk ss zz i) = [ss, zz] := fun h h2 => by unfold bndL; rw [if_neg h2, if_pos h]
  have hb3 : ¬ (kk = 14 ∧ i = 2) → ¬(kk = 4 ∨ kk = 7 ∨ ((kk = 6 ∨ kk = 17) ∧ i = 1)) → (bndL kk ss zz i) = [] := fun h h2 => by unfold bndL; rw [if_neg h2, if_neg h]
  have hi1 : ((i : Int) == 1) = decide (i = 1) := by rw [Bool.eq_iff_iff]; simp; omega
  have hi2 : ((i : Int) == 2) = decide (i = 2) := by rw [Bool.eq_iff_iff]; simp; omega
  refine Tells.by Try.func58 (by simp [Try.f58]) (Body.i rfl rfl rfl (fun _ => rfl) fun f => ?_)
  repeat' (first
     | refine wp_region_tB (id := 1) 5 (decide (kk = 4 ∨ kk = 7 ∨ ((kk = 6 ∨ kk = 17) ∧ i = 1))) k_l2Binds rfl rfl rfl ?_ ?_ | refine wp_region_tB (id := 3) 35 (decide (kk = 14 ∧ i = 2)) k_l2Binds rfl rfl rfl ?_ ?_
     | refine wp_seq_i ?_ | refine wp_region_t k_l2Binds rfl ?_ | refine Run.done rfl ?_ | refine then_n ?_ | refine then_r ?_ | refine then_e ?_ | refine Run.go1 rfl ?_ | refine wp_skip_i ?_ | refine wp_ret_i ?_
     | refine wp_exit_i ?_ | refine wp_block_i ?_ | refine block_n ?_ | refine block_r ?_ | refine block_e ?_ | refine block_o rfl ?_ | refine wp_cond_t rfl ?_ | refine wp_cond_f rfl ?_ | refine Run.gT rfl rfl rfl rfl ?_
     | refine Run.pT rfl rfl ?_ | (refine Run.splitG rfl rfl rfl rfl rfl rfl ?_ ?_ <;> intro _) | (refine Run.splitP rfl rfl rfl rfl ?_ ?_ <;> intro _) | refine Run.one rfl rfl rfl ?_
     | (refine wp_cond_k rfl rfl rfl ?_ ?_ <;> intro _) | (refine wp_cond_i rfl ?_ ?_ <;> intro _))
  all_goals first
  | (refine ⟨?_⟩; clear hb1 hb2 hb3; simp_all; done)
  | (refine ⟨?_⟩; clear hb1 hb2 hb3; simp_all; omega)
  | (rename_i h; refine ret_m [] rfl rfl ?_; rw [hb1 _ rfl h]; rfl)
  | (rename_i h h2; refine ret_m [] rfl rfl ?_; rw [hb2 (of_decide_eq_true h2) (of_decide_eq_false h)]; rfl)
  | (rename_i h h2; refine ret_m [] rfl rfl ?_; rw [hb3 (of_decide_eq_false h2) (of_decide_eq_false h)]; rfl)
  | trace_state
def k_boundIn : List (Nat × List Nat) := [(0, [1, 2]), (1, [1, 2, 5]), (2, [4]), (3, [2, 31]), (4, [4]), (5, [4])]
theorem boundIn_t (kk nn : Int) (ss zz : ByteArray) (tk tn : Int) (ta ts : List Ty) (aa : List Tm) (i : Nat) : Tells Try.prog E0 X 60 [tmA false kk nn ss zz tk tn ta ts aa, iA i] (.t (.sl true ((bndL kk ss zz i).map sR))) := by
  have hb1 : ∀ B : Bool, decide (kk = 4 ∨ kk = 7 ∨ ((kk = 6 ∨ kk = 17) ∧ i = 1)) = B → B = true → (bndL kk ss zz i) = [ss] := fun B h hB => by unfold bndL; rw [if_pos (of_decide_eq_true (h.trans hB))]
  have hb2 : kk = 14 ∧ i = 2 → ¬(kk = 4 ∨ kk = 7 ∨ ((kk = 6 ∨ kk = 17) ∧ i = 1)) → (bndL kk ss zz i) = [ss, zz] := fun h h2 => by unfold bndL; rw [if_neg h2, if_pos h]
  have hb3 : ¬ (kk = 14 ∧ i = 2) → ¬(kk = 4 ∨ kk = 7 ∨ ((kk = 6 ∨ kk = 17) ∧ i = 1)) → (bndL kk ss zz i) = [] := fun h h2 => by unfold bndL; rw [if_neg h2, if_neg h]
  have hi1 : ((i : Int) == 1) = decide (i = 1) := by rw [Bool.eq_iff_iff]; simp; omega
  have hi2 : ((i : Int) == 2) = decide (i = 2) := by rw [Bool.eq_iff_iff]; simp; omega
  refine Tells.by Try.func60 (by simp [Try.f60]) (Body.i rfl rfl rfl (fun _ => rfl) fun f => ?_)
  repeat' (first
     | refine wp_region_tB (id := 1) 5 (decide (kk = 4 ∨ kk = 7 ∨ ((kk = 6 ∨ kk = 17) ∧ i = 1))) k_boundIn rfl rfl rfl ?_ ?_ | refine wp_region_tB (id := 3) 31 (decide (kk = 14 ∧ i = 2)) k_boundIn rfl rfl rfl ?_ ?_
     | refine wp_seq_i ?_ | refine wp_region_t k_boundIn rfl ?_ | refine Run.done rfl ?_ | refine then_n ?_ | refine then_r ?_ | refine then_e ?_ | refine Run.go1 rfl ?_ | refine wp_skip_i ?_ | refine wp_ret_i ?_
     | refine wp_exit_i ?_ | refine wp_block_i ?_ | refine block_n ?_ | refine block_r ?_ | refine block_e ?_ | refine block_o rfl ?_ | refine wp_cond_t rfl ?_ | refine wp_cond_f rfl ?_ | refine Run.gT rfl rfl rfl rfl ?_
     | refine Run.pT rfl rfl ?_ | (refine Run.splitG rfl rfl rfl rfl rfl rfl ?_ ?_ <;> intro _) | (refine Run.splitP rfl rfl rfl rfl ?_ ?_ <;> intro _) | refine Run.one rfl rfl rfl ?_
     | (refine wp_cond_k rfl rfl rfl ?_ ?_ <;> intro _) | (refine wp_cond_i rfl ?_ ?_ <;> intro _))
  all_goals first
  | (refine ⟨?_⟩; clear hb1 hb2 hb3; simp_all; done)
  | (refine ⟨?_⟩; clear hb1 hb2 hb3; simp_all; omega)
  | (rename_i h; refine ret_m [] rfl rfl ?_; rw [hb1 _ rfl h]; rfl)
  | (rename_i h h2; refine ret_m [] rfl rfl ?_; rw [hb2 (of_decide_eq_true h2) (of_decide_eq_false h)]; rfl)
  | (rename_i h h2; refine ret_m [.nilT 4 77] rfl rfl ?_; rw [hb3 (of_decide_eq_false h2) (of_decide_eq_false h)]; rfl)
  | trace_state
end Go.Proofs

set_option linter.unusedVariables false
set_option linter.unusedSimpArgs false
set_option maxHeartbeats 4000000
namespace Go.Proofs
open Go Go.Ev
set_option maxRecDepth 100000
variable {X : Rel3}
mutual
/-- the free names of a term, behind others -/
def frT : Tm → List ByteArray → List ByteArray → List ByteArray
  | .mk k _ s z _ _ a, bd, out => frL a k s z 0 bd (if k = 3 ∧ has bd s = false ∧ has out s = false then out ++ [s] else out)
def frL : List Tm → Int → ByteArray → ByteArray → Nat → List ByteArray → List ByteArray → List ByteArray
  | [], _, _, _, _, _, out => out
  | t :: r, k, s, z, i, bd, out => frL r k s z (i + 1) bd (frT t (bd ++ bndL k s z i) out)
end
mutual
/-- how often a name is free in a term -/
def usT : Tm → ByteArray → Nat
  | .mk k _ s z _ _ a, x => if k = 3 ∧ s = x then 1 else usL a k s z 0 x
def usL : List Tm → Int → ByteArray → ByteArray → Nat → ByteArray → Nat
  | [], _, _, _, _, _ => 0
  | t :: r, k, s, z, i, x => (if has (bndL k s z i) x = true then 0 else usT t x) + usL r k s z (i + 1) x
end
mutual
theorem frT_len : ∀ (t : Tm) (bd out : List ByteArray), (frT t bd out).length ≤ out.length + tmN t
  | .mk k n s z t ts a, bd, out => by
    rw [frT, tmN]
    have h := frL_len a k s z 0 bd (if k = 3 ∧ has bd s = false ∧ has out s = false then out ++ [s] else out)
    have h2 : (if k = 3 ∧ has bd s = false ∧ has out s = false then out ++ [s] else out).length ≤ out.length + 1 := by split <;> simp
    omega
theorem frL_len : ∀ (l : List Tm) (k : Int) (s z : ByteArray) (i : Nat) (bd out : List ByteArray), (frL l k s z i bd out).length ≤ out.length + tmNL l
  | [], k, s, z, i, bd, out => by rw [frL, tmNL]; omega
  | t :: r, k, s, z, i, bd, out => by
    rw [frL, tmNL]
    have h1 := frT_len t (bd ++ bndL k s z i) out
    have h2 := frL_len r k s z (i + 1) bd (frT t (bd ++ bndL k s z i) out)
    omega
end
mutual
theorem usT_le : ∀ (t : Tm) (x : ByteArray), usT t x ≤ tmN t
  | .mk k n s z t ts a, x => by
    rw [usT, tmN]
    have h := usL_le a k s z 0 x
    split <;> omega
theorem usL_le : ∀ (l : List Tm) (k : Int) (s z : ByteArray) (i : Nat) (x : ByteArray), usL l k s z i x ≤ tmNL l
  | [], k, s, z, i, x => by rw [usL, tmNL]; omega
  | t :: r, k, s, z, i, x => by
    rw [usL, tmNL]
    have h1 := usT_le t x
    have h2 := usL_le r k s z (i + 1) x
    split <;> omega
end
theorem tmNL_drop : ∀ (l : List Tm) (j : Nat) (x : Tm), l[j]? = some x → tmNL (l.drop j) = tmN x + tmNL (l.drop (j + 1))
  | l, j, x, h => by
    obtain ⟨hlt, rfl⟩ := List.getElem?_eq_some_iff.1 h
    rw [List.drop_eq_getElem_cons hlt, tmNL]
theorem tmDL_mem : ∀ (l : List Tm) (j : Nat) (x : Tm), l[j]? = some x → tmD x ≤ tmDL l
  | [], j, x, h => by simp at h
  | t :: r, 0, x, h => by simp at h; subst h; rw [tmDL]; omega
  | t :: r, j + 1, x, h => by
    have := tmDL_mem r j x (by simpa using h)
    rw [tmDL]; omega
theorem tmNL_mem (l : List Tm) (j : Nat) (x : Tm) (h : l[j]? = some x) : tmN x ≤ tmNL l := by have := tmNL_take l j x h; omega
theorem tmNL_dropLe (l : List Tm) (j : Nat) : tmNL (l.drop j) ≤ tmNL l := by
  induction l generalizing j with
  | nil => simp
  | cons t r ih =>
    cases j with
    | zero => simp
    | succ j => rw [List.drop_succ_cons, tmNL]; have := ih j; omega
def k_l2Free : List (Nat × List Nat) := [(0, [1, 2, 3]), (1, [1, 2, 3, 24]), (2, [1, 2, 3]), (3, [1, 2, 3, 7]), (4, [1, 2, 3, 7, 34]), (5, [1, 2, 3, 7]), (6, [1, 2, 3, 7]), (7, [6])]
theorem l2Free_t : ∀ (t : Tm) (bd out : List ByteArray), t.ok → bd.length + 2 * tmD t ≤ 900000 → out.length + tmN t ≤ 900000000 → Tells Try.prog E0 X 41 [t.a false, .t (.sl false (bd.map sR)), .t (.sl true (out.map sR))] (.t (.sl true ((frT t bd out).map sR)))
  | .mk kk nn ss zz (.mk tk tn ta) ts aa, bd, out, hok, hb, ho => by
    rw [Tm.ok] at hok
    obtain ⟨l1, l2, l3, l4, l5, l6⟩ := hok
    rw [tmD] at hb
    rw [tmN] at ho
    have c1 := l2Has_t (X := X) bd ss (by omega)
    have c2 : Tells Try.prog E0 X 49 [.t (.sl false (shrR (out.map sR))), sA ss] (bA (has out ss)) := by rw [shr_S]; exact l2Has_t out ss (by omega)
    have hfr : ∀ B : Bool, (decide (kk = 3) && !has bd ss && !has out ss) = B → frT (.mk kk nn ss zz (.mk tk tn ta) ts aa) bd out = frL aa kk ss zz 0 bd (if B = true then out ++ [ss] else out) := fun B hB => by
      rw [frT]; subst hB; congr 1; simp [and_assoc]
    generalize has bd ss = h1 at c1 hfr
    generalize has out ss = h2 at c2 hfr
    refine Tells.by Try.func41 (by simp [Try.f41]) (Body.i rfl rfl rfl (fun _ => rfl) fun f => ?_)
    repeat' (first
       | refine wp_region_tB (id := 1) 24 (decide (kk = 3) && !h1 && !h2) k_l2Free rfl rfl rfl ?_ ?_ | refine wp_seq_i ?_ | refine wp_region_t k_l2Free rfl ?_ | refine Run.done rfl ?_ | refine then_n ?_ | refine then_r ?_
       | refine then_e ?_ | refine Run.go1 rfl ?_ | refine wp_skip_i ?_ | refine wp_ret_i ?_ | refine wp_exit_i ?_ | refine wp_block_i ?_ | refine block_n ?_ | refine block_r ?_ | refine block_e ?_ | refine block_o rfl ?_
       | refine wp_cond_t rfl ?_ | refine wp_cond_f rfl ?_ | refine Run.gT rfl rfl rfl rfl ?_ | refine Run.pT rfl rfl ?_ | (refine Run.splitG rfl rfl rfl rfl rfl rfl ?_ ?_ <;> intro _)
       | (refine Run.splitP rfl rfl rfl rfl ?_ ?_ <;> intro _) | refine Run.call rfl rfl rfl (c1) rfl rfl ?_ | refine Run.callB rfl rfl rfl (c2) (by simp [AV.own, T.own]) rfl ?_
       | refine Run.cnd rfl rfl rfl ⟨by first | (simp; done) | (simp; omega) | (simp; have := bndL_len kk ss zz j; omega), (by intro r hr; first | (obtain ⟨_, _, rfl⟩ := List.mem_map.1 hr; rfl) | (rcases List.mem_append.1 hr with hr | hr <;> (obtain ⟨_, _, rfl⟩ := List.mem_map.1 hr; rfl)) | (simp at hr; subst hr; rfl) | (simp at hr; done)), (by intro r hr; first | (obtain ⟨_, _, rfl⟩ := List.mem_map.1 hr; rfl) | (rcases List.mem_append.1 hr with hr | hr <;> (obtain ⟨_, _, rfl⟩ := List.mem_map.1 hr; rfl)) | (simp at hr; subst hr; rfl) | (simp at hr; done)), .inl rfl, by first | trivial | (simp [flatT]; done)⟩ ?_
       | refine Run.one rfl rfl rfl ?_ | (refine wp_cond_k rfl rfl rfl ?_ ?_ <;> intro _) | (refine wp_cond_i rfl ?_ ?_ <;> intro _))
    all_goals first
    | (refine ⟨?_⟩; clear c1 c2 hfr; simp_all; done)
    | skip
    all_goals (
      rename_i hB
      rw [hfr _ hB]
      clear c1 c2 hfr
      first
      | (have hB := hB; rw [if_pos rfl]; generalize ho1 : out ++ [ss] = o1
         have hol : o1.length + tmNL aa ≤ 900000000 := by rw [← ho1]; simp; omega
         refine wp_loop_k (α := Nat × List ByteArray × Option Value) [.ren 29 77, .keep [1, 2, 3, 7] [3, 77]] (fun p => [(7, iA p.1)]) (fun _ => []) (fun p => [(77, ⟨0, p.2.2⟩, p.2.1.map sR)]) (fun p => (p.1 ≤ aa.length ∧ p.2.1.length + tmNL (aa.drop p.1) ≤ 900000000) ∧ frL (aa.drop p.1) kk ss zz p.1 bd p.2.1 = frL aa kk ss zz 0 bd o1) (fun p => aa.length - p.1) (0, o1, none) rfl (fun _ => rfl) (by simp only [← ho1, List.map_append]; rfl) ⟨⟨Nat.zero_le _, hol⟩, rfl⟩ ?_)
      | (have hB := hB; rw [if_neg (by decide)]; generalize ho1 : out = o1
         have hol : o1.length + tmNL aa ≤ 900000000 := by rw [← ho1]; omega
         refine wp_loop_k (α := Nat × List ByteArray × Option Value) [.ren 300000 77, .keep [1, 2, 3, 7] [3, 77]] (fun p => [(7, iA p.1)]) (fun _ => []) (fun p => [(77, ⟨0, p.2.2⟩, p.2.1.map sR)]) (fun p => (p.1 ≤ aa.length ∧ p.2.1.length + tmNL (aa.drop p.1) ≤ 900000000) ∧ frL (aa.drop p.1) kk ss zz p.1 bd p.2.1 = frL aa kk ss zz 0 bd o1) (fun p => aa.length - p.1) (0, o1, some (f 300000)) rfl (fun _ => rfl) (by simp only [← ho1]; rfl) ⟨⟨Nat.zero_le _, hol⟩, rfl⟩ ?_))
    all_goals (
      clear hB
      rintro ⟨j, o, V⟩ ⟨⟨hj, hol2⟩, hI⟩
      simp only at hj hol2 hI
      by_cases hlt : j < aa.length
      · obtain ⟨t, ht⟩ : ∃ t, aa[j]? = some t := ⟨_, List.getElem?_eq_getElem hlt⟩
        have hjd : decide ((j : Int) < ((aa.map (Tm.c false)).length : Int)) = true := by rw [List.length_map]; simpa using hlt
        have hbn := bndL_len kk ss zz j
        have hnd := tmNL_drop aa j t ht
        have hdm := tmDL_mem aa j t ht
        rw [List.drop_eq_getElem_cons hlt, (List.getElem?_eq_some_iff.1 ht).2, frL] at hI
        have hfl := frT_len t (bd ++ bndL kk ss zz j) o
        have c3 := l2Binds_t (X := X) kk nn ss zz tk tn ta ts aa j
        have c4 : Tells Try.prog E0 X 41 [t.a false, .t (.sl false (shrR (bd.map sR ++ (bndL kk ss zz j).map sR))), .t (.sl true (o.map sR))] (.t (.sl true ((frT t (bd ++ bndL kk ss zz j) o).map sR))) := by rw [← List.map_append, shr_S]; exact l2Free_t t (bd ++ bndL kk ss zz j) o (Tm.okL_iff.1 l6 t (List.mem_of_getElem? ht)) (by simp; omega) (by omega)
        generalize frT t (bd ++ bndL kk ss zz j) o = q at hI hfl c4
        obtain ⟨k2, n2, y2, z2, ⟨tk2, tn2, ta2⟩, ts2, a2⟩ := t
        have hx : (aa.map (Tm.c false))[j]? = some [iT k2, iT n2, sT y2, sT z2, iT tk2, iT tn2, .sl false (ta2.map (Ty.c false)), .sl false (ts2.map (Ty.c false)), .sl false (a2.map (Tm.c false))] := by rw [List.getElem?_map, ht]; exact congrArg some (Tm.c_mk ..)
        repeat' (first
           | refine wp_seq_i ?_ | refine wp_region_t k_l2Free rfl ?_ | refine Run.done rfl ?_ | refine then_n ?_ | refine then_r ?_ | refine then_e ?_ | refine Run.go1 rfl ?_ | refine wp_skip_i ?_ | refine wp_ret_i ?_
           | refine wp_exit_i ?_ | refine wp_block_i ?_ | refine block_n ?_ | refine block_r ?_ | refine block_e ?_ | refine block_o rfl ?_ | refine wp_cond_t rfl ?_ | refine wp_cond_f rfl ?_ | refine RunQ.go1 rfl ?_
           | refine RunQ.done rfl ?_ | refine wp_region_l k_l2Free [0, 1, 2, 3, 4, 5, 6, 8, 9, 12] [7, 10, 11, 13] [0, 1, 0, 7, 15, 0, 0, 96, 0, 0, 992, 2016, 0, 8191, 16383] rfl (by decide +kernel) (by decide +kernel) rfl rfl ?_
           | refine RunL.callR rfl rfl rfl rfl (c3) (.inl rfl) rfl ?_ ?_ | refine RunL.callR rfl rfl rfl rfl (c4) (.inr (by simp [AV.own, T.own, own_S])) rfl ?_ ?_ | refine RepL.done rfl | refine RepL.skip rfl ?_
           | refine RepL.ix rfl rfl rfl rfl rfl rfl rfl rfl rfl hx rfl rfl rfl ?_ | refine RepL.one rfl rfl rfl rfl rfl rfl ?_ | refine RepL.off rfl rfl rfl rfl rfl ?_ | refine RunL.one rfl rfl rfl rfl rfl ?_ | refine RunL.done ?_
           | refine RunL.cndR rfl rfl rfl rfl ⟨by first | (simp; done) | (simp; omega) | (simp; have := bndL_len kk ss zz j; omega), (by intro r hr; first | (obtain ⟨_, _, rfl⟩ := List.mem_map.1 hr; rfl) | (rcases List.mem_append.1 hr with hr | hr <;> (obtain ⟨_, _, rfl⟩ := List.mem_map.1 hr; rfl)) | (simp at hr; subst hr; rfl) | (simp at hr; done)), (by intro r hr; first | (obtain ⟨_, _, rfl⟩ := List.mem_map.1 hr; rfl) | (rcases List.mem_append.1 hr with hr | hr <;> (obtain ⟨_, _, rfl⟩ := List.mem_map.1 hr; rfl)) | (simp at hr; subst hr; rfl) | (simp at hr; done)), .inl rfl, by first | trivial | (simp [flatT]; done)⟩ ?_ ?_
           | refine RunQ.build rfl rfl rfl rfl rfl rfl ?_ | refine RunQ.ix rfl rfl rfl rfl rfl rfl rfl hx rfl rfl rfl ?_ | refine Run.ix rfl rfl rfl rfl rfl rfl rfl hx rfl rfl rfl ?_
           | refine Run.cnd rfl rfl rfl ⟨by first | (simp; done) | (simp; omega) | (simp; have := bndL_len kk ss zz j; omega), (by intro r hr; first | (obtain ⟨_, _, rfl⟩ := List.mem_map.1 hr; rfl) | (rcases List.mem_append.1 hr with hr | hr <;> (obtain ⟨_, _, rfl⟩ := List.mem_map.1 hr; rfl)) | (simp at hr; subst hr; rfl) | (simp at hr; done)), (by intro r hr; first | (obtain ⟨_, _, rfl⟩ := List.mem_map.1 hr; rfl) | (rcases List.mem_append.1 hr with hr | hr <;> (obtain ⟨_, _, rfl⟩ := List.mem_map.1 hr; rfl)) | (simp at hr; subst hr; rfl) | (simp at hr; done)), .inl rfl, by first | trivial | (simp [flatT]; done)⟩ ?_
           | refine Run.one rfl rfl rfl ?_ | (refine wp_cond_k rfl rfl rfl ?_ ?_ <;> intro _) | (refine wp_cond_i rfl ?_ ?_ <;> intro _))
        all_goals first
        | (exfalso; rename_i h; rw [hjd] at h; cases h; done)
        | (refine back_i [.keep [1, 2, 3, 7] [3, 50], .ren 50 77] (j + 1, q, none) rfl ?_ ⟨⟨by simp; omega, by simp only; omega⟩, hI⟩ (by simp; omega)
           simp only [w_succ hlt (show aa.length ≤ 9223372036854775807 by omega)]; first | done | rfl)
        | trace_state
      · have hjl : j = aa.length := by omega
        subst hjl
        have hjd : decide ((aa.length : Int) < ((aa.map (Tm.c false)).length : Int)) = false := by rw [List.length_map]; simp
        rw [List.drop_length, frL] at hI
        repeat' (first
           | refine wp_seq_i ?_ | refine wp_region_t k_l2Free rfl ?_ | refine Run.done rfl ?_ | refine then_n ?_ | refine then_r ?_ | refine then_e ?_ | refine Run.go1 rfl ?_ | refine wp_skip_i ?_ | refine wp_ret_i ?_
           | refine wp_exit_i ?_ | refine wp_block_i ?_ | refine block_n ?_ | refine block_r ?_ | refine block_e ?_ | refine block_o rfl ?_ | refine wp_cond_t rfl ?_ | refine wp_cond_f rfl ?_
           | (refine wp_cond_k rfl rfl rfl ?_ ?_ <;> intro _) | (refine wp_cond_i rfl ?_ ?_ <;> intro _))
        all_goals first
        | (exfalso; rename_i h; rw [hjd] at h; cases h; done)
        | (refine ret_m [] rfl rfl ?_; rw [← hI]; done)
        | trace_state)
  termination_by t => SizeOf.sizeOf t
  decreasing_by
    all_goals (have hsz := List.sizeOf_lt_of_mem (List.mem_of_getElem? ht); simp; omega)
def k_l18Uses : List (Nat × List Nat) := [(0, [1, 2]), (1, [1, 2, 15]), (2, [4]), (3, [1, 2, 5]), (4, [1, 2, 5, 6]), (5, [1, 2, 5, 6, 20]), (6, [1, 2, 5, 6]), (7, [1, 2, 5, 6, 28]), (8, [1, 2, 5, 6]), (9, [4])]
theorem l18Uses_t : ∀ (t : Tm) (x : ByteArray), t.ok → tmN t ≤ 900000000 → Tells Try.prog E0 X 59 [t.a false, sA x] (iA (usT t x))
  | .mk kk nn ss zz (.mk tk tn ta) ts aa, x, hok, hn => by
    rw [Tm.ok] at hok
    obtain ⟨l1, l2, l3, l4, l5, l6⟩ := hok
    rw [tmN] at hn
    have hse := str_beq ss x
    refine Tells.by Try.func59 (by simp [Try.f59]) (Body.i rfl rfl rfl (fun _ => rfl) fun f => ?_)
    repeat' (first
       | refine wp_region_tB (id := 1) 15 (decide (kk = 3) && (ss.toList == x.toList)) k_l18Uses rfl rfl rfl ?_ ?_ | refine wp_seq_i ?_ | refine wp_region_t k_l18Uses rfl ?_ | refine Run.done rfl ?_ | refine then_n ?_
       | refine then_r ?_ | refine then_e ?_ | refine Run.go1 rfl ?_ | refine wp_skip_i ?_ | refine wp_ret_i ?_ | refine wp_exit_i ?_ | refine wp_block_i ?_ | refine block_n ?_ | refine block_r ?_ | refine block_e ?_
       | refine block_o rfl ?_ | refine wp_cond_t rfl ?_ | refine wp_cond_f rfl ?_ | refine Run.gT rfl rfl rfl rfl ?_ | refine Run.pT rfl rfl ?_ | (refine Run.splitG rfl rfl rfl rfl rfl rfl ?_ ?_ <;> intro _)
       | (refine Run.splitP rfl rfl rfl rfl ?_ ?_ <;> intro _) | refine Run.one rfl rfl rfl ?_ | (refine wp_cond_k rfl rfl rfl ?_ ?_ <;> intro _) | (refine wp_cond_i rfl ?_ ?_ <;> intro _))
    all_goals first
    | (refine ⟨?_⟩; clear hse; simp_all; done)
    | (rename_i h; refine ret_m [] rfl rfl ?_; rw [hse] at h; rw [usT, if_pos (by simpa using h)]; first | done | rfl)
    | skip
    rename_i hB
    have hus : usT (.mk kk nn ss zz (.mk tk tn ta) ts aa) x = usL aa kk ss zz 0 x := by rw [hse] at hB; rw [usT, if_neg (by simpa using hB)]
    rw [hus]
    have hub := usL_le aa kk ss zz 0 x
    clear hB hse
    refine wp_loop_k (α := Nat × Nat) [.keep [1, 2, 5, 6] [2]] (fun p => [(5, iA p.2), (6, iA p.1)]) (fun _ => []) (fun _ => []) (fun p => p.1 ≤ aa.length ∧ p.2 + usL (aa.drop p.1) kk ss zz p.1 x = usL aa kk ss zz 0 x) (fun p => aa.length - p.1) (0, 0) rfl (fun _ => rfl) rfl ⟨Nat.zero_le _, by simp⟩ ?_
    rintro ⟨j, m⟩ ⟨hj, hI⟩
    simp only at hj hI
    by_cases hlt : j < aa.length
    · obtain ⟨t, ht⟩ : ∃ t, aa[j]? = some t := ⟨_, List.getElem?_eq_getElem hlt⟩
      have hjd : decide ((j : Int) < ((aa.map (Tm.c false)).length : Int)) = true := by rw [List.length_map]; simpa using hlt
      have hnm := tmNL_mem aa j t ht
      have hbn := bndL_len kk ss zz j
      rw [List.drop_eq_getElem_cons hlt, (List.getElem?_eq_some_iff.1 ht).2, usL] at hI
      have c3 := l2Binds_t (X := X) kk nn ss zz tk tn ta ts aa j
      have c4 : Tells Try.prog E0 X 49 [.t (.sl false (shrR ((bndL kk ss zz j).map sR))), sA x] (bA (has (bndL kk ss zz j) x)) := by rw [shr_S]; exact l2Has_t _ _ (by omega)
      have c5 := l18Uses_t t x (Tm.okL_iff.1 l6 t (List.mem_of_getElem? ht)) (by omega)
      have hul := usT_le t x
      generalize usT t x = u at hI c5 hul
      generalize has (bndL kk ss zz j) x = hB at hI c4
      have hw : IntKind.i64.wrap ((m : Int) + (u : Int)) = ((m + u : Nat) : Int) := by rw [w64] <;> omega
      obtain ⟨k2, n2, y2, z2, ⟨tk2, tn2, ta2⟩, ts2, a2⟩ := t
      have hx : (aa.map (Tm.c false))[j]? = some [iT k2, iT n2, sT y2, sT z2, iT tk2, iT tn2, .sl false (ta2.map (Ty.c false)), .sl false (ts2.map (Ty.c false)), .sl false (a2.map (Tm.c false))] := by rw [List.getElem?_map, ht]; exact congrArg some (Tm.c_mk ..)
      repeat' (first
         | refine wp_seq_i ?_ | refine wp_region_t k_l18Uses rfl ?_ | refine Run.done rfl ?_ | refine then_n ?_ | refine then_r ?_ | refine then_e ?_ | refine Run.go1 rfl ?_ | refine wp_skip_i ?_ | refine wp_ret_i ?_
         | refine wp_exit_i ?_ | refine wp_block_i ?_ | refine block_n ?_ | refine block_r ?_ | refine block_e ?_ | refine block_o rfl ?_ | refine wp_cond_t rfl ?_ | refine wp_cond_f rfl ?_
         | refine Run.call rfl rfl rfl (c3) rfl rfl ?_ | refine Run.callB rfl rfl rfl (c4) (by simp [AV.own, T.own]) rfl ?_ | refine Run.call rfl rfl rfl (c5) rfl rfl ?_
         | refine Run.ix rfl rfl rfl rfl rfl rfl rfl hx rfl rfl rfl ?_
         | refine Run.cnd rfl rfl rfl ⟨by first | (simp; done) | (simp; omega) | (simp; have := bndL_len kk ss zz j; omega), (by intro r hr; first | (obtain ⟨_, _, rfl⟩ := List.mem_map.1 hr; rfl) | (rcases List.mem_append.1 hr with hr | hr <;> (obtain ⟨_, _, rfl⟩ := List.mem_map.1 hr; rfl)) | (simp at hr; subst hr; rfl) | (simp at hr; done)), (by intro r hr; first | (obtain ⟨_, _, rfl⟩ := List.mem_map.1 hr; rfl) | (rcases List.mem_append.1 hr with hr | hr <;> (obtain ⟨_, _, rfl⟩ := List.mem_map.1 hr; rfl)) | (simp at hr; subst hr; rfl) | (simp at hr; done)), .inl rfl, by first | trivial | (simp [flatT]; done)⟩ ?_
         | refine Run.one rfl rfl rfl ?_ | (refine wp_cond_k rfl rfl rfl ?_ ?_ <;> intro _) | (refine wp_cond_i rfl ?_ ?_ <;> intro _))
      all_goals first
      | (exfalso; rename_i h; rw [hjd] at h; cases h; done)
      | (rename_i h
         have h : hB = false := by simpa using h
         rw [if_neg (by simp [h])] at hI
         refine back_i [.keep [1, 2, 5, 6] [2]] (j + 1, m + u) rfl ?_ ⟨by simp; omega, by simp only; omega⟩ (by simp; omega)
         simp only [w_succ hlt (show aa.length ≤ 9223372036854775807 by omega), hw]; first | done | rfl)
      | (rename_i h
         have h : hB = true := by simpa using h
         rw [if_pos h] at hI
         refine back_i [.keep [1, 2, 5, 6] [2]] (j + 1, m) rfl ?_ ⟨by simp; omega, by simp only; omega⟩ (by simp; omega)
         simp only [w_succ hlt (show aa.length ≤ 9223372036854775807 by omega)]; first | done | rfl)
      | trace_state
    · have hjl : j = aa.length := by omega
      subst hjl
      have hjd : decide ((aa.length : Int) < ((aa.map (Tm.c false)).length : Int)) = false := by rw [List.length_map]; simp
      rw [List.drop_length, usL] at hI
      repeat' (first
         | refine wp_seq_i ?_ | refine wp_region_t k_l18Uses rfl ?_ | refine Run.done rfl ?_ | refine then_n ?_ | refine then_r ?_ | refine then_e ?_ | refine Run.go1 rfl ?_ | refine wp_skip_i ?_ | refine wp_ret_i ?_
         | refine wp_exit_i ?_ | refine wp_block_i ?_ | refine block_n ?_ | refine block_r ?_ | refine block_e ?_ | refine block_o rfl ?_ | refine wp_cond_t rfl ?_ | refine wp_cond_f rfl ?_
         | (refine wp_cond_k rfl rfl rfl ?_ ?_ <;> intro _) | (refine wp_cond_i rfl ?_ ?_ <;> intro _))
      all_goals first
      | (exfalso; rename_i h; rw [hjd] at h; cases h; done)
      | (refine ret_m [] rfl rfl ?_; rw [← hI]; rfl)
      | trace_state
  termination_by t => SizeOf.sizeOf t
  decreasing_by
    all_goals (have hsz := List.sizeOf_lt_of_mem (List.mem_of_getElem? ht); simp; omega)
def k_usesIn : List (Nat × List Nat) := [(0, [1, 2]), (1, [1, 2, 16]), (2, [4]), (3, [1, 2, 5]), (4, [1, 2, 5, 18, 19, 20]), (5, [1, 2, 5, 18, 19, 20, 21]), (6, [1, 2, 5, 6, 7, 18, 19, 20]), (7, [1, 2, 5, 7, 18, 19, 20, 30]), (8, [1, 2, 5, 18, 19, 20]), (9, [1, 2, 5, 18, 19, 20]), (10, [4])]
theorem usesIn_t : ∀ (t : Tm) (x : ByteArray), t.ok → tmN t ≤ 900000000 → Tells Try.prog E0 X 62 [t.a false, sA x] (iA (usT t x))
  | .mk kk nn ss zz (.mk tk tn ta) ts aa, x, hok, hn => by
    rw [Tm.ok] at hok
    obtain ⟨l1, l2, l3, l4, l5, l6⟩ := hok
    rw [tmN] at hn
    have hse := str_beq ss x
    refine Tells.by Try.func62 (by simp [Try.f62]) (Body.i rfl rfl rfl (fun _ => rfl) fun f => ?_)
    repeat' (first
       | refine wp_region_tB (id := 1) 16 (decide (kk = 3) && (ss.toList == x.toList)) k_usesIn rfl rfl rfl ?_ ?_ | refine wp_seq_i ?_ | refine wp_region_t k_usesIn rfl ?_ | refine Run.done rfl ?_ | refine then_n ?_
       | refine then_r ?_ | refine then_e ?_ | refine Run.go1 rfl ?_ | refine wp_skip_i ?_ | refine wp_ret_i ?_ | refine wp_exit_i ?_ | refine wp_block_i ?_ | refine block_n ?_ | refine block_r ?_ | refine block_e ?_
       | refine block_o rfl ?_ | refine wp_cond_t rfl ?_ | refine wp_cond_f rfl ?_ | refine Run.gT rfl rfl rfl rfl ?_ | refine Run.pT rfl rfl ?_ | (refine Run.splitG rfl rfl rfl rfl rfl rfl ?_ ?_ <;> intro _)
       | (refine Run.splitP rfl rfl rfl rfl ?_ ?_ <;> intro _) | refine Run.one rfl rfl rfl ?_ | (refine wp_cond_k rfl rfl rfl ?_ ?_ <;> intro _) | (refine wp_cond_i rfl ?_ ?_ <;> intro _))
    all_goals first
    | (refine ⟨?_⟩; clear hse; simp_all; done)
    | (rename_i h; refine ret_m [] rfl rfl ?_; rw [hse] at h; rw [usT, if_pos (by simpa using h)]; first | done | rfl)
    | skip
    rename_i hB
    have hus : usT (.mk kk nn ss zz (.mk tk tn ta) ts aa) x = usL aa kk ss zz 0 x := by rw [hse] at hB; rw [usT, if_neg (by simpa using hB)]
    rw [hus]
    have hub := usL_le aa kk ss zz 0 x
    clear hB hse
    refine wp_loop_k (α := Nat × Nat) [.keep [1, 2, 5, 18, 19, 20] [2]] (fun p => [(5, iA p.2), (20, iA p.1)]) (fun _ => []) (fun _ => []) (fun p => p.1 ≤ aa.length ∧ p.2 + usL (aa.drop p.1) kk ss zz p.1 x = usL aa kk ss zz 0 x) (fun p => aa.length - p.1) (0, 0) rfl (fun _ => rfl) rfl ⟨Nat.zero_le _, by simp⟩ ?_
    rintro ⟨j, m⟩ ⟨hj, hI⟩
    simp only at hj hI
    by_cases hlt : j < aa.length
    · obtain ⟨t, ht⟩ : ∃ t, aa[j]? = some t := ⟨_, List.getElem?_eq_getElem hlt⟩
      have hjd : decide ((j : Int) < ((aa.map (Tm.c false)).length : Int)) = true := by rw [List.length_map]; simpa using hlt
      have hnm := tmNL_mem aa j t ht
      have hbn := bndL_len kk ss zz j
      rw [List.drop_eq_getElem_cons hlt, (List.getElem?_eq_some_iff.1 ht).2, usL] at hI
      have c3 := boundIn_t (X := X) kk nn ss zz tk tn ta ts aa j
      have c4 : Tells Try.prog E0 X 61 [.t (.sl false (shrR ((bndL kk ss zz j).map sR))), sA x] (bA (has (bndL kk ss zz j) x)) := by rw [shr_S]; exact ConS_t _ _ (by omega)
      have c5 := usesIn_t t x (Tm.okL_iff.1 l6 t (List.mem_of_getElem? ht)) (by omega)
      have hul := usT_le t x
      generalize usT t x = u at hI c5 hul
      generalize has (bndL kk ss zz j) x = hB at hI c4
      have hw : IntKind.i64.wrap ((m : Int) + (u : Int)) = ((m + u : Nat) : Int) := by rw [w64] <;> omega
      obtain ⟨k2, n2, y2, z2, ⟨tk2, tn2, ta2⟩, ts2, a2⟩ := t
      have hx : (aa.map (Tm.c false))[j]? = some [iT k2, iT n2, sT y2, sT z2, iT tk2, iT tn2, .sl false (ta2.map (Ty.c false)), .sl false (ts2.map (Ty.c false)), .sl false (a2.map (Tm.c false))] := by rw [List.getElem?_map, ht]; exact congrArg some (Tm.c_mk ..)
      repeat' (first
         | refine wp_seq_i ?_ | refine wp_region_t k_usesIn rfl ?_ | refine Run.done rfl ?_ | refine then_n ?_ | refine then_r ?_ | refine then_e ?_ | refine Run.go1 rfl ?_ | refine wp_skip_i ?_ | refine wp_ret_i ?_
         | refine wp_exit_i ?_ | refine wp_block_i ?_ | refine block_n ?_ | refine block_r ?_ | refine block_e ?_ | refine block_o rfl ?_ | refine wp_cond_t rfl ?_ | refine wp_cond_f rfl ?_
         | refine Run.call rfl rfl rfl (c3) rfl rfl ?_ | refine Run.callB rfl rfl rfl (c4) (by simp [AV.own, T.own]) rfl ?_ | refine Run.call rfl rfl rfl (c5) rfl rfl ?_
         | refine Run.ix rfl rfl rfl rfl rfl rfl rfl hx rfl rfl rfl ?_
         | refine Run.cnd rfl rfl rfl ⟨by first | (simp; done) | (simp; omega) | (simp; have := bndL_len kk ss zz j; omega), (by intro r hr; first | (obtain ⟨_, _, rfl⟩ := List.mem_map.1 hr; rfl) | (rcases List.mem_append.1 hr with hr | hr <;> (obtain ⟨_, _, rfl⟩ := List.mem_map.1 hr; rfl)) | (simp at hr; subst hr; rfl) | (simp at hr; done)), (by intro r hr; first | (obtain ⟨_, _, rfl⟩ := List.mem_map.1 hr; rfl) | (rcases List.mem_append.1 hr with hr | hr <;> (obtain ⟨_, _, rfl⟩ := List.mem_map.1 hr; rfl)) | (simp at hr; subst hr; rfl) | (simp at hr; done)), .inl rfl, by first | trivial | (simp [flatT]; done)⟩ ?_
         | refine Run.one rfl rfl rfl ?_ | (refine wp_cond_k rfl rfl rfl ?_ ?_ <;> intro _) | (refine wp_cond_i rfl ?_ ?_ <;> intro _))
      all_goals first
      | (exfalso; rename_i h; rw [hjd] at h; cases h; done)
      | (rename_i h
         have h : hB = false := by simpa using h
         rw [if_neg (by simp [h])] at hI
         refine back_i [.keep [1, 2, 5, 18, 19, 20] [2]] (j + 1, m + u) rfl ?_ ⟨by simp; omega, by simp only; omega⟩ (by simp; omega)
         simp only [w_succ hlt (show aa.length ≤ 9223372036854775807 by omega), hw]; first | done | rfl)
      | (rename_i h
         have h : hB = true := by simpa using h
         rw [if_pos h] at hI
         refine back_i [.keep [1, 2, 5, 18, 19, 20] [2]] (j + 1, m) rfl ?_ ⟨by simp; omega, by simp only; omega⟩ (by simp; omega)
         simp only [w_succ hlt (show aa.length ≤ 9223372036854775807 by omega)]; first | done | rfl)
      | trace_state
    · have hjl : j = aa.length := by omega
      subst hjl
      have hjd : decide ((aa.length : Int) < ((aa.map (Tm.c false)).length : Int)) = false := by rw [List.length_map]; simp
      rw [List.drop_length, usL] at hI
      repeat' (first
         | refine wp_seq_i ?_ | refine wp_region_t k_usesIn rfl ?_ | refine Run.done rfl ?_ | refine then_n ?_ | refine then_r ?_ | refine then_e ?_ | refine Run.go1 rfl ?_ | refine wp_skip_i ?_ | refine wp_ret_i ?_
         | refine wp_exit_i ?_ | refine wp_block_i ?_ | refine block_n ?_ | refine block_r ?_ | refine block_e ?_ | refine block_o rfl ?_ | refine wp_cond_t rfl ?_ | refine wp_cond_f rfl ?_
         | (refine wp_cond_k rfl rfl rfl ?_ ?_ <;> intro _) | (refine wp_cond_i rfl ?_ ?_ <;> intro _))
      all_goals first
      | (exfalso; rename_i h; rw [hjd] at h; cases h; done)
      | (refine ret_m [] rfl rfl ?_; rw [← hI]; rfl)
      | trace_state
  termination_by t => SizeOf.sizeOf t
  decreasing_by
    all_goals (have hsz := List.sizeOf_lt_of_mem (List.mem_of_getElem? ht); simp; omega)
end Go.Proofs

set_option linter.unusedVariables false
set_option linter.unusedSimpArgs false
set_option maxHeartbeats 4000000
namespace Go.Proofs
open Go Go.Ev Go.RowKit
set_option maxRecDepth 100000
theorem Try.info_str : (Try.prog.info? 9).map (fun i => (i.zero, i.size, i.bytes)) = some (some (.string ByteArray.empty), 1, 16) := by kernel_rfl
theorem Try.und57 : Try.prog.underlying 57 = some (.slice 9) := by kernel_rfl
theorem Try.und3 : Try.prog.underlying 3 = some (.int .i64) := by kernel_rfl
theorem info_s : ∃ i, Try.prog.info? 9 = some i ∧ i.zero = some (.string ByteArray.empty) ∧ i.size = 1 ∧ i.bytes = 16 := by
  have h := Try.info_str
  cases hi : Try.prog.info? 9 with
  | none => rw [hi] at h; simp at h
  | some i => rw [hi] at h; simp at h; exact ⟨i, rfl, h.1, h.2.1, h.2.2⟩
/-- slices.Grow(nil, n) -/
theorem grow_c (n : Nat) (hn : n ≤ 100000000) (w : World) : Calls Try.prog 90 #[.slice none 0 0, .int .i64 n] w fun e w' => ∃ v, e = .returned v ∧ w'.ownsRow w.heap.size 9 1 v 0 [] ∧ Below w.heap.size w w' ∧ (n = 0 → v = .slice none 0 0) := by
  obtain ⟨i, hi, hz, hs, hby⟩ := info_s
  by_cases h0 : n = 0
  · subst h0
    go_enter Try.func90, Try.ntmps90
    go_wp2
    go_ret
    exact ⟨_, rfl, World.ownsRow_nil _ _ _ _, Below.refl _ _, fun _ => rfl⟩
  · have hrun := Lib.run_append_nil_zeros (P := Try.prog) w 57 3 57 9 i (.string ByteArray.empty) .i64 .i64 Try.und57 Try.und3 hi hz n (by omega) (by omega) (by omega) (by rw [hby]; omega)
    go_enter Try.func90, Try.ntmps90
    go_wp2_with (at_builtin; refine Lib.wpList_append_run _ rfl _ _ _ _ rfl _ _ rfl rfl _ _ hrun ?_)
    go_ret
    have hge := grownCap_ge w n 0 9
    have hm := grownCap_le_maxLen w n 0 9 (by unfold maxLen; omega)
    have hb : Below w.heap.size w (w.alloc (Obj.cells (Builtin.zeroCells #[Value.string ByteArray.empty] n ++ Builtin.zeroCells #[Value.string ByteArray.empty] (grownCap w n 0 9 - n)) 9)) := (Below.refl _ w).alloc (Nat.le_refl _) _
    refine ⟨_, rfl, ?_, ⟨hb.os, hb.tape, hb.output, hb.size, hb.block⟩, fun h => absurd h h0⟩
    show (w.alloc _).ownsRow _ _ _ _ _ _
    exact World.ownsRow_made w _ _ (Nat.le_refl _) hm (by rw [Array.size_append, size_zeroCells, size_zeroCells]; show n * 1 + (grownCap w n 0 9 - n) * 1 = _; omega)
/-- a slice's values, to be read -/
def SrcS (w : World) (v : Value) (l : List Value) : Prop := ∃ A c, v = .slice A l.length c ∧ (A = none → c = 0) ∧ (∀ a, A = some a → (∀ (j : Nat) (u : Value), l[j]? = some u → w.cell? (a.add j) = some u)) ∧ (∀ u ∈ l, u.oneCell' = true) ∧ (A = none → l = [])
theorem app_any (w : World) (v x : Value) (n : Nat) (xs news : List Value) (base : Nat) (hown : w.ownsRow base 9 1 v n xs) (hx : SrcS w x news) (hb : base ≤ w.heap.size) (hl : n + news.length ≤ 1000000000) :
    ∃ v' w', (Builtin.append_ #[57, 57] 57 #[v, x]).run Try.prog w = .ok v' w' ∧ w'.ownsRow base 9 1 v' (n + news.length) (xs ++ news) ∧ w.grownBy w' v.ownBlock ∧ (news = [] → v = .slice none 0 0 → v' = .slice none 0 0) := by
  obtain ⟨i, hi, hz, hs, hby⟩ := info_s
  obtain ⟨A, c, rfl, hc, hcells, hone, hnil⟩ := hx
  cases A with
  | none =>
    have e := hnil rfl
    subst e
    have hc0 := hc rfl
    subst hc0
    refine ⟨v, w, ?_, by simpa using hown, ⟨rfl, rfl, rfl, Nat.le_refl _, fun _ _ _ => rfl⟩, fun _ h => h⟩
    rcases hown.2 with ⟨rfl, rfl⟩ | ⟨g, cap, cur, rfl, _, _, hn, _⟩
    · exact run_app_none 57 57 9 i Try.und57 hi none 0 0 (Nat.le_refl _)
    · exact run_app_none 57 57 9 i Try.und57 hi _ _ _ hn
  | some a =>
    obtain ⟨v', w', h1, h2, h3, h4⟩ := run_append_own (P := Try.prog) w base 57 57 9 i (.string ByteArray.empty) 1 16 Try.und57 hi hz hs hby rfl (by decide) v n xs hown a news.length c news (by omega) (hcells a rfl) hone (by unfold maxLen; omega) (by omega) hb
    exact ⟨v', w', h1, h2, h3, fun e1 e2 => h4.2 ⟨e2, by rw [e1]; rfl⟩⟩
theorem SrcS.below {w w' : World} {v : Value} {l : List Value} (h : SrcS w v l) (hb : Below w.heap.size w w') : SrcS w' v l := by
  obtain ⟨A, c, rfl, hc, hcells, hone, hnil⟩ := h
  exact ⟨A, c, rfl, hc, fun a ha j u hu => (World.cell?_of_block (hb.block _ (World.block_lt_of_cell? w _ (hcells a ha j u hu)))).trans (hcells a ha j u hu), hone, hnil⟩
def sumK (n1 n2 k : Nat) : Nat := if k = 0 then 0 else if k = 1 then n1 else n1 + n2
theorem concat_c (w : World) (b0 off0 cap0 : Nat) (s1 s2 : Value) (l1 l2 : List Value) (h1 : w.cell? ⟨b0, off0, none⟩ = some s1) (h2 : w.cell? ⟨b0, off0 + 1, none⟩ = some s2) (f1 : SrcS w s1 l1) (f2 : SrcS w s2 l2) (hl : l1.length + l2.length ≤ 1000000) :
    Calls Try.prog 74 #[.slice (some ⟨b0, off0, none⟩) 2 cap0] w fun e w' => ∃ v, e = .returned v ∧ w'.ownsRow w.heap.size 9 1 v (l1 ++ l2).length (l1 ++ l2) ∧ Below w.heap.size w w' ∧ (l1 ++ l2 = [] → v = .slice none 0 0) := by
  have F1 := f1
  have F2 := f2
  have hb0 := World.block_lt_of_cell? w _ h1
  obtain ⟨A1, c1, rfl, -⟩ := f1
  obtain ⟨A2, c2, rfl, -⟩ := f2
  have e1 : IntKind.i64.wrap (((0 : Nat) : Int) + (l1.length : Int)) = (l1.length : Int) := by rw [IntKind.wrap_i64]; omega
  have e2 : IntKind.i64.wrap ((l1.length : Int) + (l2.length : Int)) = ((l1.length + l2.length : Nat) : Int) := by rw [IntKind.wrap_i64]; omega
  go_enter Try.func74, Try.ntmps74
  go_wp2
  go_loopw [3, 11] (fun s i wr => ∃ k : Nat, k ≤ 2 ∧ i = .int .i64 k ∧ s = .int .i64 (sumK l1.length l2.length k : Nat) ∧ w = wr) (fun _ i _ => 2 - (intOf i).toNat)
  case atStart => exact ⟨0, by omega, rfl, rfl, rfl⟩
  case round =>
    obtain ⟨k, hk, rfl, rfl, rfl⟩ := hrel
    rcases (show k = 0 ∨ k = 1 ∨ k = 2 from by omega) with rfl | rfl | rfl
    · simp only [show sumK l1.length l2.length 0 = 0 from rfl]
      go_wp2
      go_roundw
      case rel =>
        first
        | exact ⟨1, by omega, rfl, by simp [sumK], trivial⟩
        | exact ⟨1, by omega, rfl, by simp [sumK], rfl⟩
        | ((repeat apply Exists.intro); exact ⟨⟨1, by omega, rfl, by simp [sumK], rfl⟩, rfl⟩)
        | trace_state
      case measure => simp [intOf]
    · simp only [show sumK l1.length l2.length 1 = l1.length from rfl]
      go_wp2
      go_roundw
      case rel =>
        first
        | exact ⟨2, by omega, rfl, by simp [sumK], trivial⟩
        | exact ⟨2, by omega, rfl, by simp [sumK], rfl⟩
        | ((repeat apply Exists.intro); exact ⟨⟨2, by omega, rfl, by simp [sumK], rfl⟩, rfl⟩)
        | trace_state
      case measure => simp [intOf]
    · simp only [show sumK l1.length l2.length 2 = l1.length + l2.length from rfl]
      go_wp2_with (go_at_call 90; refine (grow_c (l1.length + l2.length) (by omega) _).mono ?_; rintro e w1 ⟨v1, rfl, hown1, hbel1, hnil1⟩)
      go_loopw [6, 27] (fun v i w2 => ∃ k : Nat, k ≤ 2 ∧ i = .int .i64 k ∧ w2.ownsRow w.heap.size 9 1 v (sumK l1.length l2.length k) (if k = 0 then [] else if k = 1 then l1 else l1 ++ l2) ∧ Below w.heap.size w w2 ∧ (l1 ++ l2 = [] → v = .slice none 0 0)) (fun _ i _ => 2 - (intOf i).toNat)
      case atStart => exact ⟨0, by omega, rfl, hown1, hbel1, fun h => hnil1 (by rw [← List.length_append, h]; rfl)⟩
      case round =>
        obtain ⟨k, hk, rfl, hown, hbel, hnil⟩ := hrel
        have c1' := (World.cell?_of_block (hbel.block b0 hb0)).trans h1
        have c2' := (World.cell?_of_block (hbel.block b0 hb0)).trans h2
        rcases (show k = 0 ∨ k = 1 ∨ k = 2 from by omega) with rfl | rfl | rfl
        · obtain ⟨v', w3, hrun, hown', hgrow, hnil'⟩ := app_any _ _ _ _ _ _ _ hown (F1.below hbel) hbel.size (by simp [sumK]; omega)
          have hbel3 : Below w.heap.size w w3 := hbel.grown hgrow hbel.size (fun q hq => (hown.lt q hq).1)
          go_wp2_with (at_builtin; refine Lib.wpList_append_run _ rfl _ _ _ _ rfl _ _ rfl rfl _ _ hrun ?_)
          go_roundw
          case rel =>
            have R : w3.ownsRow w.heap.size 9 1 v' (sumK l1.length l2.length 1) l1 := by simpa [sumK] using hown'
            first
            | exact ⟨1, by omega, rfl, R, hbel3, fun h => hnil' (List.append_eq_nil_iff.1 h).1 (hnil h)⟩
            | ((repeat apply Exists.intro); exact ⟨⟨1, by omega, rfl, R, hbel3, fun h => hnil' (List.append_eq_nil_iff.1 h).1 (hnil h)⟩, rfl⟩)
            | trace_state
          case measure => simp [intOf]
        · obtain ⟨v', w3, hrun, hown', hgrow, hnil'⟩ := app_any _ _ _ _ _ _ _ hown (F2.below hbel) hbel.size (by simp [sumK]; omega)
          have hbel3 : Below w.heap.size w w3 := hbel.grown hgrow hbel.size (fun q hq => (hown.lt q hq).1)
          go_wp2_with (at_builtin; refine Lib.wpList_append_run _ rfl _ _ _ _ rfl _ _ rfl rfl _ _ hrun ?_)
          go_roundw
          case rel =>
            have R : w3.ownsRow w.heap.size 9 1 v' (sumK l1.length l2.length 2) (l1 ++ l2) := by simpa [sumK] using hown'
            first
            | exact ⟨2, by omega, rfl, R, hbel3, fun h => hnil' (List.append_eq_nil_iff.1 h).2 (hnil h)⟩
            | ((repeat apply Exists.intro); exact ⟨⟨2, by omega, rfl, R, hbel3, fun h => hnil' (List.append_eq_nil_iff.1 h).2 (hnil h)⟩, rfl⟩)
            | trace_state
          case measure => simp [intOf]
        · go_wp2
          go_ret
          exact ⟨_, rfl, by simpa [sumK] using hown, hbel, hnil⟩
theorem rep_src {w : World} {B : Nat → Prop} {l : List ByteArray} {o : Bool} {v : Value} (h : Rep w B (.sl o (l.map sR)) v) : SrcS w v (l.map Value.string) := by
  generalize hrows : l.map sR = rows at h
  cases h with
  | nil => 
    have : l = [] := by simpa using hrows
    subst this
    exact ⟨none, 0, rfl, fun _ => rfl, fun _ h => (by cases h), (by simp), fun _ => rfl⟩
  | em _ a cap =>
    have : l = [] := by simpa using hrows
    subst this
    exact ⟨some a, cap, rfl, fun h => (by cases h), fun _ _ j u h => (by simp at h), (by simp), fun _ => rfl⟩
  | sl _ _ b off cap sz us hb hc hl hw hr =>
    subst hrows
    refine ⟨some ⟨b, off, none⟩, cap, by simp, fun h => (by cases h), fun a ha j u hu => ?_, ?_, fun h => (by cases h)⟩
    · cases ha
      rw [List.getElem?_map, Option.map_eq_some_iff] at hu
      obtain ⟨s, hs, rfl⟩ := hu
      have hrow : (l.map sR)[j]? = some (sR s) := by rw [List.getElem?_map, hs]; rfl
      have h1 := hl j _ hrow
      simp at h1
      subst h1
      have h2 := hw j _ 0 (sT s) hrow rfl
      have h3 := hr j _ 0 (sT s) hrow rfl
      generalize us j 0 = x at h2 h3
      cases h3
      rcases Nat.eq_zero_or_pos j with rfl | hj
      · simpa [Addr.add] using h2
      · simpa [Addr.add, Nat.ne_of_gt hj] using h2
    · intro u hu
      obtain ⟨s, _, rfl⟩ := List.mem_map.1 hu
      rfl
theorem row_own {w : World} {B : Nat → Prop} {base : Nat} {l : List ByteArray} {v : Value} (h : w.ownsRow base 9 1 v l.length (l.map Value.string)) (hn : l = [] → v = .slice none 0 0) : Own w B (.sl true (l.map sR)) v (fun k => base ≤ k ∧ k < w.heap.size) := by
  by_cases hl : l = []
  · subst hl
    rw [hn rfl]
    exact .nil _
  · obtain ⟨_, ⟨rfl, h0⟩ | ⟨g, cap, cur, rfl, hg, hh, hnc, hcm, hcs, htk⟩⟩ := h
    · exact absurd (List.length_eq_zero_iff.1 h0) hl
    · have hlt : g < w.heap.size := by
        rcases Nat.lt_or_ge g w.heap.size with h | h
        · exact h
        · rw [Array.getElem?_eq_none h] at hh; cases hh
      have hcell : ∀ j (hj : j < l.length), cur[j]? = some (.string l[j]) := fun j hj => by
        have : (cur.toList.take (l.length * 1))[j]? = (l.map Value.string)[j]? := by rw [htk]
        rw [List.getElem?_take_of_lt (by omega)] at this
        simpa [hj] using this
      have := Own.sl (w := w) (B := B) (l.map sR) g 0 cap 1 (fun i _ => .string (l[i]?.getD ByteArray.empty)) (fun _ _ _ => False) (fun k => base ≤ k ∧ k < w.heap.size) cur 9 hh (by omega) (by simpa using hnc)
        (fun i r h => by
          obtain ⟨x, _, rfl⟩ := List.mem_map.1 (List.mem_of_getElem? h); rfl)
        (fun i r k x hi hk => by
          rw [List.getElem?_map, Option.map_eq_some_iff] at hi
          obtain ⟨z, hz1, rfl⟩ := hi
          obtain ⟨hi1, rfl⟩ := List.getElem?_eq_some_iff.1 hz1
          cases k with
          | zero => rw [Nat.mul_one, Nat.add_zero, Nat.zero_add, hcell i hi1]; simp [hi1]
          | succ k => simp at hk)
        (fun i r k x hi hk => by
          rw [List.getElem?_map, Option.map_eq_some_iff] at hi
          obtain ⟨z, hz1, rfl⟩ := hi
          cases k with
          | zero => simp at hk; subst hk; rw [hz1]; exact .sc _ _
          | succ k => simp at hk)
        (fun i r k x hi hk => rfl)
        (fun _ _ _ _ _ h => h.elim) (fun _ _ h => h) ⟨hg, hlt⟩ (fun _ _ _ h => h.elim)
        (fun h => absurd (by simpa using h) hl)
      rw [List.length_map] at this
      exact this
theorem fam_one {w : World} {B Fin : Nat → Prop} {t : T} {vs : List Value} (h : Fam (VS w B) [.t t] vs Fin) : ∃ v G, vs = [v] ∧ Own w B t v G ∧ ∀ b, G b → Fin b := by
  cases h with
  | cons x xs v vs' G F' _ hx hr hd h1 h2 =>
  cases hr
  rcases hx with ⟨y, hy, ho⟩ | ⟨cs, us, h, _⟩ | ⟨_, _, _, _, _, h, _⟩
  · cases hy; exact ⟨_, _, rfl, ho, h1⟩
  · cases h
  · cases h
/-- slices.Concat of two lists of names, told from outside -/
theorem cat_sound (l1 l2 : List ByteArray) (hl : l1.length + l2.length ≤ 1000000) : Sound Try.prog 74 [.t (.sl false [[.sl false (l1.map sR)], [.sl false (l2.map sR)]])] (.t (.sl true ((l1 ++ l2).map sR))) := by
  refine ⟨⟨Try.f74, Try.func74, rfl, by simp [Try.f74]⟩, ?_⟩
  intro w vs B Fin hB hF hfam
  obtain ⟨v, G, rfl, ho, hG⟩ := fam_one hfam
  cases ho with
  | sh _ _ _ hrep =>
  cases hrep with
  | sl _ _ b off cap sz us hb hc hlr hw hr =>
    have hsz := hlr 0 _ rfl
    subst hsz
    have e1 := hw 0 _ 0 _ rfl rfl
    have e2 := hw 1 _ 0 _ rfl rfl
    have r1 := rep_src (hr 0 _ 0 _ rfl rfl)
    have r2 := rep_src (hr 1 _ 0 _ rfl rfl)
    refine (concat_c w b off cap _ _ (l1.map Value.string) (l2.map Value.string) (by simpa using e1) (by simpa using e2) r1 r2 (by simpa using hl)).mono ?_
    rintro e w' ⟨v, rfl, hown, hbel, hnil⟩
    rw [← List.map_append, List.length_map] at hown
    have hO := row_own (B := B) (l := l1 ++ l2) hown (fun h => hnil (by rw [← List.map_append, h]; rfl))
    exact ⟨_, B, _, rfl, .inl ⟨rfl, .inl (.inl ⟨_, rfl, hO⟩)⟩, fun k hk => ⟨Nat.lt_of_lt_of_le (hB k hk).1 hbel.size, fun h => Nat.lt_irrefl _ (Nat.lt_of_lt_of_le (hB k hk).1 h.1), .inl hk⟩, fun k h => ⟨h.2, .inr h.1⟩,
      ⟨hbel.os, hbel.tape, hbel.output, hbel.size, fun k hk _ => hbel.block k hk⟩⟩
/-- what is told from outside -/
def XK : Rel3 := fun f args r => ∃ l1 l2 : List ByteArray, l1.length + l2.length ≤ 1000000 ∧ f = 74 ∧ args = [.t (.sl false [[.sl false (l1.map sR)], [.sl false (l2.map sR)]])] ∧ r = .t (.sl true ((l1 ++ l2).map sR))
theorem XK_sound (f : FuncId) (args : List AV) (r : AV) (h : XK f args r) : Sound Try.prog f args r := by
  rcases h with ⟨l1, l2, hl, rfl, rfl, rfl⟩
  exact cat_sound l1 l2 hl
theorem Concat_t (l1 l2 : List ByteArray) (hl : l1.length + l2.length ≤ 1000000) : Tells Try.prog E0 XK 74 [.t (.sl false [[.sl false (l1.map sR)], [.sl false (l2.map sR)]])] (.t (.sl true ((l1 ++ l2).map sR))) := Tells.of ⟨l1, l2, hl, rfl, rfl, rfl⟩
end Go.Proofs

set_option linter.unusedVariables false
set_option linter.unusedSimpArgs false
set_option maxHeartbeats 4000000
namespace Go.Proofs
open Go Go.Ev
set_option maxRecDepth 100000
variable {X : Rel3}
theorem tmH_var {k n : Int} {s z : ByteArray} {t : Ty} {ts : List Ty} {a : List Tm} (h : tmH (.mk k n s z t ts a) = true) (hk : k = 3) : a = [] := by
  rw [tmH] at h
  have h2 := (Bool.and_eq_true_iff.1 h).1
  unfold tmHd at h2
  simp only [Bool.and_eq_true, decide_eq_true_eq] at h2
  have h3 := h2.1.1.1.1.1.1.1
  rw [hk, show tmPt 3 = 0 from rfl] at h3
  exact List.length_eq_zero_iff.1 (by omega)
theorem ownA_S (l : List ByteArray) : AV.own (.t (.sl true (l.map sR))) := by simp [AV.own, T.own, own_S]
theorem tmH_mem {k n : Int} {s z : ByteArray} {t : Ty} {ts : List Ty} {a : List Tm} (h : tmH (.mk k n s z t ts a) = true) : ∀ x ∈ a, tmH x = true := by
  rw [tmH] at h
  exact tmHL_iff.1 (Bool.and_eq_true_iff.1 h).2
def k_freeIn : List (Nat × List Nat) := [(0, [1, 2, 3]), (1, [1, 2, 3, 25]), (2, [6]), (3, [1, 2, 3, 32, 33, 34]), (4, [1, 2, 3, 32, 33, 34, 35]), (5, [1, 2, 3, 7, 8, 32, 33, 34]), (6, [1, 2, 3, 32, 33, 34]), (7, [1, 2, 3, 32, 33, 34]), (8, [6])]
theorem freeIn_t : ∀ (t : Tm) (bd out : List ByteArray), t.ok → tmH t = true → bd.length + 2 * tmD t ≤ 900000 → out.length + tmN t ≤ 900000000 → Tells Try.prog E0 XK 65 [t.a false, .t (.sl false (bd.map sR)), .t (.sl true (out.map sR))] (.t (.sl true ((frT t bd out).map sR)))
  | .mk kk nn ss zz (.mk tk tn ta) ts aa, bd, out, hok, hH, hb, ho => by
    rw [Tm.ok] at hok
    obtain ⟨l1, l2, l3, l4, l5, l6⟩ := hok
    have hvar := tmH_var hH
    have hHa := tmH_mem hH
    rw [tmD] at hb
    rw [tmN] at ho
    have c1 := ConS_t (X := XK) bd ss (by omega)
    have c2 : Tells Try.prog E0 XK 61 [.t (.sl false (shrR (out.map sR))), sA ss] (bA (has out ss)) := by rw [shr_S]; exact ConS_t out ss (by omega)
    have hfr1 : (decide (kk = 3) && !has bd ss && !has out ss) = true → frT (.mk kk nn ss zz (.mk tk tn ta) ts aa) bd out = out ++ [ss] := fun hB => by
      simp at hB
      rw [hvar hB.1.1, frT, frL, if_pos ⟨hB.1.1, hB.1.2, hB.2⟩]
    have hfr : (decide (kk = 3) && !has bd ss && !has out ss) = false → frT (.mk kk nn ss zz (.mk tk tn ta) ts aa) bd out = frL aa kk ss zz 0 bd out := fun hB => by
      rw [frT, if_neg (by intro h; simp [h.1, h.2.1, h.2.2] at hB)]
    generalize has bd ss = h1 at c1 hfr hfr1
    generalize has out ss = h2 at c2 hfr hfr1
    refine Tells.by Try.func65 (by simp [Try.f65]) (Body.i rfl rfl rfl (fun _ => rfl) fun f => ?_)
    repeat' (first
       | refine wp_region_tB (id := 1) 25 (decide (kk = 3) && !h1 && !h2) k_freeIn rfl rfl rfl ?_ ?_ | refine wp_seq_i ?_ | refine wp_region_t k_freeIn rfl ?_ | refine Run.done rfl ?_ | refine then_n ?_ | refine then_r ?_
       | refine then_e ?_ | refine Run.go1 rfl ?_ | refine wp_skip_i ?_ | refine wp_ret_i ?_ | refine wp_exit_i ?_ | refine wp_block_i ?_ | refine block_n ?_ | refine block_r ?_ | refine block_e ?_ | refine block_o rfl ?_
       | refine wp_cond_t rfl ?_ | refine wp_cond_f rfl ?_ | refine Run.gT rfl rfl rfl rfl ?_ | refine Run.pT rfl rfl ?_ | (refine Run.splitG rfl rfl rfl rfl rfl rfl ?_ ?_ <;> intro _)
       | (refine Run.splitP rfl rfl rfl rfl ?_ ?_ <;> intro _) | refine Run.call rfl rfl rfl (c1) rfl rfl ?_ | refine Run.callB rfl rfl rfl (c2) (by simp [AV.own, T.own]) rfl ?_
       | refine Run.cnd rfl rfl rfl ⟨by first | (simp; done) | (simp; omega) | (simp; have := bndL_len kk ss zz j; omega), (by intro r hr; first | (obtain ⟨_, _, rfl⟩ := List.mem_map.1 hr; rfl) | (rcases List.mem_append.1 hr with hr | hr <;> (obtain ⟨_, _, rfl⟩ := List.mem_map.1 hr; rfl)) | (simp at hr; subst hr; rfl) | (simp at hr; done)), (by intro r hr; first | (obtain ⟨_, _, rfl⟩ := List.mem_map.1 hr; rfl) | (rcases List.mem_append.1 hr with hr | hr <;> (obtain ⟨_, _, rfl⟩ := List.mem_map.1 hr; rfl)) | (simp at hr; subst hr; rfl) | (simp at hr; done)), .inl rfl, by first | trivial | (simp [flatT]; done)⟩ ?_
       | refine Run.one rfl rfl rfl ?_ | (refine wp_cond_k rfl rfl rfl ?_ ?_ <;> intro _) | (refine wp_cond_i rfl ?_ ?_ <;> intro _))
    all_goals first
    | (refine ⟨?_⟩; clear c1 c2 hfr hfr1; simp_all; done)
    | (rename_i hB; refine ret_m [] rfl rfl ?_; rw [hfr1 hB, List.map_append]; rfl)
    | skip
    rename_i hB
    rw [hfr hB]
    clear c1 c2 hfr hfr1 hB
    refine wp_loop_k (α := Nat × List ByteArray × Option Value) [.ren 300000 77, .keep [1, 2, 3, 32, 33, 34] [3, 77]] (fun p => [(34, iA p.1)]) (fun _ => []) (fun p => [(77, ⟨0, p.2.2⟩, p.2.1.map sR)]) (fun p => (p.1 ≤ aa.length ∧ p.2.1.length + tmNL (aa.drop p.1) ≤ 900000000) ∧ frL (aa.drop p.1) kk ss zz p.1 bd p.2.1 = frL aa kk ss zz 0 bd out) (fun p => aa.length - p.1) (0, out, some (f 300000)) rfl (fun _ => rfl) rfl ⟨⟨Nat.zero_le _, by simp only [List.drop_zero]; omega⟩, rfl⟩ ?_
    rintro ⟨j, o, V⟩ ⟨⟨hj, hol2⟩, hI⟩
    simp only at hj hol2 hI
    by_cases hlt : j < aa.length
    · obtain ⟨t, ht⟩ : ∃ t, aa[j]? = some t := ⟨_, List.getElem?_eq_getElem hlt⟩
      have hjd : decide ((j : Int) < ((aa.map (Tm.c false)).length : Int)) = true := by rw [List.length_map]; simpa using hlt
      have hbn := bndL_len kk ss zz j
      have hnd := tmNL_drop aa j t ht
      have hdm := tmDL_mem aa j t ht
      rw [List.drop_eq_getElem_cons hlt, (List.getElem?_eq_some_iff.1 ht).2, frL] at hI
      have hfl := frT_len t (bd ++ bndL kk ss zz j) o
      have c3 := boundIn_t (X := XK) kk nn ss zz tk tn ta ts aa j
      have c5 : Tells Try.prog E0 XK 74 [.t (.sl false [[.sl false (shrR (bd.map sR))], [.sl false (shrR ((bndL kk ss zz j).map sR))]])] (.t (.sl true ((bd ++ bndL kk ss zz j).map sR))) := by rw [shr_S, shr_S]; exact Concat_t bd (bndL kk ss zz j) (by omega)
      have c4 : Tells Try.prog E0 XK 65 [t.a false, .t (.sl false (shrR ((bd ++ bndL kk ss zz j).map sR))), .t (.sl true (o.map sR))] (.t (.sl true ((frT t (bd ++ bndL kk ss zz j) o).map sR))) := by rw [shr_S]; exact freeIn_t t (bd ++ bndL kk ss zz j) o (Tm.okL_iff.1 l6 t (List.mem_of_getElem? ht)) (hHa t (List.mem_of_getElem? ht)) (by simp; omega) (by omega)
      generalize frT t (bd ++ bndL kk ss zz j) o = q at hI hfl c4
      obtain ⟨k2, n2, y2, z2, ⟨tk2, tn2, ta2⟩, ts2, a2⟩ := t
      have hx : (aa.map (Tm.c false))[j]? = some [iT k2, iT n2, sT y2, sT z2, iT tk2, iT tn2, .sl false (ta2.map (Ty.c false)), .sl false (ts2.map (Ty.c false)), .sl false (a2.map (Tm.c false))] := by rw [List.getElem?_map, ht]; exact congrArg some (Tm.c_mk ..)
      repeat' (first
         | refine wp_seq_i ?_ | refine wp_region_t k_freeIn rfl ?_ | refine Run.done rfl ?_ | refine then_n ?_ | refine then_r ?_ | refine then_e ?_ | refine Run.go1 rfl ?_ | refine wp_skip_i ?_ | refine wp_ret_i ?_
         | refine wp_exit_i ?_ | refine wp_block_i ?_ | refine block_n ?_ | refine block_r ?_ | refine block_e ?_ | refine block_o rfl ?_ | refine wp_cond_t rfl ?_ | refine wp_cond_f rfl ?_ | refine RunQ.go1 rfl ?_
         | refine RunQ.done rfl ?_ | refine wp_region_l k_freeIn [0, 1, 2, 3, 7] [4, 5, 6, 8] [0, 0, 0, 0, 12, 30, 62, 0, 255, 511] rfl (by decide +kernel) (by decide +kernel) rfl rfl ?_
         | refine RunL.callR rfl rfl rfl rfl (c3) (.inl rfl) rfl ?_ ?_ | refine RunL.callR rfl rfl rfl rfl (c5) (.inr (ownA_S _)) rfl ?_ ?_ | refine RunL.callR rfl rfl rfl rfl (c4) (.inr (ownA_S _)) rfl ?_ ?_
         | refine RepL.done rfl | refine RepL.skip rfl ?_ | refine RepL.one rfl rfl rfl rfl rfl rfl ?_ | refine RepL.off rfl rfl rfl rfl rfl ?_ | refine RunL.one rfl rfl rfl rfl rfl ?_ | refine RunL.done ?_
         | refine Run.ix rfl rfl rfl rfl rfl rfl rfl hx rfl rfl rfl ?_ | refine Run.one rfl rfl rfl ?_ | (refine wp_cond_k rfl rfl rfl ?_ ?_ <;> intro _) | (refine wp_cond_i rfl ?_ ?_ <;> intro _))
      all_goals first
      | (exfalso; rename_i h; rw [hjd] at h; cases h; done)
      | (refine back_i [.keep [1, 2, 3, 32, 33, 34] [3, 47], .ren 47 77] (j + 1, q, none) rfl ?_ ⟨⟨by simp; omega, by simp only; omega⟩, hI⟩ (by simp; omega)
         simp only [w_succ hlt (show aa.length ≤ 9223372036854775807 by omega)]; first | done | rfl)
      | trace_state
    · have hjl : j = aa.length := by omega
      subst hjl
      have hjd : decide ((aa.length : Int) < ((aa.map (Tm.c false)).length : Int)) = false := by rw [List.length_map]; simp
      rw [List.drop_length, frL] at hI
      repeat' (first
         | refine wp_seq_i ?_ | refine wp_region_t k_freeIn rfl ?_ | refine Run.done rfl ?_ | refine then_n ?_ | refine then_r ?_ | refine then_e ?_ | refine Run.go1 rfl ?_ | refine wp_skip_i ?_ | refine wp_ret_i ?_
         | refine wp_exit_i ?_ | refine wp_block_i ?_ | refine block_n ?_ | refine block_r ?_ | refine block_e ?_ | refine block_o rfl ?_ | refine wp_cond_t rfl ?_ | refine wp_cond_f rfl ?_
         | (refine wp_cond_k rfl rfl rfl ?_ ?_ <;> intro _) | (refine wp_cond_i rfl ?_ ?_ <;> intro _))
      all_goals first
      | (exfalso; rename_i h; rw [hjd] at h; cases h; done)
      | (refine ret_m [] rfl rfl ?_; rw [← hI]; done)
      | trace_state
  termination_by t => SizeOf.sizeOf t
  decreasing_by
    all_goals (have hsz := List.sizeOf_lt_of_mem (List.mem_of_getElem? ht); simp; omega)
theorem tmB_H {t : Tm} (h : tmB t = true) : tmH t = true ∧ tmD t ≤ 24 ∧ tmN t ≤ 150 := by
  unfold tmB at h
  simp only [Bool.and_eq_true, decide_eq_true_eq] at h
  exact ⟨h.1.1, h.1.2, h.2⟩
def k_FreeOf : List (Nat × List Nat) := [(0, [1]), (1, [1, 5]), (2, [2]), (3, [2])]
theorem FreeOfI_t (t : Tm) (hok : t.ok) (hc : cTm t ≤ 1000000000) (hB : tmB t = true) : Tells Try.prog E0 XK 43 [t.a false] (.t (.sl true ((frT t [] []).map sR))) := by
  have c1 := TermOkI_t (X := XK) t hok hc
  obtain ⟨h1, h2, h3⟩ := tmB_H hB
  have c2 := freeIn_t t [] [] hok h1 (by simp; omega) (by simp; omega)
  rw [hB] at c1
  generalize frT t [] [] = q at c2 ⊢
  obtain ⟨kk, nn, ss, zz, ⟨tk, tn, ta⟩, ts, aa⟩ := t
  refine Tells.by Try.func43 (by simp [Try.f43]) (Body.i rfl rfl rfl (fun _ => rfl) fun f => ?_)
  repeat' (first
     | refine wp_seq_i ?_ | refine wp_region_t k_FreeOf rfl ?_ | refine Run.done rfl ?_ | refine then_n ?_ | refine then_r ?_ | refine then_e ?_ | refine Run.go1 rfl ?_ | refine wp_skip_i ?_ | refine wp_ret_i ?_
     | refine wp_exit_i ?_ | refine wp_block_i ?_ | refine block_n ?_ | refine block_r ?_ | refine block_e ?_ | refine block_o rfl ?_ | refine wp_cond_t rfl ?_ | refine wp_cond_f rfl ?_
     | refine Run.call rfl rfl rfl (c1) rfl rfl ?_ | refine Run.call rfl rfl rfl (c2) rfl rfl ?_ | (refine wp_cond_k rfl rfl rfl ?_ ?_ <;> intro _) | (refine wp_cond_i rfl ?_ ?_ <;> intro _))
  all_goals exact ret_m [] rfl rfl rfl
end Go.Proofs

set_option linter.unusedVariables false
set_option linter.unusedSimpArgs false
set_option maxHeartbeats 4000000
namespace Go.Proofs
open Go Go.Ev
set_option maxRecDepth 100000
variable {X : Rel3}
def valB (k : Int) : Bool := (k == 1) || (k == 2) || (k == 3) || (k == 4) || (k == 12)
mutual
/-- does a term end with a value? -/
def pur : Tm → Bool
  | .mk k _ _ _ _ _ a => if k = 9 ∨ k = 13 then decide (a.length = 2) && purL a else valB k
def purL : List Tm → Bool
  | [] => true
  | t :: r => pur t && purL r
end
def k_IsValue : List (Nat × List Nat) := [(0, [1]), (1, [2])]
theorem IsValue_t (kk nn : Int) (ss zz : ByteArray) (tk tn : Int) (ta ts : List Ty) (aa : List Tm) : Tells Try.prog E0 X 68 [tmA false kk nn ss zz tk tn ta ts aa] (bA (valB kk)) := by
  refine Tells.by Try.func68 (by simp [Try.f68]) (Body.i rfl rfl rfl (fun _ => rfl) fun f => ?_)
  repeat' (first
     | refine wp_region_tB (id := 1) 2 (valB kk) k_IsValue rfl rfl rfl ?_ ?_ | refine wp_seq_i ?_ | refine wp_region_t k_IsValue rfl ?_ | refine Run.done rfl ?_ | refine then_n ?_ | refine then_r ?_ | refine then_e ?_
     | refine Run.go1 rfl ?_ | refine wp_skip_i ?_ | refine wp_ret_i ?_ | refine wp_exit_i ?_ | refine wp_block_i ?_ | refine block_n ?_ | refine block_r ?_ | refine block_e ?_ | refine block_o rfl ?_ | refine wp_cond_t rfl ?_
     | refine wp_cond_f rfl ?_ | refine Run.gT rfl rfl rfl rfl ?_ | refine Run.pT rfl rfl ?_ | (refine Run.splitG rfl rfl rfl rfl rfl rfl ?_ ?_ <;> intro _) | (refine Run.splitP rfl rfl rfl rfl ?_ ?_ <;> intro _)
     | (refine wp_cond_k rfl rfl rfl ?_ ?_ <;> intro _) | (refine wp_cond_i rfl ?_ ?_ <;> intro _))
  all_goals first
  | (refine ⟨?_⟩; unfold valB; simp_all; done)
  | (exact ret_m [] rfl rfl rfl)
  | trace_state
def k_PureS : List (Nat × List Nat) := [(0, [1]), (1, [1, 10]), (2, [2]), (3, [2])]
theorem PureS_t : ∀ (t : Tm), t.ok → Tells Try.prog E0 X 48 [t.a false] (bA (pur t))
  | .mk kk nn ss zz (.mk tk tn ta) ts aa, hok => by
    rw [Tm.ok] at hok
    obtain ⟨l1, l2, l3, l4, l5, l6⟩ := hok
    have cV := IsValue_t (X := X) kk nn ss zz tk tn ta ts aa
    by_cases hk : kk = 9 ∨ kk = 13
    · have hp : pur (.mk kk nn ss zz (.mk tk tn ta) ts aa) = (decide (aa.length = 2) && purL aa) := by rw [pur, if_pos hk]
      rw [hp]
      have ih : ∀ x ∈ aa, Tells Try.prog E0 X 48 [x.a false] (bA (pur x)) := fun x hx => PureS_t x (Tm.okL_iff.1 l6 x hx)
      clear l6
      rcases aa with _ | ⟨x, _ | ⟨y, _ | ⟨w, r⟩⟩⟩
      · rw [show decide (([] : List Tm).length = 2) = false from rfl, Bool.false_and]
        clear hp
        refine Tells.by Try.func48 (by simp [Try.f48]) (Body.i rfl rfl rfl (fun _ => rfl) fun f => ?_)
        repeat' (first
           | refine wp_region_tB (id := 1) 10 (true) k_PureS rfl rfl rfl ?_ ?_ | refine wp_region_tB (id := 2) 2 (false) k_PureS rfl rfl rfl ?_ ?_ | refine wp_seq_i ?_ | refine wp_region_t k_PureS rfl ?_ | refine Run.done rfl ?_
           | refine then_n ?_ | refine then_r ?_ | refine then_e ?_ | refine Run.go1 rfl ?_ | refine wp_skip_i ?_ | refine wp_ret_i ?_ | refine wp_exit_i ?_ | refine wp_block_i ?_ | refine block_n ?_ | refine block_r ?_
           | refine block_e ?_ | refine block_o rfl ?_ | refine wp_cond_t rfl ?_ | refine wp_cond_f rfl ?_ | refine Run.gT rfl rfl rfl rfl ?_ | refine Run.pT rfl rfl ?_
           | (refine Run.splitG rfl rfl rfl rfl rfl rfl ?_ ?_ <;> intro _) | (refine Run.splitP rfl rfl rfl rfl ?_ ?_ <;> intro _) | refine Run.call rfl rfl rfl (cV) rfl rfl ?_ | (refine wp_cond_k rfl rfl rfl ?_ ?_ <;> intro _)
           | (refine wp_cond_i rfl ?_ ?_ <;> intro _))
        all_goals first
        | (refine ⟨?_⟩; clear cV ih; simp_all; done)
        | (refine ⟨?_⟩; clear cV ih; simp_all; omega)
        | (exfalso; clear cV ih; simp_all [valB]; done)
        | (exfalso; clear cV ih; simp_all [valB]; omega)
        | (exact ret_m [] rfl rfl rfl)
        | trace_state
      · rw [show decide ([x].length = 2) = false from rfl, Bool.false_and]
        clear hp
        refine Tells.by Try.func48 (by simp [Try.f48]) (Body.i rfl rfl rfl (fun _ => rfl) fun f => ?_)
        repeat' (first
           | refine wp_region_tB (id := 1) 10 (true) k_PureS rfl rfl rfl ?_ ?_ | refine wp_region_tB (id := 2) 2 (false) k_PureS rfl rfl rfl ?_ ?_ | refine wp_seq_i ?_ | refine wp_region_t k_PureS rfl ?_ | refine Run.done rfl ?_
           | refine then_n ?_ | refine then_r ?_ | refine then_e ?_ | refine Run.go1 rfl ?_ | refine wp_skip_i ?_ | refine wp_ret_i ?_ | refine wp_exit_i ?_ | refine wp_block_i ?_ | refine block_n ?_ | refine block_r ?_
           | refine block_e ?_ | refine block_o rfl ?_ | refine wp_cond_t rfl ?_ | refine wp_cond_f rfl ?_ | refine Run.gT rfl rfl rfl rfl ?_ | refine Run.pT rfl rfl ?_
           | (refine Run.splitG rfl rfl rfl rfl rfl rfl ?_ ?_ <;> intro _) | (refine Run.splitP rfl rfl rfl rfl ?_ ?_ <;> intro _) | refine Run.call rfl rfl rfl (cV) rfl rfl ?_ | (refine wp_cond_k rfl rfl rfl ?_ ?_ <;> intro _)
           | (refine wp_cond_i rfl ?_ ?_ <;> intro _))
        all_goals first
        | (refine ⟨?_⟩; clear cV ih; simp_all; done)
        | (refine ⟨?_⟩; clear cV ih; simp_all; omega)
        | (exfalso; clear cV ih; simp_all [valB]; done)
        | (exfalso; clear cV ih; simp_all [valB]; omega)
        | (exact ret_m [] rfl rfl rfl)
        | trace_state
      · have c1 := ih x (by simp)
        have c2 := ih y (by simp)
        clear ih
        have hpl : purL [x, y] = (pur x && pur y) := by rw [purL, purL, purL, Bool.and_true]
        rw [hpl, show decide ([x, y].length = 2) = true from rfl, Bool.true_and]
        generalize pur x = px at c1 ⊢
        generalize pur y = py at c2 ⊢
        clear hpl hp
        obtain ⟨k3, n3, y3, z3, ⟨tk3, tn3, ta3⟩, ts3, a3⟩ := x
        obtain ⟨k4, n4, y4, z4, ⟨tk4, tn4, ta4⟩, ts4, a4⟩ := y
        have hx : ([(Tm.mk k3 n3 y3 z3 (.mk tk3 tn3 ta3) ts3 a3), (Tm.mk k4 n4 y4 z4 (.mk tk4 tn4 ta4) ts4 a4)].map (Tm.c false))[0]? = some [iT k3, iT n3, sT y3, sT z3, iT tk3, iT tn3, .sl false (ta3.map (Ty.c false)), .sl false (ts3.map (Ty.c false)), .sl false (a3.map (Tm.c false))] := by rw [List.map_cons, Tm.c_mk]; rfl
        have hy : ([(Tm.mk k3 n3 y3 z3 (.mk tk3 tn3 ta3) ts3 a3), (Tm.mk k4 n4 y4 z4 (.mk tk4 tn4 ta4) ts4 a4)].map (Tm.c false))[1]? = some [iT k4, iT n4, sT y4, sT z4, iT tk4, iT tn4, .sl false (ta4.map (Ty.c false)), .sl false (ts4.map (Ty.c false)), .sl false (a4.map (Tm.c false))] := by rw [List.map_cons, List.map_cons, Tm.c_mk, Tm.c_mk]; rfl
        refine Tells.by Try.func48 (by simp [Try.f48]) (Body.i rfl rfl rfl (fun _ => rfl) fun f => ?_)
        repeat' (first
           | refine wp_region_tB (id := 1) 10 (true) k_PureS rfl rfl rfl ?_ ?_ | refine wp_region_tB (id := 2) 2 (px && py) k_PureS rfl rfl rfl ?_ ?_ | refine wp_seq_i ?_ | refine wp_region_t k_PureS rfl ?_
           | refine Run.done rfl ?_ | refine then_n ?_ | refine then_r ?_ | refine then_e ?_ | refine Run.go1 rfl ?_ | refine wp_skip_i ?_ | refine wp_ret_i ?_ | refine wp_exit_i ?_ | refine wp_block_i ?_ | refine block_n ?_
           | refine block_r ?_ | refine block_e ?_ | refine block_o rfl ?_ | refine wp_cond_t rfl ?_ | refine wp_cond_f rfl ?_ | refine Run.gT rfl rfl rfl rfl ?_ | refine Run.pT rfl rfl ?_
           | (refine Run.splitG rfl rfl rfl rfl rfl rfl ?_ ?_ <;> intro _) | (refine Run.splitP rfl rfl rfl rfl ?_ ?_ <;> intro _) | refine Run.call rfl rfl rfl (c1) rfl rfl ?_ | refine Run.call rfl rfl rfl (c2) rfl rfl ?_
           | refine Run.call rfl rfl rfl (cV) rfl rfl ?_ | refine Run.ix rfl rfl rfl rfl rfl rfl rfl hx rfl rfl rfl ?_ | refine Run.ix rfl rfl rfl rfl rfl rfl rfl hy rfl rfl rfl ?_
           | (refine wp_cond_k rfl rfl rfl ?_ ?_ <;> intro _) | (refine wp_cond_i rfl ?_ ?_ <;> intro _))
        all_goals first
        | (refine ⟨?_⟩; clear c1 c2 cV hx hy; simp_all; done)
        | (exfalso; clear c1 c2 cV hx hy; simp_all [valB]; done)
        | (exfalso; clear c1 c2 cV hx hy; simp_all [valB]; omega)
        | (exact ret_m [] rfl rfl rfl)
        | trace_state
      · rw [show decide ((x :: y :: w :: r).length = 2) = false from decide_eq_false (by simp), Bool.false_and]
        clear hp
        refine Tells.by Try.func48 (by simp [Try.f48]) (Body.i rfl rfl rfl (fun _ => rfl) fun f => ?_)
        repeat' (first
           | refine wp_region_tB (id := 1) 10 (true) k_PureS rfl rfl rfl ?_ ?_ | refine wp_region_tB (id := 2) 2 (false) k_PureS rfl rfl rfl ?_ ?_ | refine wp_seq_i ?_ | refine wp_region_t k_PureS rfl ?_ | refine Run.done rfl ?_
           | refine then_n ?_ | refine then_r ?_ | refine then_e ?_ | refine Run.go1 rfl ?_ | refine wp_skip_i ?_ | refine wp_ret_i ?_ | refine wp_exit_i ?_ | refine wp_block_i ?_ | refine block_n ?_ | refine block_r ?_
           | refine block_e ?_ | refine block_o rfl ?_ | refine wp_cond_t rfl ?_ | refine wp_cond_f rfl ?_ | refine Run.gT rfl rfl rfl rfl ?_ | refine Run.pT rfl rfl ?_
           | (refine Run.splitG rfl rfl rfl rfl rfl rfl ?_ ?_ <;> intro _) | (refine Run.splitP rfl rfl rfl rfl ?_ ?_ <;> intro _) | refine Run.call rfl rfl rfl (cV) rfl rfl ?_ | (refine wp_cond_k rfl rfl rfl ?_ ?_ <;> intro _)
           | (refine wp_cond_i rfl ?_ ?_ <;> intro _))
        all_goals first
        | (refine ⟨?_⟩; clear cV ih; simp_all; done)
        | (refine ⟨?_⟩; clear cV ih; simp_all; omega)
        | (exfalso; clear cV ih; simp_all [valB]; done)
        | (exfalso; clear cV ih; simp_all [valB]; omega)
        | (exact ret_m [] rfl rfl rfl)
        | trace_state
    · have hp : pur (.mk kk nn ss zz (.mk tk tn ta) ts aa) = valB kk := by rw [pur, if_neg hk]
      rw [hp]
      refine Tells.by Try.func48 (by simp [Try.f48]) (Body.i rfl rfl rfl (fun _ => rfl) fun f => ?_)
      repeat' (first
         | refine wp_region_tB (id := 1) 10 (false) k_PureS rfl rfl rfl ?_ ?_ | refine wp_seq_i ?_ | refine wp_region_t k_PureS rfl ?_ | refine Run.done rfl ?_ | refine then_n ?_ | refine then_r ?_ | refine then_e ?_
         | refine Run.go1 rfl ?_ | refine wp_skip_i ?_ | refine wp_ret_i ?_ | refine wp_exit_i ?_ | refine wp_block_i ?_ | refine block_n ?_ | refine block_r ?_ | refine block_e ?_ | refine block_o rfl ?_ | refine wp_cond_t rfl ?_
         | refine wp_cond_f rfl ?_ | refine Run.gT rfl rfl rfl rfl ?_ | refine Run.pT rfl rfl ?_ | (refine Run.splitG rfl rfl rfl rfl rfl rfl ?_ ?_ <;> intro _) | (refine Run.splitP rfl rfl rfl rfl ?_ ?_ <;> intro _)
         | refine Run.call rfl rfl rfl (cV) rfl rfl ?_ | (refine wp_cond_k rfl rfl rfl ?_ ?_ <;> intro _) | (refine wp_cond_i rfl ?_ ?_ <;> intro _))
      all_goals first
      | (refine ⟨?_⟩; clear cV l6; simp_all; done)
      | (exact ret_m [] rfl rfl rfl)
      | (refine ret_m [] rfl rfl ?_; clear cV l6; simp_all [valB]; done)
      | (exfalso; clear cV l6; simp_all; done)
      | (exfalso; clear cV l6; simp_all; omega)
      | trace_state
  termination_by t => SizeOf.sizeOf t
  decreasing_by
    all_goals (have hsz := List.sizeOf_lt_of_mem hx; simp; omega)
def k_pureI : List (Nat × List Nat) := [(0, [1]), (1, [1, 4]), (2, [1, 4, 5]), (3, [1, 4, 5]), (4, [1, 4, 5]), (5, [1, 4, 5]), (6, [1, 4, 5]), (7, [2]), (8, [1, 4, 11]), (9, [1, 11]), (10, [2]), (11, [2])]
theorem pureI_t : ∀ (t : Tm), t.ok → Tells Try.prog E0 X 71 [t.a false] (bA (pur t))
  | .mk kk nn ss zz (.mk tk tn ta) ts aa, hok => by
    rw [Tm.ok] at hok
    obtain ⟨l1, l2, l3, l4, l5, l6⟩ := hok
    have cV : True := trivial
    by_cases hk : kk = 9 ∨ kk = 13
    · have hp : pur (.mk kk nn ss zz (.mk tk tn ta) ts aa) = (decide (aa.length = 2) && purL aa) := by rw [pur, if_pos hk]
      rw [hp]
      have ih : ∀ x ∈ aa, Tells Try.prog E0 X 71 [x.a false] (bA (pur x)) := fun x hx => pureI_t x (Tm.okL_iff.1 l6 x hx)
      clear l6
      rcases aa with _ | ⟨x, _ | ⟨y, _ | ⟨w, r⟩⟩⟩
      · rw [show decide (([] : List Tm).length = 2) = false from rfl, Bool.false_and]
        clear hp
        refine Tells.by Try.func71 (by simp [Try.f71]) (Body.i rfl rfl rfl (fun _ => rfl) fun f => ?_)
        repeat' (first
           | refine wp_region_tB (id := 10) 2 (false) k_pureI rfl rfl rfl ?_ ?_ | refine wp_seq_i ?_ | refine wp_region_t k_pureI rfl ?_ | refine Run.done rfl ?_ | refine then_n ?_ | refine then_r ?_ | refine then_e ?_
           | refine Run.go1 rfl ?_ | refine wp_skip_i ?_ | refine wp_ret_i ?_ | refine wp_exit_i ?_ | refine wp_block_i ?_ | refine block_n ?_ | refine block_r ?_ | refine block_e ?_ | refine block_o rfl ?_
           | refine wp_cond_t rfl ?_ | refine wp_cond_f rfl ?_ | refine Run.gT rfl rfl rfl rfl ?_ | refine Run.pT rfl rfl ?_ | (refine Run.splitG rfl rfl rfl rfl rfl rfl ?_ ?_ <;> intro _)
           | (refine Run.splitP rfl rfl rfl rfl ?_ ?_ <;> intro _) | (refine wp_cond_k rfl rfl rfl ?_ ?_ <;> intro _) | (refine wp_cond_i rfl ?_ ?_ <;> intro _))
        all_goals first
        | (refine ⟨?_⟩; clear cV ih; simp_all; done)
        | (refine ⟨?_⟩; clear cV ih; simp_all; omega)
        | (exfalso; clear cV ih; simp_all [valB]; done)
        | (exfalso; clear cV ih; simp_all [valB]; omega)
        | (exact ret_m [] rfl rfl rfl)
        | trace_state
      · rw [show decide ([x].length = 2) = false from rfl, Bool.false_and]
        clear hp
        refine Tells.by Try.func71 (by simp [Try.f71]) (Body.i rfl rfl rfl (fun _ => rfl) fun f => ?_)
        repeat' (first
           | refine wp_region_tB (id := 10) 2 (false) k_pureI rfl rfl rfl ?_ ?_ | refine wp_seq_i ?_ | refine wp_region_t k_pureI rfl ?_ | refine Run.done rfl ?_ | refine then_n ?_ | refine then_r ?_ | refine then_e ?_
           | refine Run.go1 rfl ?_ | refine wp_skip_i ?_ | refine wp_ret_i ?_ | refine wp_exit_i ?_ | refine wp_block_i ?_ | refine block_n ?_ | refine block_r ?_ | refine block_e ?_ | refine block_o rfl ?_
           | refine wp_cond_t rfl ?_ | refine wp_cond_f rfl ?_ | refine Run.gT rfl rfl rfl rfl ?_ | refine Run.pT rfl rfl ?_ | (refine Run.splitG rfl rfl rfl rfl rfl rfl ?_ ?_ <;> intro _)
           | (refine Run.splitP rfl rfl rfl rfl ?_ ?_ <;> intro _) | (refine wp_cond_k rfl rfl rfl ?_ ?_ <;> intro _) | (refine wp_cond_i rfl ?_ ?_ <;> intro _))
        all_goals first
        | (refine ⟨?_⟩; clear cV ih; simp_all; done)
        | (refine ⟨?_⟩; clear cV ih; simp_all; omega)
        | (exfalso; clear cV ih; simp_all [valB]; done)
        | (exfalso; clear cV ih; simp_all [valB]; omega)
        | (exact ret_m [] rfl rfl rfl)
        | trace_state
      · have c1 := ih x (by simp)
        have c2 := ih y (by simp)
        clear ih
        have hpl : purL [x, y] = (pur x && pur y) := by rw [purL, purL, purL, Bool.and_true]
        rw [hpl, show decide ([x, y].length = 2) = true from rfl, Bool.true_and]
        generalize pur x = px at c1 ⊢
        generalize pur y = py at c2 ⊢
        clear hpl hp
        obtain ⟨k3, n3, y3, z3, ⟨tk3, tn3, ta3⟩, ts3, a3⟩ := x
        obtain ⟨k4, n4, y4, z4, ⟨tk4, tn4, ta4⟩, ts4, a4⟩ := y
        have hx : ([(Tm.mk k3 n3 y3 z3 (.mk tk3 tn3 ta3) ts3 a3), (Tm.mk k4 n4 y4 z4 (.mk tk4 tn4 ta4) ts4 a4)].map (Tm.c false))[0]? = some [iT k3, iT n3, sT y3, sT z3, iT tk3, iT tn3, .sl false (ta3.map (Ty.c false)), .sl false (ts3.map (Ty.c false)), .sl false (a3.map (Tm.c false))] := by rw [List.map_cons, Tm.c_mk]; rfl
        have hy : ([(Tm.mk k3 n3 y3 z3 (.mk tk3 tn3 ta3) ts3 a3), (Tm.mk k4 n4 y4 z4 (.mk tk4 tn4 ta4) ts4 a4)].map (Tm.c false))[1]? = some [iT k4, iT n4, sT y4, sT z4, iT tk4, iT tn4, .sl false (ta4.map (Ty.c false)), .sl false (ts4.map (Ty.c false)), .sl false (a4.map (Tm.c false))] := by rw [List.map_cons, List.map_cons, Tm.c_mk, Tm.c_mk]; rfl
        refine Tells.by Try.func71 (by simp [Try.f71]) (Body.i rfl rfl rfl (fun _ => rfl) fun f => ?_)
        repeat' (first
           | refine wp_region_tB (id := 10) 2 (px && py) k_pureI rfl rfl rfl ?_ ?_ | refine wp_seq_i ?_ | refine wp_region_t k_pureI rfl ?_ | refine Run.done rfl ?_ | refine then_n ?_ | refine then_r ?_ | refine then_e ?_
           | refine Run.go1 rfl ?_ | refine wp_skip_i ?_ | refine wp_ret_i ?_ | refine wp_exit_i ?_ | refine wp_block_i ?_ | refine block_n ?_ | refine block_r ?_ | refine block_e ?_ | refine block_o rfl ?_
           | refine wp_cond_t rfl ?_ | refine wp_cond_f rfl ?_ | refine Run.gT rfl rfl rfl rfl ?_ | refine Run.pT rfl rfl ?_ | (refine Run.splitG rfl rfl rfl rfl rfl rfl ?_ ?_ <;> intro _)
           | (refine Run.splitP rfl rfl rfl rfl ?_ ?_ <;> intro _) | refine Run.call rfl rfl rfl (c1) rfl rfl ?_ | refine Run.call rfl rfl rfl (c2) rfl rfl ?_
           | refine Run.ix rfl rfl rfl rfl rfl rfl rfl hx rfl rfl rfl ?_ | refine Run.ix rfl rfl rfl rfl rfl rfl rfl hy rfl rfl rfl ?_ | (refine wp_cond_k rfl rfl rfl ?_ ?_ <;> intro _) | (refine wp_cond_i rfl ?_ ?_ <;> intro _))
        all_goals first
        | (refine ⟨?_⟩; clear c1 c2 cV hx hy; simp_all; done)
        | (exfalso; clear c1 c2 cV hx hy; simp_all [valB]; done)
        | (exfalso; clear c1 c2 cV hx hy; simp_all [valB]; omega)
        | (exact ret_m [] rfl rfl rfl)
        | trace_state
      · rw [show decide ((x :: y :: w :: r).length = 2) = false from decide_eq_false (by simp), Bool.false_and]
        clear hp
        refine Tells.by Try.func71 (by simp [Try.f71]) (Body.i rfl rfl rfl (fun _ => rfl) fun f => ?_)
        repeat' (first
           | refine wp_region_tB (id := 10) 2 (false) k_pureI rfl rfl rfl ?_ ?_ | refine wp_seq_i ?_ | refine wp_region_t k_pureI rfl ?_ | refine Run.done rfl ?_ | refine then_n ?_ | refine then_r ?_ | refine then_e ?_
           | refine Run.go1 rfl ?_ | refine wp_skip_i ?_ | refine wp_ret_i ?_ | refine wp_exit_i ?_ | refine wp_block_i ?_ | refine block_n ?_ | refine block_r ?_ | refine block_e ?_ | refine block_o rfl ?_
           | refine wp_cond_t rfl ?_ | refine wp_cond_f rfl ?_ | refine Run.gT rfl rfl rfl rfl ?_ | refine Run.pT rfl rfl ?_ | (refine Run.splitG rfl rfl rfl rfl rfl rfl ?_ ?_ <;> intro _)
           | (refine Run.splitP rfl rfl rfl rfl ?_ ?_ <;> intro _) | (refine wp_cond_k rfl rfl rfl ?_ ?_ <;> intro _) | (refine wp_cond_i rfl ?_ ?_ <;> intro _))
        all_goals first
        | (refine ⟨?_⟩; clear cV ih; simp_all; done)
        | (refine ⟨?_⟩; clear cV ih; simp_all; omega)
        | (exfalso; clear cV ih; simp_all [valB]; done)
        | (exfalso; clear cV ih; simp_all [valB]; omega)
        | (exact ret_m [] rfl rfl rfl)
        | trace_state
    · have hp : pur (.mk kk nn ss zz (.mk tk tn ta) ts aa) = valB kk := by rw [pur, if_neg hk]
      rw [hp]
      refine Tells.by Try.func71 (by simp [Try.f71]) (Body.i rfl rfl rfl (fun _ => rfl) fun f => ?_)
      repeat' (first
         | refine wp_seq_i ?_ | refine wp_region_t k_pureI rfl ?_ | refine Run.done rfl ?_ | refine then_n ?_ | refine then_r ?_ | refine then_e ?_ | refine Run.go1 rfl ?_ | refine wp_skip_i ?_ | refine wp_ret_i ?_
         | refine wp_exit_i ?_ | refine wp_block_i ?_ | refine block_n ?_ | refine block_r ?_ | refine block_e ?_ | refine block_o rfl ?_ | refine wp_cond_t rfl ?_ | refine wp_cond_f rfl ?_ | refine Run.gT rfl rfl rfl rfl ?_
         | refine Run.pT rfl rfl ?_ | (refine Run.splitG rfl rfl rfl rfl rfl rfl ?_ ?_ <;> intro _) | (refine Run.splitP rfl rfl rfl rfl ?_ ?_ <;> intro _)
         | (refine wp_cond_k rfl rfl rfl ?_ ?_ <;> intro _) | (refine wp_cond_i rfl ?_ ?_ <;> intro _))
      all_goals first
      | (refine ⟨?_⟩; clear cV l6; simp_all; done)
      | (exact ret_m [] rfl rfl rfl)
      | (refine ret_m [] rfl rfl ?_; clear cV l6; simp_all [valB]; done)
      | (exfalso; clear cV l6; simp_all; done)
      | (exfalso; clear cV l6; simp_all; omega)
      | trace_state
  termination_by t => SizeOf.sizeOf t
  decreasing_by
    all_goals (have hsz := List.sizeOf_lt_of_mem hx; simp; omega)
/-- what comes of two numbers: kind and number; none: it is too great -/
def opN (op x y : Int) : Int := if op = 1 then IntKind.i64.wrap (x + y) else if op = 2 then IntKind.i64.wrap (x - y) else if op = 3 then IntKind.i64.wrap (x * y) else 0
def opR (op x y : Int) : Option (Int × Int) :=
  if op = 4 then some (2, if x < y then 1 else 0) else if op = 5 then some (2, if x = y then 1 else 0)
  else if rng (opN op x y) (-1000000) 1000000 = true then some (1, opN op x y) else none
def k_l4Raise : List (Nat × List Nat) := [(0, [0, 1, 4]), (1, [0, 1, 4, 9]), (2, [0, 1, 4]), (3, [4]), (4, [4])]
theorem l4Raise_t (l tk n0 n : Int) : Tells Try.prog E0 X 79 [.io [iA l, iA tk, iA 0, iA n0], iA n] (.io [.ag [iA 0, iA 0, .t (.sl true []), iA 0, iA 0, sA ByteArray.empty, sA ByteArray.empty, iA 0, iA 0, .t (.sl true []), .t (.sl true []), .t (.sl true []), .t (.sl true [])], .io [iA l, iA tk, iA 2, iA n], .u]) := by
  refine Tells.by Try.func79 (by simp [Try.f79]) (Body.i rfl rfl rfl (fun _ => rfl) fun f => ?_)
  repeat' (first
     | refine wp_seq_i ?_ | refine wp_region_t k_l4Raise rfl ?_ | refine Run.done rfl ?_ | refine then_n ?_ | refine then_r ?_ | refine then_e ?_ | refine Run.go1 rfl ?_ | refine wp_skip_i ?_ | refine wp_ret_i ?_
     | refine wp_exit_i ?_ | refine wp_block_i ?_ | refine block_n ?_ | refine block_r ?_ | refine block_e ?_ | refine block_o rfl ?_ | refine wp_cond_t rfl ?_ | refine wp_cond_f rfl ?_ | refine Run.one rfl rfl rfl ?_
     | (refine wp_cond_k rfl rfl rfl ?_ ?_ <;> intro _) | (refine wp_cond_i rfl ?_ ?_ <;> intro _))
  all_goals (refine ret_o [true] [] rfl rfl rfl ?_ rfl; first | trivial | (simp; done))
def opS : Option (Int × Int) → AV
  | some (k, n) => .io [.ag [iA k, iA n, .t (.sl true []), iA 0, iA 0, sA ByteArray.empty, sA ByteArray.empty, iA 0, iA 0, .t (.sl true []), .t (.sl true []), .t (.sl true []), .t (.sl true [])], .io [iA 0, iA 0, iA 0, iA 0], .u, .u, .u]
  | none => .io [.ag [iA 0, iA 0, .t (.sl true []), iA 0, iA 0, sA ByteArray.empty, sA ByteArray.empty, iA 0, iA 0, .t (.sl true []), .t (.sl true []), .t (.sl true []), .t (.sl true [])], .io [iA 0, iA 0, iA 2, iA (-1)], .u, .u, .u]
def k_l4Op : List (Nat × List Nat) := [(0, [0, 1, 6, 7, 8]), (1, [0, 1, 6, 7, 8, 19]), (2, [8]), (3, [0, 1, 6, 7, 8, 9]), (4, [0, 1, 6, 7, 8, 9, 10]), (5, [0, 1, 6, 7, 8, 9, 10, 22]), (6, [0, 1, 8, 9, 10]), (7, [0, 1, 6, 7, 8, 9, 10, 22, 28]), (8, [0, 1, 8, 9, 10]), (9, [0, 1, 6, 7, 8, 9, 10, 22, 35]), (10, [0, 1, 8, 9, 10]), (11, [0, 1, 6, 7, 8, 9, 10, 22, 42]), (12, [0, 1, 8, 9, 10]), (13, [0, 1, 6, 7, 8, 9, 49]), (14, [0, 1, 8, 9, 10]), (15, [0, 8, 9, 10, 57]), (16, [8, 10, 11]), (17, [8, 11, 59]), (18, [8, 11]), (19, [8]), (20, [0, 8, 9, 64]), (21, [8]), (22, [8])]
theorem l4Op_t (op x y : Int) (hop : op ≤ 5) : Tells Try.prog E0 X 67 [.io [iA 0, iA 0, iA 0, iA 0], iA op, .ag [iA 1, iA x, .t (.sl false []), iA 0, iA 0, sA ByteArray.empty, sA ByteArray.empty, iA 0, iA 0, .t (.sl false []), .t (.sl false []), .t (.sl false []), .t (.sl false [])], .ag [iA 1, iA y, .t (.sl false []), iA 0, iA 0, sA ByteArray.empty, sA ByteArray.empty, iA 0, iA 0, .t (.sl false []), .t (.sl false []), .t (.sl false []), .t (.sl false [])]] (opS (opR op x y)) := by
  have c1 := l4Raise_t (X := X) 0 0 0 (-1)
  have c2 := l1In_t (X := X) (opN op x y) (-1000000) 1000000
  generalize hr : rng (opN op x y) (-1000000) 1000000 = rb at c2
  have hR : opR op x y = if op = 4 then some (2, if x < y then 1 else 0) else if op = 5 then some (2, if x = y then 1 else 0) else if rb = true then some (1, opN op x y) else none := by unfold opR; rw [hr]
  rw [hR]
  clear hR hr
  by_cases h1 : op = 1
  · subst h1
    rw [if_neg (by decide), if_neg (by decide)]
    refine Tells.by Try.func67 (by simp [Try.f67]) (Body.i rfl rfl rfl (fun _ => rfl) fun f => ?_)
    repeat' (first
       | refine wp_seq_i ?_ | refine wp_region_t k_l4Op rfl ?_ | refine Run.done rfl ?_ | refine then_n ?_ | refine then_r ?_ | refine then_e ?_ | refine Run.go1 rfl ?_ | refine wp_skip_i ?_ | refine wp_ret_i ?_
       | refine wp_exit_i ?_ | refine wp_block_i ?_ | refine block_n ?_ | refine block_r ?_ | refine block_e ?_ | refine block_o rfl ?_ | refine wp_cond_t rfl ?_ | refine wp_cond_f rfl ?_ | refine Run.gT rfl rfl rfl rfl ?_
       | refine Run.pT rfl rfl ?_ | (refine Run.splitG rfl rfl rfl rfl rfl rfl ?_ ?_ <;> intro _) | (refine Run.splitP rfl rfl rfl rfl ?_ ?_ <;> intro _) | refine Run.call rfl rfl rfl (c1) rfl rfl ?_
       | refine Run.call rfl rfl rfl (c2) rfl rfl ?_ | refine Run.one rfl rfl rfl ?_ | (refine wp_cond_k rfl rfl rfl ?_ ?_ <;> intro _) | (refine wp_cond_i rfl ?_ ?_ <;> intro _))
    all_goals first
    | (rename_i h
       have h : rb = true := by simpa using h
       subst h
       refine ret_o [true] [] rfl rfl rfl ?_ rfl; first | trivial | (simp; done))
    | (rename_i h
       have h : rb = false := by simpa using h
       subst h
       refine ret_o [true] [] rfl rfl rfl ?_ rfl; first | trivial | (simp; done))
    | (rename_i h
       rw [if_pos (by simpa using h)]
       refine ret_o [true] [] rfl rfl rfl ?_ rfl; first | trivial | (simp; done))
    | (rename_i h
       rw [if_neg (by simpa using h)]
       refine ret_o [true] [] rfl rfl rfl ?_ rfl; first | trivial | (simp; done))
    | (exfalso; simp_all; done)
    | (exfalso; simp_all; omega)
    | trace_state
  by_cases h2 : op = 2
  · subst h2
    rw [if_neg (by decide), if_neg (by decide)]
    refine Tells.by Try.func67 (by simp [Try.f67]) (Body.i rfl rfl rfl (fun _ => rfl) fun f => ?_)
    repeat' (first
       | refine wp_seq_i ?_ | refine wp_region_t k_l4Op rfl ?_ | refine Run.done rfl ?_ | refine then_n ?_ | refine then_r ?_ | refine then_e ?_ | refine Run.go1 rfl ?_ | refine wp_skip_i ?_ | refine wp_ret_i ?_
       | refine wp_exit_i ?_ | refine wp_block_i ?_ | refine block_n ?_ | refine block_r ?_ | refine block_e ?_ | refine block_o rfl ?_ | refine wp_cond_t rfl ?_ | refine wp_cond_f rfl ?_ | refine Run.gT rfl rfl rfl rfl ?_
       | refine Run.pT rfl rfl ?_ | (refine Run.splitG rfl rfl rfl rfl rfl rfl ?_ ?_ <;> intro _) | (refine Run.splitP rfl rfl rfl rfl ?_ ?_ <;> intro _) | refine Run.call rfl rfl rfl (c1) rfl rfl ?_
       | refine Run.call rfl rfl rfl (c2) rfl rfl ?_ | refine Run.one rfl rfl rfl ?_ | (refine wp_cond_k rfl rfl rfl ?_ ?_ <;> intro _) | (refine wp_cond_i rfl ?_ ?_ <;> intro _))
    all_goals first
    | (rename_i h
       have h : rb = true := by simpa using h
       subst h
       refine ret_o [true] [] rfl rfl rfl ?_ rfl; first | trivial | (simp; done))
    | (rename_i h
       have h : rb = false := by simpa using h
       subst h
       refine ret_o [true] [] rfl rfl rfl ?_ rfl; first | trivial | (simp; done))
    | (rename_i h
       rw [if_pos (by simpa using h)]
       refine ret_o [true] [] rfl rfl rfl ?_ rfl; first | trivial | (simp; done))
    | (rename_i h
       rw [if_neg (by simpa using h)]
       refine ret_o [true] [] rfl rfl rfl ?_ rfl; first | trivial | (simp; done))
    | (exfalso; simp_all; done)
    | (exfalso; simp_all; omega)
    | trace_state
  by_cases h3 : op = 3
  · subst h3
    rw [if_neg (by decide), if_neg (by decide)]
    refine Tells.by Try.func67 (by simp [Try.f67]) (Body.i rfl rfl rfl (fun _ => rfl) fun f => ?_)
    repeat' (first
       | refine wp_seq_i ?_ | refine wp_region_t k_l4Op rfl ?_ | refine Run.done rfl ?_ | refine then_n ?_ | refine then_r ?_ | refine then_e ?_ | refine Run.go1 rfl ?_ | refine wp_skip_i ?_ | refine wp_ret_i ?_
       | refine wp_exit_i ?_ | refine wp_block_i ?_ | refine block_n ?_ | refine block_r ?_ | refine block_e ?_ | refine block_o rfl ?_ | refine wp_cond_t rfl ?_ | refine wp_cond_f rfl ?_ | refine Run.gT rfl rfl rfl rfl ?_
       | refine Run.pT rfl rfl ?_ | (refine Run.splitG rfl rfl rfl rfl rfl rfl ?_ ?_ <;> intro _) | (refine Run.splitP rfl rfl rfl rfl ?_ ?_ <;> intro _) | refine Run.call rfl rfl rfl (c1) rfl rfl ?_
       | refine Run.call rfl rfl rfl (c2) rfl rfl ?_ | refine Run.one rfl rfl rfl ?_ | (refine wp_cond_k rfl rfl rfl ?_ ?_ <;> intro _) | (refine wp_cond_i rfl ?_ ?_ <;> intro _))
    all_goals first
    | (rename_i h
       have h : rb = true := by simpa using h
       subst h
       refine ret_o [true] [] rfl rfl rfl ?_ rfl; first | trivial | (simp; done))
    | (rename_i h
       have h : rb = false := by simpa using h
       subst h
       refine ret_o [true] [] rfl rfl rfl ?_ rfl; first | trivial | (simp; done))
    | (rename_i h
       rw [if_pos (by simpa using h)]
       refine ret_o [true] [] rfl rfl rfl ?_ rfl; first | trivial | (simp; done))
    | (rename_i h
       rw [if_neg (by simpa using h)]
       refine ret_o [true] [] rfl rfl rfl ?_ rfl; first | trivial | (simp; done))
    | (exfalso; simp_all; done)
    | (exfalso; simp_all; omega)
    | trace_state
  by_cases h4 : op = 4
  · subst h4
    rw [if_pos rfl]
    clear c2
    refine Tells.by Try.func67 (by simp [Try.f67]) (Body.i rfl rfl rfl (fun _ => rfl) fun f => ?_)
    repeat' (first
       | refine wp_seq_i ?_ | refine wp_region_t k_l4Op rfl ?_ | refine Run.done rfl ?_ | refine then_n ?_ | refine then_r ?_ | refine then_e ?_ | refine Run.go1 rfl ?_ | refine wp_skip_i ?_ | refine wp_ret_i ?_
       | refine wp_exit_i ?_ | refine wp_block_i ?_ | refine block_n ?_ | refine block_r ?_ | refine block_e ?_ | refine block_o rfl ?_ | refine wp_cond_t rfl ?_ | refine wp_cond_f rfl ?_ | refine Run.gT rfl rfl rfl rfl ?_
       | refine Run.pT rfl rfl ?_ | (refine Run.splitG rfl rfl rfl rfl rfl rfl ?_ ?_ <;> intro _) | (refine Run.splitP rfl rfl rfl rfl ?_ ?_ <;> intro _) | refine Run.call rfl rfl rfl (c1) rfl rfl ?_
       | refine Run.call rfl rfl rfl (c2) rfl rfl ?_ | refine Run.one rfl rfl rfl ?_ | (refine wp_cond_k rfl rfl rfl ?_ ?_ <;> intro _) | (refine wp_cond_i rfl ?_ ?_ <;> intro _))
    all_goals first
    | (rename_i h
       have h : rb = true := by simpa using h
       subst h
       refine ret_o [true] [] rfl rfl rfl ?_ rfl; first | trivial | (simp; done))
    | (rename_i h
       have h : rb = false := by simpa using h
       subst h
       refine ret_o [true] [] rfl rfl rfl ?_ rfl; first | trivial | (simp; done))
    | (rename_i h
       rw [if_pos (by simpa using h)]
       refine ret_o [true] [] rfl rfl rfl ?_ rfl; first | trivial | (simp; done))
    | (rename_i h
       rw [if_neg (by simpa using h)]
       refine ret_o [true] [] rfl rfl rfl ?_ rfl; first | trivial | (simp; done))
    | (exfalso; simp_all; done)
    | (exfalso; simp_all; omega)
    | trace_state
  by_cases h5 : op = 5
  · subst h5
    rw [if_neg (by decide), if_pos rfl]
    clear c2
    refine Tells.by Try.func67 (by simp [Try.f67]) (Body.i rfl rfl rfl (fun _ => rfl) fun f => ?_)
    repeat' (first
       | refine wp_seq_i ?_ | refine wp_region_t k_l4Op rfl ?_ | refine Run.done rfl ?_ | refine then_n ?_ | refine then_r ?_ | refine then_e ?_ | refine Run.go1 rfl ?_ | refine wp_skip_i ?_ | refine wp_ret_i ?_
       | refine wp_exit_i ?_ | refine wp_block_i ?_ | refine block_n ?_ | refine block_r ?_ | refine block_e ?_ | refine block_o rfl ?_ | refine wp_cond_t rfl ?_ | refine wp_cond_f rfl ?_ | refine Run.gT rfl rfl rfl rfl ?_
       | refine Run.pT rfl rfl ?_ | (refine Run.splitG rfl rfl rfl rfl rfl rfl ?_ ?_ <;> intro _) | (refine Run.splitP rfl rfl rfl rfl ?_ ?_ <;> intro _) | refine Run.call rfl rfl rfl (c1) rfl rfl ?_
       | refine Run.call rfl rfl rfl (c2) rfl rfl ?_ | refine Run.one rfl rfl rfl ?_ | (refine wp_cond_k rfl rfl rfl ?_ ?_ <;> intro _) | (refine wp_cond_i rfl ?_ ?_ <;> intro _))
    all_goals first
    | (rename_i h
       have h : rb = true := by simpa using h
       subst h
       refine ret_o [true] [] rfl rfl rfl ?_ rfl; first | trivial | (simp; done))
    | (rename_i h
       have h : rb = false := by simpa using h
       subst h
       refine ret_o [true] [] rfl rfl rfl ?_ rfl; first | trivial | (simp; done))
    | (rename_i h
       rw [if_pos (by simpa using h)]
       refine ret_o [true] [] rfl rfl rfl ?_ rfl; first | trivial | (simp; done))
    | (rename_i h
       rw [if_neg (by simpa using h)]
       refine ret_o [true] [] rfl rfl rfl ?_ rfl; first | trivial | (simp; done))
    | (exfalso; simp_all; done)
    | (exfalso; simp_all; omega)
    | trace_state
  rw [if_neg h4, if_neg h5]
  have h0 : opN op x y = 0 := by unfold opN; rw [if_neg h1, if_neg h2, if_neg h3]
  rw [h0] at c2 ⊢
  refine Tells.by Try.func67 (by simp [Try.f67]) (Body.i rfl rfl rfl (fun _ => rfl) fun f => ?_)
  repeat' (first
     | refine wp_seq_i ?_ | refine wp_region_t k_l4Op rfl ?_ | refine Run.done rfl ?_ | refine then_n ?_ | refine then_r ?_ | refine then_e ?_ | refine Run.go1 rfl ?_ | refine wp_skip_i ?_ | refine wp_ret_i ?_
     | refine wp_exit_i ?_ | refine wp_block_i ?_ | refine block_n ?_ | refine block_r ?_ | refine block_e ?_ | refine block_o rfl ?_ | refine wp_cond_t rfl ?_ | refine wp_cond_f rfl ?_ | refine Run.gT rfl rfl rfl rfl ?_
     | refine Run.pT rfl rfl ?_ | (refine Run.splitG rfl rfl rfl rfl rfl rfl ?_ ?_ <;> intro _) | (refine Run.splitP rfl rfl rfl rfl ?_ ?_ <;> intro _) | refine Run.call rfl rfl rfl (c1) rfl rfl ?_
     | refine Run.call rfl rfl rfl (c2) rfl rfl ?_ | refine Run.one rfl rfl rfl ?_ | (refine wp_cond_k rfl rfl rfl ?_ ?_ <;> intro _) | (refine wp_cond_i rfl ?_ ?_ <;> intro _))
  all_goals first
  | (rename_i h
     have h : rb = true := by simpa using h
     subst h
     refine ret_o [true] [] rfl rfl rfl ?_ rfl; first | trivial | (simp; done))
  | (rename_i h
     have h : rb = false := by simpa using h
     subst h
     refine ret_o [true] [] rfl rfl rfl ?_ rfl; first | trivial | (simp; done))
  | (rename_i h
     rw [if_pos (by simpa using h)]
     refine ret_o [true] [] rfl rfl rfl ?_ rfl; first | trivial | (simp; done))
  | (rename_i h
     rw [if_neg (by simpa using h)]
     refine ret_o [true] [] rfl rfl rfl ?_ rfl; first | trivial | (simp; done))
  | (exfalso; simp_all; done)
  | (exfalso; simp_all; omega)
  | trace_state
theorem number_t (n : Int) : Tells Try.prog E0 X 99 [iA n] (.t (.pt [iT 0, iT n, .sc (.pointer none), .sc (.pointer none), .sc (.pointer none), sT ByteArray.empty, .sc (.pointer none), .sl false []])) := by
  refine Tells.by Try.func99 (by simp [Try.f99]) (Body.i rfl rfl rfl (fun _ => rfl) fun f => ?_)
  repeat' (first
     | refine wp_seq_i ?_ | refine wp_region_i ?_ | refine Run.done rfl ?_ | refine then_n ?_ | refine then_r ?_ | refine then_e ?_ | refine Run.go1 rfl ?_ | refine wp_skip_i ?_ | refine wp_ret_i ?_ | refine wp_exit_i ?_
     | refine wp_block_i ?_ | refine block_n ?_ | refine block_r ?_ | refine block_e ?_ | refine block_o rfl ?_ | refine wp_cond_t rfl ?_ | refine wp_cond_f rfl ?_ | refine Run.one rfl rfl rfl ?_
     | (refine wp_cond_k rfl rfl rfl ?_ ?_ <;> intro _) | (refine wp_cond_i rfl ?_ ?_ <;> intro _))
  all_goals exact ret_s [] rfl rfl rfl
theorem truth_t (p : Bool) (n : Int) (hn : n = if p = true then 1 else 0) : Tells Try.prog E0 X 97 [bA p] (.t (.pt [iT 1, iT n, .sc (.pointer none), .sc (.pointer none), .sc (.pointer none), sT ByteArray.empty, .sc (.pointer none), .sl false []])) := by
  subst hn
  cases p <;> skip
  all_goals (
    refine Tells.by Try.func97 (by simp [Try.f97]) (Body.i rfl rfl rfl (fun _ => rfl) fun f => ?_)
    repeat' (first
       | refine wp_seq_i ?_ | refine wp_region_i ?_ | refine Run.done rfl ?_ | refine then_n ?_ | refine then_r ?_ | refine then_e ?_ | refine Run.go1 rfl ?_ | refine wp_skip_i ?_ | refine wp_ret_i ?_ | refine wp_exit_i ?_
       | refine wp_block_i ?_ | refine block_n ?_ | refine block_r ?_ | refine block_e ?_ | refine block_o rfl ?_ | refine wp_cond_t rfl ?_ | refine wp_cond_f rfl ?_ | refine Run.one rfl rfl rfl ?_
       | (refine wp_cond_k rfl rfl rfl ?_ ?_ <;> intro _) | (refine wp_cond_i rfl ?_ ?_ <;> intro _))
    all_goals exact ret_s [] rfl rfl rfl)
theorem raised_t (n : Int) : Tells Try.prog E0 X 98 [iA n] (.ag [iA 2, iA n]) := by
  refine Tells.by Try.func98 (by simp [Try.f98]) (Body.i rfl rfl rfl (fun _ => rfl) fun f => ?_)
  repeat' (first
     | refine wp_seq_i ?_ | refine wp_region_i ?_ | refine Run.done rfl ?_ | refine then_n ?_ | refine then_r ?_ | refine then_e ?_ | refine Run.go1 rfl ?_ | refine wp_skip_i ?_ | refine wp_ret_i ?_ | refine wp_exit_i ?_
     | refine wp_block_i ?_ | refine block_n ?_ | refine block_r ?_ | refine block_e ?_ | refine block_o rfl ?_ | refine wp_cond_t rfl ?_ | refine wp_cond_f rfl ?_ | refine Run.one rfl rfl rfl ?_
     | (refine wp_cond_k rfl rfl rfl ?_ ?_ <;> intro _) | (refine wp_cond_i rfl ?_ ?_ <;> intro _))
  all_goals exact ret_m [] rfl rfl rfl
theorem fine_t (e n : Int) : Tells Try.prog E0 X 89 [.ag [iA e, iA n]] (bA (e == 0)) := by
  refine Tells.by Try.func89 (by simp [Try.f89]) (Body.i rfl rfl rfl (fun _ => rfl) fun f => ?_)
  repeat' (first
     | refine wp_seq_i ?_ | refine wp_region_i ?_ | refine Run.done rfl ?_ | refine then_n ?_ | refine then_r ?_ | refine then_e ?_ | refine Run.go1 rfl ?_ | refine wp_skip_i ?_ | refine wp_ret_i ?_ | refine wp_exit_i ?_
     | refine wp_block_i ?_ | refine block_n ?_ | refine block_r ?_ | refine block_e ?_ | refine block_o rfl ?_ | refine wp_cond_t rfl ?_ | refine wp_cond_f rfl ?_ | refine Run.one rfl rfl rfl ?_
     | (refine wp_cond_k rfl rfl rfl ?_ ?_ <;> intro _) | (refine wp_cond_i rfl ?_ ?_ <;> intro _))
  all_goals exact ret_m [] rfl rfl rfl
def opI : Option (Int × Int) → AV
  | some (k, n) => .tp [.t (.pt [iT (k - 1), iT n, .sc (.pointer none), .sc (.pointer none), .sc (.pointer none), sT ByteArray.empty, .sc (.pointer none), .sl false []]), .ag [iA 0, iA 0]]
  | none => .tp [.t (.sc (.pointer none)), .ag [iA 2, iA (-1)]]
def k_reckoned : List (Nat × List Nat) := [(0, [0, 1, 2, 7]), (1, [0, 1, 2, 7, 8]), (2, [1, 2, 7, 8, 9]), (3, [1, 2, 7, 8, 9, 10]), (4, [7, 8]), (5, [1, 2, 7, 8, 9, 15]), (6, [7, 8]), (7, [1, 2, 7, 8, 9, 20]), (8, [7, 8]), (9, [1, 2, 7, 8, 9, 25]), (10, [6, 7]), (11, [1, 2, 7, 8, 32]), (12, [6, 7]), (13, [7, 8, 41]), (14, [6, 7]), (15, [6, 7])]
theorem reckoned_t (op x y : Int) : Tells Try.prog E0 X 88 [iA op, iA x, iA y] (opI (opR op x y)) := by
  have c1 := raised_t (X := X) (-1)
  have c2 := in_t (X := X) (opN op x y) (-1000000) 1000000
  have c3 := number_t (X := X) (opN op x y)
  have c4 := truth_t (X := X) (decide (x < y)) (if x < y then 1 else 0) (by simp)
  have c5 := truth_t (X := X) (x == y) (if x = y then 1 else 0) (by simp)
  generalize hr : rng (opN op x y) (-1000000) 1000000 = rb at c2
  have hR : opR op x y = if op = 4 then some (2, if x < y then 1 else 0) else if op = 5 then some (2, if x = y then 1 else 0) else if rb = true then some (1, opN op x y) else none := by unfold opR; rw [hr]
  rw [hR]
  clear hR hr
  by_cases h1 : op = 1
  · subst h1
    rw [if_neg (by decide), if_neg (by decide)]
    refine Tells.by Try.func88 (by simp [Try.f88]) (Body.i rfl rfl rfl (fun _ => rfl) fun f => ?_)
    repeat' (first
       | refine wp_seq_i ?_ | refine wp_region_t k_reckoned rfl ?_ | refine Run.done rfl ?_ | refine then_n ?_ | refine then_r ?_ | refine then_e ?_ | refine Run.go1 rfl ?_ | refine wp_skip_i ?_ | refine wp_ret_i ?_
       | refine wp_exit_i ?_ | refine wp_block_i ?_ | refine block_n ?_ | refine block_r ?_ | refine block_e ?_ | refine block_o rfl ?_ | refine wp_cond_t rfl ?_ | refine wp_cond_f rfl ?_ | refine Run.gT rfl rfl rfl rfl ?_
       | refine Run.pT rfl rfl ?_ | (refine Run.splitG rfl rfl rfl rfl rfl rfl ?_ ?_ <;> intro _) | (refine Run.splitP rfl rfl rfl rfl ?_ ?_ <;> intro _) | refine Run.call rfl rfl rfl (c1) rfl rfl ?_
       | refine Run.call rfl rfl rfl (c2) rfl rfl ?_ | refine Run.call rfl rfl rfl (c3) rfl rfl ?_ | refine Run.call rfl rfl rfl (c4) rfl rfl ?_ | refine Run.call rfl rfl rfl (c5) rfl rfl ?_ | refine Run.one rfl rfl rfl ?_
       | (refine wp_cond_k rfl rfl rfl ?_ ?_ <;> intro _) | (refine wp_cond_i rfl ?_ ?_ <;> intro _))
    all_goals first
    | (rename_i h
       have h : rb = true := by simpa using h
       subst h
       exact ret_s [] rfl rfl rfl)
    | (rename_i h
       have h : rb = false := by simpa using h
       subst h
       exact ret_s [] rfl rfl rfl)
    | (rename_i h
       rw [if_pos (by simpa using h)]
       exact ret_s [] rfl rfl rfl)
    | (rename_i h
       rw [if_neg (by simpa using h)]
       exact ret_s [] rfl rfl rfl)
    | (exact ret_s [] rfl rfl rfl)
    | (exfalso; simp_all; done)
    | (exfalso; simp_all; omega)
    | trace_state
  by_cases h2 : op = 2
  · subst h2
    rw [if_neg (by decide), if_neg (by decide)]
    refine Tells.by Try.func88 (by simp [Try.f88]) (Body.i rfl rfl rfl (fun _ => rfl) fun f => ?_)
    repeat' (first
       | refine wp_seq_i ?_ | refine wp_region_t k_reckoned rfl ?_ | refine Run.done rfl ?_ | refine then_n ?_ | refine then_r ?_ | refine then_e ?_ | refine Run.go1 rfl ?_ | refine wp_skip_i ?_ | refine wp_ret_i ?_
       | refine wp_exit_i ?_ | refine wp_block_i ?_ | refine block_n ?_ | refine block_r ?_ | refine block_e ?_ | refine block_o rfl ?_ | refine wp_cond_t rfl ?_ | refine wp_cond_f rfl ?_ | refine Run.gT rfl rfl rfl rfl ?_
       | refine Run.pT rfl rfl ?_ | (refine Run.splitG rfl rfl rfl rfl rfl rfl ?_ ?_ <;> intro _) | (refine Run.splitP rfl rfl rfl rfl ?_ ?_ <;> intro _) | refine Run.call rfl rfl rfl (c1) rfl rfl ?_
       | refine Run.call rfl rfl rfl (c2) rfl rfl ?_ | refine Run.call rfl rfl rfl (c3) rfl rfl ?_ | refine Run.call rfl rfl rfl (c4) rfl rfl ?_ | refine Run.call rfl rfl rfl (c5) rfl rfl ?_ | refine Run.one rfl rfl rfl ?_
       | (refine wp_cond_k rfl rfl rfl ?_ ?_ <;> intro _) | (refine wp_cond_i rfl ?_ ?_ <;> intro _))
    all_goals first
    | (rename_i h
       have h : rb = true := by simpa using h
       subst h
       exact ret_s [] rfl rfl rfl)
    | (rename_i h
       have h : rb = false := by simpa using h
       subst h
       exact ret_s [] rfl rfl rfl)
    | (rename_i h
       rw [if_pos (by simpa using h)]
       exact ret_s [] rfl rfl rfl)
    | (rename_i h
       rw [if_neg (by simpa using h)]
       exact ret_s [] rfl rfl rfl)
    | (exact ret_s [] rfl rfl rfl)
    | (exfalso; simp_all; done)
    | (exfalso; simp_all; omega)
    | trace_state
  by_cases h3 : op = 3
  · subst h3
    rw [if_neg (by decide), if_neg (by decide)]
    refine Tells.by Try.func88 (by simp [Try.f88]) (Body.i rfl rfl rfl (fun _ => rfl) fun f => ?_)
    repeat' (first
       | refine wp_seq_i ?_ | refine wp_region_t k_reckoned rfl ?_ | refine Run.done rfl ?_ | refine then_n ?_ | refine then_r ?_ | refine then_e ?_ | refine Run.go1 rfl ?_ | refine wp_skip_i ?_ | refine wp_ret_i ?_
       | refine wp_exit_i ?_ | refine wp_block_i ?_ | refine block_n ?_ | refine block_r ?_ | refine block_e ?_ | refine block_o rfl ?_ | refine wp_cond_t rfl ?_ | refine wp_cond_f rfl ?_ | refine Run.gT rfl rfl rfl rfl ?_
       | refine Run.pT rfl rfl ?_ | (refine Run.splitG rfl rfl rfl rfl rfl rfl ?_ ?_ <;> intro _) | (refine Run.splitP rfl rfl rfl rfl ?_ ?_ <;> intro _) | refine Run.call rfl rfl rfl (c1) rfl rfl ?_
       | refine Run.call rfl rfl rfl (c2) rfl rfl ?_ | refine Run.call rfl rfl rfl (c3) rfl rfl ?_ | refine Run.call rfl rfl rfl (c4) rfl rfl ?_ | refine Run.call rfl rfl rfl (c5) rfl rfl ?_ | refine Run.one rfl rfl rfl ?_
       | (refine wp_cond_k rfl rfl rfl ?_ ?_ <;> intro _) | (refine wp_cond_i rfl ?_ ?_ <;> intro _))
    all_goals first
    | (rename_i h
       have h : rb = true := by simpa using h
       subst h
       exact ret_s [] rfl rfl rfl)
    | (rename_i h
       have h : rb = false := by simpa using h
       subst h
       exact ret_s [] rfl rfl rfl)
    | (rename_i h
       rw [if_pos (by simpa using h)]
       exact ret_s [] rfl rfl rfl)
    | (rename_i h
       rw [if_neg (by simpa using h)]
       exact ret_s [] rfl rfl rfl)
    | (exact ret_s [] rfl rfl rfl)
    | (exfalso; simp_all; done)
    | (exfalso; simp_all; omega)
    | trace_state
  by_cases h4 : op = 4
  · subst h4
    rw [if_pos rfl]
    clear c2 c3
    refine Tells.by Try.func88 (by simp [Try.f88]) (Body.i rfl rfl rfl (fun _ => rfl) fun f => ?_)
    repeat' (first
       | refine wp_seq_i ?_ | refine wp_region_t k_reckoned rfl ?_ | refine Run.done rfl ?_ | refine then_n ?_ | refine then_r ?_ | refine then_e ?_ | refine Run.go1 rfl ?_ | refine wp_skip_i ?_ | refine wp_ret_i ?_
       | refine wp_exit_i ?_ | refine wp_block_i ?_ | refine block_n ?_ | refine block_r ?_ | refine block_e ?_ | refine block_o rfl ?_ | refine wp_cond_t rfl ?_ | refine wp_cond_f rfl ?_ | refine Run.gT rfl rfl rfl rfl ?_
       | refine Run.pT rfl rfl ?_ | (refine Run.splitG rfl rfl rfl rfl rfl rfl ?_ ?_ <;> intro _) | (refine Run.splitP rfl rfl rfl rfl ?_ ?_ <;> intro _) | refine Run.call rfl rfl rfl (c1) rfl rfl ?_
       | refine Run.call rfl rfl rfl (c2) rfl rfl ?_ | refine Run.call rfl rfl rfl (c3) rfl rfl ?_ | refine Run.call rfl rfl rfl (c4) rfl rfl ?_ | refine Run.call rfl rfl rfl (c5) rfl rfl ?_ | refine Run.one rfl rfl rfl ?_
       | (refine wp_cond_k rfl rfl rfl ?_ ?_ <;> intro _) | (refine wp_cond_i rfl ?_ ?_ <;> intro _))
    all_goals first
    | (rename_i h
       have h : rb = true := by simpa using h
       subst h
       exact ret_s [] rfl rfl rfl)
    | (rename_i h
       have h : rb = false := by simpa using h
       subst h
       exact ret_s [] rfl rfl rfl)
    | (rename_i h
       rw [if_pos (by simpa using h)]
       exact ret_s [] rfl rfl rfl)
    | (rename_i h
       rw [if_neg (by simpa using h)]
       exact ret_s [] rfl rfl rfl)
    | (exact ret_s [] rfl rfl rfl)
    | (exfalso; simp_all; done)
    | (exfalso; simp_all; omega)
    | trace_state
  by_cases h5 : op = 5
  · subst h5
    rw [if_neg (by decide), if_pos rfl]
    clear c2 c3
    refine Tells.by Try.func88 (by simp [Try.f88]) (Body.i rfl rfl rfl (fun _ => rfl) fun f => ?_)
    repeat' (first
       | refine wp_seq_i ?_ | refine wp_region_t k_reckoned rfl ?_ | refine Run.done rfl ?_ | refine then_n ?_ | refine then_r ?_ | refine then_e ?_ | refine Run.go1 rfl ?_ | refine wp_skip_i ?_ | refine wp_ret_i ?_
       | refine wp_exit_i ?_ | refine wp_block_i ?_ | refine block_n ?_ | refine block_r ?_ | refine block_e ?_ | refine block_o rfl ?_ | refine wp_cond_t rfl ?_ | refine wp_cond_f rfl ?_ | refine Run.gT rfl rfl rfl rfl ?_
       | refine Run.pT rfl rfl ?_ | (refine Run.splitG rfl rfl rfl rfl rfl rfl ?_ ?_ <;> intro _) | (refine Run.splitP rfl rfl rfl rfl ?_ ?_ <;> intro _) | refine Run.call rfl rfl rfl (c1) rfl rfl ?_
       | refine Run.call rfl rfl rfl (c2) rfl rfl ?_ | refine Run.call rfl rfl rfl (c3) rfl rfl ?_ | refine Run.call rfl rfl rfl (c4) rfl rfl ?_ | refine Run.call rfl rfl rfl (c5) rfl rfl ?_ | refine Run.one rfl rfl rfl ?_
       | (refine wp_cond_k rfl rfl rfl ?_ ?_ <;> intro _) | (refine wp_cond_i rfl ?_ ?_ <;> intro _))
    all_goals first
    | (rename_i h
       have h : rb = true := by simpa using h
       subst h
       exact ret_s [] rfl rfl rfl)
    | (rename_i h
       have h : rb = false := by simpa using h
       subst h
       exact ret_s [] rfl rfl rfl)
    | (rename_i h
       rw [if_pos (by simpa using h)]
       exact ret_s [] rfl rfl rfl)
    | (rename_i h
       rw [if_neg (by simpa using h)]
       exact ret_s [] rfl rfl rfl)
    | (exact ret_s [] rfl rfl rfl)
    | (exfalso; simp_all; done)
    | (exfalso; simp_all; omega)
    | trace_state
  rw [if_neg h4, if_neg h5]
  have h0 : opN op x y = 0 := by unfold opN; rw [if_neg h1, if_neg h2, if_neg h3]
  rw [h0] at c2 c3 ⊢
  refine Tells.by Try.func88 (by simp [Try.f88]) (Body.i rfl rfl rfl (fun _ => rfl) fun f => ?_)
  repeat' (first
     | refine wp_seq_i ?_ | refine wp_region_t k_reckoned rfl ?_ | refine Run.done rfl ?_ | refine then_n ?_ | refine then_r ?_ | refine then_e ?_ | refine Run.go1 rfl ?_ | refine wp_skip_i ?_ | refine wp_ret_i ?_
     | refine wp_exit_i ?_ | refine wp_block_i ?_ | refine block_n ?_ | refine block_r ?_ | refine block_e ?_ | refine block_o rfl ?_ | refine wp_cond_t rfl ?_ | refine wp_cond_f rfl ?_ | refine Run.gT rfl rfl rfl rfl ?_
     | refine Run.pT rfl rfl ?_ | (refine Run.splitG rfl rfl rfl rfl rfl rfl ?_ ?_ <;> intro _) | (refine Run.splitP rfl rfl rfl rfl ?_ ?_ <;> intro _) | refine Run.call rfl rfl rfl (c1) rfl rfl ?_
     | refine Run.call rfl rfl rfl (c2) rfl rfl ?_ | refine Run.call rfl rfl rfl (c3) rfl rfl ?_ | refine Run.call rfl rfl rfl (c4) rfl rfl ?_ | refine Run.call rfl rfl rfl (c5) rfl rfl ?_ | refine Run.one rfl rfl rfl ?_
     | (refine wp_cond_k rfl rfl rfl ?_ ?_ <;> intro _) | (refine wp_cond_i rfl ?_ ?_ <;> intro _))
  all_goals first
  | (rename_i h
     have h : rb = true := by simpa using h
     subst h
     exact ret_s [] rfl rfl rfl)
  | (rename_i h
     have h : rb = false := by simpa using h
     subst h
     exact ret_s [] rfl rfl rfl)
  | (rename_i h
     rw [if_pos (by simpa using h)]
     exact ret_s [] rfl rfl rfl)
  | (rename_i h
     rw [if_neg (by simpa using h)]
     exact ret_s [] rfl rfl rfl)
  | (exact ret_s [] rfl rfl rfl)
  | (exfalso; simp_all; done)
  | (exfalso; simp_all; omega)
  | trace_state
end Go.Proofs

set_option linter.unusedVariables false
set_option linter.unusedSimpArgs false
set_option maxHeartbeats 4000000
namespace Go.Proofs
open Go Go.Ev
set_option maxRecDepth 100000
/-- one step of folding: what a term whose parts are these is -/
def fold1 (k n : Int) (s z : ByteArray) (t : Ty) (ts : List Ty) (a : List Tm) : Tm :=
  if k = 15 then match a with
    | [.mk k3 n3 _ _ _ _ _, .mk k4 n4 _ _ _ _ _] => if k3 = 1 ∧ k4 = 1 then (match opR n n3 n4 with
      | some (k', m) => .mk k' m ByteArray.empty ByteArray.empty (.mk 0 0 []) [] []
      | none => .mk k n s z t ts a) else .mk k n s z t ts a
    | _ => .mk k n s z t ts a
  else if k = 8 then match a with
    | [.mk k3 n3 _ _ _ _ _, x, y] => if k3 = 2 then (if n3 = 1 then x else y) else .mk k n s z t ts a
    | _ => .mk k n s z t ts a
  else if k = 10 then match a with
    | [.mk k3 _ _ _ _ _ [x, y]] => if k3 = 9 ∧ pur y = true then x else .mk k n s z t ts a
    | _ => .mk k n s z t ts a
  else if k = 11 then match a with
    | [.mk k3 _ _ _ _ _ [x, y]] => if k3 = 9 ∧ pur x = true then y else .mk k n s z t ts a
    | _ => .mk k n s z t ts a
  else if k = 14 then match a with
    | [.mk k3 _ _ _ _ _ _, x, _] => if k3 = 12 then x else .mk k n s z t ts a
    | _ => .mk k n s z t ts a
  else if k = 6 then match a with
    | [x, y] => if n = 0 ∧ pur x = true ∧ has (frT y [] []) s = false then y else .mk k n s z t ts a
    | _ => .mk k n s z t ts a
  else if k = 17 then match a with
    | [x, _] => if pur x = true then x else .mk k n s z t ts a
    | _ => .mk k n s z t ts a
  else .mk k n s z t ts a
mutual
/-- a term folded, its parts first -/
def foldT : Tm → Tm
  | .mk k n s z t ts a => fold1 k n s z t ts (foldL a)
def foldL : List Tm → List Tm
  | [] => []
  | t :: r => foldT t :: foldL r
end
/-- right but for its size, and not greater than another -/
structure Gd (t u : Tm) : Prop where
  h : tmH t = true
  ok : t.ok
  n : tmN t ≤ tmN u
  d : tmD t ≤ tmD u
  c : cTm t ≤ cTm u
theorem opR_is {op x y k m : Int} (h : opR op x y = some (k, m)) : (k = 1 ∧ rng m (-1000000) 1000000 = true) ∨ (k = 2 ∧ rng m 0 1 = true) := by
  unfold opR at h
  split at h
  · cases h; refine .inr ⟨rfl, ?_⟩; split <;> decide
  · split at h
    · cases h; refine .inr ⟨rfl, ?_⟩; split <;> decide
    · split at h
      · rename_i hr; cases h; exact .inl ⟨rfl, hr⟩
      · cases h
theorem tyB_zero : tyB (.mk 0 0 []) = false := by
  unfold tyB
  rw [tyH]
  have : tyHd 0 0 ([] : List Ty).length = false := by decide
  rw [this]
  rfl
theorem leaf_gd {op x y k m : Int} (h : opR op x y = some (k, m)) (u : Tm) : Gd (.mk k m ByteArray.empty ByteArray.empty (.mk 0 0 []) [] []) u := by
  refine ⟨?_, ?_, ?_, ?_, ?_⟩
  · rw [tmH, tmHL, Bool.and_true]
    unfold tmHd
    rcases opR_is h with ⟨rfl, hr⟩ | ⟨rfl, hr⟩
    · simp [numB, hr, namB, nmB_empty, hasTB, tyB_zero, bndB, tmPt, tsB]
    · simp [numB, hr, namB, nmB_empty, hasTB, tyB_zero, bndB, tmPt, tsB]
  · rw [Tm.ok, Ty.ok]
    refine ⟨by decide, by decide, ⟨by decide, trivial⟩, ⟨by decide, trivial⟩, by decide, trivial⟩
  · obtain ⟨k', n', s', z', t', ts', a'⟩ := u; rw [tmN, tmNL, tmN]; omega
  · obtain ⟨k', n', s', z', t', ts', a'⟩ := u; rw [tmD, tmDL, tmD]; omega
  · obtain ⟨k', n', s', z', ⟨tk, tn, ta⟩, ts', a'⟩ := u; rw [cTm, cTm, cTy, cTy]; simp only [cTyL, cTmL]; omega
theorem Gd.mem {k n : Int} {s z : ByteArray} {t : Ty} {ts : List Ty} {a : List Tm} {x : Tm} (h : tmH (.mk k n s z t ts a) = true) (ok : (Tm.mk k n s z t ts a).ok) (hx : x ∈ a) : Gd x (.mk k n s z t ts a) := by
  obtain ⟨j, hj⟩ := List.mem_iff_getElem?.1 hx
  have h1 := tmNL_mem a j x hj
  have h2 := tmDL_mem a j x hj
  have h3 := cTmL_take a j x hj
  rw [Tm.ok] at ok
  refine ⟨tmH_mem h x hx, Tm.okL_iff.1 ok.2.2.2.2.2 x hx, ?_, ?_, ?_⟩
  · rw [tmN]; omega
  · rw [tmD]; omega
  · rw [cTm]; omega
theorem Gd.trans {t u v : Tm} (h : Gd t u) (h2 : Gd u v) : Gd t v := ⟨h.h, h.ok, Nat.le_trans h.n h2.n, Nat.le_trans h.d h2.d, Nat.le_trans h.c h2.c⟩
theorem Gd.self {t : Tm} (h : tmH t = true) (ok : t.ok) : Gd t t := ⟨h, ok, Nat.le_refl _, Nat.le_refl _, Nat.le_refl _⟩
theorem fold1_gd {k n : Int} {s z : ByteArray} {t : Ty} {ts : List Ty} {a : List Tm} (h : tmH (.mk k n s z t ts a) = true) (ok : (Tm.mk k n s z t ts a).ok) : Gd (fold1 k n s z t ts a) (.mk k n s z t ts a) := by
  have self := Gd.self h ok
  have mem := fun x hx => Gd.mem (x := x) h ok hx
  unfold fold1
  split
  · split
    · split
      · split
        · rename_i he; exact leaf_gd he _
        · exact self
      · exact self
    · exact self
  · split
    · split
      · split
        · split
          · exact mem _ (by simp)
          · exact mem _ (by simp)
        · exact self
      · exact self
    · split
      · split
        · split
          · have hm := mem _ (List.mem_singleton.2 rfl)
            exact (Gd.mem hm.h hm.ok (by simp)).trans hm
          · exact self
        · exact self
      · split
        · split
          · split
            · have hm := mem _ (List.mem_singleton.2 rfl)
              exact (Gd.mem hm.h hm.ok (by simp)).trans hm
            · exact self
          · exact self
        · split
          · split
            · split
              · exact mem _ (by simp)
              · exact self
            · exact self
          · split
            · split
              · split
                · exact mem _ (by simp)
                · exact self
              · exact self
            · split
              · split
                · split
                  · exact mem _ (by simp)
                  · exact self
                · exact self
              · exact self
def Tm.kd : Tm → Int
  | .mk k _ _ _ _ _ _ => k
theorem fold1_4 {k n : Int} {s z : ByteArray} {t : Ty} {ts : List Ty} {a : List Tm} (h : k = 4) : (fold1 k n s z t ts a).kd = 4 := by
  subst h
  unfold fold1
  simp [Tm.kd]
theorem fnHd_kd : ∀ (a : List Tm), fnHd a = true ↔ ∃ x r, a = x :: r ∧ x.kd = 4
  | [] => by simp [fnHd]
  | .mk k n s z t ts a :: r => by simp [fnHd, Tm.kd]
theorem tmHd_like {k n : Int} {s z : ByteArray} {t : Ty} {ts : List Ty} {a b : List Tm} (hl : b.length = a.length) (hf : fnHd a = true → fnHd b = true) (h : tmHd k n s z t ts a = true) : tmHd k n s z t ts b = true := by
  unfold tmHd at h ⊢
  rw [hl]
  simp only [Bool.and_eq_true, Bool.or_eq_true] at h ⊢
  obtain ⟨⟨⟨⟨⟨⟨⟨h1, h2⟩, h3⟩, h4⟩, h5⟩, h6⟩, h7⟩, h8⟩ := h
  exact ⟨⟨⟨⟨⟨⟨⟨h1, h2⟩, h3⟩, h4.imp id hf⟩, h5⟩, h6⟩, h7⟩, h8⟩
mutual
theorem foldT_gd : ∀ (t : Tm), tmH t = true → t.ok → Gd (foldT t) t ∧ (t.kd = 4 → (foldT t).kd = 4)
  | .mk k n s z t ts a, h, ok => by
    have h' := h
    have ok' := ok
    rw [tmH, Bool.and_eq_true_iff] at h'
    rw [Tm.ok] at ok'
    obtain ⟨g1, g2, g3, g4, g5, g6, g7⟩ := foldL_gd a h'.2 ok'.2.2.2.2.2
    have hm : tmH (.mk k n s z t ts (foldL a)) = true := by
      rw [tmH, Bool.and_eq_true_iff]; exact ⟨tmHd_like g3 g7 h'.1, g1⟩
    have okm : (Tm.mk k n s z t ts (foldL a)).ok := by
      rw [Tm.ok]; exact ⟨ok'.1, ok'.2.1, ok'.2.2.1, ok'.2.2.2.1, by rw [g3]; exact ok'.2.2.2.2.1, g2⟩
    have g := fold1_gd hm okm
    rw [foldT]
    refine ⟨⟨g.h, g.ok, Nat.le_trans g.n ?_, Nat.le_trans g.d ?_, Nat.le_trans g.c ?_⟩, fun hk => fold1_4 hk⟩
    · rw [tmN, tmN]; omega
    · rw [tmD, tmD]; omega
    · rw [cTm, cTm]; omega
theorem foldL_gd : ∀ (l : List Tm), tmHL l = true → Tm.okL l → tmHL (foldL l) = true ∧ Tm.okL (foldL l) ∧ (foldL l).length = l.length ∧ tmNL (foldL l) ≤ tmNL l ∧ tmDL (foldL l) ≤ tmDL l ∧ cTmL (foldL l) ≤ cTmL l ∧ (fnHd l = true → fnHd (foldL l) = true)
  | [], h, ok => by rw [foldL]; exact ⟨h, ok, rfl, Nat.le_refl _, Nat.le_refl _, Nat.le_refl _, id⟩
  | t :: r, h, ok => by
    rw [tmHL, Bool.and_eq_true_iff] at h
    rw [Tm.okL] at ok
    obtain ⟨g, g4⟩ := foldT_gd t h.1 ok.1
    obtain ⟨g1, g2, g3, g5, g6, g7, g8⟩ := foldL_gd r h.2 ok.2
    have e1 := g.n
    have e2 := g.d
    have e3 := g.c
    rw [foldL, tmHL, Tm.okL, tmNL, tmNL, tmDL, tmDL, cTmL, cTmL]
    refine ⟨by rw [g.h, g1]; rfl, ⟨g.ok, g2⟩, by simp [g3], by omega, by omega, by omega, fun hf => ?_⟩
    obtain ⟨x, r', he, hk⟩ := (fnHd_kd _).1 hf
    cases he
    exact (fnHd_kd _).2 ⟨_, _, rfl, g4 hk⟩
end
theorem foldL_snoc (x : Tm) : ∀ l : List Tm, foldL (l ++ [x]) = foldL l ++ [foldT x]
  | [] => by rw [List.nil_append, foldL, foldL, foldL]; rfl
  | t :: r => by rw [List.cons_append, foldL, foldL, foldL_snoc x r]; rfl
theorem foldL_len : ∀ l : List Tm, (foldL l).length = l.length
  | [] => by rw [foldL]
  | t :: r => by rw [foldL, List.length_cons, List.length_cons, foldL_len r]
theorem tmB_fold {t : Tm} (h : tmB t = true) (ok : t.ok) : tmB (foldT t) = true ∧ (foldT t).ok ∧ cTm (foldT t) ≤ cTm t := by
  obtain ⟨h1, h2, h3⟩ := tmB_H h
  obtain ⟨g, _⟩ := foldT_gd t h1 ok
  refine ⟨?_, g.ok, g.c⟩
  unfold tmB
  have e1 := g.n
  have e2 := g.d
  rw [g.h, decide_eq_true (by omega), decide_eq_true (by omega)]
  rfl
/-- folded till nothing turns -/
noncomputable def foldN : Nat → Tm → Tm
  | 0, t => t
  | n + 1, t => if foldT t = t then t else foldN n (foldT t)
noncomputable def FoldB (t : Tm) : Tm := if tmB t = true then foldT t else t
noncomputable def FoldAllB (t : Tm) : Tm := if tmB t = true then foldN 150 t else t
theorem foldN_ok : ∀ (n : Nat) (t : Tm), tmB t = true → t.ok → (foldN n t).ok ∧ cTm (foldN n t) ≤ cTm t
  | 0, t, h, ok => by rw [foldN]; exact ⟨ok, Nat.le_refl _⟩
  | n + 1, t, h, ok => by
    rw [foldN]
    split
    · exact ⟨ok, Nat.le_refl _⟩
    · obtain ⟨h1, h2, h3⟩ := tmB_fold h ok
      obtain ⟨h4, h5⟩ := foldN_ok n (foldT t) h1 h2
      exact ⟨h4, Nat.le_trans h5 h3⟩
theorem FoldB_ok {t : Tm} (ok : t.ok) : (FoldB t).ok ∧ cTm (FoldB t) ≤ cTm t := by
  unfold FoldB
  split
  · rename_i h; obtain ⟨_, h2, h3⟩ := tmB_fold h ok; exact ⟨h2, h3⟩
  · exact ⟨ok, Nat.le_refl _⟩
theorem FoldAllB_ok {t : Tm} (ok : t.ok) : (FoldAllB t).ok ∧ cTm (FoldAllB t) ≤ cTm t := by
  unfold FoldAllB
  split
  · rename_i h; exact foldN_ok 150 t h ok
  · exact ⟨ok, Nat.le_refl _⟩
/-- the rows of what is folded so far -/
theorem row_set (m : List Tm) (aa : List Tm) (j : Nat) (t t' : Tm) (hj : m.length = j) (ht : aa[j]? = some t) : ((m ++ aa.drop j).map (Tm.c true)).set j (Tm.c true t') = (((m ++ [t']) ++ aa.drop (j + 1)).map (Tm.c true)) := by
  obtain ⟨hlt, rfl⟩ := List.getElem?_eq_some_iff.1 ht
  rw [List.drop_eq_getElem_cons hlt, List.map_append, List.map_cons, List.set_append_right _ _ (by simp; omega), show j - (m.map (Tm.c true)).length = 0 by simp [hj], List.set_cons_zero]
  simp only [List.map_append, List.map_cons, List.map_nil, List.append_assoc, List.cons_append, List.nil_append]
theorem row_at (m : List Tm) (aa : List Tm) (j : Nat) (t : Tm) (hj : m.length = j) (ht : aa[j]? = some t) : ((m ++ aa.drop j).map (Tm.c true))[j]? = some (Tm.c true t) := by
  obtain ⟨hlt, rfl⟩ := List.getElem?_eq_some_iff.1 ht
  rw [List.getElem?_map, List.getElem?_append_right (by omega), List.drop_eq_getElem_cons hlt, show j - m.length = 0 by omega]
  rfl
/-- the same, as the program does it -/
noncomputable def gN : Nat → Tm → Tm
  | 0, t => t
  | n + 1, t => if FoldB t = t then t else gN n (FoldB t)
theorem gN_foldN : ∀ (n : Nat) (t : Tm), tmB t = true → t.ok → gN n t = foldN n t
  | 0, t, h, ok => by rw [gN, foldN]
  | n + 1, t, h, ok => by
    have e : FoldB t = foldT t := by unfold FoldB; rw [if_pos h]
    rw [gN, foldN, e]
    obtain ⟨h1, h2, _⟩ := tmB_fold h ok
    rw [gN_foldN n (foldT t) h1 h2]
theorem FoldAll_gN {t : Tm} (ok : t.ok) : FoldAllB t = gN 150 t := by
  unfold FoldAllB
  split
  · rename_i h; rw [gN_foldN 150 t h ok]
  · rename_i h
    rw [gN, if_pos]
    unfold FoldB
    rw [if_neg h]
theorem fold_of {P : Program} {E : Env} {X : Rel3} {f : FuncId} {xs : List AV} {r r' : AV} (h : Tells P E X f xs r) (e : r = r') : Tells P E X f xs r' := by subst e; exact h
/-- a term's cells in a box, its slices by these roots -/
def tmCells (d1 d2 d3 : Nat) : Tm → List AV
  | .mk k n s z (.mk tk tn _) _ _ => [iA k, iA n, sA s, sA z, iA tk, iA tn, .rf d1, .rf d2, .rf d3]
def tmTa : Tm → List (List T)
  | .mk _ _ _ _ (.mk _ _ ta) _ _ => ta.map (Ty.c true)
def tmTs : Tm → List (List T)
  | .mk _ _ _ _ _ ts _ => ts.map (Ty.c true)
def tmAa : Tm → List (List T)
  | .mk _ _ _ _ _ _ a => a.map (Tm.c true)
end Go.Proofs

namespace Go.Proofs
open Go Go.Ev
/-- a term in own memory, as it is handed on to be read -/
abbrev tmS (k n : Int) (s z : ByteArray) (tk tn : Int) (ta ts : List Ty) (a : List Tm) : AV := .ag [iA k, iA n, sA s, sA z, iA tk, iA tn, .t (.sl false (shrR (ta.map (Ty.c true)))), .t (.sl false (shrR (ts.map (Ty.c true)))), .t (.sl false (shrR (a.map (Tm.c true))))]
theorem tmS_eq (k n : Int) (s z : ByteArray) (tk tn : Int) (ta ts : List Ty) (a : List Tm) : tmS k n s z tk tn ta ts a = tmA false k n s z tk tn ta ts a := by unfold tmS; rw [shr_Ty, shr_Ty, shr_Tm]
end Go.Proofs

set_option linter.unusedVariables false
set_option linter.unusedSimpArgs false
set_option maxHeartbeats 4000000
namespace Go.Proofs
open Go Go.Ev
set_option maxRecDepth 100000
variable {X : Rel3}
/-- a term in own memory whose parts are these rows -/
abbrev tmR (k n : Int) (s z : ByteArray) (tk tn : Int) (ta ts : List Ty) (R : List (List T)) : AV := .ag [iA k, iA n, sA s, sA z, iA tk, iA tn, .t (.sl true (ta.map (Ty.c true))), .t (.sl true (ts.map (Ty.c true))), .t (.sl true R)]
/-- an operation of two numbers, folded -/
def opA (o : Option (Int × Int)) (r : AV) : AV := match o with
  | some (k, n) => tmA true k n ByteArray.empty ByteArray.empty 0 0 [] [] []
  | none => r
theorem opR_k {op x y : Int} : ∀ k n, opR op x y = some (k, n) → k = 1 ∨ k = 2 := by
  intro k n h
  unfold opR at h
  split at h
  · cases h; exact .inr rfl
  · split at h
    · cases h; exact .inr rfl
    · split at h
      · cases h; exact .inl rfl
      · cases h
def k_foldedOp : List (Nat × List Nat) := [(0, [1, 2]), (1, [1, 2, 3, 4]), (2, [1, 2, 3, 21]), (3, [2]), (4, [2, 3, 26]), (5, [2]), (6, [2])]
theorem foldedOp_t (nn : Int) (ss zz : ByteArray) (tk tn : Int) (ta ts : List Ty) (R : List (List T)) (k3 n3 : Int) (y3 z3 : ByteArray) (tk3 tn3 : Int) (ta3 ts3 : List Ty) (a3 : List Tm) (k4 n4 : Int) (y4 z4 : ByteArray) (tk4 tn4 : Int) (ta4 ts4 : List Ty) (a4 : List Tm) (h3 : k3 = 1) (h4 : k4 = 1) (hx0 : R[0]? = some [iT k3, iT n3, sT y3, sT z3, iT tk3, iT tn3, .sl true (ta3.map (Ty.c true)), .sl true (ts3.map (Ty.c true)), .sl true (a3.map (Tm.c true))]) (hx1 : R[1]? = some [iT k4, iT n4, sT y4, sT z4, iT tk4, iT tn4, .sl true (ta4.map (Ty.c true)), .sl true (ts4.map (Ty.c true)), .sl true (a4.map (Tm.c true))]) : Tells Try.prog E0 X 70 [tmR 15 nn ss zz tk tn ta ts R] (opA (opR nn n3 n4) (tmR 15 nn ss zz tk tn ta ts R)) := by
  have c1 := reckoned_t (X := X) nn n3 n4
  have hk := opR_k (op := nn) (x := n3) (y := n4)
  generalize opR nn n3 n4 = rr at c1 hk ⊢
  rcases rr with _ | ⟨k, n⟩
  · have c2 := fine_t (X := X) 2 (-1)
    refine Tells.by Try.func70 (by simp [Try.f70]) (Body.i rfl rfl rfl (fun _ => rfl) fun f => ?_)
    repeat' (first
       | refine RepL.done rfl | refine RepL.skip rfl ?_ | refine RepL.ix rfl rfl rfl rfl rfl rfl rfl rfl rfl hx0 rfl rfl rfl ?_ | refine RepL.ix rfl rfl rfl rfl rfl rfl rfl rfl rfl hx1 rfl rfl rfl ?_
       | refine RepL.ldr rfl rfl rfl rfl rfl hx0 rfl rfl ?_ | refine RepL.ldr rfl rfl rfl rfl rfl hx1 rfl rfl ?_ | refine RepL.one rfl rfl rfl rfl rfl rfl ?_ | refine RunMs.skip rfl ?_ | exact RunMs.nil | exact RunM.done rfl
       | refine RunM.go ?_ | refine RunMs.one rfl rfl rfl rfl rfl ?_ ?_ ?_ | refine RunMs.call rfl rfl rfl rfl (c1) (.inl rfl) rfl rfl ?_ ?_ ?_ | refine RunMs.off rfl rfl rfl rfl ?_ ?_ ?_ | refine RepL.off rfl rfl rfl rfl rfl ?_
       | (refine wp_region_m (id := 1) k_foldedOp [0, 1, 2, 3, 4, 5, 6, 7, 8, 9, 10, 11] [12, 13, 14, 15, 16, 17] 6 [0, 1, 0, 4, 12, 28, 60, 0, 128, 384, 896, 1920, 4095, 8191, 16383, 16383, 0, 98303, 262143] rfl (by decide +kernel) rfl rfl rfl ?_; apply Exists.intro; refine And.intro ?_ ?_)
       | refine wp_seq_i ?_ | refine wp_region_t k_foldedOp rfl ?_ | refine Run.done rfl ?_ | refine then_n ?_ | refine then_r ?_ | refine then_e ?_ | refine Run.go1 rfl ?_ | refine wp_skip_i ?_ | refine wp_ret_i ?_
       | refine wp_exit_i ?_ | refine wp_block_i ?_ | refine block_n ?_ | refine block_r ?_ | refine block_e ?_ | refine block_o rfl ?_ | refine wp_cond_t rfl ?_ | refine wp_cond_f rfl ?_ | refine RunQ.go1 rfl ?_
       | refine RunQ.done rfl ?_ | refine Run.gT rfl rfl rfl rfl ?_ | refine Run.pT rfl rfl ?_ | (refine Run.splitG rfl rfl rfl rfl rfl rfl ?_ ?_ <;> intro _) | (refine Run.splitP rfl rfl rfl rfl ?_ ?_ <;> intro _)
       | refine RunQ.gT rfl rfl rfl rfl ?_ | refine RunQ.pT rfl rfl ?_ | (refine RunQ.splitG rfl rfl rfl rfl rfl rfl ?_ ?_ <;> intro _) | (refine RunQ.splitP rfl rfl rfl rfl ?_ ?_ <;> intro _)
       | refine Run.call rfl rfl rfl (c2) rfl rfl ?_ | refine RunQ.ix rfl rfl rfl rfl rfl rfl rfl hx0 rfl rfl rfl ?_ | refine RunQ.ix rfl rfl rfl rfl rfl rfl rfl hx1 rfl rfl rfl ?_ | refine RunQ.ldr rfl rfl rfl hx0 rfl rfl ?_
       | refine RunQ.ldr rfl rfl rfl hx1 rfl rfl ?_ | refine Run.ix rfl rfl rfl rfl rfl rfl rfl hx0 rfl rfl rfl ?_ | refine Run.ix rfl rfl rfl rfl rfl rfl rfl hx1 rfl rfl rfl ?_ | refine Run.ldr rfl rfl rfl hx0 rfl rfl ?_
       | refine Run.ldr rfl rfl rfl hx1 rfl rfl ?_ | refine Run.one rfl rfl rfl ?_ | (refine wp_cond_k rfl rfl rfl ?_ ?_ <;> intro _) | (refine wp_cond_i rfl ?_ ?_ <;> intro _))
    all_goals first
    | (exact ret_m [] rfl rfl rfl)
    | trace_state
  · have c2 := fine_t (X := X) 0 0
    rcases hk k n rfl with rfl | rfl
    all_goals (
      refine Tells.by Try.func70 (by simp [Try.f70]) (Body.i rfl rfl rfl (fun _ => rfl) fun f => ?_)
      repeat' (first
         | refine RepL.done rfl | refine RepL.skip rfl ?_ | refine RepL.ix rfl rfl rfl rfl rfl rfl rfl rfl rfl hx0 rfl rfl rfl ?_ | refine RepL.ix rfl rfl rfl rfl rfl rfl rfl rfl rfl hx1 rfl rfl rfl ?_
         | refine RepL.ldr rfl rfl rfl rfl rfl hx0 rfl rfl ?_ | refine RepL.ldr rfl rfl rfl rfl rfl hx1 rfl rfl ?_ | refine RepL.one rfl rfl rfl rfl rfl rfl ?_ | refine RunMs.skip rfl ?_ | exact RunMs.nil | exact RunM.done rfl
         | refine RunM.go ?_ | refine RunMs.one rfl rfl rfl rfl rfl ?_ ?_ ?_ | refine RunMs.call rfl rfl rfl rfl (c1) (.inl rfl) rfl rfl ?_ ?_ ?_ | refine RunMs.off rfl rfl rfl rfl ?_ ?_ ?_ | refine RepL.off rfl rfl rfl rfl rfl ?_
         | (refine wp_region_m (id := 1) k_foldedOp [0, 1, 2, 3, 4, 5, 6, 7, 8, 9, 10, 11] [12, 13, 14, 15, 16, 17] 6 [0, 1, 0, 4, 12, 28, 60, 0, 128, 384, 896, 1920, 4095, 8191, 16383, 16383, 0, 98303, 262143] rfl (by decide +kernel) rfl rfl rfl ?_; apply Exists.intro; refine And.intro ?_ ?_)
         | refine wp_seq_i ?_ | refine wp_region_t k_foldedOp rfl ?_ | refine Run.done rfl ?_ | refine then_n ?_ | refine then_r ?_ | refine then_e ?_ | refine Run.go1 rfl ?_ | refine wp_skip_i ?_ | refine wp_ret_i ?_
         | refine wp_exit_i ?_ | refine wp_block_i ?_ | refine block_n ?_ | refine block_r ?_ | refine block_e ?_ | refine block_o rfl ?_ | refine wp_cond_t rfl ?_ | refine wp_cond_f rfl ?_ | refine RunQ.go1 rfl ?_
         | refine RunQ.done rfl ?_ | refine Run.gT rfl rfl rfl rfl ?_ | refine Run.pT rfl rfl ?_ | (refine Run.splitG rfl rfl rfl rfl rfl rfl ?_ ?_ <;> intro _) | (refine Run.splitP rfl rfl rfl rfl ?_ ?_ <;> intro _)
         | refine RunQ.gT rfl rfl rfl rfl ?_ | refine RunQ.pT rfl rfl ?_ | (refine RunQ.splitG rfl rfl rfl rfl rfl rfl ?_ ?_ <;> intro _) | (refine RunQ.splitP rfl rfl rfl rfl ?_ ?_ <;> intro _)
         | refine Run.call rfl rfl rfl (c2) rfl rfl ?_ | refine RunQ.ix rfl rfl rfl rfl rfl rfl rfl hx0 rfl rfl rfl ?_ | refine RunQ.ix rfl rfl rfl rfl rfl rfl rfl hx1 rfl rfl rfl ?_ | refine RunQ.ldr rfl rfl rfl hx0 rfl rfl ?_
         | refine RunQ.ldr rfl rfl rfl hx1 rfl rfl ?_ | refine Run.ix rfl rfl rfl rfl rfl rfl rfl hx0 rfl rfl rfl ?_ | refine Run.ix rfl rfl rfl rfl rfl rfl rfl hx1 rfl rfl rfl ?_ | refine Run.ldr rfl rfl rfl hx0 rfl rfl ?_
         | refine Run.ldr rfl rfl rfl hx1 rfl rfl ?_ | refine Run.one rfl rfl rfl ?_ | (refine wp_cond_k rfl rfl rfl ?_ ?_ <;> intro _) | (refine wp_cond_i rfl ?_ ?_ <;> intro _))
      all_goals first
      | (exact ret_m [] rfl rfl rfl)
      | trace_state)
def k_l14Op : List (Nat × List Nat) := [(0, [1, 2]), (1, [1, 2, 18]), (2, [2]), (3, [1, 2, 3]), (4, [1, 2, 3, 4]), (5, [1, 2, 4, 42]), (6, [2]), (7, [2])]
theorem l14Op_t (nn : Int) (ss zz : ByteArray) (tk tn : Int) (ta ts : List Ty) (R : List (List T)) (k3 n3 : Int) (y3 z3 : ByteArray) (tk3 tn3 : Int) (ta3 ts3 : List Ty) (a3 : List Tm) (k4 n4 : Int) (y4 z4 : ByteArray) (tk4 tn4 : Int) (ta4 ts4 : List Ty) (a4 : List Tm) (hop : nn ≤ 5) (hx0 : R[0]? = some [iT k3, iT n3, sT y3, sT z3, iT tk3, iT tn3, .sl true (ta3.map (Ty.c true)), .sl true (ts3.map (Ty.c true)), .sl true (a3.map (Tm.c true))]) (hx1 : R[1]? = some [iT k4, iT n4, sT y4, sT z4, iT tk4, iT tn4, .sl true (ta4.map (Ty.c true)), .sl true (ts4.map (Ty.c true)), .sl true (a4.map (Tm.c true))]) : Tells Try.prog E0 X 47 [tmR 15 nn ss zz tk tn ta ts R] (if k3 = 1 ∧ k4 = 1 then opA (opR nn n3 n4) (tmR 15 nn ss zz tk tn ta ts R) else tmR 15 nn ss zz tk tn ta ts R) := by
  have c1 := l4Op_t (X := X) nn n3 n4 hop
  have hk := opR_k (op := nn) (x := n3) (y := n4)
  by_cases h34 : k3 = 1 ∧ k4 = 1
  · rw [if_pos h34]
    obtain ⟨rfl, rfl⟩ := h34
    generalize opR nn n3 n4 = rr at c1 hk ⊢
    rcases rr with _ | ⟨k, n⟩
    · skip
      refine Tells.by Try.func47 (by simp [Try.f47]) (Body.i rfl rfl rfl (fun _ => rfl) fun f => ?_)
      repeat' (first
         | refine RepL.done rfl | refine RepL.skip rfl ?_ | refine RepL.ix rfl rfl rfl rfl rfl rfl rfl rfl rfl hx0 rfl rfl rfl ?_ | refine RepL.ix rfl rfl rfl rfl rfl rfl rfl rfl rfl hx1 rfl rfl rfl ?_
         | refine RepL.ldr rfl rfl rfl rfl rfl hx0 rfl rfl ?_ | refine RepL.ldr rfl rfl rfl rfl rfl hx1 rfl rfl ?_ | refine RepL.one rfl rfl rfl rfl rfl rfl ?_ | refine RunMs.skip rfl ?_ | exact RunMs.nil | exact RunM.done rfl
         | refine RunM.go ?_ | refine RunMs.one rfl rfl rfl rfl rfl ?_ ?_ ?_ | refine RunMs.call rfl rfl rfl rfl (c1) (.inl rfl) rfl rfl ?_ ?_ ?_ | refine RunMs.off rfl rfl rfl rfl ?_ ?_ ?_ | refine RepL.off rfl rfl rfl rfl rfl ?_
         | (refine wp_region_m (id := 4) k_l14Op [0, 1, 2, 3, 4, 5, 6, 7, 8, 9, 10, 11, 12, 13, 14] [15, 16] 2 [0, 0, 2, 0, 8, 24, 56, 120, 248, 0, 512, 1536, 3584, 7680, 15872, 32767, 0, 131071] rfl (by decide +kernel) rfl rfl rfl ?_; apply Exists.intro; refine And.intro ?_ ?_)
         | refine wp_seq_i ?_ | refine wp_region_t k_l14Op rfl ?_ | refine Run.done rfl ?_ | refine then_n ?_ | refine then_r ?_ | refine then_e ?_ | refine Run.go1 rfl ?_ | refine wp_skip_i ?_ | refine wp_ret_i ?_
         | refine wp_exit_i ?_ | refine wp_block_i ?_ | refine block_n ?_ | refine block_r ?_ | refine block_e ?_ | refine block_o rfl ?_ | refine wp_cond_t rfl ?_ | refine wp_cond_f rfl ?_ | refine RunQ.go1 rfl ?_
         | refine RunQ.done rfl ?_ | refine Run.gT rfl rfl rfl rfl ?_ | refine Run.pT rfl rfl ?_ | (refine Run.splitG rfl rfl rfl rfl rfl rfl ?_ ?_ <;> intro _) | (refine Run.splitP rfl rfl rfl rfl ?_ ?_ <;> intro _)
         | refine RunQ.gT rfl rfl rfl rfl ?_ | refine RunQ.pT rfl rfl ?_ | (refine RunQ.splitG rfl rfl rfl rfl rfl rfl ?_ ?_ <;> intro _) | (refine RunQ.splitP rfl rfl rfl rfl ?_ ?_ <;> intro _)
         | refine RunQ.ix rfl rfl rfl rfl rfl rfl rfl hx0 rfl rfl rfl ?_ | refine RunQ.ix rfl rfl rfl rfl rfl rfl rfl hx1 rfl rfl rfl ?_ | refine RunQ.ldr rfl rfl rfl hx0 rfl rfl ?_ | refine RunQ.ldr rfl rfl rfl hx1 rfl rfl ?_
         | refine Run.ix rfl rfl rfl rfl rfl rfl rfl hx0 rfl rfl rfl ?_ | refine Run.ix rfl rfl rfl rfl rfl rfl rfl hx1 rfl rfl rfl ?_ | refine Run.ldr rfl rfl rfl hx0 rfl rfl ?_ | refine Run.ldr rfl rfl rfl hx1 rfl rfl ?_
         | refine Run.one rfl rfl rfl ?_ | (refine wp_cond_k rfl rfl rfl ?_ ?_ <;> intro _) | (refine wp_cond_i rfl ?_ ?_ <;> intro _))
      all_goals first
      | (exact ret_m [] rfl rfl rfl)
      | trace_state
    · skip
      refine Tells.by Try.func47 (by simp [Try.f47]) (Body.i rfl rfl rfl (fun _ => rfl) fun f => ?_)
      repeat' (first
         | refine RepL.done rfl | refine RepL.skip rfl ?_ | refine RepL.ix rfl rfl rfl rfl rfl rfl rfl rfl rfl hx0 rfl rfl rfl ?_ | refine RepL.ix rfl rfl rfl rfl rfl rfl rfl rfl rfl hx1 rfl rfl rfl ?_
         | refine RepL.ldr rfl rfl rfl rfl rfl hx0 rfl rfl ?_ | refine RepL.ldr rfl rfl rfl rfl rfl hx1 rfl rfl ?_ | refine RepL.one rfl rfl rfl rfl rfl rfl ?_ | refine RunMs.skip rfl ?_ | exact RunMs.nil | exact RunM.done rfl
         | refine RunM.go ?_ | refine RunMs.one rfl rfl rfl rfl rfl ?_ ?_ ?_ | refine RunMs.call rfl rfl rfl rfl (c1) (.inl rfl) rfl rfl ?_ ?_ ?_ | refine RunMs.off rfl rfl rfl rfl ?_ ?_ ?_ | refine RepL.off rfl rfl rfl rfl rfl ?_
         | (refine wp_region_m (id := 4) k_l14Op [0, 1, 2, 3, 4, 5, 6, 7, 8, 9, 10, 11, 12, 13, 14] [15, 16] 2 [0, 0, 2, 0, 8, 24, 56, 120, 248, 0, 512, 1536, 3584, 7680, 15872, 32767, 0, 131071] rfl (by decide +kernel) rfl rfl rfl ?_; apply Exists.intro; refine And.intro ?_ ?_)
         | refine wp_seq_i ?_ | refine wp_region_t k_l14Op rfl ?_ | refine Run.done rfl ?_ | refine then_n ?_ | refine then_r ?_ | refine then_e ?_ | refine Run.go1 rfl ?_ | refine wp_skip_i ?_ | refine wp_ret_i ?_
         | refine wp_exit_i ?_ | refine wp_block_i ?_ | refine block_n ?_ | refine block_r ?_ | refine block_e ?_ | refine block_o rfl ?_ | refine wp_cond_t rfl ?_ | refine wp_cond_f rfl ?_ | refine RunQ.go1 rfl ?_
         | refine RunQ.done rfl ?_ | refine Run.gT rfl rfl rfl rfl ?_ | refine Run.pT rfl rfl ?_ | (refine Run.splitG rfl rfl rfl rfl rfl rfl ?_ ?_ <;> intro _) | (refine Run.splitP rfl rfl rfl rfl ?_ ?_ <;> intro _)
         | refine RunQ.gT rfl rfl rfl rfl ?_ | refine RunQ.pT rfl rfl ?_ | (refine RunQ.splitG rfl rfl rfl rfl rfl rfl ?_ ?_ <;> intro _) | (refine RunQ.splitP rfl rfl rfl rfl ?_ ?_ <;> intro _)
         | refine RunQ.ix rfl rfl rfl rfl rfl rfl rfl hx0 rfl rfl rfl ?_ | refine RunQ.ix rfl rfl rfl rfl rfl rfl rfl hx1 rfl rfl rfl ?_ | refine RunQ.ldr rfl rfl rfl hx0 rfl rfl ?_ | refine RunQ.ldr rfl rfl rfl hx1 rfl rfl ?_
         | refine Run.ix rfl rfl rfl rfl rfl rfl rfl hx0 rfl rfl rfl ?_ | refine Run.ix rfl rfl rfl rfl rfl rfl rfl hx1 rfl rfl rfl ?_ | refine Run.ldr rfl rfl rfl hx0 rfl rfl ?_ | refine Run.ldr rfl rfl rfl hx1 rfl rfl ?_
         | refine Run.one rfl rfl rfl ?_ | (refine wp_cond_k rfl rfl rfl ?_ ?_ <;> intro _) | (refine wp_cond_i rfl ?_ ?_ <;> intro _))
      all_goals first
      | (exact ret_m [] rfl rfl rfl)
      | trace_state
  · rw [if_neg h34]
    have hB : ((k3 != 1) || (k4 != 1)) = true := by
      simp only [Bool.or_eq_true, bne_iff_ne]
      by_cases e : k3 = 1
      · exact .inr fun e2 => h34 ⟨e, e2⟩
      · exact .inl e
    refine Tells.by Try.func47 (by simp [Try.f47]) (Body.i rfl rfl rfl (fun _ => rfl) fun f => ?_)
    repeat' (first
       | refine wp_region_tB (id := 1) 18 ((k3 != 1) || (k4 != 1)) k_l14Op rfl rfl rfl ?_ ?_ | refine wp_seq_i ?_ | refine wp_region_t k_l14Op rfl ?_ | refine Run.done rfl ?_ | refine then_n ?_ | refine then_r ?_
       | refine then_e ?_ | refine Run.go1 rfl ?_ | refine wp_skip_i ?_ | refine wp_ret_i ?_ | refine wp_exit_i ?_ | refine wp_block_i ?_ | refine block_n ?_ | refine block_r ?_ | refine block_e ?_ | refine block_o rfl ?_
       | refine wp_cond_t rfl ?_ | refine wp_cond_f rfl ?_ | refine RunQ.go1 rfl ?_ | refine RunQ.done rfl ?_ | refine Run.gT rfl rfl rfl rfl ?_ | refine Run.pT rfl rfl ?_
       | (refine Run.splitG rfl rfl rfl rfl rfl rfl ?_ ?_ <;> intro _) | (refine Run.splitP rfl rfl rfl rfl ?_ ?_ <;> intro _) | refine RunQ.gT rfl rfl rfl rfl ?_ | refine RunQ.pT rfl rfl ?_
       | (refine RunQ.splitG rfl rfl rfl rfl rfl rfl ?_ ?_ <;> intro _) | (refine RunQ.splitP rfl rfl rfl rfl ?_ ?_ <;> intro _) | refine RunQ.ix rfl rfl rfl rfl rfl rfl rfl hx0 rfl rfl rfl ?_
       | refine RunQ.ix rfl rfl rfl rfl rfl rfl rfl hx1 rfl rfl rfl ?_ | refine RunQ.ldr rfl rfl rfl hx0 rfl rfl ?_ | refine RunQ.ldr rfl rfl rfl hx1 rfl rfl ?_ | refine Run.ix rfl rfl rfl rfl rfl rfl rfl hx0 rfl rfl rfl ?_
       | refine Run.ix rfl rfl rfl rfl rfl rfl rfl hx1 rfl rfl rfl ?_ | refine Run.ldr rfl rfl rfl hx0 rfl rfl ?_ | refine Run.ldr rfl rfl rfl hx1 rfl rfl ?_ | refine Run.one rfl rfl rfl ?_
       | (refine wp_cond_k rfl rfl rfl ?_ ?_ <;> intro _) | (refine wp_cond_i rfl ?_ ?_ <;> intro _))
    all_goals first
    | (refine ⟨?_⟩; simp_all; done)
    | (refine ⟨?_⟩; clear c1 hk hx0 hx1; simp_all; done)
    | (exact ret_m [] rfl rfl rfl)
    | (exfalso; clear c1 hk hx0 hx1; simp_all; done)
    | trace_state
end Go.Proofs

set_option linter.unusedVariables false
set_option linter.unusedSimpArgs false
set_option maxHeartbeats 4000000
namespace Go.Proofs
open Go Go.Ev
set_option maxRecDepth 100000
variable {X : Rel3}
def k_folded : List (Nat × List Nat) := [(0, [1, 2]), (1, [1, 2, 3]), (2, [1, 2, 3, 6]), (3, [2]), (4, [1, 2, 3, 26]), (5, [2]), (6, [1, 2, 3, 47]), (7, [2]), (8, [1, 2, 3, 61]), (9, [2]), (10, [1, 2, 3, 87]), (11, [2]), (12, [1, 2, 3, 113]), (13, [2]), (14, [1, 2, 3, 127]), (15, [2]), (16, [1, 2, 3, 155]), (17, [2]), (18, [2])]
theorem folded_15 (nn : Int) (ss zz : ByteArray) (tk tn : Int) (ta ts : List Ty) (R : List (List T)) (k3 n3 : Int) (y3 z3 : ByteArray) (tk3 tn3 : Int) (ta3 ts3 : List Ty) (a3 : List Tm) (k4 n4 : Int) (y4 z4 : ByteArray) (tk4 tn4 : Int) (ta4 ts4 : List Ty) (a4 : List Tm) (hx0 : R[0]? = some [iT k3, iT n3, sT y3, sT z3, iT tk3, iT tn3, .sl true (ta3.map (Ty.c true)), .sl true (ts3.map (Ty.c true)), .sl true (a3.map (Tm.c true))]) (hx1 : R[1]? = some [iT k4, iT n4, sT y4, sT z4, iT tk4, iT tn4, .sl true (ta4.map (Ty.c true)), .sl true (ts4.map (Ty.c true)), .sl true (a4.map (Tm.c true))]) : Tells Try.prog E0 X 52 [tmR 15 nn ss zz tk tn ta ts R] (if k3 = 1 ∧ k4 = 1 then opA (opR nn n3 n4) (tmR 15 nn ss zz tk tn ta ts R) else tmR 15 nn ss zz tk tn ta ts R) := by
  by_cases h34 : k3 = 1 ∧ k4 = 1
  · rw [if_pos h34]
    have cO := foldedOp_t (X := X) nn ss zz tk tn ta ts R k3 n3 y3 z3 tk3 tn3 ta3 ts3 a3 k4 n4 y4 z4 tk4 tn4 ta4 ts4 a4 h34.1 h34.2 hx0 hx1
    obtain ⟨rfl, rfl⟩ := h34
    generalize opR nn n3 n4 = rr at cO ⊢
    rcases rr with _ | ⟨k, n⟩
    all_goals (
      refine Tells.by Try.func52 (by simp [Try.f52]) (Body.i rfl rfl rfl (fun _ => rfl) fun f => ?_)
      repeat' (first
         | refine wp_seq_i ?_ | refine wp_region_t k_folded rfl ?_ | refine Run.done rfl ?_ | refine then_n ?_ | refine then_r ?_ | refine then_e ?_ | refine Run.go1 rfl ?_ | refine wp_skip_i ?_ | refine wp_ret_i ?_
         | refine wp_exit_i ?_ | refine wp_block_i ?_ | refine block_n ?_ | refine block_r ?_ | refine block_e ?_ | refine block_o rfl ?_ | refine wp_cond_t rfl ?_ | refine wp_cond_f rfl ?_
         | refine wp_region_qt k_folded rfl 21 (by decide +kernel) rfl rfl ?_ | refine RunQ.go1 rfl ?_ | refine RunQ.done rfl ?_ | refine Run.gT rfl rfl rfl rfl ?_ | refine Run.pT rfl rfl ?_
         | (refine Run.splitG rfl rfl rfl rfl rfl rfl ?_ ?_ <;> intro _) | (refine Run.splitP rfl rfl rfl rfl ?_ ?_ <;> intro _) | refine RunQ.gT rfl rfl rfl rfl ?_ | refine RunQ.pT rfl rfl ?_
         | (refine RunQ.splitG rfl rfl rfl rfl rfl rfl ?_ ?_ <;> intro _) | (refine RunQ.splitP rfl rfl rfl rfl ?_ ?_ <;> intro _) | refine Run.call rfl rfl rfl (cO) rfl rfl ?_
         | refine RunQ.ix rfl rfl rfl rfl rfl rfl rfl hx0 rfl rfl rfl ?_ | refine RunQ.ix rfl rfl rfl rfl rfl rfl rfl hx1 rfl rfl rfl ?_ | refine RunQ.ldr rfl rfl rfl hx0 rfl rfl ?_ | refine RunQ.ldr rfl rfl rfl hx1 rfl rfl ?_
         | refine Run.ix rfl rfl rfl rfl rfl rfl rfl hx0 rfl rfl rfl ?_ | refine Run.ix rfl rfl rfl rfl rfl rfl rfl hx1 rfl rfl rfl ?_ | refine Run.ldr rfl rfl rfl hx0 rfl rfl ?_ | refine Run.ldr rfl rfl rfl hx1 rfl rfl ?_
         | refine Run.one rfl rfl rfl ?_ | (refine wp_cond_k rfl rfl rfl ?_ ?_ <;> intro _) | (refine wp_cond_i rfl ?_ ?_ <;> intro _))
      all_goals first
      | (exact ret_m [] rfl rfl rfl)
      | (refine ⟨?_⟩; simp_all; done)
      | (exfalso; simp_all; done)
      | trace_state)
  · rw [if_neg h34]
    have hB : ((k3 == 1) && (k4 == 1)) = false := by
      rw [Bool.eq_false_iff]; intro h; simp at h; exact h34 h
    refine Tells.by Try.func52 (by simp [Try.f52]) (Body.i rfl rfl rfl (fun _ => rfl) fun f => ?_)
    repeat' (first
       | refine wp_region_tB (id := 2) 6 (false) k_folded rfl rfl rfl ?_ ?_ | refine wp_seq_i ?_ | refine wp_region_t k_folded rfl ?_ | refine Run.done rfl ?_ | refine then_n ?_ | refine then_r ?_ | refine then_e ?_
       | refine Run.go1 rfl ?_ | refine wp_skip_i ?_ | refine wp_ret_i ?_ | refine wp_exit_i ?_ | refine wp_block_i ?_ | refine block_n ?_ | refine block_r ?_ | refine block_e ?_ | refine block_o rfl ?_ | refine wp_cond_t rfl ?_
       | refine wp_cond_f rfl ?_ | refine wp_region_qt k_folded rfl 21 (by decide +kernel) rfl rfl ?_ | refine RunQ.go1 rfl ?_ | refine RunQ.done rfl ?_ | refine Run.gT rfl rfl rfl rfl ?_ | refine Run.pT rfl rfl ?_
       | (refine Run.splitG rfl rfl rfl rfl rfl rfl ?_ ?_ <;> intro _) | (refine Run.splitP rfl rfl rfl rfl ?_ ?_ <;> intro _) | refine RunQ.gT rfl rfl rfl rfl ?_ | refine RunQ.pT rfl rfl ?_
       | (refine RunQ.splitG rfl rfl rfl rfl rfl rfl ?_ ?_ <;> intro _) | (refine RunQ.splitP rfl rfl rfl rfl ?_ ?_ <;> intro _) | refine RunQ.ix rfl rfl rfl rfl rfl rfl rfl hx0 rfl rfl rfl ?_
       | refine RunQ.ix rfl rfl rfl rfl rfl rfl rfl hx1 rfl rfl rfl ?_ | refine RunQ.ldr rfl rfl rfl hx0 rfl rfl ?_ | refine RunQ.ldr rfl rfl rfl hx1 rfl rfl ?_ | refine Run.ix rfl rfl rfl rfl rfl rfl rfl hx0 rfl rfl rfl ?_
       | refine Run.ix rfl rfl rfl rfl rfl rfl rfl hx1 rfl rfl rfl ?_ | refine Run.ldr rfl rfl rfl hx0 rfl rfl ?_ | refine Run.ldr rfl rfl rfl hx1 rfl rfl ?_ | refine Run.one rfl rfl rfl ?_
       | (refine wp_cond_k rfl rfl rfl ?_ ?_ <;> intro _) | (refine wp_cond_i rfl ?_ ?_ <;> intro _))
    all_goals first
    | (exact ret_m [] rfl rfl rfl)
    | (refine ⟨?_⟩; clear hx0 hx1; simp_all; done)
    | (exfalso; clear hx0 hx1; simp_all; done)
    | trace_state
theorem folded_8 (nn : Int) (ss zz : ByteArray) (tk tn : Int) (ta ts : List Ty) (R : List (List T)) (k3 n3 : Int) (y3 z3 : ByteArray) (tk3 tn3 : Int) (ta3 ts3 : List Ty) (a3 : List Tm) (k4 n4 : Int) (y4 z4 : ByteArray) (tk4 tn4 : Int) (ta4 ts4 : List Ty) (a4 : List Tm) (k5 n5 : Int) (y5 z5 : ByteArray) (tk5 tn5 : Int) (ta5 ts5 : List Ty) (a5 : List Tm) (hx0 : R[0]? = some [iT k3, iT n3, sT y3, sT z3, iT tk3, iT tn3, .sl true (ta3.map (Ty.c true)), .sl true (ts3.map (Ty.c true)), .sl true (a3.map (Tm.c true))]) (hx1 : R[1]? = some [iT k4, iT n4, sT y4, sT z4, iT tk4, iT tn4, .sl true (ta4.map (Ty.c true)), .sl true (ts4.map (Ty.c true)), .sl true (a4.map (Tm.c true))]) (hx2 : R[2]? = some [iT k5, iT n5, sT y5, sT z5, iT tk5, iT tn5, .sl true (ta5.map (Ty.c true)), .sl true (ts5.map (Ty.c true)), .sl true (a5.map (Tm.c true))]) : Tells Try.prog E0 X 52 [tmR 8 nn ss zz tk tn ta ts R] (if k3 = 2 then (if n3 = 1 then tmA true k4 n4 y4 z4 tk4 tn4 ta4 ts4 a4 else tmA true k5 n5 y5 z5 tk5 tn5 ta5 ts5 a5) else tmR 8 nn ss zz tk tn ta ts R) := by
  have hl1 : 1 < R.length := (List.getElem?_eq_some_iff.1 hx1).1
  have hl2 : 2 < R.length := (List.getElem?_eq_some_iff.1 hx2).1
  by_cases hk : k3 = 2
  · subst hk
    rw [if_pos rfl]
    by_cases hn : n3 = 1
    · subst hn
      rw [if_pos rfl]
      refine Tells.by Try.func52 (by simp [Try.f52]) (Body.i rfl rfl rfl (fun _ => rfl) fun f => ?_)
      repeat' (first
        
         | refine Run.adjwOn 46 (.hole 108000 1 6 900001 _ _ _ _ _ _ rfl hx1 rfl (fun _ => rfl) fun u1 => .hole 108000 1 7 900002 _ _ _ _ _ _ rfl (set_hit (by simpa using hl1)) rfl (fun _ => rfl) fun u2 => .hole 108000 1 8 900003 _ _ _ _ _ _ rfl (set_hit (by simpa using hl1)) rfl (fun _ => rfl) fun u3 => .done _ (Run.ldr rfl rfl rfl (set_hit (by simpa using hl1)) rfl rfl (Run.adjw (.tellC 46 6 900001 _ _ _ _ _ _ _ rfl rfl rfl rfl rfl rfl (.tellC 46 7 900002 _ _ _ _ _ _ _ rfl rfl rfl rfl rfl rfl (.tellC 46 8 900003 _ _ _ _ _ _ _ rfl rfl rfl rfl rfl rfl (.done _ ?_)))))))
         | refine wp_seq_i ?_ | refine wp_region_t k_folded rfl ?_ | refine Run.done rfl ?_ | refine then_n ?_ | refine then_r ?_ | refine then_e ?_ | refine Run.go1 rfl ?_ | refine wp_skip_i ?_ | refine wp_ret_i ?_
         | refine wp_exit_i ?_ | refine wp_block_i ?_ | refine block_n ?_ | refine block_r ?_ | refine block_e ?_ | refine block_o rfl ?_ | refine wp_cond_t rfl ?_ | refine wp_cond_f rfl ?_
         | refine wp_region_qt k_folded rfl 21 (by decide +kernel) rfl rfl ?_ | refine RunQ.go1 rfl ?_ | refine RunQ.done rfl ?_ | refine Run.gT rfl rfl rfl rfl ?_ | refine Run.pT rfl rfl ?_
         | (refine Run.splitG rfl rfl rfl rfl rfl rfl ?_ ?_ <;> intro _) | (refine Run.splitP rfl rfl rfl rfl ?_ ?_ <;> intro _) | refine RunQ.gT rfl rfl rfl rfl ?_ | refine RunQ.pT rfl rfl ?_
         | (refine RunQ.splitG rfl rfl rfl rfl rfl rfl ?_ ?_ <;> intro _) | (refine RunQ.splitP rfl rfl rfl rfl ?_ ?_ <;> intro _) | refine RunQ.ix rfl rfl rfl rfl rfl rfl rfl hx0 rfl rfl rfl ?_
         | refine RunQ.ix rfl rfl rfl rfl rfl rfl rfl hx1 rfl rfl rfl ?_ | refine RunQ.ix rfl rfl rfl rfl rfl rfl rfl hx2 rfl rfl rfl ?_ | refine RunQ.ldr rfl rfl rfl hx0 rfl rfl ?_ | refine RunQ.ldr rfl rfl rfl hx1 rfl rfl ?_
         | refine RunQ.ldr rfl rfl rfl hx2 rfl rfl ?_ | refine Run.ix rfl rfl rfl rfl rfl rfl rfl hx0 rfl rfl rfl ?_ | refine Run.ix rfl rfl rfl rfl rfl rfl rfl hx1 rfl rfl rfl ?_
         | refine Run.ix rfl rfl rfl rfl rfl rfl rfl hx2 rfl rfl rfl ?_ | refine Run.ldr rfl rfl rfl hx0 rfl rfl ?_ | refine Run.ldr rfl rfl rfl hx1 rfl rfl ?_ | refine Run.ldr rfl rfl rfl hx2 rfl rfl ?_
         | refine Run.one rfl rfl rfl ?_ | (refine wp_cond_k rfl rfl rfl ?_ ?_ <;> intro _) | (refine wp_cond_i rfl ?_ ?_ <;> intro _))
      all_goals first
      | (exact ret_m [] rfl rfl rfl)
      | (refine ⟨?_⟩; simp_all; done)
      | (exfalso; simp_all; done)
      | trace_state
    · rw [if_neg hn]
      refine Tells.by Try.func52 (by simp [Try.f52]) (Body.i rfl rfl rfl (fun _ => rfl) fun f => ?_)
      repeat' (first
         | refine wp_region_tB (id := 4) 26 (false) k_folded rfl rfl rfl ?_ ?_
         | refine Run.adjwOn 60 (.hole 108000 2 6 900001 _ _ _ _ _ _ rfl hx2 rfl (fun _ => rfl) fun u1 => .hole 108000 2 7 900002 _ _ _ _ _ _ rfl (set_hit (by simpa using hl2)) rfl (fun _ => rfl) fun u2 => .hole 108000 2 8 900003 _ _ _ _ _ _ rfl (set_hit (by simpa using hl2)) rfl (fun _ => rfl) fun u3 => .done _ (Run.ldr rfl rfl rfl (set_hit (by simpa using hl2)) rfl rfl (Run.adjw (.tellC 60 6 900001 _ _ _ _ _ _ _ rfl rfl rfl rfl rfl rfl (.tellC 60 7 900002 _ _ _ _ _ _ _ rfl rfl rfl rfl rfl rfl (.tellC 60 8 900003 _ _ _ _ _ _ _ rfl rfl rfl rfl rfl rfl (.done _ ?_)))))))
         | refine wp_seq_i ?_ | refine wp_region_t k_folded rfl ?_ | refine Run.done rfl ?_ | refine then_n ?_ | refine then_r ?_ | refine then_e ?_ | refine Run.go1 rfl ?_ | refine wp_skip_i ?_ | refine wp_ret_i ?_
         | refine wp_exit_i ?_ | refine wp_block_i ?_ | refine block_n ?_ | refine block_r ?_ | refine block_e ?_ | refine block_o rfl ?_ | refine wp_cond_t rfl ?_ | refine wp_cond_f rfl ?_
         | refine wp_region_qt k_folded rfl 21 (by decide +kernel) rfl rfl ?_ | refine RunQ.go1 rfl ?_ | refine RunQ.done rfl ?_ | refine Run.gT rfl rfl rfl rfl ?_ | refine Run.pT rfl rfl ?_
         | (refine Run.splitG rfl rfl rfl rfl rfl rfl ?_ ?_ <;> intro _) | (refine Run.splitP rfl rfl rfl rfl ?_ ?_ <;> intro _) | refine RunQ.gT rfl rfl rfl rfl ?_ | refine RunQ.pT rfl rfl ?_
         | (refine RunQ.splitG rfl rfl rfl rfl rfl rfl ?_ ?_ <;> intro _) | (refine RunQ.splitP rfl rfl rfl rfl ?_ ?_ <;> intro _) | refine RunQ.ix rfl rfl rfl rfl rfl rfl rfl hx0 rfl rfl rfl ?_
         | refine RunQ.ix rfl rfl rfl rfl rfl rfl rfl hx1 rfl rfl rfl ?_ | refine RunQ.ix rfl rfl rfl rfl rfl rfl rfl hx2 rfl rfl rfl ?_ | refine RunQ.ldr rfl rfl rfl hx0 rfl rfl ?_ | refine RunQ.ldr rfl rfl rfl hx1 rfl rfl ?_
         | refine RunQ.ldr rfl rfl rfl hx2 rfl rfl ?_ | refine Run.ix rfl rfl rfl rfl rfl rfl rfl hx0 rfl rfl rfl ?_ | refine Run.ix rfl rfl rfl rfl rfl rfl rfl hx1 rfl rfl rfl ?_
         | refine Run.ix rfl rfl rfl rfl rfl rfl rfl hx2 rfl rfl rfl ?_ | refine Run.ldr rfl rfl rfl hx0 rfl rfl ?_ | refine Run.ldr rfl rfl rfl hx1 rfl rfl ?_ | refine Run.ldr rfl rfl rfl hx2 rfl rfl ?_
         | refine Run.one rfl rfl rfl ?_ | (refine wp_cond_k rfl rfl rfl ?_ ?_ <;> intro _) | (refine wp_cond_i rfl ?_ ?_ <;> intro _))
      all_goals first
      | (exact ret_m [] rfl rfl rfl)
      | (refine ⟨?_⟩; clear hx0 hx1 hx2; simp_all; done)
      | (exfalso; clear hx0 hx1 hx2; simp_all; done)
      | trace_state
  · rw [if_neg hk]
    refine Tells.by Try.func52 (by simp [Try.f52]) (Body.i rfl rfl rfl (fun _ => rfl) fun f => ?_)
    repeat' (first
       | refine wp_region_tB (id := 4) 26 (false) k_folded rfl rfl rfl ?_ ?_ | refine wp_region_tB (id := 6) 47 (false) k_folded rfl rfl rfl ?_ ?_ | refine wp_seq_i ?_ | refine wp_region_t k_folded rfl ?_ | refine Run.done rfl ?_
       | refine then_n ?_ | refine then_r ?_ | refine then_e ?_ | refine Run.go1 rfl ?_ | refine wp_skip_i ?_ | refine wp_ret_i ?_ | refine wp_exit_i ?_ | refine wp_block_i ?_ | refine block_n ?_ | refine block_r ?_
       | refine block_e ?_ | refine block_o rfl ?_ | refine wp_cond_t rfl ?_ | refine wp_cond_f rfl ?_ | refine wp_region_qt k_folded rfl 21 (by decide +kernel) rfl rfl ?_ | refine RunQ.go1 rfl ?_ | refine RunQ.done rfl ?_
       | refine Run.gT rfl rfl rfl rfl ?_ | refine Run.pT rfl rfl ?_ | (refine Run.splitG rfl rfl rfl rfl rfl rfl ?_ ?_ <;> intro _) | (refine Run.splitP rfl rfl rfl rfl ?_ ?_ <;> intro _) | refine RunQ.gT rfl rfl rfl rfl ?_
       | refine RunQ.pT rfl rfl ?_ | (refine RunQ.splitG rfl rfl rfl rfl rfl rfl ?_ ?_ <;> intro _) | (refine RunQ.splitP rfl rfl rfl rfl ?_ ?_ <;> intro _) | refine RunQ.ix rfl rfl rfl rfl rfl rfl rfl hx0 rfl rfl rfl ?_
       | refine RunQ.ix rfl rfl rfl rfl rfl rfl rfl hx1 rfl rfl rfl ?_ | refine RunQ.ix rfl rfl rfl rfl rfl rfl rfl hx2 rfl rfl rfl ?_ | refine RunQ.ldr rfl rfl rfl hx0 rfl rfl ?_ | refine RunQ.ldr rfl rfl rfl hx1 rfl rfl ?_
       | refine RunQ.ldr rfl rfl rfl hx2 rfl rfl ?_ | refine Run.ix rfl rfl rfl rfl rfl rfl rfl hx0 rfl rfl rfl ?_ | refine Run.ix rfl rfl rfl rfl rfl rfl rfl hx1 rfl rfl rfl ?_
       | refine Run.ix rfl rfl rfl rfl rfl rfl rfl hx2 rfl rfl rfl ?_ | refine Run.ldr rfl rfl rfl hx0 rfl rfl ?_ | refine Run.ldr rfl rfl rfl hx1 rfl rfl ?_ | refine Run.ldr rfl rfl rfl hx2 rfl rfl ?_
       | refine Run.one rfl rfl rfl ?_ | (refine wp_cond_k rfl rfl rfl ?_ ?_ <;> intro _) | (refine wp_cond_i rfl ?_ ?_ <;> intro _))
    all_goals first
    | (exact ret_m [] rfl rfl rfl)
    | (refine ⟨?_⟩; clear hx0 hx1 hx2; simp_all; done)
    | (exfalso; clear hx0 hx1 hx2; simp_all; done)
    | trace_state
theorem folded_10 (nn : Int) (ss zz : ByteArray) (tk tn : Int) (ta ts : List Ty) (R : List (List T)) (k3 n3 : Int) (y3 z3 : ByteArray) (tk3 tn3 : Int) (ta3 ts3 : List Ty) (Q : List (List T)) (k4 n4 : Int) (y4 z4 : ByteArray) (tk4 tn4 : Int) (ta4 ts4 : List Ty) (a4 : List Tm) (k5 n5 : Int) (y5 z5 : ByteArray) (tk5 tn5 : Int) (ta5 ts5 : List Ty) (a5 : List Tm) (hx0 : R[0]? = some [iT k3, iT n3, sT y3, sT z3, iT tk3, iT tn3, .sl true (ta3.map (Ty.c true)), .sl true (ts3.map (Ty.c true)), .sl true Q]) (hq0 : Q[0]? = some [iT k4, iT n4, sT y4, sT z4, iT tk4, iT tn4, .sl true (ta4.map (Ty.c true)), .sl true (ts4.map (Ty.c true)), .sl true (a4.map (Tm.c true))]) (hq1 : Q[1]? = some [iT k5, iT n5, sT y5, sT z5, iT tk5, iT tn5, .sl true (ta5.map (Ty.c true)), .sl true (ts5.map (Ty.c true)), .sl true (a5.map (Tm.c true))]) (h3 : k3 = 9) (pb : Bool) (cP : Tells Try.prog E0 X 71 [tmS k5 n5 y5 z5 tk5 tn5 ta5 ts5 a5] (bA pb)) : Tells Try.prog E0 X 52 [tmR 10 nn ss zz tk tn ta ts R] (if pb = true then tmA true k4 n4 y4 z4 tk4 tn4 ta4 ts4 a4 else tmR 10 nn ss zz tk tn ta ts R) := by
  subst h3
  have hl0 : 0 < R.length := (List.getElem?_eq_some_iff.1 hx0).1
  have hlq : 0 < Q.length := (List.getElem?_eq_some_iff.1 hq0).1
  cases pb
  · rw [if_neg (by decide)]
    refine Tells.by Try.func52 (by simp [Try.f52]) (Body.i rfl rfl rfl (fun _ => rfl) fun f => ?_)
    repeat' (first
       | refine wp_seq_i ?_ | refine wp_region_t k_folded rfl ?_ | refine Run.done rfl ?_ | refine then_n ?_ | refine then_r ?_ | refine then_e ?_ | refine Run.go1 rfl ?_ | refine wp_skip_i ?_ | refine wp_ret_i ?_
       | refine wp_exit_i ?_ | refine wp_block_i ?_ | refine block_n ?_ | refine block_r ?_ | refine block_e ?_ | refine block_o rfl ?_ | refine wp_cond_t rfl ?_ | refine wp_cond_f rfl ?_
       | refine wp_region_qt k_folded rfl 21 (by decide +kernel) rfl rfl ?_ | refine RunQ.go1 rfl ?_ | refine RunQ.done rfl ?_ | refine Run.gT rfl rfl rfl rfl ?_ | refine Run.pT rfl rfl ?_
       | (refine Run.splitG rfl rfl rfl rfl rfl rfl ?_ ?_ <;> intro _) | (refine Run.splitP rfl rfl rfl rfl ?_ ?_ <;> intro _) | refine RunQ.gT rfl rfl rfl rfl ?_ | refine RunQ.pT rfl rfl ?_
       | (refine RunQ.splitG rfl rfl rfl rfl rfl rfl ?_ ?_ <;> intro _) | (refine RunQ.splitP rfl rfl rfl rfl ?_ ?_ <;> intro _) | refine RunQ.ix rfl rfl rfl rfl rfl rfl rfl hx0 rfl rfl rfl ?_
       | refine RunQ.ldr rfl rfl rfl hx0 rfl rfl ?_ | refine Run.ix rfl rfl rfl rfl rfl rfl rfl hx0 rfl rfl rfl ?_ | refine Run.ldr rfl rfl rfl hx0 rfl rfl ?_ | refine RunQ.ix rfl rfl rfl rfl rfl rfl rfl hq0 rfl rfl rfl ?_
       | refine RunQ.ix rfl rfl rfl rfl rfl rfl rfl hq1 rfl rfl rfl ?_ | refine Run.ix rfl rfl rfl rfl rfl rfl rfl hq0 rfl rfl rfl ?_ | refine Run.ix rfl rfl rfl rfl rfl rfl rfl hq1 rfl rfl rfl ?_
       | refine Run.callB rfl rfl rfl (cP) (by simp [AV.own, T.own]) rfl ?_ | refine Run.one rfl rfl rfl ?_ | (refine wp_cond_k rfl rfl rfl ?_ ?_ <;> intro _) | (refine wp_cond_i rfl ?_ ?_ <;> intro _))
    all_goals first
    | (exact ret_m [] rfl rfl rfl)
    | (refine ⟨?_⟩; simp_all; done)
    | (exfalso; simp_all; done)
    | trace_state
  · rw [if_pos rfl]
    refine Tells.by Try.func52 (by simp [Try.f52]) (Body.i rfl rfl rfl (fun _ => rfl) fun f => ?_)
    repeat' (first
      
       | refine Run.adjwOn 84 (.hole 108000 0 8 900004 _ _ _ _ _ _ rfl hx0 rfl (fun _ => rfl) fun u => .done _ (Run.ldr rfl rfl rfl (set_hit (by simpa using hl0)) rfl rfl (Run.adjw (.tell 84 900004 _ _ _ _ _ rfl rfl rfl rfl (.done _ ?_)))))
       | refine Run.adjwOn 86 (.hole 900004 0 6 900001 _ _ _ _ _ _ rfl hq0 rfl (fun _ => rfl) fun u1 => .hole 900004 0 7 900002 _ _ _ _ _ _ rfl (set_hit (by simpa using hlq)) rfl (fun _ => rfl) fun u2 => .hole 900004 0 8 900003 _ _ _ _ _ _ rfl (set_hit (by simpa using hlq)) rfl (fun _ => rfl) fun u3 => .done _ (Run.ldr rfl rfl rfl (set_hit (by simpa using hlq)) rfl rfl (Run.adjw (.tellC 86 6 900001 _ _ _ _ _ _ _ rfl rfl rfl rfl rfl rfl (.tellC 86 7 900002 _ _ _ _ _ _ _ rfl rfl rfl rfl rfl rfl (.tellC 86 8 900003 _ _ _ _ _ _ _ rfl rfl rfl rfl rfl rfl (.done _ ?_)))))))
       | refine wp_seq_i ?_ | refine wp_region_t k_folded rfl ?_ | refine Run.done rfl ?_ | refine then_n ?_ | refine then_r ?_ | refine then_e ?_ | refine Run.go1 rfl ?_ | refine wp_skip_i ?_ | refine wp_ret_i ?_
       | refine wp_exit_i ?_ | refine wp_block_i ?_ | refine block_n ?_ | refine block_r ?_ | refine block_e ?_ | refine block_o rfl ?_ | refine wp_cond_t rfl ?_ | refine wp_cond_f rfl ?_
       | refine wp_region_qt k_folded rfl 21 (by decide +kernel) rfl rfl ?_ | refine RunQ.go1 rfl ?_ | refine RunQ.done rfl ?_ | refine Run.gT rfl rfl rfl rfl ?_ | refine Run.pT rfl rfl ?_
       | (refine Run.splitG rfl rfl rfl rfl rfl rfl ?_ ?_ <;> intro _) | (refine Run.splitP rfl rfl rfl rfl ?_ ?_ <;> intro _) | refine RunQ.gT rfl rfl rfl rfl ?_ | refine RunQ.pT rfl rfl ?_
       | (refine RunQ.splitG rfl rfl rfl rfl rfl rfl ?_ ?_ <;> intro _) | (refine RunQ.splitP rfl rfl rfl rfl ?_ ?_ <;> intro _) | refine RunQ.ix rfl rfl rfl rfl rfl rfl rfl hx0 rfl rfl rfl ?_
       | refine RunQ.ldr rfl rfl rfl hx0 rfl rfl ?_ | refine Run.ix rfl rfl rfl rfl rfl rfl rfl hx0 rfl rfl rfl ?_ | refine Run.ldr rfl rfl rfl hx0 rfl rfl ?_ | refine RunQ.ix rfl rfl rfl rfl rfl rfl rfl hq0 rfl rfl rfl ?_
       | refine RunQ.ix rfl rfl rfl rfl rfl rfl rfl hq1 rfl rfl rfl ?_ | refine Run.ix rfl rfl rfl rfl rfl rfl rfl hq0 rfl rfl rfl ?_ | refine Run.ix rfl rfl rfl rfl rfl rfl rfl hq1 rfl rfl rfl ?_
       | refine Run.callB rfl rfl rfl (cP) (by simp [AV.own, T.own]) rfl ?_ | refine Run.one rfl rfl rfl ?_ | (refine wp_cond_k rfl rfl rfl ?_ ?_ <;> intro _) | (refine wp_cond_i rfl ?_ ?_ <;> intro _))
    all_goals first
    | (exact ret_m [] rfl rfl rfl)
    | (refine ⟨?_⟩; simp_all; done)
    | (exfalso; simp_all; done)
    | trace_state
theorem folded_10n (nn : Int) (ss zz : ByteArray) (tk tn : Int) (ta ts : List Ty) (R : List (List T)) (k3 n3 : Int) (y3 z3 : ByteArray) (tk3 tn3 : Int) (ta3 ts3 : List Ty) (a3 : List Tm) (hx0 : R[0]? = some [iT k3, iT n3, sT y3, sT z3, iT tk3, iT tn3, .sl true (ta3.map (Ty.c true)), .sl true (ts3.map (Ty.c true)), .sl true (a3.map (Tm.c true))]) (h3 : k3 ≠ 9) : Tells Try.prog E0 X 52 [tmR 10 nn ss zz tk tn ta ts R] (tmR 10 nn ss zz tk tn ta ts R) := by
  refine Tells.by Try.func52 (by simp [Try.f52]) (Body.i rfl rfl rfl (fun _ => rfl) fun f => ?_)
  repeat' (first
     | refine wp_region_tB (id := 8) 61 (false) k_folded rfl rfl rfl ?_ ?_ | refine wp_seq_i ?_ | refine wp_region_t k_folded rfl ?_ | refine Run.done rfl ?_ | refine then_n ?_ | refine then_r ?_ | refine then_e ?_
     | refine Run.go1 rfl ?_ | refine wp_skip_i ?_ | refine wp_ret_i ?_ | refine wp_exit_i ?_ | refine wp_block_i ?_ | refine block_n ?_ | refine block_r ?_ | refine block_e ?_ | refine block_o rfl ?_ | refine wp_cond_t rfl ?_
     | refine wp_cond_f rfl ?_ | refine wp_region_qt k_folded rfl 21 (by decide +kernel) rfl rfl ?_ | refine RunQ.go1 rfl ?_ | refine RunQ.done rfl ?_ | refine Run.gT rfl rfl rfl rfl ?_ | refine Run.pT rfl rfl ?_
     | (refine Run.splitG rfl rfl rfl rfl rfl rfl ?_ ?_ <;> intro _) | (refine Run.splitP rfl rfl rfl rfl ?_ ?_ <;> intro _) | refine RunQ.gT rfl rfl rfl rfl ?_ | refine RunQ.pT rfl rfl ?_
     | (refine RunQ.splitG rfl rfl rfl rfl rfl rfl ?_ ?_ <;> intro _) | (refine RunQ.splitP rfl rfl rfl rfl ?_ ?_ <;> intro _) | refine RunQ.ix rfl rfl rfl rfl rfl rfl rfl hx0 rfl rfl rfl ?_
     | refine RunQ.ldr rfl rfl rfl hx0 rfl rfl ?_ | refine Run.ix rfl rfl rfl rfl rfl rfl rfl hx0 rfl rfl rfl ?_ | refine Run.ldr rfl rfl rfl hx0 rfl rfl ?_ | refine Run.one rfl rfl rfl ?_
     | (refine wp_cond_k rfl rfl rfl ?_ ?_ <;> intro _) | (refine wp_cond_i rfl ?_ ?_ <;> intro _))
  all_goals first
  | (exact ret_m [] rfl rfl rfl)
  | (refine ⟨?_⟩; clear hx0; simp_all; done)
  | (exfalso; clear hx0; simp_all; done)
  | trace_state
theorem folded_11 (nn : Int) (ss zz : ByteArray) (tk tn : Int) (ta ts : List Ty) (R : List (List T)) (k3 n3 : Int) (y3 z3 : ByteArray) (tk3 tn3 : Int) (ta3 ts3 : List Ty) (Q : List (List T)) (k4 n4 : Int) (y4 z4 : ByteArray) (tk4 tn4 : Int) (ta4 ts4 : List Ty) (a4 : List Tm) (k5 n5 : Int) (y5 z5 : ByteArray) (tk5 tn5 : Int) (ta5 ts5 : List Ty) (a5 : List Tm) (hx0 : R[0]? = some [iT k3, iT n3, sT y3, sT z3, iT tk3, iT tn3, .sl true (ta3.map (Ty.c true)), .sl true (ts3.map (Ty.c true)), .sl true Q]) (hq0 : Q[0]? = some [iT k4, iT n4, sT y4, sT z4, iT tk4, iT tn4, .sl true (ta4.map (Ty.c true)), .sl true (ts4.map (Ty.c true)), .sl true (a4.map (Tm.c true))]) (hq1 : Q[1]? = some [iT k5, iT n5, sT y5, sT z5, iT tk5, iT tn5, .sl true (ta5.map (Ty.c true)), .sl true (ts5.map (Ty.c true)), .sl true (a5.map (Tm.c true))]) (h3 : k3 = 9) (pb : Bool) (cP : Tells Try.prog E0 X 71 [tmS k4 n4 y4 z4 tk4 tn4 ta4 ts4 a4] (bA pb)) : Tells Try.prog E0 X 52 [tmR 11 nn ss zz tk tn ta ts R] (if pb = true then tmA true k5 n5 y5 z5 tk5 tn5 ta5 ts5 a5 else tmR 11 nn ss zz tk tn ta ts R) := by
  subst h3
  have hl0 : 0 < R.length := (List.getElem?_eq_some_iff.1 hx0).1
  have hlq : 1 < Q.length := (List.getElem?_eq_some_iff.1 hq1).1
  cases pb
  · rw [if_neg (by decide)]
    refine Tells.by Try.func52 (by simp [Try.f52]) (Body.i rfl rfl rfl (fun _ => rfl) fun f => ?_)
    repeat' (first
       | refine wp_seq_i ?_ | refine wp_region_t k_folded rfl ?_ | refine Run.done rfl ?_ | refine then_n ?_ | refine then_r ?_ | refine then_e ?_ | refine Run.go1 rfl ?_ | refine wp_skip_i ?_ | refine wp_ret_i ?_
       | refine wp_exit_i ?_ | refine wp_block_i ?_ | refine block_n ?_ | refine block_r ?_ | refine block_e ?_ | refine block_o rfl ?_ | refine wp_cond_t rfl ?_ | refine wp_cond_f rfl ?_
       | refine wp_region_qt k_folded rfl 21 (by decide +kernel) rfl rfl ?_ | refine RunQ.go1 rfl ?_ | refine RunQ.done rfl ?_ | refine Run.gT rfl rfl rfl rfl ?_ | refine Run.pT rfl rfl ?_
       | (refine Run.splitG rfl rfl rfl rfl rfl rfl ?_ ?_ <;> intro _) | (refine Run.splitP rfl rfl rfl rfl ?_ ?_ <;> intro _) | refine RunQ.gT rfl rfl rfl rfl ?_ | refine RunQ.pT rfl rfl ?_
       | (refine RunQ.splitG rfl rfl rfl rfl rfl rfl ?_ ?_ <;> intro _) | (refine RunQ.splitP rfl rfl rfl rfl ?_ ?_ <;> intro _) | refine RunQ.ix rfl rfl rfl rfl rfl rfl rfl hx0 rfl rfl rfl ?_
       | refine RunQ.ldr rfl rfl rfl hx0 rfl rfl ?_ | refine Run.ix rfl rfl rfl rfl rfl rfl rfl hx0 rfl rfl rfl ?_ | refine Run.ldr rfl rfl rfl hx0 rfl rfl ?_ | refine RunQ.ix rfl rfl rfl rfl rfl rfl rfl hq0 rfl rfl rfl ?_
       | refine RunQ.ix rfl rfl rfl rfl rfl rfl rfl hq1 rfl rfl rfl ?_ | refine Run.ix rfl rfl rfl rfl rfl rfl rfl hq0 rfl rfl rfl ?_ | refine Run.ix rfl rfl rfl rfl rfl rfl rfl hq1 rfl rfl rfl ?_
       | refine Run.callB rfl rfl rfl (cP) (by simp [AV.own, T.own]) rfl ?_ | refine Run.one rfl rfl rfl ?_ | (refine wp_cond_k rfl rfl rfl ?_ ?_ <;> intro _) | (refine wp_cond_i rfl ?_ ?_ <;> intro _))
    all_goals first
    | (exact ret_m [] rfl rfl rfl)
    | (refine ⟨?_⟩; simp_all; done)
    | (exfalso; simp_all; done)
    | trace_state
  · rw [if_pos rfl]
    refine Tells.by Try.func52 (by simp [Try.f52]) (Body.i rfl rfl rfl (fun _ => rfl) fun f => ?_)
    repeat' (first
      
       | refine Run.adjwOn 110 (.hole 108000 0 8 900004 _ _ _ _ _ _ rfl hx0 rfl (fun _ => rfl) fun u => .done _ (Run.ldr rfl rfl rfl (set_hit (by simpa using hl0)) rfl rfl (Run.adjw (.tell 110 900004 _ _ _ _ _ rfl rfl rfl rfl (.done _ ?_)))))
       | refine Run.adjwOn 112 (.hole 900004 1 6 900001 _ _ _ _ _ _ rfl hq1 rfl (fun _ => rfl) fun u1 => .hole 900004 1 7 900002 _ _ _ _ _ _ rfl (set_hit (by simpa using hlq)) rfl (fun _ => rfl) fun u2 => .hole 900004 1 8 900003 _ _ _ _ _ _ rfl (set_hit (by simpa using hlq)) rfl (fun _ => rfl) fun u3 => .done _ (Run.ldr rfl rfl rfl (set_hit (by simpa using hlq)) rfl rfl (Run.adjw (.tellC 112 6 900001 _ _ _ _ _ _ _ rfl rfl rfl rfl rfl rfl (.tellC 112 7 900002 _ _ _ _ _ _ _ rfl rfl rfl rfl rfl rfl (.tellC 112 8 900003 _ _ _ _ _ _ _ rfl rfl rfl rfl rfl rfl (.done _ ?_)))))))
       | refine wp_seq_i ?_ | refine wp_region_t k_folded rfl ?_ | refine Run.done rfl ?_ | refine then_n ?_ | refine then_r ?_ | refine then_e ?_ | refine Run.go1 rfl ?_ | refine wp_skip_i ?_ | refine wp_ret_i ?_
       | refine wp_exit_i ?_ | refine wp_block_i ?_ | refine block_n ?_ | refine block_r ?_ | refine block_e ?_ | refine block_o rfl ?_ | refine wp_cond_t rfl ?_ | refine wp_cond_f rfl ?_
       | refine wp_region_qt k_folded rfl 21 (by decide +kernel) rfl rfl ?_ | refine RunQ.go1 rfl ?_ | refine RunQ.done rfl ?_ | refine Run.gT rfl rfl rfl rfl ?_ | refine Run.pT rfl rfl ?_
       | (refine Run.splitG rfl rfl rfl rfl rfl rfl ?_ ?_ <;> intro _) | (refine Run.splitP rfl rfl rfl rfl ?_ ?_ <;> intro _) | refine RunQ.gT rfl rfl rfl rfl ?_ | refine RunQ.pT rfl rfl ?_
       | (refine RunQ.splitG rfl rfl rfl rfl rfl rfl ?_ ?_ <;> intro _) | (refine RunQ.splitP rfl rfl rfl rfl ?_ ?_ <;> intro _) | refine RunQ.ix rfl rfl rfl rfl rfl rfl rfl hx0 rfl rfl rfl ?_
       | refine RunQ.ldr rfl rfl rfl hx0 rfl rfl ?_ | refine Run.ix rfl rfl rfl rfl rfl rfl rfl hx0 rfl rfl rfl ?_ | refine Run.ldr rfl rfl rfl hx0 rfl rfl ?_ | refine RunQ.ix rfl rfl rfl rfl rfl rfl rfl hq0 rfl rfl rfl ?_
       | refine RunQ.ix rfl rfl rfl rfl rfl rfl rfl hq1 rfl rfl rfl ?_ | refine Run.ix rfl rfl rfl rfl rfl rfl rfl hq0 rfl rfl rfl ?_ | refine Run.ix rfl rfl rfl rfl rfl rfl rfl hq1 rfl rfl rfl ?_
       | refine Run.callB rfl rfl rfl (cP) (by simp [AV.own, T.own]) rfl ?_ | refine Run.one rfl rfl rfl ?_ | (refine wp_cond_k rfl rfl rfl ?_ ?_ <;> intro _) | (refine wp_cond_i rfl ?_ ?_ <;> intro _))
    all_goals first
    | (exact ret_m [] rfl rfl rfl)
    | (refine ⟨?_⟩; simp_all; done)
    | (exfalso; simp_all; done)
    | trace_state
theorem folded_11n (nn : Int) (ss zz : ByteArray) (tk tn : Int) (ta ts : List Ty) (R : List (List T)) (k3 n3 : Int) (y3 z3 : ByteArray) (tk3 tn3 : Int) (ta3 ts3 : List Ty) (a3 : List Tm) (hx0 : R[0]? = some [iT k3, iT n3, sT y3, sT z3, iT tk3, iT tn3, .sl true (ta3.map (Ty.c true)), .sl true (ts3.map (Ty.c true)), .sl true (a3.map (Tm.c true))]) (h3 : k3 ≠ 9) : Tells Try.prog E0 X 52 [tmR 11 nn ss zz tk tn ta ts R] (tmR 11 nn ss zz tk tn ta ts R) := by
  refine Tells.by Try.func52 (by simp [Try.f52]) (Body.i rfl rfl rfl (fun _ => rfl) fun f => ?_)
  repeat' (first
     | refine wp_region_tB (id := 10) 87 (false) k_folded rfl rfl rfl ?_ ?_ | refine wp_seq_i ?_ | refine wp_region_t k_folded rfl ?_ | refine Run.done rfl ?_ | refine then_n ?_ | refine then_r ?_ | refine then_e ?_
     | refine Run.go1 rfl ?_ | refine wp_skip_i ?_ | refine wp_ret_i ?_ | refine wp_exit_i ?_ | refine wp_block_i ?_ | refine block_n ?_ | refine block_r ?_ | refine block_e ?_ | refine block_o rfl ?_ | refine wp_cond_t rfl ?_
     | refine wp_cond_f rfl ?_ | refine wp_region_qt k_folded rfl 21 (by decide +kernel) rfl rfl ?_ | refine RunQ.go1 rfl ?_ | refine RunQ.done rfl ?_ | refine Run.gT rfl rfl rfl rfl ?_ | refine Run.pT rfl rfl ?_
     | (refine Run.splitG rfl rfl rfl rfl rfl rfl ?_ ?_ <;> intro _) | (refine Run.splitP rfl rfl rfl rfl ?_ ?_ <;> intro _) | refine RunQ.gT rfl rfl rfl rfl ?_ | refine RunQ.pT rfl rfl ?_
     | (refine RunQ.splitG rfl rfl rfl rfl rfl rfl ?_ ?_ <;> intro _) | (refine RunQ.splitP rfl rfl rfl rfl ?_ ?_ <;> intro _) | refine RunQ.ix rfl rfl rfl rfl rfl rfl rfl hx0 rfl rfl rfl ?_
     | refine RunQ.ldr rfl rfl rfl hx0 rfl rfl ?_ | refine Run.ix rfl rfl rfl rfl rfl rfl rfl hx0 rfl rfl rfl ?_ | refine Run.ldr rfl rfl rfl hx0 rfl rfl ?_ | refine Run.one rfl rfl rfl ?_
     | (refine wp_cond_k rfl rfl rfl ?_ ?_ <;> intro _) | (refine wp_cond_i rfl ?_ ?_ <;> intro _))
  all_goals first
  | (exact ret_m [] rfl rfl rfl)
  | (refine ⟨?_⟩; clear hx0; simp_all; done)
  | (exfalso; clear hx0; simp_all; done)
  | trace_state
theorem folded_14 (nn : Int) (ss zz : ByteArray) (tk tn : Int) (ta ts : List Ty) (R : List (List T)) (k3 n3 : Int) (y3 z3 : ByteArray) (tk3 tn3 : Int) (ta3 ts3 : List Ty) (a3 : List Tm) (k4 n4 : Int) (y4 z4 : ByteArray) (tk4 tn4 : Int) (ta4 ts4 : List Ty) (a4 : List Tm) (hx0 : R[0]? = some [iT k3, iT n3, sT y3, sT z3, iT tk3, iT tn3, .sl true (ta3.map (Ty.c true)), .sl true (ts3.map (Ty.c true)), .sl true (a3.map (Tm.c true))]) (hx1 : R[1]? = some [iT k4, iT n4, sT y4, sT z4, iT tk4, iT tn4, .sl true (ta4.map (Ty.c true)), .sl true (ts4.map (Ty.c true)), .sl true (a4.map (Tm.c true))]) : Tells Try.prog E0 X 52 [tmR 14 nn ss zz tk tn ta ts R] (if k3 = 12 then tmA true k4 n4 y4 z4 tk4 tn4 ta4 ts4 a4 else tmR 14 nn ss zz tk tn ta ts R) := by
  have hl1 : 1 < R.length := (List.getElem?_eq_some_iff.1 hx1).1
  by_cases hk : k3 = 12
  · subst hk
    rw [if_pos rfl]
    refine Tells.by Try.func52 (by simp [Try.f52]) (Body.i rfl rfl rfl (fun _ => rfl) fun f => ?_)
    repeat' (first
      
       | refine Run.adjwOn 126 (.hole 108000 1 6 900001 _ _ _ _ _ _ rfl hx1 rfl (fun _ => rfl) fun u1 => .hole 108000 1 7 900002 _ _ _ _ _ _ rfl (set_hit (by simpa using hl1)) rfl (fun _ => rfl) fun u2 => .hole 108000 1 8 900003 _ _ _ _ _ _ rfl (set_hit (by simpa using hl1)) rfl (fun _ => rfl) fun u3 => .done _ (Run.ldr rfl rfl rfl (set_hit (by simpa using hl1)) rfl rfl (Run.adjw (.tellC 126 6 900001 _ _ _ _ _ _ _ rfl rfl rfl rfl rfl rfl (.tellC 126 7 900002 _ _ _ _ _ _ _ rfl rfl rfl rfl rfl rfl (.tellC 126 8 900003 _ _ _ _ _ _ _ rfl rfl rfl rfl rfl rfl (.done _ ?_)))))))
       | refine wp_seq_i ?_ | refine wp_region_t k_folded rfl ?_ | refine Run.done rfl ?_ | refine then_n ?_ | refine then_r ?_ | refine then_e ?_ | refine Run.go1 rfl ?_ | refine wp_skip_i ?_ | refine wp_ret_i ?_
       | refine wp_exit_i ?_ | refine wp_block_i ?_ | refine block_n ?_ | refine block_r ?_ | refine block_e ?_ | refine block_o rfl ?_ | refine wp_cond_t rfl ?_ | refine wp_cond_f rfl ?_
       | refine wp_region_qt k_folded rfl 21 (by decide +kernel) rfl rfl ?_ | refine RunQ.go1 rfl ?_ | refine RunQ.done rfl ?_ | refine Run.gT rfl rfl rfl rfl ?_ | refine Run.pT rfl rfl ?_
       | (refine Run.splitG rfl rfl rfl rfl rfl rfl ?_ ?_ <;> intro _) | (refine Run.splitP rfl rfl rfl rfl ?_ ?_ <;> intro _) | refine RunQ.gT rfl rfl rfl rfl ?_ | refine RunQ.pT rfl rfl ?_
       | (refine RunQ.splitG rfl rfl rfl rfl rfl rfl ?_ ?_ <;> intro _) | (refine RunQ.splitP rfl rfl rfl rfl ?_ ?_ <;> intro _) | refine RunQ.ix rfl rfl rfl rfl rfl rfl rfl hx0 rfl rfl rfl ?_
       | refine RunQ.ix rfl rfl rfl rfl rfl rfl rfl hx1 rfl rfl rfl ?_ | refine RunQ.ldr rfl rfl rfl hx0 rfl rfl ?_ | refine RunQ.ldr rfl rfl rfl hx1 rfl rfl ?_ | refine Run.ix rfl rfl rfl rfl rfl rfl rfl hx0 rfl rfl rfl ?_
       | refine Run.ix rfl rfl rfl rfl rfl rfl rfl hx1 rfl rfl rfl ?_ | refine Run.ldr rfl rfl rfl hx0 rfl rfl ?_ | refine Run.ldr rfl rfl rfl hx1 rfl rfl ?_ | refine Run.one rfl rfl rfl ?_
       | (refine wp_cond_k rfl rfl rfl ?_ ?_ <;> intro _) | (refine wp_cond_i rfl ?_ ?_ <;> intro _))
    all_goals first
    | (exact ret_m [] rfl rfl rfl)
    | (refine ⟨?_⟩; simp_all; done)
    | (exfalso; simp_all; done)
    | trace_state
  · rw [if_neg hk]
    refine Tells.by Try.func52 (by simp [Try.f52]) (Body.i rfl rfl rfl (fun _ => rfl) fun f => ?_)
    repeat' (first
       | refine wp_region_tB (id := 12) 113 (false) k_folded rfl rfl rfl ?_ ?_ | refine wp_seq_i ?_ | refine wp_region_t k_folded rfl ?_ | refine Run.done rfl ?_ | refine then_n ?_ | refine then_r ?_ | refine then_e ?_
       | refine Run.go1 rfl ?_ | refine wp_skip_i ?_ | refine wp_ret_i ?_ | refine wp_exit_i ?_ | refine wp_block_i ?_ | refine block_n ?_ | refine block_r ?_ | refine block_e ?_ | refine block_o rfl ?_ | refine wp_cond_t rfl ?_
       | refine wp_cond_f rfl ?_ | refine wp_region_qt k_folded rfl 21 (by decide +kernel) rfl rfl ?_ | refine RunQ.go1 rfl ?_ | refine RunQ.done rfl ?_ | refine Run.gT rfl rfl rfl rfl ?_ | refine Run.pT rfl rfl ?_
       | (refine Run.splitG rfl rfl rfl rfl rfl rfl ?_ ?_ <;> intro _) | (refine Run.splitP rfl rfl rfl rfl ?_ ?_ <;> intro _) | refine RunQ.gT rfl rfl rfl rfl ?_ | refine RunQ.pT rfl rfl ?_
       | (refine RunQ.splitG rfl rfl rfl rfl rfl rfl ?_ ?_ <;> intro _) | (refine RunQ.splitP rfl rfl rfl rfl ?_ ?_ <;> intro _) | refine RunQ.ix rfl rfl rfl rfl rfl rfl rfl hx0 rfl rfl rfl ?_
       | refine RunQ.ix rfl rfl rfl rfl rfl rfl rfl hx1 rfl rfl rfl ?_ | refine RunQ.ldr rfl rfl rfl hx0 rfl rfl ?_ | refine RunQ.ldr rfl rfl rfl hx1 rfl rfl ?_ | refine Run.ix rfl rfl rfl rfl rfl rfl rfl hx0 rfl rfl rfl ?_
       | refine Run.ix rfl rfl rfl rfl rfl rfl rfl hx1 rfl rfl rfl ?_ | refine Run.ldr rfl rfl rfl hx0 rfl rfl ?_ | refine Run.ldr rfl rfl rfl hx1 rfl rfl ?_ | refine Run.one rfl rfl rfl ?_
       | (refine wp_cond_k rfl rfl rfl ?_ ?_ <;> intro _) | (refine wp_cond_i rfl ?_ ?_ <;> intro _))
    all_goals first
    | (exact ret_m [] rfl rfl rfl)
    | (refine ⟨?_⟩; clear hx0 hx1; simp_all; done)
    | (exfalso; clear hx0 hx1; simp_all; done)
    | trace_state
theorem folded_17 (nn : Int) (ss zz : ByteArray) (tk tn : Int) (ta ts : List Ty) (R : List (List T)) (k3 n3 : Int) (y3 z3 : ByteArray) (tk3 tn3 : Int) (ta3 ts3 : List Ty) (a3 : List Tm) (hx0 : R[0]? = some [iT k3, iT n3, sT y3, sT z3, iT tk3, iT tn3, .sl true (ta3.map (Ty.c true)), .sl true (ts3.map (Ty.c true)), .sl true (a3.map (Tm.c true))]) (pb : Bool) (cP : Tells Try.prog E0 X 71 [tmS k3 n3 y3 z3 tk3 tn3 ta3 ts3 a3] (bA pb)) : Tells Try.prog E0 X 52 [tmR 17 nn ss zz tk tn ta ts R] (if pb = true then tmA true k3 n3 y3 z3 tk3 tn3 ta3 ts3 a3 else tmR 17 nn ss zz tk tn ta ts R) := by
  have hl0 : 0 < R.length := (List.getElem?_eq_some_iff.1 hx0).1
  cases pb
  · rw [if_neg (by decide)]
    refine Tells.by Try.func52 (by simp [Try.f52]) (Body.i rfl rfl rfl (fun _ => rfl) fun f => ?_)
    repeat' (first
       | refine wp_seq_i ?_ | refine wp_region_t k_folded rfl ?_ | refine Run.done rfl ?_ | refine then_n ?_ | refine then_r ?_ | refine then_e ?_ | refine Run.go1 rfl ?_ | refine wp_skip_i ?_ | refine wp_ret_i ?_
       | refine wp_exit_i ?_ | refine wp_block_i ?_ | refine block_n ?_ | refine block_r ?_ | refine block_e ?_ | refine block_o rfl ?_ | refine wp_cond_t rfl ?_ | refine wp_cond_f rfl ?_
       | refine wp_region_qt k_folded rfl 21 (by decide +kernel) rfl rfl ?_ | refine RunQ.go1 rfl ?_ | refine RunQ.done rfl ?_ | refine Run.gT rfl rfl rfl rfl ?_ | refine Run.pT rfl rfl ?_
       | (refine Run.splitG rfl rfl rfl rfl rfl rfl ?_ ?_ <;> intro _) | (refine Run.splitP rfl rfl rfl rfl ?_ ?_ <;> intro _) | refine RunQ.gT rfl rfl rfl rfl ?_ | refine RunQ.pT rfl rfl ?_
       | (refine RunQ.splitG rfl rfl rfl rfl rfl rfl ?_ ?_ <;> intro _) | (refine RunQ.splitP rfl rfl rfl rfl ?_ ?_ <;> intro _) | refine RunQ.ix rfl rfl rfl rfl rfl rfl rfl hx0 rfl rfl rfl ?_
       | refine RunQ.ldr rfl rfl rfl hx0 rfl rfl ?_ | refine Run.ix rfl rfl rfl rfl rfl rfl rfl hx0 rfl rfl rfl ?_ | refine Run.ldr rfl rfl rfl hx0 rfl rfl ?_ | refine Run.callB rfl rfl rfl (cP) (by simp [AV.own, T.own]) rfl ?_
       | refine Run.one rfl rfl rfl ?_ | (refine wp_cond_k rfl rfl rfl ?_ ?_ <;> intro _) | (refine wp_cond_i rfl ?_ ?_ <;> intro _))
    all_goals first
    | (exact ret_m [] rfl rfl rfl)
    | (refine ⟨?_⟩; simp_all; done)
    | (exfalso; simp_all; done)
    | trace_state
  · rw [if_pos rfl]
    refine Tells.by Try.func52 (by simp [Try.f52]) (Body.i rfl rfl rfl (fun _ => rfl) fun f => ?_)
    repeat' (first
      
       | refine Run.adjwOn 167 (.hole 108000 0 6 900001 _ _ _ _ _ _ rfl hx0 rfl (fun _ => rfl) fun u1 => .hole 108000 0 7 900002 _ _ _ _ _ _ rfl (set_hit (by simpa using hl0)) rfl (fun _ => rfl) fun u2 => .hole 108000 0 8 900003 _ _ _ _ _ _ rfl (set_hit (by simpa using hl0)) rfl (fun _ => rfl) fun u3 => .done _ (Run.ldr rfl rfl rfl (set_hit (by simpa using hl0)) rfl rfl (Run.adjw (.tellC 167 6 900001 _ _ _ _ _ _ _ rfl rfl rfl rfl rfl rfl (.tellC 167 7 900002 _ _ _ _ _ _ _ rfl rfl rfl rfl rfl rfl (.tellC 167 8 900003 _ _ _ _ _ _ _ rfl rfl rfl rfl rfl rfl (.done _ ?_)))))))
       | refine wp_seq_i ?_ | refine wp_region_t k_folded rfl ?_ | refine Run.done rfl ?_ | refine then_n ?_ | refine then_r ?_ | refine then_e ?_ | refine Run.go1 rfl ?_ | refine wp_skip_i ?_ | refine wp_ret_i ?_
       | refine wp_exit_i ?_ | refine wp_block_i ?_ | refine block_n ?_ | refine block_r ?_ | refine block_e ?_ | refine block_o rfl ?_ | refine wp_cond_t rfl ?_ | refine wp_cond_f rfl ?_
       | refine wp_region_qt k_folded rfl 21 (by decide +kernel) rfl rfl ?_ | refine RunQ.go1 rfl ?_ | refine RunQ.done rfl ?_ | refine Run.gT rfl rfl rfl rfl ?_ | refine Run.pT rfl rfl ?_
       | (refine Run.splitG rfl rfl rfl rfl rfl rfl ?_ ?_ <;> intro _) | (refine Run.splitP rfl rfl rfl rfl ?_ ?_ <;> intro _) | refine RunQ.gT rfl rfl rfl rfl ?_ | refine RunQ.pT rfl rfl ?_
       | (refine RunQ.splitG rfl rfl rfl rfl rfl rfl ?_ ?_ <;> intro _) | (refine RunQ.splitP rfl rfl rfl rfl ?_ ?_ <;> intro _) | refine RunQ.ix rfl rfl rfl rfl rfl rfl rfl hx0 rfl rfl rfl ?_
       | refine RunQ.ldr rfl rfl rfl hx0 rfl rfl ?_ | refine Run.ix rfl rfl rfl rfl rfl rfl rfl hx0 rfl rfl rfl ?_ | refine Run.ldr rfl rfl rfl hx0 rfl rfl ?_ | refine Run.callB rfl rfl rfl (cP) (by simp [AV.own, T.own]) rfl ?_
       | refine Run.one rfl rfl rfl ?_ | (refine wp_cond_k rfl rfl rfl ?_ ?_ <;> intro _) | (refine wp_cond_i rfl ?_ ?_ <;> intro _))
    all_goals first
    | (exact ret_m [] rfl rfl rfl)
    | (refine ⟨?_⟩; simp_all; done)
    | (exfalso; simp_all; done)
    | trace_state
theorem folded_6 (nn : Int) (ss zz : ByteArray) (tk tn : Int) (ta ts : List Ty) (R : List (List T)) (k3 n3 : Int) (y3 z3 : ByteArray) (tk3 tn3 : Int) (ta3 ts3 : List Ty) (a3 : List Tm) (k4 n4 : Int) (y4 z4 : ByteArray) (tk4 tn4 : Int) (ta4 ts4 : List Ty) (a4 : List Tm) (hx0 : R[0]? = some [iT k3, iT n3, sT y3, sT z3, iT tk3, iT tn3, .sl true (ta3.map (Ty.c true)), .sl true (ts3.map (Ty.c true)), .sl true (a3.map (Tm.c true))]) (hx1 : R[1]? = some [iT k4, iT n4, sT y4, sT z4, iT tk4, iT tn4, .sl true (ta4.map (Ty.c true)), .sl true (ts4.map (Ty.c true)), .sl true (a4.map (Tm.c true))]) (pb : Bool) (cP : Tells Try.prog E0 X 71 [tmS k3 n3 y3 z3 tk3 tn3 ta3 ts3 a3] (bA pb)) (q : List ByteArray) (cF : Tells Try.prog E0 X 65 [tmS k4 n4 y4 z4 tk4 tn4 ta4 ts4 a4, .t (.sl false []), .t (.sl true [])] (.t (.sl true (q.map sR)))) (hb : Bool) (cH : Tells Try.prog E0 X 61 [.t (.sl false (shrR (q.map sR))), sA ss] (bA hb)) : Tells Try.prog E0 X 52 [tmR 6 nn ss zz tk tn ta ts R] (if nn = 0 ∧ pb = true ∧ hb = false then tmA true k4 n4 y4 z4 tk4 tn4 ta4 ts4 a4 else tmR 6 nn ss zz tk tn ta ts R) := by
  have hl1 : 1 < R.length := (List.getElem?_eq_some_iff.1 hx1).1
  by_cases hn : nn = 0
  · subst hn
    cases pb
    · rw [if_neg (fun h => by cases h.2.1)]
      refine Tells.by Try.func52 (by simp [Try.f52]) (Body.i rfl rfl rfl (fun _ => rfl) fun f => ?_)
      repeat' (first
         | refine wp_seq_i ?_ | refine wp_region_t k_folded rfl ?_ | refine Run.done rfl ?_ | refine then_n ?_ | refine then_r ?_ | refine then_e ?_ | refine Run.go1 rfl ?_ | refine wp_skip_i ?_ | refine wp_ret_i ?_
         | refine wp_exit_i ?_ | refine wp_block_i ?_ | refine block_n ?_ | refine block_r ?_ | refine block_e ?_ | refine block_o rfl ?_ | refine wp_cond_t rfl ?_ | refine wp_cond_f rfl ?_
         | refine wp_region_qt k_folded rfl 21 (by decide +kernel) rfl rfl ?_ | refine RunQ.go1 rfl ?_ | refine RunQ.done rfl ?_ | refine Run.gT rfl rfl rfl rfl ?_ | refine Run.pT rfl rfl ?_
         | (refine Run.splitG rfl rfl rfl rfl rfl rfl ?_ ?_ <;> intro _) | (refine Run.splitP rfl rfl rfl rfl ?_ ?_ <;> intro _) | refine RunQ.gT rfl rfl rfl rfl ?_ | refine RunQ.pT rfl rfl ?_
         | (refine RunQ.splitG rfl rfl rfl rfl rfl rfl ?_ ?_ <;> intro _) | (refine RunQ.splitP rfl rfl rfl rfl ?_ ?_ <;> intro _) | refine RunQ.ix rfl rfl rfl rfl rfl rfl rfl hx0 rfl rfl rfl ?_
         | refine RunQ.ix rfl rfl rfl rfl rfl rfl rfl hx1 rfl rfl rfl ?_ | refine RunQ.ldr rfl rfl rfl hx0 rfl rfl ?_ | refine RunQ.ldr rfl rfl rfl hx1 rfl rfl ?_ | refine Run.ix rfl rfl rfl rfl rfl rfl rfl hx0 rfl rfl rfl ?_
         | refine Run.ix rfl rfl rfl rfl rfl rfl rfl hx1 rfl rfl rfl ?_ | refine Run.ldr rfl rfl rfl hx0 rfl rfl ?_ | refine Run.ldr rfl rfl rfl hx1 rfl rfl ?_
         | refine RunQ.call rfl rfl rfl rfl rfl rfl (cP) (.inr (by simp [AV.own, T.own])) rfl rfl ?_ | refine Run.one rfl rfl rfl ?_ | (refine wp_cond_k rfl rfl rfl ?_ ?_ <;> intro _) | (refine wp_cond_i rfl ?_ ?_ <;> intro _))
      all_goals first
      | (exact ret_m [] rfl rfl rfl)
      | (refine ⟨?_⟩; simp_all; done)
      | (exfalso; simp_all; done)
      | trace_state
    · cases hb
      · rw [if_pos ⟨rfl, rfl, rfl⟩]
        refine Tells.by Try.func52 (by simp [Try.f52]) (Body.i rfl rfl rfl (fun _ => rfl) fun f => ?_)
        repeat' (first
          
           | refine wp_region_l k_folded [0, 1, 2, 3, 4, 5, 6, 7, 8, 9, 10, 11, 12, 13, 14, 15, 16, 17, 19, 20] [18] [0, 1, 3, 7, 15, 31, 63, 127, 255, 511, 1023, 2047, 4095, 8191, 16383, 32767, 65535, 131071, 262143, 32767, 557055, 2097151, 4194303, 8388607, 16777215] rfl (by decide +kernel) (by decide +kernel) rfl rfl ?_
           | refine RunL.callR rfl rfl rfl rfl (cF) (.inr (ownA_S _)) rfl ?_ ?_ | refine RepL.done rfl | refine RepL.skip rfl ?_ | refine RepL.one rfl rfl rfl rfl rfl rfl ?_ | refine RepL.off rfl rfl rfl rfl rfl ?_
           | refine RunL.one rfl rfl rfl rfl rfl ?_ | refine RunL.done ?_ | refine Run.callB rfl rfl rfl (cH) (by simp [AV.own, T.own]) rfl ?_
           | refine Run.adjwOn 154 (.hole 108000 1 6 900001 _ _ _ _ _ _ rfl hx1 rfl (fun _ => rfl) fun u1 => .hole 108000 1 7 900002 _ _ _ _ _ _ rfl (set_hit (by simpa using hl1)) rfl (fun _ => rfl) fun u2 => .hole 108000 1 8 900003 _ _ _ _ _ _ rfl (set_hit (by simpa using hl1)) rfl (fun _ => rfl) fun u3 => .done _ (Run.ldr rfl rfl rfl (set_hit (by simpa using hl1)) rfl rfl (Run.adjw (.tellC 154 6 900001 _ _ _ _ _ _ _ rfl rfl rfl rfl rfl rfl (.tellC 154 7 900002 _ _ _ _ _ _ _ rfl rfl rfl rfl rfl rfl (.tellC 154 8 900003 _ _ _ _ _ _ _ rfl rfl rfl rfl rfl rfl (.done _ ?_)))))))
           | refine wp_seq_i ?_ | refine wp_region_t k_folded rfl ?_ | refine Run.done rfl ?_ | refine then_n ?_ | refine then_r ?_ | refine then_e ?_ | refine Run.go1 rfl ?_ | refine wp_skip_i ?_ | refine wp_ret_i ?_
           | refine wp_exit_i ?_ | refine wp_block_i ?_ | refine block_n ?_ | refine block_r ?_ | refine block_e ?_ | refine block_o rfl ?_ | refine wp_cond_t rfl ?_ | refine wp_cond_f rfl ?_ | refine RunQ.go1 rfl ?_
           | refine RunQ.done rfl ?_ | refine Run.gT rfl rfl rfl rfl ?_ | refine Run.pT rfl rfl ?_ | (refine Run.splitG rfl rfl rfl rfl rfl rfl ?_ ?_ <;> intro _) | (refine Run.splitP rfl rfl rfl rfl ?_ ?_ <;> intro _)
           | refine RunQ.gT rfl rfl rfl rfl ?_ | refine RunQ.pT rfl rfl ?_ | (refine RunQ.splitG rfl rfl rfl rfl rfl rfl ?_ ?_ <;> intro _) | (refine RunQ.splitP rfl rfl rfl rfl ?_ ?_ <;> intro _)
           | refine RunQ.ix rfl rfl rfl rfl rfl rfl rfl hx0 rfl rfl rfl ?_ | refine RunQ.ix rfl rfl rfl rfl rfl rfl rfl hx1 rfl rfl rfl ?_ | refine RunQ.ldr rfl rfl rfl hx0 rfl rfl ?_ | refine RunQ.ldr rfl rfl rfl hx1 rfl rfl ?_
           | refine Run.ix rfl rfl rfl rfl rfl rfl rfl hx0 rfl rfl rfl ?_ | refine Run.ix rfl rfl rfl rfl rfl rfl rfl hx1 rfl rfl rfl ?_ | refine Run.ldr rfl rfl rfl hx0 rfl rfl ?_ | refine Run.ldr rfl rfl rfl hx1 rfl rfl ?_
           | refine RunQ.call rfl rfl rfl rfl rfl rfl (cP) (.inr (by simp [AV.own, T.own])) rfl rfl ?_ | refine Run.one rfl rfl rfl ?_ | (refine wp_cond_k rfl rfl rfl ?_ ?_ <;> intro _) | (refine wp_cond_i rfl ?_ ?_ <;> intro _))
        all_goals first
        | (exact ret_m [] rfl rfl rfl)
        | (refine ⟨?_⟩; simp_all; done)
        | (exfalso; simp_all; done)
        | trace_state
      · rw [if_neg (fun h => by cases h.2.2)]
        refine Tells.by Try.func52 (by simp [Try.f52]) (Body.i rfl rfl rfl (fun _ => rfl) fun f => ?_)
        repeat' (first
          
           | refine wp_region_l k_folded [0, 1, 2, 3, 4, 5, 6, 7, 8, 9, 10, 11, 12, 13, 14, 15, 16, 17, 19, 20] [18] [0, 1, 3, 7, 15, 31, 63, 127, 255, 511, 1023, 2047, 4095, 8191, 16383, 32767, 65535, 131071, 262143, 32767, 557055, 2097151, 4194303, 8388607, 16777215] rfl (by decide +kernel) (by decide +kernel) rfl rfl ?_
           | refine RunL.callR rfl rfl rfl rfl (cF) (.inr (ownA_S _)) rfl ?_ ?_ | refine RepL.done rfl | refine RepL.skip rfl ?_ | refine RepL.one rfl rfl rfl rfl rfl rfl ?_ | refine RepL.off rfl rfl rfl rfl rfl ?_
           | refine RunL.one rfl rfl rfl rfl rfl ?_ | refine RunL.done ?_ | refine Run.callB rfl rfl rfl (cH) (by simp [AV.own, T.own]) rfl ?_ | refine wp_seq_i ?_ | refine wp_region_t k_folded rfl ?_ | refine Run.done rfl ?_
           | refine then_n ?_ | refine then_r ?_ | refine then_e ?_ | refine Run.go1 rfl ?_ | refine wp_skip_i ?_ | refine wp_ret_i ?_ | refine wp_exit_i ?_ | refine wp_block_i ?_ | refine block_n ?_ | refine block_r ?_
           | refine block_e ?_ | refine block_o rfl ?_ | refine wp_cond_t rfl ?_ | refine wp_cond_f rfl ?_ | refine RunQ.go1 rfl ?_ | refine RunQ.done rfl ?_ | refine Run.gT rfl rfl rfl rfl ?_ | refine Run.pT rfl rfl ?_
           | (refine Run.splitG rfl rfl rfl rfl rfl rfl ?_ ?_ <;> intro _) | (refine Run.splitP rfl rfl rfl rfl ?_ ?_ <;> intro _) | refine RunQ.gT rfl rfl rfl rfl ?_ | refine RunQ.pT rfl rfl ?_
           | (refine RunQ.splitG rfl rfl rfl rfl rfl rfl ?_ ?_ <;> intro _) | (refine RunQ.splitP rfl rfl rfl rfl ?_ ?_ <;> intro _) | refine RunQ.ix rfl rfl rfl rfl rfl rfl rfl hx0 rfl rfl rfl ?_
           | refine RunQ.ix rfl rfl rfl rfl rfl rfl rfl hx1 rfl rfl rfl ?_ | refine RunQ.ldr rfl rfl rfl hx0 rfl rfl ?_ | refine RunQ.ldr rfl rfl rfl hx1 rfl rfl ?_ | refine Run.ix rfl rfl rfl rfl rfl rfl rfl hx0 rfl rfl rfl ?_
           | refine Run.ix rfl rfl rfl rfl rfl rfl rfl hx1 rfl rfl rfl ?_ | refine Run.ldr rfl rfl rfl hx0 rfl rfl ?_ | refine Run.ldr rfl rfl rfl hx1 rfl rfl ?_
           | refine RunQ.call rfl rfl rfl rfl rfl rfl (cP) (.inr (by simp [AV.own, T.own])) rfl rfl ?_ | refine Run.callB rfl rfl rfl (cP) (by simp [AV.own, T.own]) rfl ?_ | refine Run.one rfl rfl rfl ?_
           | (refine wp_cond_k rfl rfl rfl ?_ ?_ <;> intro _) | (refine wp_cond_i rfl ?_ ?_ <;> intro _))
        all_goals first
        | (exact ret_m [] rfl rfl rfl)
        | (refine ⟨?_⟩; simp_all; done)
        | (exfalso; simp_all; done)
        | trace_state
  · rw [if_neg (fun h => hn h.1)]
    refine Tells.by Try.func52 (by simp [Try.f52]) (Body.i rfl rfl rfl (fun _ => rfl) fun f => ?_)
    repeat' (first
       | refine wp_seq_i ?_ | refine wp_region_t k_folded rfl ?_ | refine Run.done rfl ?_ | refine then_n ?_ | refine then_r ?_ | refine then_e ?_ | refine Run.go1 rfl ?_ | refine wp_skip_i ?_ | refine wp_ret_i ?_
       | refine wp_exit_i ?_ | refine wp_block_i ?_ | refine block_n ?_ | refine block_r ?_ | refine block_e ?_ | refine block_o rfl ?_ | refine wp_cond_t rfl ?_ | refine wp_cond_f rfl ?_
       | refine wp_region_qt k_folded rfl 21 (by decide +kernel) rfl rfl ?_ | refine RunQ.go1 rfl ?_ | refine RunQ.done rfl ?_ | refine Run.gT rfl rfl rfl rfl ?_ | refine Run.pT rfl rfl ?_
       | (refine Run.splitG rfl rfl rfl rfl rfl rfl ?_ ?_ <;> intro _) | (refine Run.splitP rfl rfl rfl rfl ?_ ?_ <;> intro _) | refine RunQ.gT rfl rfl rfl rfl ?_ | refine RunQ.pT rfl rfl ?_
       | (refine RunQ.splitG rfl rfl rfl rfl rfl rfl ?_ ?_ <;> intro _) | (refine RunQ.splitP rfl rfl rfl rfl ?_ ?_ <;> intro _) | refine RunQ.ix rfl rfl rfl rfl rfl rfl rfl hx0 rfl rfl rfl ?_
       | refine RunQ.ix rfl rfl rfl rfl rfl rfl rfl hx1 rfl rfl rfl ?_ | refine RunQ.ldr rfl rfl rfl hx0 rfl rfl ?_ | refine RunQ.ldr rfl rfl rfl hx1 rfl rfl ?_ | refine Run.ix rfl rfl rfl rfl rfl rfl rfl hx0 rfl rfl rfl ?_
       | refine Run.ix rfl rfl rfl rfl rfl rfl rfl hx1 rfl rfl rfl ?_ | refine Run.ldr rfl rfl rfl hx0 rfl rfl ?_ | refine Run.ldr rfl rfl rfl hx1 rfl rfl ?_
       | refine RunQ.call rfl rfl rfl rfl rfl rfl (cP) (.inr (by simp [AV.own, T.own])) rfl rfl ?_ | refine Run.one rfl rfl rfl ?_ | (refine wp_cond_k rfl rfl rfl ?_ ?_ <;> intro _) | (refine wp_cond_i rfl ?_ ?_ <;> intro _))
    all_goals first
    | (exact ret_m [] rfl rfl rfl)
    | (refine ⟨?_⟩; clear hx0 hx1 cP cF cH; simp_all; done)
    | (exfalso; clear hx0 hx1 cP cF cH; simp_all; done)
    | trace_state
theorem folded_o (kk : Int) (nn : Int) (ss zz : ByteArray) (tk tn : Int) (ta ts : List Ty) (R : List (List T)) (h1 : kk ≠ 15) (h2 : kk ≠ 8) (h3 : kk ≠ 10) (h4 : kk ≠ 11) (h5 : kk ≠ 14) (h6 : kk ≠ 6) (h7 : kk ≠ 17) : Tells Try.prog E0 X 52 [tmR kk nn ss zz tk tn ta ts R] (tmR kk nn ss zz tk tn ta ts R) := by
  refine Tells.by Try.func52 (by simp [Try.f52]) (Body.i rfl rfl rfl (fun _ => rfl) fun f => ?_)
  repeat' (first
     | refine wp_region_tB (id := 2) 6 (false) k_folded rfl rfl rfl ?_ ?_ | refine wp_region_tB (id := 4) 26 (false) k_folded rfl rfl rfl ?_ ?_ | refine wp_region_tB (id := 6) 47 (false) k_folded rfl rfl rfl ?_ ?_
     | refine wp_region_tB (id := 8) 61 (false) k_folded rfl rfl rfl ?_ ?_ | refine wp_region_tB (id := 10) 87 (false) k_folded rfl rfl rfl ?_ ?_ | refine wp_region_tB (id := 12) 113 (false) k_folded rfl rfl rfl ?_ ?_
     | refine wp_region_tB (id := 16) 155 (false) k_folded rfl rfl rfl ?_ ?_ | refine wp_region_qB (id := 14) 127 (false) k_folded rfl rfl rfl 21 (by decide +kernel) rfl rfl ?_ ?_ | refine wp_seq_i ?_
     | refine wp_region_t k_folded rfl ?_ | refine Run.done rfl ?_ | refine then_n ?_ | refine then_r ?_ | refine then_e ?_ | refine Run.go1 rfl ?_ | refine wp_skip_i ?_ | refine wp_ret_i ?_ | refine wp_exit_i ?_
     | refine wp_block_i ?_ | refine block_n ?_ | refine block_r ?_ | refine block_e ?_ | refine block_o rfl ?_ | refine wp_cond_t rfl ?_ | refine wp_cond_f rfl ?_
     | refine wp_region_qt k_folded rfl 21 (by decide +kernel) rfl rfl ?_ | refine RunQ.go1 rfl ?_ | refine RunQ.done rfl ?_ | refine Run.gT rfl rfl rfl rfl ?_ | refine Run.pT rfl rfl ?_
     | (refine Run.splitG rfl rfl rfl rfl rfl rfl ?_ ?_ <;> intro _) | (refine Run.splitP rfl rfl rfl rfl ?_ ?_ <;> intro _) | refine RunQ.gT rfl rfl rfl rfl ?_ | refine RunQ.pT rfl rfl ?_
     | (refine RunQ.splitG rfl rfl rfl rfl rfl rfl ?_ ?_ <;> intro _) | (refine RunQ.splitP rfl rfl rfl rfl ?_ ?_ <;> intro _) | refine Run.one rfl rfl rfl ?_ | (refine wp_cond_k rfl rfl rfl ?_ ?_ <;> intro _)
     | (refine wp_cond_i rfl ?_ ?_ <;> intro _))
  all_goals first
  | (exact ret_m [] rfl rfl rfl)
  | (refine ⟨?_⟩; simp_all; done)
  | (exfalso; simp_all; done)
  | trace_state
end Go.Proofs

set_option linter.unusedVariables false
set_option linter.unusedSimpArgs false
set_option maxHeartbeats 4000000
namespace Go.Proofs
open Go Go.Ev
set_option maxRecDepth 100000
variable {X : Rel3}
def k_SameTermS : List (Nat × List Nat) := [(0, [2, 3]), (1, [2, 3, 58]), (2, [4]), (3, [2, 3, 5]), (4, [2, 3, 5, 63]), (5, [2, 3, 5]), (6, [2, 3, 5, 77]), (7, [4]), (8, [2, 3, 6]), (9, [2, 3, 6, 82]), (10, [2, 3, 6]), (11, [2, 3, 6, 96]), (12, [4]), (13, [4])]
theorem SameTermS_t : ∀ (x y : Tm), x.ok → Tells Try.prog E0 X 38 [x.a false, y.a false] (bA (decide (x = y)))
  | .mk kk nn ss zz (.mk tk tn ta) ts aa, .mk kk2 nn2 ss2 zz2 (.mk tk2 tn2 ta2) ts2 aa2, hl => by
    have hl2 : ss.size ≤ 1048576 ∧ zz.size ≤ 1048576 ∧ Ty.ok (.mk tk tn ta) ∧ (ts.length ≤ 1048576 ∧ Ty.okL ts) ∧ aa.length ≤ 1048576 ∧ Tm.okL aa := by rw [Tm.ok] at hl; exact hl
    obtain ⟨-, -, l3, l4, l5⟩ := hl2
    have hd : decide (Tm.mk kk nn ss zz (.mk tk tn ta) ts aa = Tm.mk kk2 nn2 ss2 zz2 (.mk tk2 tn2 ta2) ts2 aa2) = decide (kk = kk2 ∧ nn = nn2 ∧ ss = ss2 ∧ zz = zz2 ∧ Ty.mk tk tn ta = .mk tk2 tn2 ta2 ∧ ts = ts2 ∧ aa = aa2) := by rw [decide_eq_decide, Tm.mk.injEq]
    have e1 := str_beq ss ss2
    have e2 := str_beq zz zz2
    rw [hd]
    have c1 := SameTyS_t (X := X) (.mk tk tn ta) (.mk tk2 tn2 ta2) l3
    rw [show decide (kk = kk2 ∧ nn = nn2 ∧ ss = ss2 ∧ zz = zz2 ∧ Ty.mk tk tn ta = .mk tk2 tn2 ta2 ∧ ts = ts2 ∧ aa = aa2) = (decide (kk = kk2) && decide (nn = nn2) && decide (ss = ss2) && decide (zz = zz2) && decide (Ty.mk tk tn ta = .mk tk2 tn2 ta2) && decide (ts = ts2) && decide (aa = aa2)) from by simp only [Bool.decide_and, Bool.and_assoc]]
    rw [← e1, ← e2]
    generalize decide (Ty.mk tk tn ta = .mk tk2 tn2 ta2) = tB at c1 ⊢
    generalize hsB : (ss.toList == ss2.toList) = sB
    generalize hzB : (zz.toList == zz2.toList) = zB
    clear hd e1 e2 hl
    have q1 : (((ts.map (Ty.c false)).length : Int) != ((ts2.map (Ty.c false)).length : Int)) = !decide ((ts.length : Int) = ts2.length) := by rw [List.length_map, List.length_map]; rfl
    have q2 : (((aa.map (Tm.c false)).length : Int) != ((aa2.map (Tm.c false)).length : Int)) = !decide ((aa.length : Int) = aa2.length) := by rw [List.length_map, List.length_map]; rfl
    refine Tells.by Try.func38 (by simp [Try.f38]) (Body.i rfl rfl rfl (fun _ => rfl) fun f => ?_)
    repeat' (first
       | refine wp_region_tB (id := 1) 58 (!(decide (kk = kk2) && decide (nn = nn2) && sB && zB && tB && decide ((ts.length : Int) = ts2.length) && decide ((aa.length : Int) = aa2.length))) k_SameTermS rfl rfl rfl ?_ ?_
       | refine wp_seq_i ?_ | refine wp_region_t k_SameTermS rfl ?_ | refine Run.done rfl ?_ | refine then_n ?_ | refine then_r ?_ | refine then_e ?_ | refine Run.go1 rfl ?_ | refine wp_skip_i ?_ | refine wp_ret_i ?_
       | refine wp_exit_i ?_ | refine wp_block_i ?_ | refine block_n ?_ | refine block_r ?_ | refine block_e ?_ | refine block_o rfl ?_ | refine wp_cond_t rfl ?_ | refine wp_cond_f rfl ?_ | refine Run.gT rfl rfl rfl rfl ?_
       | refine Run.pT rfl rfl ?_ | (refine Run.splitG rfl rfl rfl rfl rfl rfl ?_ ?_ <;> intro _) | (refine Run.splitP rfl rfl rfl rfl ?_ ?_ <;> intro _) | refine Run.call rfl rfl rfl (c1) rfl rfl ?_
       | (refine wp_cond_k rfl rfl rfl ?_ ?_ <;> intro _) | (refine wp_cond_i rfl ?_ ?_ <;> intro _))
    all_goals first
    | (rename_i h; rw [q1] at h; refine ⟨?_⟩; clear c1; rw [q2]; clear q1 q2; generalize decide ((ts.length : Int) = ts2.length) = b1 at *; generalize decide ((aa.length : Int) = aa2.length) = b2 at *; simp_all; done)
    | (rename_i h; rw [q1] at h; refine ⟨?_⟩; clear c1 q1 q2; generalize decide ((ts.length : Int) = ts2.length) = b1 at *; generalize decide ((aa.length : Int) = aa2.length) = b2 at *; simp_all; done)
    | (refine ⟨?_⟩; clear c1; simp_all; done)
    | (rename_i hB
       refine ret_m [] rfl rfl ?_
       have : (decide (kk = kk2) && decide (nn = nn2) && sB && zB && tB && decide (ts = ts2) && decide (aa = aa2)) = false := by
         rw [Bool.eq_false_iff]
         intro h
         simp only [Bool.and_eq_true, decide_eq_true_eq] at h
         obtain ⟨⟨⟨⟨⟨⟨p1, p2⟩, p3⟩, p4⟩, p5⟩, p6⟩, p7⟩ := h
         subst p1 p2 p6 p7
         simp [p3, p4, p5] at hB
       rw [this]; done)
    | skip
    rename_i hB
    simp only [Bool.not_eq_false', Bool.and_eq_true, decide_eq_true_eq] at hB
    obtain ⟨⟨⟨⟨⟨⟨p1, p2⟩, p3⟩, p4⟩, p5⟩, p6⟩, p7⟩ := hB
    have hab0 : ts.length = ts2.length := by omega
    have hab : aa.length = aa2.length := by omega
    have hgo : (decide (kk = kk2) && decide (nn = nn2) && sB && zB && tB && decide (ts = ts2) && decide (aa = aa2)) = (decide (ts = ts2) && decide (aa = aa2)) := by simp [p1, p2, p3, p4, p5]
    rw [hgo]
    clear hgo p6 p7 hsB hzB c1 q1 q2
    refine wp_loop_k (α := Nat) [.keep [2, 3, 5] [2, 3]] (fun p => [(5, iA p)]) (fun _ => []) (fun _ => []) (fun p => p ≤ ts.length ∧ ts.take p = ts2.take p) (fun p => ts.length - p) 0 rfl (fun _ => rfl) rfl ⟨by simp, by simp⟩ ?_
    rintro j ⟨hj, he⟩
    by_cases hlt : j < ts.length
    · obtain ⟨t, ht⟩ : ∃ t, ts[j]? = some t := ⟨_, List.getElem?_eq_getElem hlt⟩
      obtain ⟨u, hu⟩ : ∃ u, ts2[j]? = some u := ⟨_, List.getElem?_eq_getElem (by omega)⟩
      have ta0 : ts.take (j + 1) = ts.take j ++ [t] := by rw [List.take_succ_eq_append_getElem hlt, (List.getElem?_eq_some_iff.1 ht).2]
      have tb0 : ts2.take (j + 1) = ts2.take j ++ [u] := by rw [List.take_succ_eq_append_getElem (by omega), (List.getElem?_eq_some_iff.1 hu).2]
      have hT := SameTyS_t (X := X) t u (Ty.okL_iff.1 l4.2 t (List.mem_of_getElem? ht))
      obtain ⟨k3, n3, a3⟩ := t
      obtain ⟨k4, n4, a4⟩ := u
      have hx : (ts.map (Ty.c false))[j]? = some [iT k3, iT n3, .sl false (a3.map (Ty.c false))] := by rw [List.getElem?_map, ht]; exact congrArg some (Ty.c_mk ..)
      have hy : (ts2.map (Ty.c false))[j]? = some [iT k4, iT n4, .sl false (a4.map (Ty.c false))] := by rw [List.getElem?_map, hu]; exact congrArg some (Ty.c_mk ..)
      repeat' (first
         | refine wp_seq_i ?_ | refine wp_region_t k_SameTermS rfl ?_ | refine Run.done rfl ?_ | refine then_n ?_ | refine then_r ?_ | refine then_e ?_ | refine Run.go1 rfl ?_ | refine wp_skip_i ?_ | refine wp_ret_i ?_
         | refine wp_exit_i ?_ | refine wp_block_i ?_ | refine block_n ?_ | refine block_r ?_ | refine block_e ?_ | refine block_o rfl ?_ | refine wp_cond_t rfl ?_ | refine wp_cond_f rfl ?_
         | refine wp_region_qt k_SameTermS rfl 10 (by decide +kernel) rfl rfl ?_ | refine RunQ.go1 rfl ?_ | refine RunQ.done rfl ?_ | refine RunQ.ix rfl rfl rfl rfl rfl rfl rfl hx rfl rfl rfl ?_
         | refine RunQ.ix rfl rfl rfl rfl rfl rfl rfl hy rfl rfl rfl ?_ | refine Run.ix rfl rfl rfl rfl rfl rfl rfl hx rfl rfl rfl ?_ | refine Run.ix rfl rfl rfl rfl rfl rfl rfl hy rfl rfl rfl ?_
         | refine RunQ.call rfl rfl rfl rfl rfl rfl (hT) (.inl rfl) rfl rfl ?_ | refine Run.call rfl rfl rfl (hT) rfl rfl ?_ | (refine wp_cond_k rfl rfl rfl ?_ ?_ <;> intro _) | (refine wp_cond_i rfl ?_ ?_ <;> intro _))
      all_goals first
      | (rename_i h2
         refine ret_m [] rfl rfl ?_
         have hne : Ty.mk k3 n3 a3 ≠ Ty.mk k4 n4 a4 := by simpa only [Bool.not_eq_true', decide_eq_false_iff_not] using h2
         rw [show decide (ts = ts2) = false from decide_eq_false (fun e => hne (by
           have h3 : ts.take (j + 1) = ts2.take (j + 1) := by rw [e]
           rw [ta0, tb0, he] at h3
           exact List.singleton_inj.1 (List.append_cancel_left h3))), Bool.false_and]; done)
      | (rename_i h2
         have heq : Ty.mk k3 n3 a3 = Ty.mk k4 n4 a4 := by simpa only [Bool.not_eq_false', decide_eq_true_eq] using h2
         refine back_i [.keep [2, 3, 5] [2, 3]] (j + 1) rfl ?_ ⟨by omega, ?_⟩ (by omega)
         · simp only [w_succ hlt (show ts.length ≤ 9223372036854775807 by omega)]
         · rw [ta0, tb0, he, heq])
      | (exfalso; rename_i h2; simp [hlt] at h2; done)
      | trace_state
    · have hjl : j = ts.length := by omega
      have hab2 : ts = ts2 := by
        rw [hjl, List.take_length, hab0, List.take_length] at he; exact he
      repeat' (first
         | refine wp_seq_i ?_ | refine wp_region_t k_SameTermS rfl ?_ | refine Run.done rfl ?_ | refine then_n ?_ | refine then_r ?_ | refine then_e ?_ | refine Run.go1 rfl ?_ | refine wp_skip_i ?_ | refine wp_ret_i ?_
         | refine wp_exit_i ?_ | refine wp_block_i ?_ | refine block_n ?_ | refine block_r ?_ | refine block_e ?_ | refine block_o rfl ?_ | refine wp_cond_t rfl ?_ | refine wp_cond_f rfl ?_
         | (refine wp_cond_k rfl rfl rfl ?_ ?_ <;> intro _) | (refine wp_cond_i rfl ?_ ?_ <;> intro _))
      all_goals first
      | (exfalso; rename_i h2; simp [hjl] at h2; done)
      | skip
      have hab1 := hab2
      clear hab2 he hj hjl
      refine wp_loop_k (α := Nat) [.keep [2, 3, 6] [2, 3]] (fun p => [(6, iA p)]) (fun _ => []) (fun _ => []) (fun p => p ≤ aa.length ∧ aa.take p = aa2.take p) (fun p => aa.length - p) 0 rfl (fun _ => rfl) rfl ⟨by simp, by simp⟩ ?_
      rintro j ⟨hj, he⟩
      by_cases hlt : j < aa.length
      · obtain ⟨t, ht⟩ : ∃ t, aa[j]? = some t := ⟨_, List.getElem?_eq_getElem hlt⟩
        obtain ⟨u, hu⟩ : ∃ u, aa2[j]? = some u := ⟨_, List.getElem?_eq_getElem (by omega)⟩
        have ta0 : aa.take (j + 1) = aa.take j ++ [t] := by rw [List.take_succ_eq_append_getElem hlt, (List.getElem?_eq_some_iff.1 ht).2]
        have tb0 : aa2.take (j + 1) = aa2.take j ++ [u] := by rw [List.take_succ_eq_append_getElem (by omega), (List.getElem?_eq_some_iff.1 hu).2]
        have hT := SameTermS_t t u (Tm.okL_iff.1 l5.2 t (List.mem_of_getElem? ht))
        obtain ⟨k3, n3, s3, z3, ⟨tk3, tn3, ta3⟩, ts3, a3⟩ := t
        obtain ⟨k4, n4, s4, z4, ⟨tk4, tn4, ta4⟩, ts4, a4⟩ := u
        have hx : (aa.map (Tm.c false))[j]? = some [iT k3, iT n3, sT s3, sT z3, iT tk3, iT tn3, .sl false (ta3.map (Ty.c false)), .sl false (ts3.map (Ty.c false)), .sl false (a3.map (Tm.c false))] := by rw [List.getElem?_map, ht]; exact congrArg some (Tm.c_mk ..)
        have hy : (aa2.map (Tm.c false))[j]? = some [iT k4, iT n4, sT s4, sT z4, iT tk4, iT tn4, .sl false (ta4.map (Ty.c false)), .sl false (ts4.map (Ty.c false)), .sl false (a4.map (Tm.c false))] := by rw [List.getElem?_map, hu]; exact congrArg some (Tm.c_mk ..)
        repeat' (first
           | refine wp_seq_i ?_ | refine wp_region_t k_SameTermS rfl ?_ | refine Run.done rfl ?_ | refine then_n ?_ | refine then_r ?_ | refine then_e ?_ | refine Run.go1 rfl ?_ | refine wp_skip_i ?_ | refine wp_ret_i ?_
           | refine wp_exit_i ?_ | refine wp_block_i ?_ | refine block_n ?_ | refine block_r ?_ | refine block_e ?_ | refine block_o rfl ?_ | refine wp_cond_t rfl ?_ | refine wp_cond_f rfl ?_
           | refine wp_region_qt k_SameTermS rfl 10 (by decide +kernel) rfl rfl ?_ | refine RunQ.go1 rfl ?_ | refine RunQ.done rfl ?_ | refine RunQ.ix rfl rfl rfl rfl rfl rfl rfl hx rfl rfl rfl ?_
           | refine RunQ.ix rfl rfl rfl rfl rfl rfl rfl hy rfl rfl rfl ?_ | refine Run.ix rfl rfl rfl rfl rfl rfl rfl hx rfl rfl rfl ?_ | refine Run.ix rfl rfl rfl rfl rfl rfl rfl hy rfl rfl rfl ?_
           | refine RunQ.call rfl rfl rfl rfl rfl rfl (hT) (.inl rfl) rfl rfl ?_ | refine Run.call rfl rfl rfl (hT) rfl rfl ?_ | (refine wp_cond_k rfl rfl rfl ?_ ?_ <;> intro _) | (refine wp_cond_i rfl ?_ ?_ <;> intro _))
        all_goals first
        | (rename_i h2
           refine ret_m [] rfl rfl ?_
           have hne : Tm.mk k3 n3 s3 z3 (.mk tk3 tn3 ta3) ts3 a3 ≠ Tm.mk k4 n4 s4 z4 (.mk tk4 tn4 ta4) ts4 a4 := by simpa only [Bool.not_eq_true', decide_eq_false_iff_not] using h2
           rw [hab1, show decide (ts2 = ts2) = true from by simp, Bool.true_and, decide_eq_false (fun e => hne (by
             have h3 : aa.take (j + 1) = aa2.take (j + 1) := by rw [e]
             rw [ta0, tb0, he] at h3
             exact List.singleton_inj.1 (List.append_cancel_left h3)))]; done)
        | (rename_i h2
           have heq : Tm.mk k3 n3 s3 z3 (.mk tk3 tn3 ta3) ts3 a3 = Tm.mk k4 n4 s4 z4 (.mk tk4 tn4 ta4) ts4 a4 := by simpa only [Bool.not_eq_false', decide_eq_true_eq] using h2
           refine back_i [.keep [2, 3, 6] [2, 3]] (j + 1) rfl ?_ ⟨by omega, ?_⟩ (by omega)
           · simp only [w_succ hlt (show aa.length ≤ 9223372036854775807 by omega)]
           · rw [ta0, tb0, he, heq])
        | (exfalso; rename_i h2; simp [hlt] at h2; done)
        | trace_state
      · have hjl : j = aa.length := by omega
        have hab2 : aa = aa2 := by
          rw [hjl, List.take_length, hab, List.take_length] at he; exact he
        repeat' (first
           | refine wp_seq_i ?_ | refine wp_region_t k_SameTermS rfl ?_ | refine Run.done rfl ?_ | refine then_n ?_ | refine then_r ?_ | refine then_e ?_ | refine Run.go1 rfl ?_ | refine wp_skip_i ?_ | refine wp_ret_i ?_
           | refine wp_exit_i ?_ | refine wp_block_i ?_ | refine block_n ?_ | refine block_r ?_ | refine block_e ?_ | refine block_o rfl ?_ | refine wp_cond_t rfl ?_ | refine wp_cond_f rfl ?_
           | (refine wp_cond_k rfl rfl rfl ?_ ?_ <;> intro _) | (refine wp_cond_i rfl ?_ ?_ <;> intro _))
        all_goals first
        | (exfalso; rename_i h2; simp [hjl] at h2; done)
        | (refine ret_m [] rfl rfl ?_
           simp [hab1, hab2]; done)
        | trace_state
  termination_by x => SizeOf.sizeOf x
  decreasing_by
    all_goals (have hsz := List.sizeOf_lt_of_mem (List.mem_of_getElem? ht); simp; omega)
def k_EqFTm : List (Nat × List Nat) := [(0, [0, 1, 2]), (1, [0, 1, 2, 14]), (2, [6]), (3, [1, 2, 15, 16, 17]), (4, [1, 2, 15, 16, 17, 18]), (5, [1, 2, 7, 8, 15, 16, 17]), (6, [1, 2, 8, 9, 15, 16, 17]), (7, [1, 2, 15, 16, 17, 30]), (8, [6]), (9, [1, 2, 15, 16, 17]), (10, [6])]
theorem EqFTm_of (fi : Nat) (hfi : fi = 39) (aa aa2 : List Tm) (hl : aa.length ≤ 1048576) (h : ∀ x ∈ aa, ∀ y, Tells Try.prog E0 X 39 [x.a false, y.a false] (bA (decide (x = y)))) : Tells Try.prog E0 X 57 [.t (.sl false (aa.map (Tm.c false))), .t (.sl false (aa2.map (Tm.c false))), .t (.fn fi [])] (bA (decide (aa = aa2))) := by
  subst hfi
  refine Tells.by Try.func57 (by simp [Try.f57]) (Body.i rfl rfl rfl (fun _ => rfl) fun f => ?_)
  repeat' (first
     | refine wp_seq_i ?_ | refine wp_region_t k_EqFTm rfl ?_ | refine Run.done rfl ?_ | refine then_n ?_ | refine then_r ?_ | refine then_e ?_ | refine Run.go1 rfl ?_ | refine wp_skip_i ?_ | refine wp_ret_i ?_
     | refine wp_exit_i ?_ | refine wp_block_i ?_ | refine block_n ?_ | refine block_r ?_ | refine block_e ?_ | refine block_o rfl ?_ | refine wp_cond_t rfl ?_ | refine wp_cond_f rfl ?_
     | (refine wp_cond_k rfl rfl rfl ?_ ?_ <;> intro _) | (refine wp_cond_i rfl ?_ ?_ <;> intro _))
  · rename_i h1
    refine ret_m [] rfl rfl ?_
    simp at h1
    rw [decide_eq_false (fun e => h1 (by rw [e]))]
  rename_i h1
  have hab : aa.length = aa2.length := by
    have : (aa.length : Int) = aa2.length := by simpa using h1
    omega
  refine wp_loop_k (α := Nat) [.keep [0, 1, 2, 15, 16, 17] []] (fun p => [(17, iA p)]) (fun _ => []) (fun _ => []) (fun p => p ≤ aa.length ∧ aa.take p = aa2.take p) (fun p => aa.length - p) 0 rfl (fun _ => rfl) rfl ⟨by simp, by simp⟩ ?_
  rintro j ⟨hj, he⟩
  by_cases hlt : j < aa.length
  · obtain ⟨t, ht⟩ : ∃ t, aa[j]? = some t := ⟨_, List.getElem?_eq_getElem hlt⟩
    obtain ⟨u, hu⟩ : ∃ u, aa2[j]? = some u := ⟨_, List.getElem?_eq_getElem (by omega)⟩
    have ta0 : aa.take (j + 1) = aa.take j ++ [t] := by rw [List.take_succ_eq_append_getElem hlt, (List.getElem?_eq_some_iff.1 ht).2]
    have tb0 : aa2.take (j + 1) = aa2.take j ++ [u] := by rw [List.take_succ_eq_append_getElem (by omega), (List.getElem?_eq_some_iff.1 hu).2]
    have hT := h t (List.mem_of_getElem? ht) u
    obtain ⟨k3, n3, s3, z3, ⟨tk3, tn3, ta3⟩, ts3, a3⟩ := t
    obtain ⟨k4, n4, s4, z4, ⟨tk4, tn4, ta4⟩, ts4, a4⟩ := u
    have hx : (aa.map (Tm.c false))[j]? = some [iT k3, iT n3, sT s3, sT z3, iT tk3, iT tn3, .sl false (ta3.map (Ty.c false)), .sl false (ts3.map (Ty.c false)), .sl false (a3.map (Tm.c false))] := by rw [List.getElem?_map, ht]; exact congrArg some (Tm.c_mk ..)
    have hy : (aa2.map (Tm.c false))[j]? = some [iT k4, iT n4, sT s4, sT z4, iT tk4, iT tn4, .sl false (ta4.map (Ty.c false)), .sl false (ts4.map (Ty.c false)), .sl false (a4.map (Tm.c false))] := by rw [List.getElem?_map, hu]; exact congrArg some (Tm.c_mk ..)
    repeat' (first
       | refine wp_seq_i ?_ | refine wp_region_t k_EqFTm rfl ?_ | refine Run.done rfl ?_ | refine then_n ?_ | refine then_r ?_ | refine then_e ?_ | refine Run.go1 rfl ?_ | refine wp_skip_i ?_ | refine wp_ret_i ?_
       | refine wp_exit_i ?_ | refine wp_block_i ?_ | refine block_n ?_ | refine block_r ?_ | refine block_e ?_ | refine block_o rfl ?_ | refine wp_cond_t rfl ?_ | refine wp_cond_f rfl ?_
       | refine Run.ix rfl rfl rfl rfl rfl rfl rfl hx rfl rfl rfl ?_ | refine Run.ix rfl rfl rfl rfl rfl rfl rfl hy rfl rfl rfl ?_ | refine Run.callF rfl rfl rfl rfl rfl (hT) rfl rfl ?_
       | refine Run.call rfl rfl rfl (hT) rfl rfl ?_ | refine Run.one rfl rfl rfl ?_ | (refine wp_cond_k rfl rfl rfl ?_ ?_ <;> intro _) | (refine wp_cond_i rfl ?_ ?_ <;> intro _))
    all_goals first
    | (rename_i h2
       refine ret_m [] rfl rfl ?_
       have hne : Tm.mk k3 n3 s3 z3 (.mk tk3 tn3 ta3) ts3 a3 ≠ Tm.mk k4 n4 s4 z4 (.mk tk4 tn4 ta4) ts4 a4 := by simpa only [Bool.not_eq_true', decide_eq_false_iff_not] using h2
       rw [decide_eq_false (fun e => hne (by
         have h3 : aa.take (j + 1) = aa2.take (j + 1) := by rw [e]
         rw [ta0, tb0, he] at h3
         exact List.singleton_inj.1 (List.append_cancel_left h3)))]; done)
    | (rename_i h2
       have heq : Tm.mk k3 n3 s3 z3 (.mk tk3 tn3 ta3) ts3 a3 = Tm.mk k4 n4 s4 z4 (.mk tk4 tn4 ta4) ts4 a4 := by simpa only [Bool.not_eq_false', decide_eq_true_eq] using h2
       refine back_i [.keep [0, 1, 2, 15, 16, 17] []] (j + 1) rfl ?_ ⟨by omega, ?_⟩ (by omega)
       · simp only [w_succ hlt (show aa.length ≤ 9223372036854775807 by omega)]
       · rw [ta0, tb0, he, heq])
    | (exfalso; rename_i h2; simp [hlt] at h2; done)
    | trace_state
  · have hjl : j = aa.length := by omega
    repeat' (first
       | refine wp_seq_i ?_ | refine wp_region_t k_EqFTm rfl ?_ | refine Run.done rfl ?_ | refine then_n ?_ | refine then_r ?_ | refine then_e ?_ | refine Run.go1 rfl ?_ | refine wp_skip_i ?_ | refine wp_ret_i ?_
       | refine wp_exit_i ?_ | refine wp_block_i ?_ | refine block_n ?_ | refine block_r ?_ | refine block_e ?_ | refine block_o rfl ?_ | refine wp_cond_t rfl ?_ | refine wp_cond_f rfl ?_
       | (refine wp_cond_k rfl rfl rfl ?_ ?_ <;> intro _) | (refine wp_cond_i rfl ?_ ?_ <;> intro _))
    all_goals first
    | (exfalso; rename_i h2; simp [hjl] at h2; done)
    | (refine ret_m [] rfl rfl ?_
       rw [hjl] at he
       have : aa = aa2 := by rw [List.take_length, hab, List.take_length] at he; exact he
       simp [this]; done)
    | trace_state
def k_SameTermI : List (Nat × List Nat) := [(0, [2, 3]), (1, [4])]
theorem SameTermI_t : ∀ (x y : Tm), x.ok → Tells Try.prog E0 X 39 [x.a false, y.a false] (bA (decide (x = y)))
  | .mk kk nn ss zz (.mk tk tn ta) ts aa, .mk kk2 nn2 ss2 zz2 (.mk tk2 tn2 ta2) ts2 aa2, hl => by
    have hl2 : ss.size ≤ 1048576 ∧ zz.size ≤ 1048576 ∧ Ty.ok (.mk tk tn ta) ∧ (ts.length ≤ 1048576 ∧ Ty.okL ts) ∧ aa.length ≤ 1048576 ∧ Tm.okL aa := by rw [Tm.ok] at hl; exact hl
    obtain ⟨-, -, l3, l4, l5⟩ := hl2
    have hd : decide (Tm.mk kk nn ss zz (.mk tk tn ta) ts aa = Tm.mk kk2 nn2 ss2 zz2 (.mk tk2 tn2 ta2) ts2 aa2) = decide (kk = kk2 ∧ nn = nn2 ∧ ss = ss2 ∧ zz = zz2 ∧ Ty.mk tk tn ta = .mk tk2 tn2 ta2 ∧ ts = ts2 ∧ aa = aa2) := by rw [decide_eq_decide, Tm.mk.injEq]
    have e1 := str_beq ss ss2
    have e2 := str_beq zz zz2
    rw [hd]
    have c2 := EqFTy_of (X := X) 55 rfl ts ts2 l4.1 (fun t ht y => SameTyI_t t y (Ty.okL_iff.1 l4.2 t ht))
    have c3 := EqFTm_of (X := X) 39 rfl aa aa2 l5.1 (fun t ht y => SameTermI_t t y (Tm.okL_iff.1 l5.2 t ht))
    have c1 := SameTyI_t (X := X) (.mk tk tn ta) (.mk tk2 tn2 ta2) l3
    rw [show decide (kk = kk2 ∧ nn = nn2 ∧ ss = ss2 ∧ zz = zz2 ∧ Ty.mk tk tn ta = .mk tk2 tn2 ta2 ∧ ts = ts2 ∧ aa = aa2) = (decide (kk = kk2) && decide (nn = nn2) && decide (ss = ss2) && decide (zz = zz2) && decide (Ty.mk tk tn ta = .mk tk2 tn2 ta2) && decide (ts = ts2) && decide (aa = aa2)) from by simp only [Bool.decide_and, Bool.and_assoc]]
    rw [← e1, ← e2]
    generalize decide (Ty.mk tk tn ta = .mk tk2 tn2 ta2) = tB at c1 ⊢
    generalize hsB : (ss.toList == ss2.toList) = sB
    generalize hzB : (zz.toList == zz2.toList) = zB
    clear hd e1 e2 hl
    generalize decide (ts = ts2) = yB at c2 ⊢
    generalize decide (aa = aa2) = mB at c3 ⊢
    refine Tells.by Try.func39 (by simp [Try.f39]) (Body.i rfl rfl rfl (fun _ => rfl) fun f => ?_)
    repeat' (first
       | refine wp_region_tB (id := 1) 4 (decide (kk = kk2) && decide (nn = nn2) && sB && zB && tB && yB && mB) k_SameTermI rfl rfl rfl ?_ ?_ | refine wp_seq_i ?_ | refine wp_region_t k_SameTermI rfl ?_ | refine Run.done rfl ?_
       | refine then_n ?_ | refine then_r ?_ | refine then_e ?_ | refine Run.go1 rfl ?_ | refine wp_skip_i ?_ | refine wp_ret_i ?_ | refine wp_exit_i ?_ | refine wp_block_i ?_ | refine block_n ?_ | refine block_r ?_
       | refine block_e ?_ | refine block_o rfl ?_ | refine wp_cond_t rfl ?_ | refine wp_cond_f rfl ?_ | refine Run.gT rfl rfl rfl rfl ?_ | refine Run.pT rfl rfl ?_ | (refine Run.splitG rfl rfl rfl rfl rfl rfl ?_ ?_ <;> intro _)
       | (refine Run.splitP rfl rfl rfl rfl ?_ ?_ <;> intro _) | refine Run.call rfl rfl rfl (c1) rfl rfl ?_ | refine Run.call rfl rfl rfl (c2) rfl rfl ?_ | refine Run.call rfl rfl rfl (c3) rfl rfl ?_
       | (refine wp_cond_k rfl rfl rfl ?_ ?_ <;> intro _) | (refine wp_cond_i rfl ?_ ?_ <;> intro _))
    all_goals first
    | (refine ⟨?_⟩; clear c1 c2 c3; simp_all; done)
    | (exact ret_m [] rfl rfl rfl)
    | trace_state
  termination_by x => SizeOf.sizeOf x
  decreasing_by
    all_goals (have hsz := List.sizeOf_lt_of_mem ht; simp; omega)
end Go.Proofs

set_option linter.unusedVariables false
set_option linter.unusedSimpArgs false
set_option maxHeartbeats 4000000
namespace Go.Proofs
open Go Go.Ev
set_option maxRecDepth 100000
variable {X : Rel3}
theorem fold1_15 (n : Int) (s z : ByteArray) (t : Ty) (ts : List Ty) (k3 n3 : Int) (y3 z3 : ByteArray) (t3 : Ty) (ts3 : List Ty) (a3 : List Tm) (k4 n4 : Int) (y4 z4 : ByteArray) (t4 : Ty) (ts4 : List Ty) (a4 : List Tm) : fold1 15 n s z t ts [.mk k3 n3 y3 z3 t3 ts3 a3, .mk k4 n4 y4 z4 t4 ts4 a4] = if k3 = 1 ∧ k4 = 1 then (match opR n n3 n4 with
      | some (k', m) => .mk k' m ByteArray.empty ByteArray.empty (.mk 0 0 []) [] []
      | none => .mk 15 n s z t ts [.mk k3 n3 y3 z3 t3 ts3 a3, .mk k4 n4 y4 z4 t4 ts4 a4]) else .mk 15 n s z t ts [.mk k3 n3 y3 z3 t3 ts3 a3, .mk k4 n4 y4 z4 t4 ts4 a4] := rfl
theorem fold1_8 (n : Int) (s z : ByteArray) (t : Ty) (ts : List Ty) (k3 n3 : Int) (y3 z3 : ByteArray) (t3 : Ty) (ts3 : List Ty) (a3 : List Tm) (x y : Tm) : fold1 8 n s z t ts [.mk k3 n3 y3 z3 t3 ts3 a3, x, y] = if k3 = 2 then (if n3 = 1 then x else y) else .mk 8 n s z t ts [.mk k3 n3 y3 z3 t3 ts3 a3, x, y] := rfl
theorem fold1_10 (n : Int) (s z : ByteArray) (t : Ty) (ts : List Ty) (n3 : Int) (y3 z3 : ByteArray) (t3 : Ty) (ts3 : List Ty) (x y : Tm) : fold1 10 n s z t ts [.mk 9 n3 y3 z3 t3 ts3 [x, y]] = if pur y = true then x else .mk 10 n s z t ts [.mk 9 n3 y3 z3 t3 ts3 [x, y]] := by
  have e : fold1 10 n s z t ts [.mk 9 n3 y3 z3 t3 ts3 [x, y]] = if (9 : Int) = 9 ∧ pur y = true then x else .mk 10 n s z t ts [.mk 9 n3 y3 z3 t3 ts3 [x, y]] := rfl
  rw [e]; simp
theorem fold1_11 (n : Int) (s z : ByteArray) (t : Ty) (ts : List Ty) (n3 : Int) (y3 z3 : ByteArray) (t3 : Ty) (ts3 : List Ty) (x y : Tm) : fold1 11 n s z t ts [.mk 9 n3 y3 z3 t3 ts3 [x, y]] = if pur x = true then y else .mk 11 n s z t ts [.mk 9 n3 y3 z3 t3 ts3 [x, y]] := by
  have e : fold1 11 n s z t ts [.mk 9 n3 y3 z3 t3 ts3 [x, y]] = if (9 : Int) = 9 ∧ pur x = true then y else .mk 11 n s z t ts [.mk 9 n3 y3 z3 t3 ts3 [x, y]] := rfl
  rw [e]; simp
theorem fold1_10n (n : Int) (s z : ByteArray) (t : Ty) (ts : List Ty) (k3 n3 : Int) (y3 z3 : ByteArray) (t3 : Ty) (ts3 : List Ty) (a3 : List Tm) (h : k3 ≠ 9) : fold1 10 n s z t ts [.mk k3 n3 y3 z3 t3 ts3 a3] = .mk 10 n s z t ts [.mk k3 n3 y3 z3 t3 ts3 a3] := by
  have e : fold1 10 n s z t ts [.mk k3 n3 y3 z3 t3 ts3 a3] = match a3 with
    | [x, y] => if k3 = 9 ∧ pur y = true then x else .mk 10 n s z t ts [.mk k3 n3 y3 z3 t3 ts3 a3]
    | _ => .mk 10 n s z t ts [.mk k3 n3 y3 z3 t3 ts3 a3] := by rcases a3 with _ | ⟨_, _ | ⟨_, _ | ⟨_, _⟩⟩⟩ <;> rfl
  rw [e]
  split
  · rw [if_neg (fun e => h e.1)]
  · rfl
theorem fold1_11n (n : Int) (s z : ByteArray) (t : Ty) (ts : List Ty) (k3 n3 : Int) (y3 z3 : ByteArray) (t3 : Ty) (ts3 : List Ty) (a3 : List Tm) (h : k3 ≠ 9) : fold1 11 n s z t ts [.mk k3 n3 y3 z3 t3 ts3 a3] = .mk 11 n s z t ts [.mk k3 n3 y3 z3 t3 ts3 a3] := by
  have e : fold1 11 n s z t ts [.mk k3 n3 y3 z3 t3 ts3 a3] = match a3 with
    | [x, y] => if k3 = 9 ∧ pur x = true then y else .mk 11 n s z t ts [.mk k3 n3 y3 z3 t3 ts3 a3]
    | _ => .mk 11 n s z t ts [.mk k3 n3 y3 z3 t3 ts3 a3] := by rcases a3 with _ | ⟨_, _ | ⟨_, _ | ⟨_, _⟩⟩⟩ <;> rfl
  rw [e]
  split
  · rw [if_neg (fun e => h e.1)]
  · rfl
theorem fold1_14 (n : Int) (s z : ByteArray) (t : Ty) (ts : List Ty) (k3 n3 : Int) (y3 z3 : ByteArray) (t3 : Ty) (ts3 : List Ty) (a3 : List Tm) (x y : Tm) : fold1 14 n s z t ts [.mk k3 n3 y3 z3 t3 ts3 a3, x, y] = if k3 = 12 then x else .mk 14 n s z t ts [.mk k3 n3 y3 z3 t3 ts3 a3, x, y] := rfl
theorem fold1_6 (n : Int) (s z : ByteArray) (t : Ty) (ts : List Ty) (x y : Tm) : fold1 6 n s z t ts [x, y] = if n = 0 ∧ pur x = true ∧ has (frT y [] []) s = false then y else .mk 6 n s z t ts [x, y] := rfl
theorem fold1_17 (n : Int) (s z : ByteArray) (t : Ty) (ts : List Ty) (x y : Tm) : fold1 17 n s z t ts [x, y] = if pur x = true then x else .mk 17 n s z t ts [x, y] := rfl
theorem fold1_o (k n : Int) (s z : ByteArray) (t : Ty) (ts : List Ty) (a : List Tm) (h15 : k ≠ 15) (h8 : k ≠ 8) (h10 : k ≠ 10) (h11 : k ≠ 11) (h14 : k ≠ 14) (h6 : k ≠ 6) (h17 : k ≠ 17) : fold1 k n s z t ts a = .mk k n s z t ts a := by
  unfold fold1
  rw [if_neg h15, if_neg h8, if_neg h10, if_neg h11, if_neg h14, if_neg h6, if_neg h17]
theorem a_ite (c : Prop) [Decidable c] (x y : Tm) : (if c then x else y).a true = if c then x.a true else y.a true := by split <;> rfl
theorem folded_t (kk nn : Int) (ss zz : ByteArray) (tk tn : Int) (ta ts : List Ty) (aa : List Tm) (h : tmH (.mk kk nn ss zz (.mk tk tn ta) ts aa) = true) (hok : (Tm.mk kk nn ss zz (.mk tk tn ta) ts aa).ok) (hd : tmD (.mk kk nn ss zz (.mk tk tn ta) ts aa) ≤ 24) (hn : tmN (.mk kk nn ss zz (.mk tk tn ta) ts aa) ≤ 150) : Tells Try.prog E0 XK 52 [tmA true kk nn ss zz tk tn ta ts aa] ((fold1 kk nn ss zz (.mk tk tn ta) ts aa).a true) := by
  have hlen : (aa.length : Int) = tmPt kk := by
    have h' := h
    rw [tmH] at h'
    have h2 := (Bool.and_eq_true_iff.1 h').1
    unfold tmHd at h2
    simp only [Bool.and_eq_true, decide_eq_true_eq] at h2
    exact h2.1.1.1.1.1.1.1
  have hm := fun x hx => Gd.mem (x := x) h hok hx
  clear h hok
  by_cases h15 : kk = 15
  · subst h15
    rcases aa with _ | ⟨x, _ | ⟨y, _ | ⟨w, r⟩⟩⟩
    all_goals try (exfalso; simp [tmPt] at hlen; done)
    all_goals try (exfalso; simp [tmPt] at hlen; omega)
    obtain ⟨k3, n3, y3, z3, ⟨tk3, tn3, ta3⟩, ts3, a3⟩ := x
    obtain ⟨k4, n4, y4, z4, ⟨tk4, tn4, ta4⟩, ts4, a4⟩ := y
    refine fold_of (folded_15 nn ss zz tk tn ta ts _ k3 n3 y3 z3 tk3 tn3 ta3 ts3 a3 k4 n4 y4 z4 tk4 tn4 ta4 ts4 a4 (by rw [List.map_cons, Tm.c_mk]; rfl) (by rw [List.map_cons, List.map_cons, Tm.c_mk, Tm.c_mk]; rfl)) ?_
    rw [fold1_15, a_ite]
    generalize opR nn n3 n4 = rr
    rcases rr with _ | ⟨k, n⟩ <;> rfl
  by_cases h8 : kk = 8
  · subst h8
    rcases aa with _ | ⟨x, _ | ⟨y, _ | ⟨w, _ | ⟨v, r⟩⟩⟩⟩
    all_goals try (exfalso; simp [tmPt] at hlen; done)
    all_goals try (exfalso; simp [tmPt] at hlen; omega)
    obtain ⟨k3, n3, y3, z3, ⟨tk3, tn3, ta3⟩, ts3, a3⟩ := x
    obtain ⟨k4, n4, y4, z4, ⟨tk4, tn4, ta4⟩, ts4, a4⟩ := y
    obtain ⟨k5, n5, y5, z5, ⟨tk5, tn5, ta5⟩, ts5, a5⟩ := w
    refine fold_of (folded_8 nn ss zz tk tn ta ts _ k3 n3 y3 z3 tk3 tn3 ta3 ts3 a3 k4 n4 y4 z4 tk4 tn4 ta4 ts4 a4 k5 n5 y5 z5 tk5 tn5 ta5 ts5 a5 (by rw [List.map_cons, Tm.c_mk]; rfl) (by rw [List.map_cons, List.map_cons, Tm.c_mk, Tm.c_mk]; rfl) (by rw [List.map_cons, List.map_cons, List.map_cons, Tm.c_mk, Tm.c_mk, Tm.c_mk]; rfl)) ?_
    rw [fold1_8, a_ite, a_ite]; rfl
  by_cases h10 : kk = 10
  · subst h10
    rcases aa with _ | ⟨x, _ | ⟨y, r⟩⟩
    all_goals try (exfalso; simp [tmPt] at hlen; done)
    all_goals try (exfalso; simp [tmPt] at hlen; omega)
    have g1 := hm x (by simp)
    obtain ⟨k3, n3, y3, z3, ⟨tk3, tn3, ta3⟩, ts3, a3⟩ := x
    by_cases h9 : k3 = 9
    · have hl2 : (a3.length : Int) = 2 := by
        have h' := g1.h
        rw [tmH] at h'
        have h2 := (Bool.and_eq_true_iff.1 h').1
        unfold tmHd at h2
        simp only [Bool.and_eq_true, decide_eq_true_eq] at h2
        have h3 := h2.1.1.1.1.1.1.1
        rw [h9] at h3
        exact h3
      rcases a3 with _ | ⟨u, _ | ⟨v, _ | ⟨w, r⟩⟩⟩
      all_goals try (exfalso; simp at hl2; done)
      all_goals try (exfalso; simp at hl2; omega)
      have gu := Gd.mem (x := v) g1.h g1.ok (by simp)
      have cP0 := pureI_t (X := XK) v gu.ok
      obtain ⟨k4, n4, y4, z4, ⟨tk4, tn4, ta4⟩, ts4, a4⟩ := u
      obtain ⟨k5, n5, y5, z5, ⟨tk5, tn5, ta5⟩, ts5, a5⟩ := v
      have cP : Tells Try.prog E0 XK 71 [tmS k5 n5 y5 z5 tk5 tn5 ta5 ts5 a5] (bA (pur (Tm.mk k5 n5 y5 z5 (.mk tk5 tn5 ta5) ts5 a5))) := by rw [tmS_eq]; exact cP0
      refine fold_of (folded_10 nn ss zz tk tn ta ts _ k3 n3 y3 z3 tk3 tn3 ta3 ts3 _ k4 n4 y4 z4 tk4 tn4 ta4 ts4 a4 k5 n5 y5 z5 tk5 tn5 ta5 ts5 a5 (by rw [List.map_cons, Tm.c_mk]; rfl) (by rw [List.map_cons, Tm.c_mk]; rfl) (by rw [List.map_cons, List.map_cons, Tm.c_mk, Tm.c_mk]; rfl) h9 _ cP) ?_
      subst h9
      rw [fold1_10, a_ite]; rfl
    · refine fold_of (folded_10n nn ss zz tk tn ta ts _ k3 n3 y3 z3 tk3 tn3 ta3 ts3 a3 (by rw [List.map_cons, Tm.c_mk]; rfl) h9) ?_
      rw [fold1_10n _ _ _ _ _ _ _ _ _ _ _ _ h9]; rfl
  by_cases h11 : kk = 11
  · subst h11
    rcases aa with _ | ⟨x, _ | ⟨y, r⟩⟩
    all_goals try (exfalso; simp [tmPt] at hlen; done)
    all_goals try (exfalso; simp [tmPt] at hlen; omega)
    have g1 := hm x (by simp)
    obtain ⟨k3, n3, y3, z3, ⟨tk3, tn3, ta3⟩, ts3, a3⟩ := x
    by_cases h9 : k3 = 9
    · have hl2 : (a3.length : Int) = 2 := by
        have h' := g1.h
        rw [tmH] at h'
        have h2 := (Bool.and_eq_true_iff.1 h').1
        unfold tmHd at h2
        simp only [Bool.and_eq_true, decide_eq_true_eq] at h2
        have h3 := h2.1.1.1.1.1.1.1
        rw [h9] at h3
        exact h3
      rcases a3 with _ | ⟨u, _ | ⟨v, _ | ⟨w, r⟩⟩⟩
      all_goals try (exfalso; simp at hl2; done)
      all_goals try (exfalso; simp at hl2; omega)
      have gu := Gd.mem (x := u) g1.h g1.ok (by simp)
      have cP0 := pureI_t (X := XK) u gu.ok
      obtain ⟨k4, n4, y4, z4, ⟨tk4, tn4, ta4⟩, ts4, a4⟩ := u
      obtain ⟨k5, n5, y5, z5, ⟨tk5, tn5, ta5⟩, ts5, a5⟩ := v
      have cP : Tells Try.prog E0 XK 71 [tmS k4 n4 y4 z4 tk4 tn4 ta4 ts4 a4] (bA (pur (Tm.mk k4 n4 y4 z4 (.mk tk4 tn4 ta4) ts4 a4))) := by rw [tmS_eq]; exact cP0
      refine fold_of (folded_11 nn ss zz tk tn ta ts _ k3 n3 y3 z3 tk3 tn3 ta3 ts3 _ k4 n4 y4 z4 tk4 tn4 ta4 ts4 a4 k5 n5 y5 z5 tk5 tn5 ta5 ts5 a5 (by rw [List.map_cons, Tm.c_mk]; rfl) (by rw [List.map_cons, Tm.c_mk]; rfl) (by rw [List.map_cons, List.map_cons, Tm.c_mk, Tm.c_mk]; rfl) h9 _ cP) ?_
      subst h9
      rw [fold1_11, a_ite]; rfl
    · refine fold_of (folded_11n nn ss zz tk tn ta ts _ k3 n3 y3 z3 tk3 tn3 ta3 ts3 a3 (by rw [List.map_cons, Tm.c_mk]; rfl) h9) ?_
      rw [fold1_11n _ _ _ _ _ _ _ _ _ _ _ _ h9]; rfl
  by_cases h14 : kk = 14
  · subst h14
    rcases aa with _ | ⟨x, _ | ⟨y, _ | ⟨w, _ | ⟨v, r⟩⟩⟩⟩
    all_goals try (exfalso; simp [tmPt] at hlen; done)
    all_goals try (exfalso; simp [tmPt] at hlen; omega)
    obtain ⟨k3, n3, y3, z3, ⟨tk3, tn3, ta3⟩, ts3, a3⟩ := x
    obtain ⟨k4, n4, y4, z4, ⟨tk4, tn4, ta4⟩, ts4, a4⟩ := y
    refine fold_of (folded_14 nn ss zz tk tn ta ts _ k3 n3 y3 z3 tk3 tn3 ta3 ts3 a3 k4 n4 y4 z4 tk4 tn4 ta4 ts4 a4 (by rw [List.map_cons, Tm.c_mk]; rfl) (by rw [List.map_cons, List.map_cons, Tm.c_mk, Tm.c_mk]; rfl)) ?_
    rw [fold1_14, a_ite]; rfl
  by_cases h6 : kk = 6
  · subst h6
    rcases aa with _ | ⟨x, _ | ⟨y, _ | ⟨w, r⟩⟩⟩
    all_goals try (exfalso; simp [tmPt] at hlen; done)
    all_goals try (exfalso; simp [tmPt] at hlen; omega)
    have g1 := hm x (by simp)
    have g2 := hm y (by simp)
    have e1 := g2.n
    have e2 := g2.d
    have hfl := frT_len y [] []
    have cF0 := freeIn_t y [] [] g2.ok g2.h (by simp; omega) (by simp; omega)
    have cH : Tells Try.prog E0 XK 61 [.t (.sl false (shrR ((frT y [] []).map sR))), sA ss] (bA (has (frT y [] []) ss)) := by rw [shr_S]; exact ConS_t _ _ (by simp at hfl; omega)
    have cP0 := pureI_t (X := XK) x g1.ok
    obtain ⟨k3, n3, y3, z3, ⟨tk3, tn3, ta3⟩, ts3, a3⟩ := x
    obtain ⟨k4, n4, y4, z4, ⟨tk4, tn4, ta4⟩, ts4, a4⟩ := y
    have cF : Tells Try.prog E0 XK 65 [tmS k4 n4 y4 z4 tk4 tn4 ta4 ts4 a4, .t (.sl false []), .t (.sl true [])] (.t (.sl true ((frT (Tm.mk k4 n4 y4 z4 (.mk tk4 tn4 ta4) ts4 a4) [] []).map sR))) := by rw [tmS_eq]; exact cF0
    have cP : Tells Try.prog E0 XK 71 [tmS k3 n3 y3 z3 tk3 tn3 ta3 ts3 a3] (bA (pur (Tm.mk k3 n3 y3 z3 (.mk tk3 tn3 ta3) ts3 a3))) := by rw [tmS_eq]; exact cP0
    refine fold_of (folded_6 nn ss zz tk tn ta ts _ k3 n3 y3 z3 tk3 tn3 ta3 ts3 a3 k4 n4 y4 z4 tk4 tn4 ta4 ts4 a4 (by rw [List.map_cons, Tm.c_mk]; rfl) (by rw [List.map_cons, List.map_cons, Tm.c_mk, Tm.c_mk]; rfl) _ cP _ cF _ cH) ?_
    rw [fold1_6, a_ite]; rfl
  by_cases h17 : kk = 17
  · subst h17
    rcases aa with _ | ⟨x, _ | ⟨y, _ | ⟨w, r⟩⟩⟩
    all_goals try (exfalso; simp [tmPt] at hlen; done)
    all_goals try (exfalso; simp [tmPt] at hlen; omega)
    have cP0 := pureI_t (X := XK) x (hm x (by simp)).ok
    obtain ⟨k3, n3, y3, z3, ⟨tk3, tn3, ta3⟩, ts3, a3⟩ := x
    have cP : Tells Try.prog E0 XK 71 [tmS k3 n3 y3 z3 tk3 tn3 ta3 ts3 a3] (bA (pur (Tm.mk k3 n3 y3 z3 (.mk tk3 tn3 ta3) ts3 a3))) := by rw [tmS_eq]; exact cP0
    refine fold_of (folded_17 nn ss zz tk tn ta ts _ k3 n3 y3 z3 tk3 tn3 ta3 ts3 a3 (by rw [List.map_cons, Tm.c_mk]; rfl) _ cP) ?_
    rw [fold1_17, a_ite]; rfl
  refine fold_of (folded_o kk nn ss zz tk tn ta ts _ h15 h8 h10 h11 h14 h6 h17) ?_
  rw [fold1_o kk nn ss zz _ _ _ h15 h8 h10 h11 h14 h6 h17]
  rfl
def k_fold : List (Nat × List Nat) := [(0, [1, 2]), (1, [1, 2, 6, 7, 8]), (2, [1, 2, 6, 7, 8, 9]), (3, [1, 2, 3, 4, 6, 7, 8]), (4, [1, 2, 6, 7, 8]), (5, [1, 2, 6, 7, 8]), (6, [2])]
theorem fold_t : ∀ (t : Tm), tmH t = true → t.ok → tmD t ≤ 24 → tmN t ≤ 150 → Tells Try.prog E0 XK 28 [t.a true] ((foldT t).a true)
  | .mk kk nn ss zz (.mk tk tn ta) ts aa, hH, hok, hd, hn => by
    have hH' := hH
    have hok' := hok
    rw [tmH, Bool.and_eq_true_iff] at hH'
    rw [Tm.ok] at hok'
    obtain ⟨g1, g2, g3, g4, g5, g6, g7⟩ := foldL_gd aa hH'.2 hok'.2.2.2.2.2
    have hmm := fun x hx => Gd.mem (x := x) hH hok hx
    have hd' := hd
    have hn' := hn
    rw [tmD] at hd'
    rw [tmN] at hn'
    have cf := folded_t kk nn ss zz tk tn ta ts (foldL aa) (by rw [tmH, Bool.and_eq_true_iff]; exact ⟨tmHd_like g3 g7 hH'.1, g1⟩) (by rw [Tm.ok]; exact ⟨hok'.1, hok'.2.1, hok'.2.2.1, hok'.2.2.2.1, by rw [g3]; exact hok'.2.2.2.2.1, g2⟩) (by rw [tmD]; omega) (by rw [tmN]; omega)
    have hfe : foldT (.mk kk nn ss zz (.mk tk tn ta) ts aa) = fold1 kk nn ss zz (.mk tk tn ta) ts (foldL aa) := by rw [foldT]
    rw [hfe]
    have hl5 := hok'.2.2.2.2.1
    clear g1 g2 g4 g5 g6 g7 hH' hok' hfe
    refine Tells.by Try.func28 (by simp [Try.f28]) (Body.i rfl rfl rfl (fun _ => rfl) fun f => ?_)
    repeat' (first
       | refine wp_seq_i ?_ | refine wp_region_t k_fold rfl ?_ | refine Run.done rfl ?_ | refine then_n ?_ | refine then_r ?_ | refine then_e ?_ | refine Run.go1 rfl ?_ | refine wp_skip_i ?_ | refine wp_ret_i ?_
       | refine wp_exit_i ?_ | refine wp_block_i ?_ | refine block_n ?_ | refine block_r ?_ | refine block_e ?_ | refine block_o rfl ?_ | refine wp_cond_t rfl ?_ | refine wp_cond_f rfl ?_ | refine Run.one rfl rfl rfl ?_
       | (refine wp_cond_k rfl rfl rfl ?_ ?_ <;> intro _) | (refine wp_cond_i rfl ?_ ?_ <;> intro _))
    refine wp_loop_k (α := Nat × List Tm) [.keep [1, 2, 6, 7, 8] [1, 2, 106000, 107000, 108000]] (fun p => [(8, iA p.1)]) (fun _ => []) (fun p => [(108000, ⟨0, some (f 108000)⟩, (p.2 ++ aa.drop p.1).map (Tm.c true))]) (fun p => p.1 ≤ aa.length ∧ p.2 = foldL (aa.take p.1)) (fun p => aa.length - p.1) (0, []) rfl (fun _ => rfl) rfl ⟨Nat.zero_le _, by rw [List.take_zero, foldL]⟩ ?_
    rintro ⟨j, m⟩ ⟨hj, hm⟩
    simp only at hj hm
    have hml : m.length = j := by rw [hm, foldL_len, List.length_take]; omega
    by_cases hlt : j < aa.length
    · obtain ⟨t, ht⟩ : ∃ t, aa[j]? = some t := ⟨_, List.getElem?_eq_getElem hlt⟩
      have hmem := List.mem_of_getElem? ht
      have hjd : decide ((j : Int) < ((aa.map (Tm.c true)).length : Int)) = true := by rw [List.length_map]; simpa using hlt
      have hgt := hmm t hmem
      have hT := fold_t t hgt.h hgt.ok (Nat.le_trans hgt.d hd) (Nat.le_trans hgt.n hn)
      have htk : foldL (aa.take (j + 1)) = m ++ [foldT t] := by rw [List.take_succ_eq_append_getElem hlt, (List.getElem?_eq_some_iff.1 ht).2, foldL_snoc, hm]
      have hx := row_at m aa j t hml ht
      have hset := fun t' => row_set m aa j t t' hml ht
      generalize foldT t = r at hT htk
      obtain ⟨k2, n2, y2, z2, ⟨tk2, tn2, ta2⟩, ts2, a2⟩ := t
      obtain ⟨k3, n3, y3, z3, ⟨tk3, tn3, ta3⟩, ts3, a3⟩ := r
      rw [Tm.c_mk] at hx
      have hjm : j < ((m ++ aa.drop j).map (Tm.c true)).length := (List.getElem?_eq_some_iff.1 hx).1
      clear cf
      repeat' (first
        
         | refine Run.adjwOn 12 (.hole 108000 j 6 900001 _ _ _ _ _ _ rfl hx rfl (fun _ => rfl) fun u1 => .hole 108000 j 7 900002 _ _ _ _ _ _ rfl (set_hit (by simpa using hjm)) rfl (fun _ => rfl) fun u2 => .hole 108000 j 8 900003 _ _ _ _ _ _ rfl (set_hit (by simpa using hjm)) rfl (fun _ => rfl) fun u3 => .done _ (Run.ldr rfl rfl rfl (set_hit (by simpa using hjm)) rfl rfl (Run.adjw (.tellC 12 6 900001 _ _ _ _ _ _ _ rfl rfl rfl rfl rfl rfl (.tellC 12 7 900002 _ _ _ _ _ _ _ rfl rfl rfl rfl rfl rfl (.tellC 12 8 900003 _ _ _ _ _ _ _ rfl rfl rfl rfl rfl rfl (.done _ ?_)))))))
         | refine wp_seq_i ?_ | refine wp_region_t k_fold rfl ?_ | refine Run.done rfl ?_ | refine then_n ?_ | refine then_r ?_ | refine then_e ?_ | refine Run.go1 rfl ?_ | refine wp_skip_i ?_ | refine wp_ret_i ?_
         | refine wp_exit_i ?_ | refine wp_block_i ?_ | refine block_n ?_ | refine block_r ?_ | refine block_e ?_ | refine block_o rfl ?_ | refine wp_cond_t rfl ?_ | refine wp_cond_f rfl ?_ | refine RunQ.go1 rfl ?_
         | refine RunQ.done rfl ?_ | refine wp_region_l k_fold [0, 1, 2, 3] [4] [0, 1, 0, 0, 8, 31, 63] rfl (by decide +kernel) (by decide +kernel) rfl rfl ?_ | refine RunL.call rfl rfl rfl rfl (hT) (.inl rfl) rfl rfl ?_
         | refine RunL.one rfl rfl rfl rfl rfl ?_ | refine RunL.done ?_ | refine Run.ix rfl rfl rfl rfl rfl rfl rfl hx rfl rfl rfl ?_ | refine Run.ix rfl rfl rfl rfl rfl rfl rfl (set_hit (by simpa using hjm)) rfl rfl rfl ?_
         | refine Run.str rfl rfl rfl rfl rfl rfl (set_hit (by simpa using hjm)) rfl rfl ?_ | refine Run.one rfl rfl rfl ?_ | (refine wp_cond_k rfl rfl rfl ?_ ?_ <;> intro _) | (refine wp_cond_i rfl ?_ ?_ <;> intro _))
      all_goals first
      | (exfalso; rename_i h; rw [hjd] at h; cases h; done)
      | (refine back_i [.keep [1, 2, 6, 7, 8] [1, 2, 106000, 107000, 108000]] (j + 1, m ++ [(Tm.mk k3 n3 y3 z3 (.mk tk3 tn3 ta3) ts3 a3)]) rfl ?_ ⟨by simp; omega, htk.symm⟩ (by simp; omega)
         simp only [w_succ hlt (show aa.length ≤ 9223372036854775807 by omega), List.set_set, ← hset, Tm.c_mk]; first | done | rfl)
      | trace_state
    · have hjl : j = aa.length := by omega
      subst hjl
      have hjd : decide ((aa.length : Int) < ((aa.map (Tm.c true)).length : Int)) = false := by rw [List.length_map]; simp
      rw [List.take_length] at hm
      have hrows : (m ++ aa.drop aa.length).map (Tm.c true) = (foldL aa).map (Tm.c true) := by rw [hm, List.drop_length, List.append_nil]
      simp only [hrows]
      generalize fold1 kk nn ss zz (.mk tk tn ta) ts (foldL aa) = r at cf ⊢
      obtain ⟨k3, n3, y3, z3, ⟨tk3, tn3, ta3⟩, ts3, a3⟩ := r
      repeat' (first
         | refine wp_seq_i ?_ | refine wp_region_t k_fold rfl ?_ | refine Run.done rfl ?_ | refine then_n ?_ | refine then_r ?_ | refine then_e ?_ | refine Run.go1 rfl ?_ | refine wp_skip_i ?_ | refine wp_ret_i ?_
         | refine wp_exit_i ?_ | refine wp_block_i ?_ | refine block_n ?_ | refine block_r ?_ | refine block_e ?_ | refine block_o rfl ?_ | refine wp_cond_t rfl ?_ | refine wp_cond_f rfl ?_
         | refine Run.call rfl rfl rfl (cf) rfl rfl ?_ | refine Run.one rfl rfl rfl ?_ | (refine wp_cond_k rfl rfl rfl ?_ ?_ <;> intro _) | (refine wp_cond_i rfl ?_ ?_ <;> intro _))
      all_goals first
      | (exfalso; rename_i h; rw [hjd] at h; cases h; done)
      | (exact ret_m (E := E0) [] rfl rfl rfl)
      | trace_state
  termination_by t => SizeOf.sizeOf t
  decreasing_by
    all_goals (have hsz := List.sizeOf_lt_of_mem (List.mem_of_getElem? ht); simp; omega)
def k_FoldI : List (Nat × List Nat) := [(0, [1, 2]), (1, [1, 2, 5]), (2, [2]), (3, [2])]
theorem FoldI_t (t : Tm) (hok : t.ok) (hc : cTm t ≤ 1000000000) : Tells Try.prog E0 XK 9 [t.a false] ((FoldB t).a true) := by
  have c1 := TermOkI_t (X := XK) t hok hc
  have c2 := cloneTerm_t (X := XK) t hok
  unfold FoldB
  by_cases hB : tmB t = true
  · obtain ⟨h1, h2, h3⟩ := tmB_H hB
    have c3 := fold_t t h1 hok h2 h3
    rw [if_pos hB]
    rw [hB] at c1
    generalize foldT t = r at c3 ⊢
    obtain ⟨kk, nn, ss, zz, ⟨tk, tn, ta⟩, ts, aa⟩ := t
    obtain ⟨k3, n3, y3, z3, ⟨tk3, tn3, ta3⟩, ts3, a3⟩ := r
    refine Tells.by Try.func9 (by simp [Try.f9]) (Body.i rfl rfl rfl (fun _ => rfl) fun f => ?_)
    repeat' (first
       | refine wp_seq_i ?_ | refine wp_region_t k_FoldI rfl ?_ | refine Run.done rfl ?_ | refine then_n ?_ | refine then_r ?_ | refine then_e ?_ | refine Run.go1 rfl ?_ | refine wp_skip_i ?_ | refine wp_ret_i ?_
       | refine wp_exit_i ?_ | refine wp_block_i ?_ | refine block_n ?_ | refine block_r ?_ | refine block_e ?_ | refine block_o rfl ?_ | refine wp_cond_t rfl ?_ | refine wp_cond_f rfl ?_
       | refine Run.call rfl rfl rfl (c1) rfl rfl ?_ | refine Run.call rfl rfl rfl (c2) rfl rfl ?_ | refine Run.call rfl rfl rfl (c3) rfl rfl ?_ | refine Run.one rfl rfl rfl ?_ | (refine wp_cond_k rfl rfl rfl ?_ ?_ <;> intro _)
       | (refine wp_cond_i rfl ?_ ?_ <;> intro _))
    all_goals exact ret_m [] rfl rfl rfl
  · rw [if_neg hB]
    rw [Bool.eq_false_iff.2 hB] at c1
    obtain ⟨kk, nn, ss, zz, ⟨tk, tn, ta⟩, ts, aa⟩ := t
    refine Tells.by Try.func9 (by simp [Try.f9]) (Body.i rfl rfl rfl (fun _ => rfl) fun f => ?_)
    repeat' (first
       | refine wp_seq_i ?_ | refine wp_region_t k_FoldI rfl ?_ | refine Run.done rfl ?_ | refine then_n ?_ | refine then_r ?_ | refine then_e ?_ | refine Run.go1 rfl ?_ | refine wp_skip_i ?_ | refine wp_ret_i ?_
       | refine wp_exit_i ?_ | refine wp_block_i ?_ | refine block_n ?_ | refine block_r ?_ | refine block_e ?_ | refine block_o rfl ?_ | refine wp_cond_t rfl ?_ | refine wp_cond_f rfl ?_
       | refine Run.call rfl rfl rfl (c1) rfl rfl ?_ | refine Run.call rfl rfl rfl (c2) rfl rfl ?_ | refine Run.one rfl rfl rfl ?_ | (refine wp_cond_k rfl rfl rfl ?_ ?_ <;> intro _) | (refine wp_cond_i rfl ?_ ?_ <;> intro _))
    all_goals exact ret_m [] rfl rfl rfl
def k_FoldAllI : List (Nat × List Nat) := [(0, [1, 2]), (1, [2, 3]), (2, [2, 3, 7]), (3, [2, 3, 7, 8]), (4, [2, 3, 4, 7]), (5, [2, 3, 4, 7, 13]), (6, [2, 3, 7]), (7, [2, 3, 7]), (8, [2])]
theorem FoldAllI_t (t : Tm) (hok : t.ok) (hc : cTm t ≤ 1000000000) : Tells Try.prog E0 XK 14 [t.a false] ((FoldAllB t).a true) := by
  have c1 := cloneTerm_t (X := XK) t hok
  rw [FoldAll_gN hok]
  generalize hres : gN 150 t = res
  obtain ⟨kk, nn, ss, zz, ⟨tk, tn, ta⟩, ts, aa⟩ := t
  refine Tells.by Try.func14 (by simp [Try.f14]) (Body.i rfl rfl rfl (fun _ => rfl) fun f => ?_)
  repeat' (first
     | refine wp_seq_i ?_ | refine wp_region_t k_FoldAllI rfl ?_ | refine Run.done rfl ?_ | refine then_n ?_ | refine then_r ?_ | refine then_e ?_ | refine Run.go1 rfl ?_ | refine wp_skip_i ?_ | refine wp_ret_i ?_
     | refine wp_exit_i ?_ | refine wp_block_i ?_ | refine block_n ?_ | refine block_r ?_ | refine block_e ?_ | refine block_o rfl ?_ | refine wp_cond_t rfl ?_ | refine wp_cond_f rfl ?_
     | refine Run.call rfl rfl rfl (c1) rfl rfl ?_ | refine Run.one rfl rfl rfl ?_ | (refine wp_cond_k rfl rfl rfl ?_ ?_ <;> intro _) | (refine wp_cond_i rfl ?_ ?_ <;> intro _))
  refine wp_loop_k (α := Nat × Tm) [.ren 6006 71, .ren 7006 72, .ren 8006 73, .keep [2, 3, 7] [2, 3, 71, 72, 73]] (fun p => [(7, iA p.1)]) (fun p => [(3, tmCells 71 72 73 p.2)]) (fun p => [(71, 0, tmTa p.2), (72, 0, tmTs p.2), (73, 0, tmAa p.2)]) (fun p => (p.1 ≤ 150 ∧ p.2.ok ∧ cTm p.2 ≤ 1000000000) ∧ gN (150 - p.1) p.2 = res) (fun p => 150 - p.1) (0, .mk kk nn ss zz (.mk tk tn ta) ts aa) rfl (fun _ => rfl) rfl ⟨⟨Nat.zero_le _, hok, hc⟩, hres⟩ ?_
  rintro ⟨j, cur⟩ ⟨⟨hj, hko, hkc⟩, hI⟩
  simp only at hj hko hkc hI
  obtain ⟨hno, hnc⟩ := FoldB_ok hko
  by_cases hlt : j < 150
  · have hjd : decide ((j : Int) < 150) = true := decide_eq_true (by omega)
    have e : 150 - j = (149 - j) + 1 := by omega
    rw [e, gN] at hI
    have cF0 := FoldI_t cur hko hkc
    have cS0 := SameTermI_t (X := XK) (FoldB cur) cur hno
    generalize FoldB cur = nx at cF0 cS0 hI hno hnc
    obtain ⟨k4, n4, y4, z4, ⟨tk4, tn4, ta4⟩, ts4, a4⟩ := cur
    obtain ⟨k3, n3, y3, z3, ⟨tk3, tn3, ta3⟩, ts3, a3⟩ := nx
    have cF : Tells Try.prog E0 XK 9 [tmS k4 n4 y4 z4 tk4 tn4 ta4 ts4 a4] (tmA true k3 n3 y3 z3 tk3 tn3 ta3 ts3 a3) := by rw [tmS_eq]; exact cF0
    have cS : Tells Try.prog E0 XK 39 [tmS k3 n3 y3 z3 tk3 tn3 ta3 ts3 a3, tmS k4 n4 y4 z4 tk4 tn4 ta4 ts4 a4] (bA (decide ((Tm.mk k3 n3 y3 z3 (.mk tk3 tn3 ta3) ts3 a3) = (Tm.mk k4 n4 y4 z4 (.mk tk4 tn4 ta4) ts4 a4)))) := by rw [tmS_eq, tmS_eq]; exact cS0
    by_cases hsame : (Tm.mk k3 n3 y3 z3 (.mk tk3 tn3 ta3) ts3 a3) = (Tm.mk k4 n4 y4 z4 (.mk tk4 tn4 ta4) ts4 a4)
    · rw [if_pos hsame] at hI
      rw [decide_eq_true hsame] at cS
      subst hI
      repeat' (first
         | refine wp_seq_i ?_ | refine wp_region_t k_FoldAllI rfl ?_ | refine Run.done rfl ?_ | refine then_n ?_ | refine then_r ?_ | refine then_e ?_ | refine Run.go1 rfl ?_ | refine wp_skip_i ?_ | refine wp_ret_i ?_
         | refine wp_exit_i ?_ | refine wp_block_i ?_ | refine block_n ?_ | refine block_r ?_ | refine block_e ?_ | refine block_o rfl ?_ | refine wp_cond_t rfl ?_ | refine wp_cond_f rfl ?_
         | refine Run.callB rfl rfl rfl (cF) (by simp [tmA, AV.own, T.own, ownCL, ownC, own_Ty, own_Tm]) rfl ?_ | refine Run.callB rfl rfl rfl (cS) (by simp [AV.own, T.own]) rfl ?_ | refine Run.one rfl rfl rfl ?_
         | (refine wp_cond_k rfl rfl rfl ?_ ?_ <;> intro _) | (refine wp_cond_i rfl ?_ ?_ <;> intro _))
      all_goals first
      | (exact ret_m (E := E0) [] rfl rfl rfl)
      | (exfalso; rename_i h; simp only at h; rw [hjd] at h; cases h; done)
      | trace_state
    · rw [if_neg hsame] at hI
      rw [decide_eq_false hsame] at cS
      repeat' (first
         | refine wp_seq_i ?_ | refine wp_region_t k_FoldAllI rfl ?_ | refine Run.done rfl ?_ | refine then_n ?_ | refine then_r ?_ | refine then_e ?_ | refine Run.go1 rfl ?_ | refine wp_skip_i ?_ | refine wp_ret_i ?_
         | refine wp_exit_i ?_ | refine wp_block_i ?_ | refine block_n ?_ | refine block_r ?_ | refine block_e ?_ | refine block_o rfl ?_ | refine wp_cond_t rfl ?_ | refine wp_cond_f rfl ?_
         | refine Run.callB rfl rfl rfl (cF) (by simp [tmA, AV.own, T.own, ownCL, ownC, own_Ty, own_Tm]) rfl ?_ | refine Run.callB rfl rfl rfl (cS) (by simp [AV.own, T.own]) rfl ?_ | refine Run.one rfl rfl rfl ?_
         | (refine wp_cond_k rfl rfl rfl ?_ ?_ <;> intro _) | (refine wp_cond_i rfl ?_ ?_ <;> intro _))
      all_goals first
      | (exfalso; rename_i h; simp only at h; rw [hjd] at h; cases h; done)
      | (refine back_i [.ren 6010 71, .ren 7010 72, .ren 8010 73, .keep [2, 3, 7] [2, 3, 71, 72, 73]] (j + 1, (Tm.mk k3 n3 y3 z3 (.mk tk3 tn3 ta3) ts3 a3)) rfl ?_ ⟨⟨by simp; omega, hno, Nat.le_trans hnc hkc⟩, by simp only; rw [show 150 - (j + 1) = 149 - j by omega]; exact hI⟩ (by simp; omega)
         simp only [w_succ hlt (show 150 ≤ 9223372036854775807 by omega)]; first | done | rfl)
      | trace_state
  · have hj2 : j = 150 := by omega
    subst hj2
    rw [Nat.sub_self, gN] at hI
    subst hI
    obtain ⟨k4, n4, y4, z4, ⟨tk4, tn4, ta4⟩, ts4, a4⟩ := cur
    repeat' (first
       | refine wp_seq_i ?_ | refine wp_region_t k_FoldAllI rfl ?_ | refine Run.done rfl ?_ | refine then_n ?_ | refine then_r ?_ | refine then_e ?_ | refine Run.go1 rfl ?_ | refine wp_skip_i ?_ | refine wp_ret_i ?_
       | refine wp_exit_i ?_ | refine wp_block_i ?_ | refine block_n ?_ | refine block_r ?_ | refine block_e ?_ | refine block_o rfl ?_ | refine wp_cond_t rfl ?_ | refine wp_cond_f rfl ?_ | refine Run.one rfl rfl rfl ?_
       | (refine wp_cond_k rfl rfl rfl ?_ ?_ <;> intro _) | (refine wp_cond_i rfl ?_ ?_ <;> intro _))
    all_goals first
    | (exact ret_m (E := E0) [] rfl rfl rfl)
    | (exfalso; rename_i h; simp at h; done)
    | trace_state
end Go.Proofs

