import Derived.Test.YtamcbocdcnndfaaPF4
import Derived.WalkKit
import Derived.Maps.AppendAt
import Derived.Lib.AppendZeros
import Derived.Test.YtamcbocdcnndfaaRows
import Derived.ProofKit
import Derived.OpenShut
import Derived.ShutString
import Derived.ChangeOld
import Derived.Below
import Derived.SizedLaws
set_option linter.unusedVariables false
set_option linter.unusedSimpArgs false
set_option maxHeartbeats 4000000
namespace Go.Proofs
open Go Go.Ev
set_option maxRecDepth 100000
variable {X : Rel3}
abbrev sR (s : ByteArray) : List T := [sT s]
theorem shr_S (l : List ByteArray) : shrR (l.map sR) = l.map sR := by
  induction l with
  | nil => rfl
  | cons x r ih => rw [List.map_cons, shrR, ih]; rfl
theorem own_S (l : List ByteArray) : ownR (l.map sR) := by
  induction l with
  | nil => trivial
  | cons x r ih => exact ⟨⟨trivial, trivial⟩, ih⟩
/-- is a name among others? -/
def has (l : List ByteArray) (s : ByteArray) : Bool := l.any fun x => decide (x = s)
def idxS (s : ByteArray) : List ByteArray → Nat → Int
  | [], _ => -1
  | t :: r, k => if t = s then k else idxS s r (k + 1)
theorem idxS_has (s : ByteArray) : ∀ (l : List ByteArray) (k : Nat), decide (idxS s l k ≥ 0) = has l s
  | [], k => by rw [idxS]; rfl
  | t :: r, k => by
    rw [idxS, has, List.any_cons]
    by_cases h : t = s
    · rw [if_pos h, decide_eq_true h, Bool.true_or]; exact decide_eq_true (by omega)
    · rw [if_neg h, decide_eq_false h, Bool.false_or]; exact idxS_has s r (k + 1)
def k_l2Has : List (Nat × List Nat) := [(0, [0, 1]), (1, [0, 1, 5]), (2, [0, 1, 5, 9]), (3, [0, 1, 5]), (4, [0, 1, 5, 17]), (5, [4]), (6, [4])]
theorem l2Has_t (l : List ByteArray) (s : ByteArray) (hl : l.length ≤ 1000000000) : Tells Try.prog E0 X 49 [.t (.sl false (l.map sR)), sA s] (bA (has l s)) := by
  refine Tells.by Try.func49 (by simp [Try.f49]) (Body.i rfl rfl rfl (fun _ => rfl) fun f => ?_)
  repeat' (first
     | refine wp_seq_i ?_ | refine wp_region_t k_l2Has rfl ?_ | refine Run.done rfl ?_ | refine then_n ?_ | refine then_r ?_ | refine then_e ?_ | refine Run.go1 rfl ?_ | refine wp_skip_i ?_ | refine wp_ret_i ?_
     | refine wp_exit_i ?_ | refine wp_block_i ?_ | refine block_n ?_ | refine block_r ?_ | refine block_e ?_ | refine block_o rfl ?_ | refine wp_cond_t rfl ?_ | refine wp_cond_f rfl ?_
     | (refine wp_cond_k rfl rfl rfl ?_ ?_ <;> intro _) | (refine wp_cond_i rfl ?_ ?_ <;> intro _))
  refine wp_loop_k (α := Nat) [.keep [0, 1, 5] []] (fun k => [(5, iA k)]) (fun _ => []) (fun _ => []) (fun k => k ≤ l.length ∧ has (l.drop k) s = has l s) (fun k => l.length - k) 0 rfl (fun _ => rfl) rfl ⟨by simp, rfl⟩ ?_
  rintro k ⟨hk, hI⟩
  by_cases hlt : k < l.length
  · obtain ⟨t, ht⟩ : ∃ t, l[k]? = some t := ⟨_, List.getElem?_eq_getElem hlt⟩
    rw [List.drop_eq_getElem_cons hlt, (List.getElem?_eq_some_iff.1 ht).2, has, List.any_cons, ← str_beq] at hI
    have hx : (l.map sR)[k]? = some [sT t] := by rw [List.getElem?_map, ht]; rfl
    repeat' (first
       | refine wp_seq_i ?_ | refine wp_region_t k_l2Has rfl ?_ | refine Run.done rfl ?_ | refine then_n ?_ | refine then_r ?_ | refine then_e ?_ | refine Run.go1 rfl ?_ | refine wp_skip_i ?_ | refine wp_ret_i ?_
       | refine wp_exit_i ?_ | refine wp_block_i ?_ | refine block_n ?_ | refine block_r ?_ | refine block_e ?_ | refine block_o rfl ?_ | refine wp_cond_t rfl ?_ | refine wp_cond_f rfl ?_
       | refine Run.ix rfl rfl rfl rfl rfl rfl rfl hx rfl rfl rfl ?_ | (refine wp_cond_k rfl rfl rfl ?_ ?_ <;> intro _) | (refine wp_cond_i rfl ?_ ?_ <;> intro _))
    all_goals first
    | (exfalso; rename_i h; simp [hlt] at h; done)
    | (rename_i h
       refine ret_m [] rfl rfl ?_
       rw [← hI, h, Bool.true_or]; done)
    | (rename_i h
       refine back_i [.keep [0, 1, 5] []] (k + 1) rfl ?_ ⟨by omega, ?_⟩ (by omega)
       · simp only [w_succ hlt (show l.length ≤ 9223372036854775807 by omega)]
       · rw [← hI, h, Bool.false_or]; rfl)
    | trace_state
  · have hk : k = l.length := by omega
    subst hk
    simp [has] at hI
    repeat' (first
       | refine wp_seq_i ?_ | refine wp_region_t k_l2Has rfl ?_ | refine Run.done rfl ?_ | refine then_n ?_ | refine then_r ?_ | refine then_e ?_ | refine Run.go1 rfl ?_ | refine wp_skip_i ?_ | refine wp_ret_i ?_
       | refine wp_exit_i ?_ | refine wp_block_i ?_ | refine block_n ?_ | refine block_r ?_ | refine block_e ?_ | refine block_o rfl ?_ | refine wp_cond_t rfl ?_ | refine wp_cond_f rfl ?_
       | (refine wp_cond_k rfl rfl rfl ?_ ?_ <;> intro _) | (refine wp_cond_i rfl ?_ ?_ <;> intro _))
    all_goals first
    | (exfalso; rename_i h; simp at h; done)
    | (refine ret_m [] rfl rfl ?_
       have : has l s = false := by unfold has; simpa using hI
       rw [this]; done)
    | trace_state
def k_IdxS : List (Nat × List Nat) := [(0, [0, 1]), (1, [0, 1, 7, 8]), (2, [0, 1, 7, 8, 9]), (3, [0, 1, 5, 7, 8]), (4, [0, 1, 5, 7, 8, 16]), (5, [4]), (6, [0, 1, 7, 8]), (7, [4])]
theorem IdxS_t (l : List ByteArray) (s : ByteArray) (hl : l.length ≤ 1000000000) : Tells Try.prog E0 X 72 [.t (.sl false (l.map sR)), sA s] (iA (idxS s l 0)) := by
  refine Tells.by Try.func72 (by simp [Try.f72]) (Body.i rfl rfl rfl (fun _ => rfl) fun f => ?_)
  repeat' (first
     | refine wp_seq_i ?_ | refine wp_region_t k_IdxS rfl ?_ | refine Run.done rfl ?_ | refine then_n ?_ | refine then_r ?_ | refine then_e ?_ | refine Run.go1 rfl ?_ | refine wp_skip_i ?_ | refine wp_ret_i ?_
     | refine wp_exit_i ?_ | refine wp_block_i ?_ | refine block_n ?_ | refine block_r ?_ | refine block_e ?_ | refine block_o rfl ?_ | refine wp_cond_t rfl ?_ | refine wp_cond_f rfl ?_
     | (refine wp_cond_k rfl rfl rfl ?_ ?_ <;> intro _) | (refine wp_cond_i rfl ?_ ?_ <;> intro _))
  refine wp_loop_k (α := Nat) [.keep [0, 1, 7, 8] []] (fun k => [(8, iA k)]) (fun _ => []) (fun _ => []) (fun k => k ≤ l.length ∧ idxS s (l.drop k) k = idxS s l 0) (fun k => l.length - k) 0 rfl (fun _ => rfl) rfl ⟨by simp, rfl⟩ ?_
  rintro k ⟨hk, hI⟩
  by_cases hlt : k < l.length
  · obtain ⟨t, ht⟩ : ∃ t, l[k]? = some t := ⟨_, List.getElem?_eq_getElem hlt⟩
    rw [List.drop_eq_getElem_cons hlt, (List.getElem?_eq_some_iff.1 ht).2, idxS] at hI
    have hse := str_beq s t
    have hx : (l.map sR)[k]? = some [sT t] := by rw [List.getElem?_map, ht]; rfl
    repeat' (first
       | refine wp_seq_i ?_ | refine wp_region_t k_IdxS rfl ?_ | refine Run.done rfl ?_ | refine then_n ?_ | refine then_r ?_ | refine then_e ?_ | refine Run.go1 rfl ?_ | refine wp_skip_i ?_ | refine wp_ret_i ?_
       | refine wp_exit_i ?_ | refine wp_block_i ?_ | refine block_n ?_ | refine block_r ?_ | refine block_e ?_ | refine block_o rfl ?_ | refine wp_cond_t rfl ?_ | refine wp_cond_f rfl ?_
       | refine Run.ix rfl rfl rfl rfl rfl rfl rfl hx rfl rfl rfl ?_ | (refine wp_cond_k rfl rfl rfl ?_ ?_ <;> intro _) | (refine wp_cond_i rfl ?_ ?_ <;> intro _))
    all_goals first
    | (exfalso; rename_i h; simp [hlt] at h; done)
    | (rename_i h
       refine ret_m [] rfl rfl ?_
       rw [hse] at h
       rw [← hI, if_pos (of_decide_eq_true h).symm]; done)
    | (rename_i h
       rw [hse] at h
       refine back_i [.keep [0, 1, 7, 8] []] (k + 1) rfl ?_ ⟨by omega, ?_⟩ (by omega)
       · simp only [w_succ hlt (show l.length ≤ 9223372036854775807 by omega)]
       · rw [← hI, if_neg (fun e => of_decide_eq_false h e.symm)])
    | trace_state
  · have hk : k = l.length := by omega
    subst hk
    simp [idxS] at hI
    repeat' (first
       | refine wp_seq_i ?_ | refine wp_region_t k_IdxS rfl ?_ | refine Run.done rfl ?_ | refine then_n ?_ | refine then_r ?_ | refine then_e ?_ | refine Run.go1 rfl ?_ | refine wp_skip_i ?_ | refine wp_ret_i ?_
       | refine wp_exit_i ?_ | refine wp_block_i ?_ | refine block_n ?_ | refine block_r ?_ | refine block_e ?_ | refine block_o rfl ?_ | refine wp_cond_t rfl ?_ | refine wp_cond_f rfl ?_
       | (refine wp_cond_k rfl rfl rfl ?_ ?_ <;> intro _) | (refine wp_cond_i rfl ?_ ?_ <;> intro _))
    all_goals first
    | (exfalso; rename_i h; simp at h; done)
    | (refine ret_m [] rfl rfl ?_; rw [hI]; done)
    | trace_state
theorem ConS_t (l : List ByteArray) (s : ByteArray) (hl : l.length ≤ 1000000000) : Tells Try.prog E0 X 61 [.t (.sl false (l.map sR)), sA s] (bA (has l s)) := by
  have hi := idxS_has s l 0
  refine Tells.by Try.func61 (by simp [Try.f61]) (Body.i rfl rfl rfl (fun _ => rfl) fun f => ?_)
  repeat' (first
     | refine wp_seq_i ?_ | refine wp_region_i ?_ | refine Run.done rfl ?_ | refine then_n ?_ | refine then_r ?_ | refine then_e ?_ | refine Run.go1 rfl ?_ | refine wp_skip_i ?_ | refine wp_ret_i ?_ | refine wp_exit_i ?_
     | refine wp_block_i ?_ | refine block_n ?_ | refine block_r ?_ | refine block_e ?_ | refine block_o rfl ?_ | refine wp_cond_t rfl ?_ | refine wp_cond_f rfl ?_ | refine Run.call rfl rfl rfl (IdxS_t l s hl) rfl rfl ?_
     | (refine wp_cond_k rfl rfl rfl ?_ ?_ <;> intro _) | (refine wp_cond_i rfl ?_ ?_ <;> intro _))
  all_goals (refine ret_m [] rfl rfl ?_; rw [← hi])
/-- the names that a term binds in its part at a place -/
def bndL (k : Int) (s z : ByteArray) (i : Nat) : List ByteArray :=
  if k = 4 ∨ k = 7 ∨ ((k = 6 ∨ k = 17) ∧ i = 1) then [s] else if k = 14 ∧ i = 2 then [s, z] else []
theorem bndL_len (k : Int) (s z : ByteArray) (i : Nat) : (bndL k s z i).length ≤ 2 := by
  unfold bndL
  split
  · simp
  · split <;> simp
def k_l2Binds : List (Nat × List Nat) := [(0, [1, 2]), (1, [1, 2, 5]), (2, [4]), (3, [2, 35]), (4, [4]), (5, [4])]
theorem l2Binds_t (kk nn : Int) (ss zz : ByteArray) (tk tn : Int) (ta ts : List Ty) (aa : List Tm) (i : Nat) : Tells Try.prog E0 X 58 [tmA false kk nn ss zz tk tn ta ts aa, iA i] (.t (.sl true ((bndL kk ss zz i).map sR))) := by
  have hb1 : ∀ B : Bool, decide (kk = 4 ∨ kk = 7 ∨ ((kk = 6 ∨ kk = 17) ∧ i = 1)) = B → B = true → (bndL kk ss zz i) = [ss] := fun B h hB => by unfold bndL; rw [if_pos (of_decide_eq_true (h.trans hB))]
  have hb2 : kk = 14 ∧ i = 2 → ¬(kk = 4 ∨ kk = 7 ∨ ((kk = 6 ∨ kk = 17) ∧ i = 1)) → (bndL kk ss zz i) = [ss, zz] := fun h h2 => by unfold bndL; rw [if_neg h2, if_pos h]
  have hb3 : ¬ (kk = 14 ∧ i = 2) → ¬(kk = 4 ∨ kk = 7 ∨ ((kk = 6 ∨ kk = 17) ∧ i = 1)) → (bndL kk ss zz i) = [] := fun h h2 => by unfold bndL; rw [if_neg h2, if_neg h]
  have hi1 : ((i : Int) == 1) = decide (i = 1) := by rw [Bool.eq_iff_iff]; simp; omega
  have hi2 : ((i : Int) == 2) = decide (i = 2) := by rw [Bool.eq_iff_iff]; simp; omega
  refine Tells.by Try.func58 (by simp [Try.f58]) (Body.i rfl rfl rfl (fun _ => rfl) fun f => ?_)
  repeat' (first
     | refine wp_region_tB (id := 1) 5 (decide (kk = 4 ∨ kk = 7 ∨ ((kk = 6 ∨ kk = 17) ∧ i = 1))) k_l2Binds rfl rfl rfl ?_ ?_ | refine wp_region_tB (id := 3) 35 (decide (kk = 14 ∧ i = 2)) k_l2Binds rfl rfl rfl ?_ ?_
     | refine wp_seq_i ?_ | refine wp_region_t k_l2Binds rfl ?_ | refine Run.done rfl ?_ | refine then_n ?_ | refine then_r ?_ | refine then_e ?_ | refine Run.go1 rfl ?_ | refine wp_skip_i ?_ | refine wp_ret_i ?_
     | refine wp_exit_i ?_ | refine wp_block_i ?_ | refine block_n ?_ | refine block_r ?_ | refine block_e ?_ | refine block_o rfl ?_ | refine wp_cond_t rfl ?_ | refine wp_cond_f rfl ?_ | refine Run.gT rfl rfl rfl rfl ?_
     | refine Run.pT rfl rfl ?_ | (refine Run.splitG rfl rfl rfl rfl rfl rfl ?_ ?_ <;> intro _) | (refine Run.splitP rfl rfl rfl rfl ?_ ?_ <;> intro _) | refine Run.one rfl rfl rfl ?_
     | (refine wp_cond_k rfl rfl rfl ?_ ?_ <;> intro _) | (refine wp_cond_i rfl ?_ ?_ <;> intro _))
  all_goals first
  | (refine ⟨?_⟩; clear hb1 hb2 hb3; simp_all; done)
  | (refine ⟨?_⟩; clear hb1 hb2 hb3; simp_all; omega)
  | (rename_i h; refine ret_m [] rfl rfl ?_; rw [hb1 _ rfl h]; rfl)
  | (rename_i h h2; refine ret_m [] rfl rfl ?_; rw [hb2 (of_decide_eq_true h2) (of_decide_eq_false h)]; rfl)
  | (rename_i h h2; refine ret_m [] rfl rfl ?_; rw [hb3 (of_decide_eq_false h2) (of_decide_eq_false h)]; rfl)
  | trace_state
def k_boundIn : List (Nat × List Nat) := [(0, [1, 2]), (1, [1, 2, 5]), (2, [4]), (3, [2, 31]), (4, [4]), (5, [4])]
theorem boundIn_t (kk nn : Int) (ss zz : ByteArray) (tk tn : Int) (ta ts : List Ty) (aa : List Tm) (i : Nat) : Tells Try.prog E0 X 60 [tmA false kk nn ss zz tk tn ta ts aa, iA i] (.t (.sl true ((bndL kk ss zz i).map sR))) := by
  have hb1 : ∀ B : Bool, decide (kk = 4 ∨ kk = 7 ∨ ((kk = 6 ∨ kk = 17) ∧ i = 1)) = B → B = true → (bndL kk ss zz i) = [ss] := fun B h hB => by unfold bndL; rw [if_pos (of_decide_eq_true (h.trans hB))]
  have hb2 : kk = 14 ∧ i = 2 → ¬(kk = 4 ∨ kk = 7 ∨ ((kk = 6 ∨ kk = 17) ∧ i = 1)) → (bndL kk ss zz i) = [ss, zz] := fun h h2 => by unfold bndL; rw [if_neg h2, if_pos h]
  have hb3 : ¬ (kk = 14 ∧ i = 2) → ¬(kk = 4 ∨ kk = 7 ∨ ((kk = 6 ∨ kk = 17) ∧ i = 1)) → (bndL kk ss zz i) = [] := fun h h2 => by unfold bndL; rw [if_neg h2, if_neg h]
  have hi1 : ((i : Int) == 1) = decide (i = 1) := by rw [Bool.eq_iff_iff]; simp; omega
  have hi2 : ((i : Int) == 2) = decide (i = 2) := by rw [Bool.eq_iff_iff]; simp; omega
  refine Tells.by Try.func60 (by simp [Try.f60]) (Body.i rfl rfl rfl (fun _ => rfl) fun f => ?_)
  repeat' (first
     | refine wp_region_tB (id := 1) 5 (decide (kk = 4 ∨ kk = 7 ∨ ((kk = 6 ∨ kk = 17) ∧ i = 1))) k_boundIn rfl rfl rfl ?_ ?_ | refine wp_region_tB (id := 3) 31 (decide (kk = 14 ∧ i = 2)) k_boundIn rfl rfl rfl ?_ ?_
     | refine wp_seq_i ?_ | refine wp_region_t k_boundIn rfl ?_ | refine Run.done rfl ?_ | refine then_n ?_ | refine then_r ?_ | refine then_e ?_ | refine Run.go1 rfl ?_ | refine wp_skip_i ?_ | refine wp_ret_i ?_
     | refine wp_exit_i ?_ | refine wp_block_i ?_ | refine block_n ?_ | refine block_r ?_ | refine block_e ?_ | refine block_o rfl ?_ | refine wp_cond_t rfl ?_ | refine wp_cond_f rfl ?_ | refine Run.gT rfl rfl rfl rfl ?_
     | refine Run.pT rfl rfl ?_ | (refine Run.splitG rfl rfl rfl rfl rfl rfl ?_ ?_ <;> intro _) | (refine Run.splitP rfl rfl rfl rfl ?_ ?_ <;> intro _) | refine Run.one rfl rfl rfl ?_
     | (refine wp_cond_k rfl rfl rfl ?_ ?_ <;> intro _) | (refine wp_cond_i rfl ?_ ?_ <;> intro _))
  all_goals first
  | (refine ⟨?_⟩; clear hb1 hb2 hb3; simp_all; done)
  | (refine ⟨?_⟩; clear hb1 hb2 hb3; simp_all; omega)
  | (rename_i h; refine ret_m [] rfl rfl ?_; rw [hb1 _ rfl h]; rfl)
  | (rename_i h h2; refine ret_m [] rfl rfl ?_; rw [hb2 (of_decide_eq_true h2) (of_decide_eq_false h)]; rfl)
  | (rename_i h h2; refine ret_m [.nilT 4 77] rfl rfl ?_; rw [hb3 (of_decide_eq_false h2) (of_decide_eq_false h)]; rfl)
  | trace_state
end Go.Proofs

set_option linter.unusedVariables false
set_option linter.unusedSimpArgs false
set_option maxHeartbeats 4000000
namespace Go.Proofs
open Go Go.Ev
set_option maxRecDepth 100000
variable {X : Rel3}
mutual
/-- the free names of a term, behind others -/
def frT : Tm → List ByteArray → List ByteArray → List ByteArray
  | .mk k _ s z _ _ a, bd, out => frL a k s z 0 bd (if k = 3 ∧ has bd s = false ∧ has out s = false then out ++ [s] else out)
def frL : List Tm → Int → ByteArray → ByteArray → Nat → List ByteArray → List ByteArray → List ByteArray
  | [], _, _, _, _, _, out => out
  | t :: r, k, s, z, i, bd, out => frL r k s z (i + 1) bd (frT t (bd ++ bndL k s z i) out)
end
mutual
/-- how often a name is free in a term -/
def usT : Tm → ByteArray → Nat
  | .mk k _ s z _ _ a, x => if k = 3 ∧ s = x then 1 else usL a k s z 0 x
def usL : List Tm → Int → ByteArray → ByteArray → Nat → ByteArray → Nat
  | [], _, _, _, _, _ => 0
  | t :: r, k, s, z, i, x => (if has (bndL k s z i) x = true then 0 else usT t x) + usL r k s z (i + 1) x
end
mutual
theorem frT_len : ∀ (t : Tm) (bd out : List ByteArray), (frT t bd out).length ≤ out.length + tmN t
  | .mk k n s z t ts a, bd, out => by
    rw [frT, tmN]
    have h := frL_len a k s z 0 bd (if k = 3 ∧ has bd s = false ∧ has out s = false then out ++ [s] else out)
    have h2 : (if k = 3 ∧ has bd s = false ∧ has out s = false then out ++ [s] else out).length ≤ out.length + 1 := by split <;> simp
    omega
theorem frL_len : ∀ (l : List Tm) (k : Int) (s z : ByteArray) (i : Nat) (bd out : List ByteArray), (frL l k s z i bd out).length ≤ out.length + tmNL l
  | [], k, s, z, i, bd, out => by rw [frL, tmNL]; omega
  | t :: r, k, s, z, i, bd, out => by
    rw [frL, tmNL]
    have h1 := frT_len t (bd ++ bndL k s z i) out
    have h2 := frL_len r k s z (i + 1) bd (frT t (bd ++ bndL k s z i) out)
    omega
end
mutual
theorem usT_le : ∀ (t : Tm) (x : ByteArray), usT t x ≤ tmN t
  | .mk k n s z t ts a, x => by
    rw [usT, tmN]
    have h := usL_le a k s z 0 x
    split <;> omega
theorem usL_le : ∀ (l : List Tm) (k : Int) (s z : ByteArray) (i : Nat) (x : ByteArray), usL l k s z i x ≤ tmNL l
  | [], k, s, z, i, x => by rw [usL, tmNL]; omega
  | t :: r, k, s, z, i, x => by
    rw [usL, tmNL]
    have h1 := usT_le t x
    have h2 := usL_le r k s z (i + 1) x
    split <;> omega
end
theorem tmNL_drop : ∀ (l : List Tm) (j : Nat) (x : Tm), l[j]? = some x → tmNL (l.drop j) = tmN x + tmNL (l.drop (j + 1))
  | l, j, x, h => by
    obtain ⟨hlt, rfl⟩ := List.getElem?_eq_some_iff.1 h
    rw [List.drop_eq_getElem_cons hlt, tmNL]
theorem tmDL_mem : ∀ (l : List Tm) (j : Nat) (x : Tm), l[j]? = some x → tmD x ≤ tmDL l
  | [], j, x, h => by simp at h
  | t :: r, 0, x, h => by simp at h; subst h; rw [tmDL]; omega
  | t :: r, j + 1, x, h => by
    have := tmDL_mem r j x (by simpa using h)
    rw [tmDL]; omega
theorem tmNL_mem (l : List Tm) (j : Nat) (x : Tm) (h : l[j]? = some x) : tmN x ≤ tmNL l := by have := tmNL_take l j x h; omega
theorem tmNL_dropLe (l : List Tm) (j : Nat) : tmNL (l.drop j) ≤ tmNL l := by
  induction l generalizing j with
  | nil => simp
  | cons t r ih =>
    cases j with
    | zero => simp
    | succ j => rw [List.drop_succ_cons, tmNL]; have := ih j; omega
def k_l2Free : List (Nat × List Nat) := [(0, [1, 2, 3]), (1, [1, 2, 3, 24]), (2, [1, 2, 3]), (3, [1, 2, 3, 7]), (4, [1, 2, 3, 7, 34]), (5, [1, 2, 3, 7]), (6, [1, 2, 3, 7]), (7, [6])]
theorem l2Free_t : ∀ (t : Tm) (bd out : List ByteArray), t.ok → bd.length + 2 * tmD t ≤ 900000 → out.length + tmN t ≤ 900000000 → Tells Try.prog E0 X 41 [t.a false, .t (.sl false (bd.map sR)), .t (.sl true (out.map sR))] (.t (.sl true ((frT t bd out).map sR)))
  | .mk kk nn ss zz (.mk tk tn ta) ts aa, bd, out, hok, hb, ho => by
    rw [Tm.ok] at hok
    obtain ⟨l1, l2, l3, l4, l5, l6⟩ := hok
    rw [tmD] at hb
    rw [tmN] at ho
    have c1 := l2Has_t (X := X) bd ss (by omega)
    have c2 : Tells Try.prog E0 X 49 [.t (.sl false (shrR (out.map sR))), sA ss] (bA (has out ss)) := by rw [shr_S]; exact l2Has_t out ss (by omega)
    have hfr : ∀ B : Bool, (decide (kk = 3) && !has bd ss && !has out ss) = B → frT (.mk kk nn ss zz (.mk tk tn ta) ts aa) bd out = frL aa kk ss zz 0 bd (if B = true then out ++ [ss] else out) := fun B hB => by
      rw [frT]; subst hB; congr 1; simp [and_assoc]
    generalize has bd ss = h1 at c1 hfr
    generalize has out ss = h2 at c2 hfr
    refine Tells.by Try.func41 (by simp [Try.f41]) (Body.i rfl rfl rfl (fun _ => rfl) fun f => ?_)
    repeat' (first
       | refine wp_region_tB (id := 1) 24 (decide (kk = 3) && !h1 && !h2) k_l2Free rfl rfl rfl ?_ ?_ | refine wp_seq_i ?_ | refine wp_region_t k_l2Free rfl ?_ | refine Run.done rfl ?_ | refine then_n ?_ | refine then_r ?_
       | refine then_e ?_ | refine Run.go1 rfl ?_ | refine wp_skip_i ?_ | refine wp_ret_i ?_ | refine wp_exit_i ?_ | refine wp_block_i ?_ | refine block_n ?_ | refine block_r ?_ | refine block_e ?_ | refine block_o rfl ?_
       | refine wp_cond_t rfl ?_ | refine wp_cond_f rfl ?_ | refine Run.gT rfl rfl rfl rfl ?_ | refine Run.pT rfl rfl ?_ | (refine Run.splitG rfl rfl rfl rfl rfl rfl ?_ ?_ <;> intro _)
       | (refine Run.splitP rfl rfl rfl rfl ?_ ?_ <;> intro _) | refine Run.call rfl rfl rfl (c1) rfl rfl ?_ | refine Run.callB rfl rfl rfl (c2) (by simp [AV.own, T.own]) rfl ?_
       | refine Run.cnd rfl rfl rfl ⟨by first | (simp; done) | (simp; omega) | (simp; have := bndL_len kk ss zz j; omega), (by intro r hr; first | (obtain ⟨_, _, rfl⟩ := List.mem_map.1 hr; rfl) | (rcases List.mem_append.1 hr with hr | hr <;> (obtain ⟨_, _, rfl⟩ := List.mem_map.1 hr; rfl)) | (simp at hr; subst hr; rfl) | (simp at hr; done)), (by intro r hr; first | (obtain ⟨_, _, rfl⟩ := List.mem_map.1 hr; rfl) | (rcases List.mem_append.1 hr with hr | hr <;> (obtain ⟨_, _, rfl⟩ := List.mem_map.1 hr; rfl)) | (simp at hr; subst hr; rfl) | (simp at hr; done)), .inl rfl, by first | trivial | (simp [flatT]; done)⟩ ?_
       | refine Run.one rfl rfl rfl ?_ | (refine wp_cond_k rfl rfl rfl ?_ ?_ <;> intro _) | (refine wp_cond_i rfl ?_ ?_ <;> intro _))
    all_goals first
    | (refine ⟨?_⟩; clear c1 c2 hfr; simp_all; done)
    | skip
    all_goals (
      rename_i hB
      rw [hfr _ hB]
      clear c1 c2 hfr
      first
      | (have hB := hB; rw [if_pos rfl]; generalize ho1 : out ++ [ss] = o1
         have hol : o1.length + tmNL aa ≤ 900000000 := by rw [← ho1]; simp; omega
         refine wp_loop_k (α := Nat × List ByteArray × Option Value) [.ren 29 77, .keep [1, 2, 3, 7] [3, 77]] (fun p => [(7, iA p.1)]) (fun _ => []) (fun p => [(77, ⟨0, p.2.2⟩, p.2.1.map sR)]) (fun p => (p.1 ≤ aa.length ∧ p.2.1.length + tmNL (aa.drop p.1) ≤ 900000000) ∧ frL (aa.drop p.1) kk ss zz p.1 bd p.2.1 = frL aa kk ss zz 0 bd o1) (fun p => aa.length - p.1) (0, o1, none) rfl (fun _ => rfl) (by simp only [← ho1, List.map_append]; rfl) ⟨⟨Nat.zero_le _, hol⟩, rfl⟩ ?_)
      | (have hB := hB; rw [if_neg (by decide)]; generalize ho1 : out = o1
         have hol : o1.length + tmNL aa ≤ 900000000 := by rw [← ho1]; omega
         refine wp_loop_k (α := Nat × List ByteArray × Option Value) [.ren 300000 77, .keep [1, 2, 3, 7] [3, 77]] (fun p => [(7, iA p.1)]) (fun _ => []) (fun p => [(77, ⟨0, p.2.2⟩, p.2.1.map sR)]) (fun p => (p.1 ≤ aa.length ∧ p.2.1.length + tmNL (aa.drop p.1) ≤ 900000000) ∧ frL (aa.drop p.1) kk ss zz p.1 bd p.2.1 = frL aa kk ss zz 0 bd o1) (fun p => aa.length - p.1) (0, o1, some (f 300000)) rfl (fun _ => rfl) (by simp only [← ho1]; rfl) ⟨⟨Nat.zero_le _, hol⟩, rfl⟩ ?_))
    all_goals (
      clear hB
      rintro ⟨j, o, V⟩ ⟨⟨hj, hol2⟩, hI⟩
      simp only at hj hol2 hI
      by_cases hlt : j < aa.length
      · obtain ⟨t, ht⟩ : ∃ t, aa[j]? = some t := ⟨_, List.getElem?_eq_getElem hlt⟩
        have hjd : decide ((j : Int) < ((aa.map (Tm.c false)).length : Int)) = true := by rw [List.length_map]; simpa using hlt
        have hbn := bndL_len kk ss zz j
        have hnd := tmNL_drop aa j t ht
        have hdm := tmDL_mem aa j t ht
        rw [List.drop_eq_getElem_cons hlt, (List.getElem?_eq_some_iff.1 ht).2, frL] at hI
        have hfl := frT_len t (bd ++ bndL kk ss zz j) o
        have c3 := l2Binds_t (X := X) kk nn ss zz tk tn ta ts aa j
        have c4 : Tells Try.prog E0 X 41 [t.a false, .t (.sl false (shrR (bd.map sR ++ (bndL kk ss zz j).map sR))), .t (.sl true (o.map sR))] (.t (.sl true ((frT t (bd ++ bndL kk ss zz j) o).map sR))) := by rw [← List.map_append, shr_S]; exact l2Free_t t (bd ++ bndL kk ss zz j) o (Tm.okL_iff.1 l6 t (List.mem_of_getElem? ht)) (by simp; omega) (by omega)
        generalize frT t (bd ++ bndL kk ss zz j) o = q at hI hfl c4
        obtain ⟨k2, n2, y2, z2, ⟨tk2, tn2, ta2⟩, ts2, a2⟩ := t
        have hx : (aa.map (Tm.c false))[j]? = some [iT k2, iT n2, sT y2, sT z2, iT tk2, iT tn2, .sl false (ta2.map (Ty.c false)), .sl false (ts2.map (Ty.c false)), .sl false (a2.map (Tm.c false))] := by rw [List.getElem?_map, ht]; exact congrArg some (Tm.c_mk ..)
        repeat' (first
           | refine wp_seq_i ?_ | refine wp_region_t k_l2Free rfl ?_ | refine Run.done rfl ?_ | refine then_n ?_ | refine then_r ?_ | refine then_e ?_ | refine Run.go1 rfl ?_ | refine wp_skip_i ?_ | refine wp_ret_i ?_
           | refine wp_exit_i ?_ | refine wp_block_i ?_ | refine block_n ?_ | refine block_r ?_ | refine block_e ?_ | refine block_o rfl ?_ | refine wp_cond_t rfl ?_ | refine wp_cond_f rfl ?_ | refine RunQ.go1 rfl ?_
           | refine RunQ.done rfl ?_ | refine wp_region_l k_l2Free [0, 1, 2, 3, 4, 5, 6, 8, 9, 12] [7, 10, 11, 13] [0, 1, 0, 7, 15, 0, 0, 96, 0, 0, 992, 2016, 0, 8191, 16383] rfl (by decide +kernel) (by decide +kernel) rfl rfl ?_
           | refine RunL.callR rfl rfl rfl rfl (c3) (.inl rfl) rfl ?_ ?_ | refine RunL.callR rfl rfl rfl rfl (c4) (.inr (by simp [AV.own, T.own, own_S])) rfl ?_ ?_ | refine RepL.done rfl | refine RepL.skip rfl ?_
           | refine RepL.ix rfl rfl rfl rfl rfl rfl rfl rfl rfl hx rfl rfl rfl ?_ | refine RepL.one rfl rfl rfl rfl rfl rfl ?_ | refine RepL.off rfl rfl rfl rfl rfl ?_ | refine RunL.one rfl rfl rfl rfl rfl ?_ | refine RunL.done ?_
           | refine RunL.cndR rfl rfl rfl rfl ⟨by first | (simp; done) | (simp; omega) | (simp; have := bndL_len kk ss zz j; omega), (by intro r hr; first | (obtain ⟨_, _, rfl⟩ := List.mem_map.1 hr; rfl) | (rcases List.mem_append.1 hr with hr | hr <;> (obtain ⟨_, _, rfl⟩ := List.mem_map.1 hr; rfl)) | (simp at hr; subst hr; rfl) | (simp at hr; done)), (by intro r hr; first | (obtain ⟨_, _, rfl⟩ := List.mem_map.1 hr; rfl) | (rcases List.mem_append.1 hr with hr | hr <;> (obtain ⟨_, _, rfl⟩ := List.mem_map.1 hr; rfl)) | (simp at hr; subst hr; rfl) | (simp at hr; done)), .inl rfl, by first | trivial | (simp [flatT]; done)⟩ ?_ ?_
           | refine RunQ.build rfl rfl rfl rfl rfl rfl ?_ | refine RunQ.ix rfl rfl rfl rfl rfl rfl rfl hx rfl rfl rfl ?_ | refine Run.ix rfl rfl rfl rfl rfl rfl rfl hx rfl rfl rfl ?_
           | refine Run.cnd rfl rfl rfl ⟨by first | (simp; done) | (simp; omega) | (simp; have := bndL_len kk ss zz j; omega), (by intro r hr; first | (obtain ⟨_, _, rfl⟩ := List.mem_map.1 hr; rfl) | (rcases List.mem_append.1 hr with hr | hr <;> (obtain ⟨_, _, rfl⟩ := List.mem_map.1 hr; rfl)) | (simp at hr; subst hr; rfl) | (simp at hr; done)), (by intro r hr; first | (obtain ⟨_, _, rfl⟩ := List.mem_map.1 hr; rfl) | (rcases List.mem_append.1 hr with hr | hr <;> (obtain ⟨_, _, rfl⟩ := List.mem_map.1 hr; rfl)) | (simp at hr; subst hr; rfl) | (simp at hr; done)), .inl rfl, by first | trivial | (simp [flatT]; done)⟩ ?_
           | refine Run.one rfl rfl rfl ?_ | (refine wp_cond_k rfl rfl rfl ?_ ?_ <;> intro _) | (refine wp_cond_i rfl ?_ ?_ <;> intro _))
        all_goals first
        | (exfalso; rename_i h; rw [hjd] at h; cases h; done)
        | (refine back_i [.keep [1, 2, 3, 7] [3, 50], .ren 50 77] (j + 1, q, none) rfl ?_ ⟨⟨by simp; omega, by simp only; omega⟩, hI⟩ (by simp; omega)
           simp only [w_succ hlt (show aa.length ≤ 9223372036854775807 by omega)]; first | done | rfl)
        | trace_state
      · have hjl : j = aa.length := by omega
        subst hjl
        have hjd : decide ((aa.length : Int) < ((aa.map (Tm.c false)).length : Int)) = false := by rw [List.length_map]; simp
        rw [List.drop_length, frL] at hI
        repeat' (first
           | refine wp_seq_i ?_ | refine wp_region_t k_l2Free rfl ?_ | refine Run.done rfl ?_ | refine then_n ?_ | refine then_r ?_ | refine then_e ?_ | refine Run.go1 rfl ?_ | refine wp_skip_i ?_ | refine wp_ret_i ?_
           | refine wp_exit_i ?_ | refine wp_block_i ?_ | refine block_n ?_ | refine block_r ?_ | refine block_e ?_ | refine block_o rfl ?_ | refine wp_cond_t rfl ?_ | refine wp_cond_f rfl ?_
           | (refine wp_cond_k rfl rfl rfl ?_ ?_ <;> intro _) | (refine wp_cond_i rfl ?_ ?_ <;> intro _))
        all_goals first
        | (exfalso; rename_i h; rw [hjd] at h; cases h; done)
        | (refine ret_m [] rfl rfl ?_; rw [← hI]; done)
        | trace_state)
  termination_by t => SizeOf.sizeOf t
  decreasing_by
    all_goals (have hsz := List.sizeOf_lt_of_mem (List.mem_of_getElem? ht); simp; omega)
def k_l18Uses : List (Nat × List Nat) := [(0, [1, 2]), (1, [1, 2, 15]), (2, [4]), (3, [1, 2, 5]), (4, [1, 2, 5, 6]), (5, [1, 2, 5, 6, 20]), (6, [1, 2, 5, 6]), (7, [1, 2, 5, 6, 28]), (8, [1, 2, 5, 6]), (9, [4])]
theorem l18Uses_t : ∀ (t : Tm) (x : ByteArray), t.ok → tmN t ≤ 900000000 → Tells Try.prog E0 X 59 [t.a false, sA x] (iA (usT t x))
  | .mk kk nn ss zz (.mk tk tn ta) ts aa, x, hok, hn => by
    rw [Tm.ok] at hok
    obtain ⟨l1, l2, l3, l4, l5, l6⟩ := hok
    rw [tmN] at hn
    have hse := str_beq ss x
    refine Tells.by Try.func59 (by simp [Try.f59]) (Body.i rfl rfl rfl (fun _ => rfl) fun f => ?_)
    repeat' (first
       | refine wp_region_tB (id := 1) 15 (decide (kk = 3) && (ss.toList == x.toList)) k_l18Uses rfl rfl rfl ?_ ?_ | refine wp_seq_i ?_ | refine wp_region_t k_l18Uses rfl ?_ | refine Run.done rfl ?_ | refine then_n ?_
       | refine then_r ?_ | refine then_e ?_ | refine Run.go1 rfl ?_ | refine wp_skip_i ?_ | refine wp_ret_i ?_ | refine wp_exit_i ?_ | refine wp_block_i ?_ | refine block_n ?_ | refine block_r ?_ | refine block_e ?_
       | refine block_o rfl ?_ | refine wp_cond_t rfl ?_ | refine wp_cond_f rfl ?_ | refine Run.gT rfl rfl rfl rfl ?_ | refine Run.pT rfl rfl ?_ | (refine Run.splitG rfl rfl rfl rfl rfl rfl ?_ ?_ <;> intro _)
       | (refine Run.splitP rfl rfl rfl rfl ?_ ?_ <;> intro _) | refine Run.one rfl rfl rfl ?_ | (refine wp_cond_k rfl rfl rfl ?_ ?_ <;> intro _) | (refine wp_cond_i rfl ?_ ?_ <;> intro _))
    all_goals first
    | (refine ⟨?_⟩; clear hse; simp_all; done)
    | (rename_i h; refine ret_m [] rfl rfl ?_; rw [hse] at h; rw [usT, if_pos (by simpa using h)]; first | done | rfl)
    | skip
    rename_i hB
    have hus : usT (.mk kk nn ss zz (.mk tk tn ta) ts aa) x = usL aa kk ss zz 0 x := by rw [hse] at hB; rw [usT, if_neg (by simpa using hB)]
    rw [hus]
    have hub := usL_le aa kk ss zz 0 x
    clear hB hse
    refine wp_loop_k (α := Nat × Nat) [.keep [1, 2, 5, 6] [2]] (fun p => [(5, iA p.2), (6, iA p.1)]) (fun _ => []) (fun _ => []) (fun p => p.1 ≤ aa.length ∧ p.2 + usL (aa.drop p.1) kk ss zz p.1 x = usL aa kk ss zz 0 x) (fun p => aa.length - p.1) (0, 0) rfl (fun _ => rfl) rfl ⟨Nat.zero_le _, by simp⟩ ?_
    rintro ⟨j, m⟩ ⟨hj, hI⟩
    simp only at hj hI
    by_cases hlt : j < aa.length
    · obtain ⟨t, ht⟩ : ∃ t, aa[j]? = some t := ⟨_, List.getElem?_eq_getElem hlt⟩
      have hjd : decide ((j : Int) < ((aa.map (Tm.c false)).length : Int)) = true := by rw [List.length_map]; simpa using hlt
      have hnm := tmNL_mem aa j t ht
      have hbn := bndL_len kk ss zz j
      rw [List.drop_eq_getElem_cons hlt, (List.getElem?_eq_some_iff.1 ht).2, usL] at hI
      have c3 := l2Binds_t (X := X) kk nn ss zz tk tn ta ts aa j
      have c4 : Tells Try.prog E0 X 49 [.t (.sl false (shrR ((bndL kk ss zz j).map sR))), sA x] (bA (has (bndL kk ss zz j) x)) := by rw [shr_S]; exact l2Has_t _ _ (by omega)
      have c5 := l18Uses_t t x (Tm.okL_iff.1 l6 t (List.mem_of_getElem? ht)) (by omega)
      have hul := usT_le t x
      generalize usT t x = u at hI c5 hul
      generalize has (bndL kk ss zz j) x = hB at hI c4
      have hw : IntKind.i64.wrap ((m : Int) + (u : Int)) = ((m + u : Nat) : Int) := by rw [w64] <;> omega
      obtain ⟨k2, n2, y2, z2, ⟨tk2, tn2, ta2⟩, ts2, a2⟩ := t
      have hx : (aa.map (Tm.c false))[j]? = some [iT k2, iT n2, sT y2, sT z2, iT tk2, iT tn2, .sl false (ta2.map (Ty.c false)), .sl false (ts2.map (Ty.c false)), .sl false (a2.map (Tm.c false))] := by rw [List.getElem?_map, ht]; exact congrArg some (Tm.c_mk ..)
      repeat' (first
         | refine wp_seq_i ?_ | refine wp_region_t k_l18Uses rfl ?_ | refine Run.done rfl ?_ | refine then_n ?_ | refine then_r ?_ | refine then_e ?_ | refine Run.go1 rfl ?_ | refine wp_skip_i ?_ | refine wp_ret_i ?_
         | refine wp_exit_i ?_ | refine wp_block_i ?_ | refine block_n ?_ | refine block_r ?_ | refine block_e ?_ | refine block_o rfl ?_ | refine wp_cond_t rfl ?_ | refine wp_cond_f rfl ?_
         | refine Run.call rfl rfl rfl (c3) rfl rfl ?_ | refine Run.callB rfl rfl rfl (c4) (by simp [AV.own, T.own]) rfl ?_ | refine Run.call rfl rfl rfl (c5) rfl rfl ?_
         | refine Run.ix rfl rfl rfl rfl rfl rfl rfl hx rfl rfl rfl ?_
         | refine Run.cnd rfl rfl rfl ⟨by first | (simp; done) | (simp; omega) | (simp; have := bndL_len kk ss zz j; omega), (by intro r hr; first | (obtain ⟨_, _, rfl⟩ := List.mem_map.1 hr; rfl) | (rcases List.mem_append.1 hr with hr | hr <;> (obtain ⟨_, _, rfl⟩ := List.mem_map.1 hr; rfl)) | (simp at hr; subst hr; rfl) | (simp at hr; done)), (by intro r hr; first | (obtain ⟨_, _, rfl⟩ := List.mem_map.1 hr; rfl) | (rcases List.mem_append.1 hr with hr | hr <;> (obtain ⟨_, _, rfl⟩ := List.mem_map.1 hr; rfl)) | (simp at hr; subst hr; rfl) | (simp at hr; done)), .inl rfl, by first | trivial | (simp [flatT]; done)⟩ ?_
         | refine Run.one rfl rfl rfl ?_ | (refine wp_cond_k rfl rfl rfl ?_ ?_ <;> intro _) | (refine wp_cond_i rfl ?_ ?_ <;> intro _))
      all_goals first
      | (exfalso; rename_i h; rw [hjd] at h; cases h; done)
      | (rename_i h
         have h : hB = false := by simpa using h
         rw [if_neg (by simp [h])] at hI
         refine back_i [.keep [1, 2, 5, 6] [2]] (j + 1, m + u) rfl ?_ ⟨by simp; omega, by simp only; omega⟩ (by simp; omega)
         simp only [w_succ hlt (show aa.length ≤ 9223372036854775807 by omega), hw]; first | done | rfl)
      | (rename_i h
         have h : hB = true := by simpa using h
         rw [if_pos h] at hI
         refine back_i [.keep [1, 2, 5, 6] [2]] (j + 1, m) rfl ?_ ⟨by simp; omega, by simp only; omega⟩ (by simp; omega)
         simp only [w_succ hlt (show aa.length ≤ 9223372036854775807 by omega)]; first | done | rfl)
      | trace_state
    · have hjl : j = aa.length := by omega
      subst hjl
      have hjd : decide ((aa.length : Int) < ((aa.map (Tm.c false)).length : Int)) = false := by rw [List.length_map]; simp
      rw [List.drop_length, usL] at hI
      repeat' (first
         | refine wp_seq_i ?_ | refine wp_region_t k_l18Uses rfl ?_ | refine Run.done rfl ?_ | refine then_n ?_ | refine then_r ?_ | refine then_e ?_ | refine Run.go1 rfl ?_ | refine wp_skip_i ?_ | refine wp_ret_i ?_
         | refine wp_exit_i ?_ | refine wp_block_i ?_ | refine block_n ?_ | refine block_r ?_ | refine block_e ?_ | refine block_o rfl ?_ | refine wp_cond_t rfl ?_ | refine wp_cond_f rfl ?_
         | (refine wp_cond_k rfl rfl rfl ?_ ?_ <;> intro _) | (refine wp_cond_i rfl ?_ ?_ <;> intro _))
      all_goals first
      | (exfalso; rename_i h; rw [hjd] at h; cases h; done)
      | (refine ret_m [] rfl rfl ?_; rw [← hI]; rfl)
      | trace_state
  termination_by t => SizeOf.sizeOf t
  decreasing_by
    all_goals (have hsz := List.sizeOf_lt_of_mem (List.mem_of_getElem? ht); simp; omega)
def k_usesIn : List (Nat × List Nat) := [(0, [1, 2]), (1, [1, 2, 16]), (2, [4]), (3, [1, 2, 5]), (4, [1, 2, 5, 18, 19, 20]), (5, [1, 2, 5, 18, 19, 20, 21]), (6, [1, 2, 5, 6, 7, 18, 19, 20]), (7, [1, 2, 5, 7, 18, 19, 20, 30]), (8, [1, 2, 5, 18, 19, 20]), (9, [1, 2, 5, 18, 19, 20]), (10, [4])]
theorem usesIn_t : ∀ (t : Tm) (x : ByteArray), t.ok → tmN t ≤ 900000000 → Tells Try.prog E0 X 62 [t.a false, sA x] (iA (usT t x))
  | .mk kk nn ss zz (.mk tk tn ta) ts aa, x, hok, hn => by
    rw [Tm.ok] at hok
    obtain ⟨l1, l2, l3, l4, l5, l6⟩ := hok
    rw [tmN] at hn
    have hse := str_beq ss x
    refine Tells.by Try.func62 (by simp [Try.f62]) (Body.i rfl rfl rfl (fun _ => rfl) fun f => ?_)
    repeat' (first
       | refine wp_region_tB (id := 1) 16 (decide (kk = 3) && (ss.toList == x.toList)) k_usesIn rfl rfl rfl ?_ ?_ | refine wp_seq_i ?_ | refine wp_region_t k_usesIn rfl ?_ | refine Run.done rfl ?_ | refine then_n ?_
       | refine then_r ?_ | refine then_e ?_ | refine Run.go1 rfl ?_ | refine wp_skip_i ?_ | refine wp_ret_i ?_ | refine wp_exit_i ?_ | refine wp_block_i ?_ | refine block_n ?_ | refine block_r ?_ | refine block_e ?_
       | refine block_o rfl ?_ | refine wp_cond_t rfl ?_ | refine wp_cond_f rfl ?_ | refine Run.gT rfl rfl rfl rfl ?_ | refine Run.pT rfl rfl ?_ | (refine Run.splitG rfl rfl rfl rfl rfl rfl ?_ ?_ <;> intro _)
       | (refine Run.splitP rfl rfl rfl rfl ?_ ?_ <;> intro _) | refine Run.one rfl rfl rfl ?_ | (refine wp_cond_k rfl rfl rfl ?_ ?_ <;> intro _) | (refine wp_cond_i rfl ?_ ?_ <;> intro _))
    all_goals first
    | (refine ⟨?_⟩; clear hse; simp_all; done)
    | (rename_i h; refine ret_m [] rfl rfl ?_; rw [hse] at h; rw [usT, if_pos (by simpa using h)]; first | done | rfl)
    | skip
    rename_i hB
    have hus : usT (.mk kk nn ss zz (.mk tk tn ta) ts aa) x = usL aa kk ss zz 0 x := by rw [hse] at hB; rw [usT, if_neg (by simpa using hB)]
    rw [hus]
    have hub := usL_le aa kk ss zz 0 x
    clear hB hse
    refine wp_loop_k (α := Nat × Nat) [.keep [1, 2, 5, 18, 19, 20] [2]] (fun p => [(5, iA p.2), (20, iA p.1)]) (fun _ => []) (fun _ => []) (fun p => p.1 ≤ aa.length ∧ p.2 + usL (aa.drop p.1) kk ss zz p.1 x = usL aa kk ss zz 0 x) (fun p => aa.length - p.1) (0, 0) rfl (fun _ => rfl) rfl ⟨Nat.zero_le _, by simp⟩ ?_
    rintro ⟨j, m⟩ ⟨hj, hI⟩
    simp only at hj hI
    by_cases hlt : j < aa.length
    · obtain ⟨t, ht⟩ : ∃ t, aa[j]? = some t := ⟨_, List.getElem?_eq_getElem hlt⟩
      have hjd : decide ((j : Int) < ((aa.map (Tm.c false)).length : Int)) = true := by rw [List.length_map]; simpa using hlt
      have hnm := tmNL_mem aa j t ht
      have hbn := bndL_len kk ss zz j
      rw [List.drop_eq_getElem_cons hlt, (List.getElem?_eq_some_iff.1 ht).2, usL] at hI
      have c3 := boundIn_t (X := X) kk nn ss zz tk tn ta ts aa j
      have c4 : Tells Try.prog E0 X 61 [.t (.sl false (shrR ((bndL kk ss zz j).map sR))), sA x] (bA (has (bndL kk ss zz j) x)) := by rw [shr_S]; exact ConS_t _ _ (by omega)
      have c5 := usesIn_t t x (Tm.okL_iff.1 l6 t (List.mem_of_getElem? ht)) (by omega)
      have hul := usT_le t x
      generalize usT t x = u at hI c5 hul
      generalize has (bndL kk ss zz j) x = hB at hI c4
      have hw : IntKind.i64.wrap ((m : Int) + (u : Int)) = ((m + u : Nat) : Int) := by rw [w64] <;> omega
      obtain ⟨k2, n2, y2, z2, ⟨tk2, tn2, ta2⟩, ts2, a2⟩ := t
      have hx : (aa.map (Tm.c false))[j]? = some [iT k2, iT n2, sT y2, sT z2, iT tk2, iT tn2, .sl false (ta2.map (Ty.c false)), .sl false (ts2.map (Ty.c false)), .sl false (a2.map (Tm.c false))] := by rw [List.getElem?_map, ht]; exact congrArg some (Tm.c_mk ..)
      repeat' (first
         | refine wp_seq_i ?_ | refine wp_region_t k_usesIn rfl ?_ | refine Run.done rfl ?_ | refine then_n ?_ | refine then_r ?_ | refine then_e ?_ | refine Run.go1 rfl ?_ | refine wp_skip_i ?_ | refine wp_ret_i ?_
         | refine wp_exit_i ?_ | refine wp_block_i ?_ | refine block_n ?_ | refine block_r ?_ | refine block_e ?_ | refine block_o rfl ?_ | refine wp_cond_t rfl ?_ | refine wp_cond_f rfl ?_
         | refine Run.call rfl rfl rfl (c3) rfl rfl ?_ | refine Run.callB rfl rfl rfl (c4) (by simp [AV.own, T.own]) rfl ?_ | refine Run.call rfl rfl rfl (c5) rfl rfl ?_
         | refine Run.ix rfl rfl rfl rfl rfl rfl rfl hx rfl rfl rfl ?_
         | refine Run.cnd rfl rfl rfl ⟨by first | (simp; done) | (simp; omega) | (simp; have := bndL_len kk ss zz j; omega), (by intro r hr; first | (obtain ⟨_, _, rfl⟩ := List.mem_map.1 hr; rfl) | (rcases List.mem_append.1 hr with hr | hr <;> (obtain ⟨_, _, rfl⟩ := List.mem_map.1 hr; rfl)) | (simp at hr; subst hr; rfl) | (simp at hr; done)), (by intro r hr; first | (obtain ⟨_, _, rfl⟩ := List.mem_map.1 hr; rfl) | (rcases List.mem_append.1 hr with hr | hr <;> (obtain ⟨_, _, rfl⟩ := List.mem_map.1 hr; rfl)) | (simp at hr; subst hr; rfl) | (simp at hr; done)), .inl rfl, by first | trivial | (simp [flatT]; done)⟩ ?_
         | refine Run.one rfl rfl rfl ?_ | (refine wp_cond_k rfl rfl rfl ?_ ?_ <;> intro _) | (refine wp_cond_i rfl ?_ ?_ <;> intro _))
      all_goals first
      | (exfalso; rename_i h; rw [hjd] at h; cases h; done)
      | (rename_i h
         have h : hB = false := by simpa using h
         rw [if_neg (by simp [h])] at hI
         refine back_i [.keep [1, 2, 5, 18, 19, 20] [2]] (j + 1, m + u) rfl ?_ ⟨by simp; omega, by simp only; omega⟩ (by simp; omega)
         simp only [w_succ hlt (show aa.length ≤ 9223372036854775807 by omega), hw]; first | done | rfl)
      | (rename_i h
         have h : hB = true := by simpa using h
         rw [if_pos h] at hI
         refine back_i [.keep [1, 2, 5, 18, 19, 20] [2]] (j + 1, m) rfl ?_ ⟨by simp; omega, by simp only; omega⟩ (by simp; omega)
         simp only [w_succ hlt (show aa.length ≤ 9223372036854775807 by omega)]; first | done | rfl)
      | trace_state
    · have hjl : j = aa.length := by omega
      subst hjl
      have hjd : decide ((aa.length : Int) < ((aa.map (Tm.c false)).length : Int)) = false := by rw [List.length_map]; simp
      rw [List.drop_length, usL] at hI
      repeat' (first
         | refine wp_seq_i ?_ | refine wp_region_t k_usesIn rfl ?_ | refine Run.done rfl ?_ | refine then_n ?_ | refine then_r ?_ | refine then_e ?_ | refine Run.go1 rfl ?_ | refine wp_skip_i ?_ | refine wp_ret_i ?_
         | refine wp_exit_i ?_ | refine wp_block_i ?_ | refine block_n ?_ | refine block_r ?_ | refine block_e ?_ | refine block_o rfl ?_ | refine wp_cond_t rfl ?_ | refine wp_cond_f rfl ?_
         | (refine wp_cond_k rfl rfl rfl ?_ ?_ <;> intro _) | (refine wp_cond_i rfl ?_ ?_ <;> intro _))
      all_goals first
      | (exfalso; rename_i h; rw [hjd] at h; cases h; done)
      | (refine ret_m [] rfl rfl ?_; rw [← hI]; rfl)
      | trace_state
  termination_by t => SizeOf.sizeOf t
  decreasing_by
    all_goals (have hsz := List.sizeOf_lt_of_mem (List.mem_of_getElem? ht); simp; omega)
end Go.Proofs

set_option linter.unusedVariables false
set_option linter.unusedSimpArgs false
set_option maxHeartbeats 4000000
namespace Go.Proofs
open Go Go.Ev Go.RowKit
set_option maxRecDepth 100000
theorem Try.info_str : (Try.prog.info? 9).map (fun i => (i.zero, i.size, i.bytes)) = some (some (.string ByteArray.empty), 1, 16) := by kernel_rfl
theorem Try.und57 : Try.prog.underlying 57 = some (.slice 9) := by kernel_rfl
theorem Try.und3 : Try.prog.underlying 3 = some (.int .i64) := by kernel_rfl
theorem info_s : ∃ i, Try.prog.info? 9 = some i ∧ i.zero = some (.string ByteArray.empty) ∧ i.size = 1 ∧ i.bytes = 16 := by
  have h := Try.info_str
  cases hi : Try.prog.info? 9 with
  | none => rw [hi] at h; simp at h
  | some i => rw [hi] at h; simp at h; exact ⟨i, rfl, h.1, h.2.1, h.2.2⟩
/-- slices.Grow(nil, n) -/
theorem grow_c (n : Nat) (hn : n ≤ 100000000) (w : World) : Calls Try.prog 90 #[.slice none 0 0, .int .i64 n] w fun e w' => ∃ v, e = .returned v ∧ w'.ownsRow w.heap.size 9 1 v 0 [] ∧ Below w.heap.size w w' ∧ (n = 0 → v = .slice none 0 0) := by
  obtain ⟨i, hi, hz, hs, hby⟩ := info_s
  by_cases h0 : n = 0
  · subst h0
    go_enter Try.func90, Try.ntmps90
    go_wp2
    go_ret
    exact ⟨_, rfl, World.ownsRow_nil _ _ _ _, Below.refl _ _, fun _ => rfl⟩
  · have hrun := Lib.run_append_nil_zeros (P := Try.prog) w 57 3 57 9 i (.string ByteArray.empty) .i64 .i64 Try.und57 Try.und3 hi hz n (by omega) (by omega) (by omega) (by rw [hby]; omega)
    go_enter Try.func90, Try.ntmps90
    go_wp2_with (at_builtin; refine Lib.wpList_append_run _ rfl _ _ _ _ rfl _ _ rfl rfl _ _ hrun ?_)
    go_ret
    have hge := grownCap_ge w n 0 9
    have hm := grownCap_le_maxLen w n 0 9 (by unfold maxLen; omega)
    have hb : Below w.heap.size w (w.alloc (Obj.cells (Builtin.zeroCells #[Value.string ByteArray.empty] n ++ Builtin.zeroCells #[Value.string ByteArray.empty] (grownCap w n 0 9 - n)) 9)) := (Below.refl _ w).alloc (Nat.le_refl _) _
    refine ⟨_, rfl, ?_, ⟨hb.os, hb.tape, hb.output, hb.size, hb.block⟩, fun h => absurd h h0⟩
    show (w.alloc _).ownsRow _ _ _ _ _ _
    exact World.ownsRow_made w _ _ (Nat.le_refl _) hm (by rw [Array.size_append, size_zeroCells, size_zeroCells]; show n * 1 + (grownCap w n 0 9 - n) * 1 = _; omega)
/-- a slice's values, to be read -/
def SrcS (w : World) (v : Value) (l : List Value) : Prop := ∃ A c, v = .slice A l.length c ∧ (A = none → c = 0) ∧ (∀ a, A = some a → (∀ (j : Nat) (u : Value), l[j]? = some u → w.cell? (a.add j) = some u)) ∧ (∀ u ∈ l, u.oneCell' = true) ∧ (A = none → l = [])
theorem app_any (w : World) (v x : Value) (n : Nat) (xs news : List Value) (base : Nat) (hown : w.ownsRow base 9 1 v n xs) (hx : SrcS w x news) (hb : base ≤ w.heap.size) (hl : n + news.length ≤ 1000000000) :
    ∃ v' w', (Builtin.append_ #[57, 57] 57 #[v, x]).run Try.prog w = .ok v' w' ∧ w'.ownsRow base 9 1 v' (n + news.length) (xs ++ news) ∧ w.grownBy w' v.ownBlock ∧ (news = [] → v = .slice none 0 0 → v' = .slice none 0 0) := by
  obtain ⟨i, hi, hz, hs, hby⟩ := info_s
  obtain ⟨A, c, rfl, hc, hcells, hone, hnil⟩ := hx
  cases A with
  | none =>
    have e := hnil rfl
    subst e
    have hc0 := hc rfl
    subst hc0
    refine ⟨v, w, ?_, by simpa using hown, ⟨rfl, rfl, rfl, Nat.le_refl _, fun _ _ _ => rfl⟩, fun _ h => h⟩
    rcases hown.2 with ⟨rfl, rfl⟩ | ⟨g, cap, cur, rfl, _, _, hn, _⟩
    · exact run_app_none 57 57 9 i Try.und57 hi none 0 0 (Nat.le_refl _)
    · exact run_app_none 57 57 9 i Try.und57 hi _ _ _ hn
  | some a =>
    obtain ⟨v', w', h1, h2, h3, h4⟩ := run_append_own (P := Try.prog) w base 57 57 9 i (.string ByteArray.empty) 1 16 Try.und57 hi hz hs hby rfl (by decide) v n xs hown a news.length c news (by omega) (hcells a rfl) hone (by unfold maxLen; omega) (by omega) hb
    exact ⟨v', w', h1, h2, h3, fun e1 e2 => h4.2 ⟨e2, by rw [e1]; rfl⟩⟩
theorem SrcS.below {w w' : World} {v : Value} {l : List Value} (h : SrcS w v l) (hb : Below w.heap.size w w') : SrcS w' v l := by
  obtain ⟨A, c, rfl, hc, hcells, hone, hnil⟩ := h
  exact ⟨A, c, rfl, hc, fun a ha j u hu => (World.cell?_of_block (hb.block _ (World.block_lt_of_cell? w _ (hcells a ha j u hu)))).trans (hcells a ha j u hu), hone, hnil⟩
def sumK (n1 n2 k : Nat) : Nat := if k = 0 then 0 else if k = 1 then n1 else n1 + n2
theorem concat_c (w : World) (b0 off0 cap0 : Nat) (s1 s2 : Value) (l1 l2 : List Value) (h1 : w.cell? ⟨b0, off0, none⟩ = some s1) (h2 : w.cell? ⟨b0, off0 + 1, none⟩ = some s2) (f1 : SrcS w s1 l1) (f2 : SrcS w s2 l2) (hl : l1.length + l2.length ≤ 1000000) :
    Calls Try.prog 74 #[.slice (some ⟨b0, off0, none⟩) 2 cap0] w fun e w' => ∃ v, e = .returned v ∧ w'.ownsRow w.heap.size 9 1 v (l1 ++ l2).length (l1 ++ l2) ∧ Below w.heap.size w w' ∧ (l1 ++ l2 = [] → v = .slice none 0 0) := by
  have F1 := f1
  have F2 := f2
  have hb0 := World.block_lt_of_cell? w _ h1
  obtain ⟨A1, c1, rfl, -⟩ := f1
  obtain ⟨A2, c2, rfl, -⟩ := f2
  have e1 : IntKind.i64.wrap (((0 : Nat) : Int) + (l1.length : Int)) = (l1.length : Int) := by rw [IntKind.wrap_i64]; omega
  have e2 : IntKind.i64.wrap ((l1.length : Int) + (l2.length : Int)) = ((l1.length + l2.length : Nat) : Int) := by rw [IntKind.wrap_i64]; omega
  go_enter Try.func74, Try.ntmps74
  go_wp2
  go_loopw [3, 11] (fun s i wr => ∃ k : Nat, k ≤ 2 ∧ i = .int .i64 k ∧ s = .int .i64 (sumK l1.length l2.length k : Nat) ∧ w = wr) (fun _ i _ => 2 - (intOf i).toNat)
  case atStart => exact ⟨0, by omega, rfl, rfl, rfl⟩
  case round =>
    obtain ⟨k, hk, rfl, rfl, rfl⟩ := hrel
    rcases (show k = 0 ∨ k = 1 ∨ k = 2 from by omega) with rfl | rfl | rfl
    · simp only [show sumK l1.length l2.length 0 = 0 from rfl]
      go_wp2
      go_roundw
      case rel =>
        first
        | exact ⟨1, by omega, rfl, by simp [sumK], trivial⟩
        | exact ⟨1, by omega, rfl, by simp [sumK], rfl⟩
        | ((repeat apply Exists.intro); exact ⟨⟨1, by omega, rfl, by simp [sumK], rfl⟩, rfl⟩)
        | trace_state
      case measure => simp [intOf]
    · simp only [show sumK l1.length l2.length 1 = l1.length from rfl]
      go_wp2
      go_roundw
      case rel =>
        first
        | exact ⟨2, by omega, rfl, by simp [sumK], trivial⟩
        | exact ⟨2, by omega, rfl, by simp [sumK], rfl⟩
        | ((repeat apply Exists.intro); exact ⟨⟨2, by omega, rfl, by simp [sumK], rfl⟩, rfl⟩)
        | trace_state
      case measure => simp [intOf]
    · simp only [show sumK l1.length l2.length 2 = l1.length + l2.length from rfl]
      go_wp2_with (go_at_call 90; refine (grow_c (l1.length + l2.length) (by omega) _).mono ?_; rintro e w1 ⟨v1, rfl, hown1, hbel1, hnil1⟩)
      go_loopw [6, 27] (fun v i w2 => ∃ k : Nat, k ≤ 2 ∧ i = .int .i64 k ∧ w2.ownsRow w.heap.size 9 1 v (sumK l1.length l2.length k) (if k = 0 then [] else if k = 1 then l1 else l1 ++ l2) ∧ Below w.heap.size w w2 ∧ (l1 ++ l2 = [] → v = .slice none 0 0)) (fun _ i _ => 2 - (intOf i).toNat)
      case atStart => exact ⟨0, by omega, rfl, hown1, hbel1, fun h => hnil1 (by rw [← List.length_append, h]; rfl)⟩
      case round =>
        obtain ⟨k, hk, rfl, hown, hbel, hnil⟩ := hrel
        have c1' := (World.cell?_of_block (hbel.block b0 hb0)).trans h1
        have c2' := (World.cell?_of_block (hbel.block b0 hb0)).trans h2
        rcases (show k = 0 ∨ k = 1 ∨ k = 2 from by omega) with rfl | rfl | rfl
        · obtain ⟨v', w3, hrun, hown', hgrow, hnil'⟩ := app_any _ _ _ _ _ _ _ hown (F1.below hbel) hbel.size (by simp [sumK]; omega)
          have hbel3 : Below w.heap.size w w3 := hbel.grown hgrow hbel.size (fun q hq => (hown.lt q hq).1)
          go_wp2_with (at_builtin; refine Lib.wpList_append_run _ rfl _ _ _ _ rfl _ _ rfl rfl _ _ hrun ?_)
          go_roundw
          case rel =>
            have R : w3.ownsRow w.heap.size 9 1 v' (sumK l1.length l2.length 1) l1 := by simpa [sumK] using hown'
            first
            | exact ⟨1, by omega, rfl, R, hbel3, fun h => hnil' (List.append_eq_nil_iff.1 h).1 (hnil h)⟩
            | ((repeat apply Exists.intro); exact ⟨⟨1, by omega, rfl, R, hbel3, fun h => hnil' (List.append_eq_nil_iff.1 h).1 (hnil h)⟩, rfl⟩)
            | trace_state
          case measure => simp [intOf]
        · obtain ⟨v', w3, hrun, hown', hgrow, hnil'⟩ := app_any _ _ _ _ _ _ _ hown (F2.below hbel) hbel.size (by simp [sumK]; omega)
          have hbel3 : Below w.heap.size w w3 := hbel.grown hgrow hbel.size (fun q hq => (hown.lt q hq).1)
          go_wp2_with (at_builtin; refine Lib.wpList_append_run _ rfl _ _ _ _ rfl _ _ rfl rfl _ _ hrun ?_)
          go_roundw
          case rel =>
            have R : w3.ownsRow w.heap.size 9 1 v' (sumK l1.length l2.length 2) (l1 ++ l2) := by simpa [sumK] using hown'
            first
            | exact ⟨2, by omega, rfl, R, hbel3, fun h => hnil' (List.append_eq_nil_iff.1 h).2 (hnil h)⟩
            | ((repeat apply Exists.intro); exact ⟨⟨2, by omega, rfl, R, hbel3, fun h => hnil' (List.append_eq_nil_iff.1 h).2 (hnil h)⟩, rfl⟩)
            | trace_state
          case measure => simp [intOf]
        · go_wp2
          go_ret
          exact ⟨_, rfl, by simpa [sumK] using hown, hbel, hnil⟩
theorem rep_src {w : World} {B : Nat → Prop} {l : List ByteArray} {o : Bool} {v : Value} (h : Rep w B (.sl o (l.map sR)) v) : SrcS w v (l.map Value.string) := by
  generalize hrows : l.map sR = rows at h
  cases h with
  | nil => 
    have : l = [] := by simpa using hrows
    subst this
    exact ⟨none, 0, rfl, fun _ => rfl, fun _ h => (by cases h), (by simp), fun _ => rfl⟩
  | em _ a cap =>
    have : l = [] := by simpa using hrows
    subst this
    exact ⟨some a, cap, rfl, fun h => (by cases h), fun _ _ j u h => (by simp at h), (by simp), fun _ => rfl⟩
  | sl _ _ b off cap sz us hb hc hl hw hr =>
    subst hrows
    refine ⟨some ⟨b, off, none⟩, cap, by simp, fun h => (by cases h), fun a ha j u hu => ?_, ?_, fun h => (by cases h)⟩
    · cases ha
      rw [List.getElem?_map, Option.map_eq_some_iff] at hu
      obtain ⟨s, hs, rfl⟩ := hu
      have hrow : (l.map sR)[j]? = some (sR s) := by rw [List.getElem?_map, hs]; rfl
      have h1 := hl j _ hrow
      simp at h1
      subst h1
      have h2 := hw j _ 0 (sT s) hrow rfl
      have h3 := hr j _ 0 (sT s) hrow rfl
      generalize us j 0 = x at h2 h3
      cases h3
      rcases Nat.eq_zero_or_pos j with rfl | hj
      · simpa [Addr.add] using h2
      · simpa [Addr.add, Nat.ne_of_gt hj] using h2
    · intro u hu
      obtain ⟨s, _, rfl⟩ := List.mem_map.1 hu
      rfl
theorem row_own {w : World} {B : Nat → Prop} {base : Nat} {l : List ByteArray} {v : Value} (h : w.ownsRow base 9 1 v l.length (l.map Value.string)) (hn : l = [] → v = .slice none 0 0) : Own w B (.sl true (l.map sR)) v (fun k => base ≤ k ∧ k < w.heap.size) := by
  by_cases hl : l = []
  · subst hl
    rw [hn rfl]
    exact .nil _
  · obtain ⟨_, ⟨rfl, h0⟩ | ⟨g, cap, cur, rfl, hg, hh, hnc, hcm, hcs, htk⟩⟩ := h
    · exact absurd (List.length_eq_zero_iff.1 h0) hl
    · have hlt : g < w.heap.size := by
        rcases Nat.lt_or_ge g w.heap.size with h | h
        · exact h
        · rw [Array.getElem?_eq_none h] at hh; cases hh
      have hcell : ∀ j (hj : j < l.length), cur[j]? = some (.string l[j]) := fun j hj => by
        have : (cur.toList.take (l.length * 1))[j]? = (l.map Value.string)[j]? := by rw [htk]
        rw [List.getElem?_take_of_lt (by omega)] at this
        simpa [hj] using this
      have := Own.sl (w := w) (B := B) (l.map sR) g 0 cap 1 (fun i _ => .string (l[i]?.getD ByteArray.empty)) (fun _ _ _ => False) (fun k => base ≤ k ∧ k < w.heap.size) cur 9 hh (by omega) (by simpa using hnc)
        (fun i r h => by
          obtain ⟨x, _, rfl⟩ := List.mem_map.1 (List.mem_of_getElem? h); rfl)
        (fun i r k x hi hk => by
          rw [List.getElem?_map, Option.map_eq_some_iff] at hi
          obtain ⟨z, hz1, rfl⟩ := hi
          obtain ⟨hi1, rfl⟩ := List.getElem?_eq_some_iff.1 hz1
          cases k with
          | zero => rw [Nat.mul_one, Nat.add_zero, Nat.zero_add, hcell i hi1]; simp [hi1]
          | succ k => simp at hk)
        (fun i r k x hi hk => by
          rw [List.getElem?_map, Option.map_eq_some_iff] at hi
          obtain ⟨z, hz1, rfl⟩ := hi
          cases k with
          | zero => simp at hk; subst hk; rw [hz1]; exact .sc _ _
          | succ k => simp at hk)
        (fun i r k x hi hk => rfl)
        (fun _ _ _ _ _ h => h.elim) (fun _ _ h => h) ⟨hg, hlt⟩ (fun _ _ _ h => h.elim)
        (fun h => absurd (by simpa using h) hl)
      rw [List.length_map] at this
      exact this
theorem fam_one {w : World} {B Fin : Nat → Prop} {t : T} {vs : List Value} (h : Fam (VS w B) [.t t] vs Fin) : ∃ v G, vs = [v] ∧ Own w B t v G ∧ ∀ b, G b → Fin b := by
  cases h with
  | cons x xs v vs' G F' _ hx hr hd h1 h2 =>
  cases hr
  rcases hx with ⟨y, hy, ho⟩ | ⟨cs, us, h, _⟩ | ⟨_, _, _, _, _, h, _⟩
  · cases hy; exact ⟨_, _, rfl, ho, h1⟩
  · cases h
  · cases h
/-- slices.Concat of two lists of names, told from outside -/
theorem cat_sound (l1 l2 : List ByteArray) (hl : l1.length + l2.length ≤ 1000000) : Sound Try.prog 74 [.t (.sl false [[.sl false (l1.map sR)], [.sl false (l2.map sR)]])] (.t (.sl true ((l1 ++ l2).map sR))) := by
  refine ⟨⟨Try.f74, Try.func74, rfl, by simp [Try.f74]⟩, ?_⟩
  intro w vs B Fin hB hF hfam
  obtain ⟨v, G, rfl, ho, hG⟩ := fam_one hfam
  cases ho with
  | sh _ _ _ hrep =>
  cases hrep with
  | sl _ _ b off cap sz us hb hc hlr hw hr =>
    have hsz := hlr 0 _ rfl
    subst hsz
    have e1 := hw 0 _ 0 _ rfl rfl
    have e2 := hw 1 _ 0 _ rfl rfl
    have r1 := rep_src (hr 0 _ 0 _ rfl rfl)
    have r2 := rep_src (hr 1 _ 0 _ rfl rfl)
    refine (concat_c w b off cap _ _ (l1.map Value.string) (l2.map Value.string) (by simpa using e1) (by simpa using e2) r1 r2 (by simpa using hl)).mono ?_
    rintro e w' ⟨v, rfl, hown, hbel, hnil⟩
    rw [← List.map_append, List.length_map] at hown
    have hO := row_own (B := B) (l := l1 ++ l2) hown (fun h => hnil (by rw [← List.map_append, h]; rfl))
    exact ⟨_, B, _, rfl, .inl ⟨rfl, .inl (.inl ⟨_, rfl, hO⟩)⟩, fun k hk => ⟨Nat.lt_of_lt_of_le (hB k hk).1 hbel.size, fun h => Nat.lt_irrefl _ (Nat.lt_of_lt_of_le (hB k hk).1 h.1), .inl hk⟩, fun k h => ⟨h.2, .inr h.1⟩,
      ⟨hbel.os, hbel.tape, hbel.output, hbel.size, fun k hk _ => hbel.block k hk⟩⟩
/-- what is told from outside -/
def XK : Rel3 := fun f args r => ∃ l1 l2 : List ByteArray, l1.length + l2.length ≤ 1000000 ∧ f = 74 ∧ args = [.t (.sl false [[.sl false (l1.map sR)], [.sl false (l2.map sR)]])] ∧ r = .t (.sl true ((l1 ++ l2).map sR))
theorem XK_sound (f : FuncId) (args : List AV) (r : AV) (h : XK f args r) : Sound Try.prog f args r := by
  rcases h with ⟨l1, l2, hl, rfl, rfl, rfl⟩
  exact cat_sound l1 l2 hl
theorem Concat_t (l1 l2 : List ByteArray) (hl : l1.length + l2.length ≤ 1000000) : Tells Try.prog E0 XK 74 [.t (.sl false [[.sl false (l1.map sR)], [.sl false (l2.map sR)]])] (.t (.sl true ((l1 ++ l2).map sR))) := Tells.of ⟨l1, l2, hl, rfl, rfl, rfl⟩
end Go.Proofs

set_option linter.unusedVariables false
set_option linter.unusedSimpArgs false
set_option maxHeartbeats 4000000
namespace Go.Proofs
open Go Go.Ev
set_option maxRecDepth 100000
variable {X : Rel3}
theorem tmH_var {k n : Int} {s z : ByteArray} {t : Ty} {ts : List Ty} {a : List Tm} (h : tmH (.mk k n s z t ts a) = true) (hk : k = 3) : a = [] := by
  rw [tmH] at h
  have h2 := (Bool.and_eq_true_iff.1 h).1
  unfold tmHd at h2
  simp only [Bool.and_eq_true, decide_eq_true_eq] at h2
  have h3 := h2.1.1.1.1.1.1.1
  rw [hk, show tmPt 3 = 0 from rfl] at h3
  exact List.length_eq_zero_iff.1 (by omega)
theorem ownA_S (l : List ByteArray) : AV.own (.t (.sl true (l.map sR))) := by simp [AV.own, T.own, own_S]
theorem tmH_mem {k n : Int} {s z : ByteArray} {t : Ty} {ts : List Ty} {a : List Tm} (h : tmH (.mk k n s z t ts a) = true) : ∀ x ∈ a, tmH x = true := by
  rw [tmH] at h
  exact tmHL_iff.1 (Bool.and_eq_true_iff.1 h).2
def k_freeIn : List (Nat × List Nat) := [(0, [1, 2, 3]), (1, [1, 2, 3, 25]), (2, [6]), (3, [1, 2, 3, 32, 33, 34]), (4, [1, 2, 3, 32, 33, 34, 35]), (5, [1, 2, 3, 7, 8, 32, 33, 34]), (6, [1, 2, 3, 32, 33, 34]), (7, [1, 2, 3, 32, 33, 34]), (8, [6])]
theorem freeIn_t : ∀ (t : Tm) (bd out : List ByteArray), t.ok → tmH t = true → bd.length + 2 * tmD t ≤ 900000 → out.length + tmN t ≤ 900000000 → Tells Try.prog E0 XK 65 [t.a false, .t (.sl false (bd.map sR)), .t (.sl true (out.map sR))] (.t (.sl true ((frT t bd out).map sR)))
  | .mk kk nn ss zz (.mk tk tn ta) ts aa, bd, out, hok, hH, hb, ho => by
    rw [Tm.ok] at hok
    obtain ⟨l1, l2, l3, l4, l5, l6⟩ := hok
    have hvar := tmH_var hH
    have hHa := tmH_mem hH
    rw [tmD] at hb
    rw [tmN] at ho
    have c1 := ConS_t (X := XK) bd ss (by omega)
    have c2 : Tells Try.prog E0 XK 61 [.t (.sl false (shrR (out.map sR))), sA ss] (bA (has out ss)) := by rw [shr_S]; exact ConS_t out ss (by omega)
    have hfr1 : (decide (kk = 3) && !has bd ss && !has out ss) = true → frT (.mk kk nn ss zz (.mk tk tn ta) ts aa) bd out = out ++ [ss] := fun hB => by
      simp at hB
      rw [hvar hB.1.1, frT, frL, if_pos ⟨hB.1.1, hB.1.2, hB.2⟩]
    have hfr : (decide (kk = 3) && !has bd ss && !has out ss) = false → frT (.mk kk nn ss zz (.mk tk tn ta) ts aa) bd out = frL aa kk ss zz 0 bd out := fun hB => by
      rw [frT, if_neg (by intro h; simp [h.1, h.2.1, h.2.2] at hB)]
    generalize has bd ss = h1 at c1 hfr hfr1
    generalize has out ss = h2 at c2 hfr hfr1
    refine Tells.by Try.func65 (by simp [Try.f65]) (Body.i rfl rfl rfl (fun _ => rfl) fun f => ?_)
    repeat' (first
       | refine wp_region_tB (id := 1) 25 (decide (kk = 3) && !h1 && !h2) k_freeIn rfl rfl rfl ?_ ?_ | refine wp_seq_i ?_ | refine wp_region_t k_freeIn rfl ?_ | refine Run.done rfl ?_ | refine then_n ?_ | refine then_r ?_
       | refine then_e ?_ | refine Run.go1 rfl ?_ | refine wp_skip_i ?_ | refine wp_ret_i ?_ | refine wp_exit_i ?_ | refine wp_block_i ?_ | refine block_n ?_ | refine block_r ?_ | refine block_e ?_ | refine block_o rfl ?_
       | refine wp_cond_t rfl ?_ | refine wp_cond_f rfl ?_ | refine Run.gT rfl rfl rfl rfl ?_ | refine Run.pT rfl rfl ?_ | (refine Run.splitG rfl rfl rfl rfl rfl rfl ?_ ?_ <;> intro _)
       | (refine Run.splitP rfl rfl rfl rfl ?_ ?_ <;> intro _) | refine Run.call rfl rfl rfl (c1) rfl rfl ?_ | refine Run.callB rfl rfl rfl (c2) (by simp [AV.own, T.own]) rfl ?_
       | refine Run.cnd rfl rfl rfl ⟨by first | (simp; done) | (simp; omega) | (simp; have := bndL_len kk ss zz j; omega), (by intro r hr; first | (obtain ⟨_, _, rfl⟩ := List.mem_map.1 hr; rfl) | (rcases List.mem_append.1 hr with hr | hr <;> (obtain ⟨_, _, rfl⟩ := List.mem_map.1 hr; rfl)) | (simp at hr; subst hr; rfl) | (simp at hr; done)), (by intro r hr; first | (obtain ⟨_, _, rfl⟩ := List.mem_map.1 hr; rfl) | (rcases List.mem_append.1 hr with hr | hr <;> (obtain ⟨_, _, rfl⟩ := List.mem_map.1 hr; rfl)) | (simp at hr; subst hr; rfl) | (simp at hr; done)), .inl rfl, by first | trivial | (simp [flatT]; done)⟩ ?_
       | refine Run.one rfl rfl rfl ?_ | (refine wp_cond_k rfl rfl rfl ?_ ?_ <;> intro _) | (refine wp_cond_i rfl ?_ ?_ <;> intro _))
    all_goals first
    | (refine ⟨?_⟩; clear c1 c2 hfr hfr1; simp_all; done)
    | (rename_i hB; refine ret_m [] rfl rfl ?_; rw [hfr1 hB, List.map_append]; rfl)
    | skip
    rename_i hB
    rw [hfr hB]
    clear c1 c2 hfr hfr1 hB
    refine wp_loop_k (α := Nat × List ByteArray × Option Value) [.ren 300000 77, .keep [1, 2, 3, 32, 33, 34] [3, 77]] (fun p => [(34, iA p.1)]) (fun _ => []) (fun p => [(77, ⟨0, p.2.2⟩, p.2.1.map sR)]) (fun p => (p.1 ≤ aa.length ∧ p.2.1.length + tmNL (aa.drop p.1) ≤ 900000000) ∧ frL (aa.drop p.1) kk ss zz p.1 bd p.2.1 = frL aa kk ss zz 0 bd out) (fun p => aa.length - p.1) (0, out, some (f 300000)) rfl (fun _ => rfl) rfl ⟨⟨Nat.zero_le _, by simp only [List.drop_zero]; omega⟩, rfl⟩ ?_
    rintro ⟨j, o, V⟩ ⟨⟨hj, hol2⟩, hI⟩
    simp only at hj hol2 hI
    by_cases hlt : j < aa.length
    · obtain ⟨t, ht⟩ : ∃ t, aa[j]? = some t := ⟨_, List.getElem?_eq_getElem hlt⟩
      have hjd : decide ((j : Int) < ((aa.map (Tm.c false)).length : Int)) = true := by rw [List.length_map]; simpa using hlt
      have hbn := bndL_len kk ss zz j
      have hnd := tmNL_drop aa j t ht
      have hdm := tmDL_mem aa j t ht
      rw [List.drop_eq_getElem_cons hlt, (List.getElem?_eq_some_iff.1 ht).2, frL] at hI
      have hfl := frT_len t (bd ++ bndL kk ss zz j) o
      have c3 := boundIn_t (X := XK) kk nn ss zz tk tn ta ts aa j
      have c5 : Tells Try.prog E0 XK 74 [.t (.sl false [[.sl false (shrR (bd.map sR))], [.sl false (shrR ((bndL kk ss zz j).map sR))]])] (.t (.sl true ((bd ++ bndL kk ss zz j).map sR))) := by rw [shr_S, shr_S]; exact Concat_t bd (bndL kk ss zz j) (by omega)
      have c4 : Tells Try.prog E0 XK 65 [t.a false, .t (.sl false (shrR ((bd ++ bndL kk ss zz j).map sR))), .t (.sl true (o.map sR))] (.t (.sl true ((frT t (bd ++ bndL kk ss zz j) o).map sR))) := by rw [shr_S]; exact freeIn_t t (bd ++ bndL kk ss zz j) o (Tm.okL_iff.1 l6 t (List.mem_of_getElem? ht)) (hHa t (List.mem_of_getElem? ht)) (by simp; omega) (by omega)
      generalize frT t (bd ++ bndL kk ss zz j) o = q at hI hfl c4
      obtain ⟨k2, n2, y2, z2, ⟨tk2, tn2, ta2⟩, ts2, a2⟩ := t
      have hx : (aa.map (Tm.c false))[j]? = some [iT k2, iT n2, sT y2, sT z2, iT tk2, iT tn2, .sl false (ta2.map (Ty.c false)), .sl false (ts2.map (Ty.c false)), .sl false (a2.map (Tm.c false))] := by rw [List.getElem?_map, ht]; exact congrArg some (Tm.c_mk ..)
      repeat' (first
         | refine wp_seq_i ?_ | refine wp_region_t k_freeIn rfl ?_ | refine Run.done rfl ?_ | refine then_n ?_ | refine then_r ?_ | refine then_e ?_ | refine Run.go1 rfl ?_ | refine wp_skip_i ?_ | refine wp_ret_i ?_
         | refine wp_exit_i ?_ | refine wp_block_i ?_ | refine block_n ?_ | refine block_r ?_ | refine block_e ?_ | refine block_o rfl ?_ | refine wp_cond_t rfl ?_ | refine wp_cond_f rfl ?_ | refine RunQ.go1 rfl ?_
         | refine RunQ.done rfl ?_ | refine wp_region_l k_freeIn [0, 1, 2, 3, 7] [4, 5, 6, 8] [0, 0, 0, 0, 12, 30, 62, 0, 255, 511] rfl (by decide +kernel) (by decide +kernel) rfl rfl ?_
         | refine RunL.callR rfl rfl rfl rfl (c3) (.inl rfl) rfl ?_ ?_ | refine RunL.callR rfl rfl rfl rfl (c5) (.inr (ownA_S _)) rfl ?_ ?_ | refine RunL.callR rfl rfl rfl rfl (c4) (.inr (ownA_S _)) rfl ?_ ?_
         | refine RepL.done rfl | refine RepL.skip rfl ?_ | refine RepL.one rfl rfl rfl rfl rfl rfl ?_ | refine RepL.off rfl rfl rfl rfl rfl ?_ | refine RunL.one rfl rfl rfl rfl rfl ?_ | refine RunL.done ?_
         | refine Run.ix rfl rfl rfl rfl rfl rfl rfl hx rfl rfl rfl ?_ | refine Run.one rfl rfl rfl ?_ | (refine wp_cond_k rfl rfl rfl ?_ ?_ <;> intro _) | (refine wp_cond_i rfl ?_ ?_ <;> intro _))
      all_goals first
      | (exfalso; rename_i h; rw [hjd] at h; cases h; done)
      | (refine back_i [.keep [1, 2, 3, 32, 33, 34] [3, 47], .ren 47 77] (j + 1, q, none) rfl ?_ ⟨⟨by simp; omega, by simp only; omega⟩, hI⟩ (by simp; omega)
         simp only [w_succ hlt (show aa.length ≤ 9223372036854775807 by omega)]; first | done | rfl)
      | trace_state
    · have hjl : j = aa.length := by omega
      subst hjl
      have hjd : decide ((aa.length : Int) < ((aa.map (Tm.c false)).length : Int)) = false := by rw [List.length_map]; simp
      rw [List.drop_length, frL] at hI
      repeat' (first
         | refine wp_seq_i ?_ | refine wp_region_t k_freeIn rfl ?_ | refine Run.done rfl ?_ | refine then_n ?_ | refine then_r ?_ | refine then_e ?_ | refine Run.go1 rfl ?_ | refine wp_skip_i ?_ | refine wp_ret_i ?_
         | refine wp_exit_i ?_ | refine wp_block_i ?_ | refine block_n ?_ | refine block_r ?_ | refine block_e ?_ | refine block_o rfl ?_ | refine wp_cond_t rfl ?_ | refine wp_cond_f rfl ?_
         | (refine wp_cond_k rfl rfl rfl ?_ ?_ <;> intro _) | (refine wp_cond_i rfl ?_ ?_ <;> intro _))
      all_goals first
      | (exfalso; rename_i h; rw [hjd] at h; cases h; done)
      | (refine ret_m [] rfl rfl ?_; rw [← hI]; done)
      | trace_state
  termination_by t => SizeOf.sizeOf t
  decreasing_by
    all_goals (have hsz := List.sizeOf_lt_of_mem (List.mem_of_getElem? ht); simp; omega)
theorem tmB_H {t : Tm} (h : tmB t = true) : tmH t = true ∧ tmD t ≤ 24 ∧ tmN t ≤ 150 := by
  unfold tmB at h
  simp only [Bool.and_eq_true, decide_eq_true_eq] at h
  exact ⟨h.1.1, h.1.2, h.2⟩
def k_FreeOf : List (Nat × List Nat) := [(0, [1]), (1, [1, 5]), (2, [2]), (3, [2])]
theorem FreeOfI_t (t : Tm) (hok : t.ok) (hc : cTm t ≤ 1000000000) (hB : tmB t = true) : Tells Try.prog E0 XK 43 [t.a false] (.t (.sl true ((frT t [] []).map sR))) := by
  have c1 := TermOkI_t (X := XK) t hok hc
  obtain ⟨h1, h2, h3⟩ := tmB_H hB
  have c2 := freeIn_t t [] [] hok h1 (by simp; omega) (by simp; omega)
  rw [hB] at c1
  generalize frT t [] [] = q at c2 ⊢
  obtain ⟨kk, nn, ss, zz, ⟨tk, tn, ta⟩, ts, aa⟩ := t
  refine Tells.by Try.func43 (by simp [Try.f43]) (Body.i rfl rfl rfl (fun _ => rfl) fun f => ?_)
  repeat' (first
     | refine wp_seq_i ?_ | refine wp_region_t k_FreeOf rfl ?_ | refine Run.done rfl ?_ | refine then_n ?_ | refine then_r ?_ | refine then_e ?_ | refine Run.go1 rfl ?_ | refine wp_skip_i ?_ | refine wp_ret_i ?_
     | refine wp_exit_i ?_ | refine wp_block_i ?_ | refine block_n ?_ | refine block_r ?_ | refine block_e ?_ | refine block_o rfl ?_ | refine wp_cond_t rfl ?_ | refine wp_cond_f rfl ?_
     | refine Run.call rfl rfl rfl (c1) rfl rfl ?_ | refine Run.call rfl rfl rfl (c2) rfl rfl ?_ | (refine wp_cond_k rfl rfl rfl ?_ ?_ <;> intro _) | (refine wp_cond_i rfl ?_ ?_ <;> intro _))
  all_goals exact ret_m [] rfl rfl rfl
end Go.Proofs

set_option linter.unusedVariables false
set_option linter.unusedSimpArgs false
set_option maxHeartbeats 4000000
namespace Go.Proofs
open Go Go.Ev
set_option maxRecDepth 100000
variable {X : Rel3}
mutual
/-- a term put for a name (none: a name of it would be bound) -/
def puT : Tm → ByteArray → Tm → List ByteArray → Option Tm
  | .mk k n s z t ts a, x, v, fr => if k = 3 ∧ s = x then some v else match puL a k s z 0 x v fr with
    | some a' => some (.mk k n s z t ts a')
    | none => none
def puL : List Tm → Int → ByteArray → ByteArray → Nat → ByteArray → Tm → List ByteArray → Option (List Tm)
  | [], _, _, _, _, _, _, _ => some []
  | t :: r, k, s, z, i, x, v, fr =>
    if has (bndL k s z i) x = true ∨ usT t x = 0 then (puL r k s z (i + 1) x v fr).map (t :: ·)
    else if (bndL k s z i).any (fun y => has fr y) = true then none
    else match puT t x v fr with
      | none => none
      | some t' => (puL r k s z (i + 1) x v fr).map (t' :: ·)
end
mutual
theorem puT_ok : ∀ (t : Tm) (x : ByteArray) (v : Tm) (fr : List ByteArray) (o : Tm), t.ok → v.ok → puT t x v fr = some o → o.ok ∧ cTm o ≤ cTm t + tmN t * cTm v
  | .mk k n s z t ts a, x, v, fr, o, ht, hv, h => by
    rw [puT] at h
    rw [Tm.ok] at ht
    rw [cTm, tmN, Nat.add_mul, Nat.one_mul]
    split at h
    · cases h; exact ⟨hv, by omega⟩
    · split at h
      · rename_i a' ha
        cases h
        obtain ⟨h1, h2, h3⟩ := puL_ok a k s z 0 x v fr a' ht.2.2.2.2.2 hv ha
        rw [Tm.ok, cTm]
        exact ⟨⟨ht.1, ht.2.1, ht.2.2.1, ht.2.2.2.1, by rw [h2]; exact ht.2.2.2.2.1, h1⟩, by omega⟩
      · cases h
theorem puL_ok : ∀ (l : List Tm) (k : Int) (s z : ByteArray) (i : Nat) (x : ByteArray) (v : Tm) (fr : List ByteArray) (o : List Tm), Tm.okL l → v.ok → puL l k s z i x v fr = some o → Tm.okL o ∧ o.length = l.length ∧ cTmL o ≤ cTmL l + tmNL l * cTm v
  | [], k, s, z, i, x, v, fr, o, ht, hv, h => by rw [puL] at h; cases h; exact ⟨ht, rfl, by omega⟩
  | t :: r, k, s, z, i, x, v, fr, o, ht, hv, h => by
    rw [puL] at h
    rw [Tm.okL] at ht
    rw [cTmL, tmNL, Nat.add_mul]
    split at h
    · rw [Option.map_eq_some_iff] at h
      obtain ⟨r', hr, rfl⟩ := h
      obtain ⟨h1, h2, h3⟩ := puL_ok r k s z (i + 1) x v fr r' ht.2 hv hr
      rw [Tm.okL, cTmL]
      exact ⟨⟨ht.1, h1⟩, by simp [h2], by omega⟩
    · split at h
      · cases h
      · split at h
        · cases h
        · rename_i t' ht'
          rw [Option.map_eq_some_iff] at h
          obtain ⟨r', hr, rfl⟩ := h
          obtain ⟨h1, h2, h3⟩ := puL_ok r k s z (i + 1) x v fr r' ht.2 hv hr
          obtain ⟨h4, h5⟩ := puT_ok t x v fr t' ht.1 hv ht'
          rw [Tm.okL, cTmL]
          exact ⟨⟨h4, h1⟩, by simp [h2], by omega⟩
end
def putTup : Option Tm → AV
  | some t => .tp [t.a true, bA true]
  | none => .tp [Tm.z.a true, bA false]
theorem opt_map_map {α : Type} (m : List α) (t : α) (o : Option (List α)) : (o.map (t :: ·)).map (m ++ ·) = o.map ((m ++ [t]) ++ ·) := by cases o <;> simp
/-- the rows of what is put together so far -/
theorem put_rows (m : List Tm) (aa : List Tm) (j : Nat) (t t' : Tm) (hj : m.length = j) (ht : aa[j]? = some t) : ((m ++ aa.drop j).map (Tm.c true)).set j (Tm.c true t') = (((m ++ [t']) ++ aa.drop (j + 1)).map (Tm.c true)) := by
  obtain ⟨hlt, rfl⟩ := List.getElem?_eq_some_iff.1 ht
  rw [List.drop_eq_getElem_cons hlt, List.map_append, List.map_cons, List.set_append_right _ _ (by simp; omega), show j - (m.map (Tm.c true)).length = 0 by simp [hj], List.set_cons_zero]
  simp only [List.map_append, List.map_cons, List.map_nil, List.append_assoc, List.cons_append, List.nil_append]
theorem put_at (m : List Tm) (aa : List Tm) (j : Nat) (t : Tm) (hj : m.length = j) (ht : aa[j]? = some t) : ((m ++ aa.drop j).map (Tm.c true))[j]? = some (Tm.c true t) := by
  obtain ⟨hlt, rfl⟩ := List.getElem?_eq_some_iff.1 ht
  rw [List.getElem?_map, List.getElem?_append_right (by omega), List.drop_eq_getElem_cons hlt, show j - m.length = 0 by omega]
  rfl
def k_l18Put : List (Nat × List Nat) := [(0, [1, 3, 4, 6, 8]), (1, [1, 3, 4, 6, 8, 24]), (2, [8, 9]), (3, [1, 3, 4, 6, 8, 10]), (4, [1, 3, 4, 6, 8, 10, 11]), (5, [1, 3, 4, 6, 8, 10, 11, 33]), (6, [1, 3, 4, 6, 8, 10, 11]), (7, [1, 3, 4, 6, 8, 10, 11, 12]), (8, [1, 3, 4, 6, 8, 10, 11, 12, 51]), (9, [1, 3, 4, 6, 8, 10, 11, 12, 13]), (10, [1, 3, 4, 6, 8, 10, 11, 12, 13, 55]), (11, [1, 3, 4, 6, 8, 10, 11, 12, 13]), (12, [1, 3, 4, 6, 8, 10, 11, 12, 13, 63]), (13, [8, 9]), (14, [1, 3, 4, 6, 8, 10, 11, 14, 15]), (15, [1, 3, 4, 6, 8, 10, 11, 14, 78]), (16, [8, 9]), (17, [1, 3, 4, 6, 8, 10, 11]), (18, [8, 9])]
theorem l18Put_t (vk vn : Int) (vs vz : ByteArray) (vtk vtn : Int) (vta vts : List Ty) (vaa : List Tm) (hv : (Tm.mk vk vn vs vz (.mk vtk vtn vta) vts vaa).ok) (x : ByteArray) (fr : List ByteArray) (hfr : fr.length ≤ 900000000) : ∀ (t : Tm), t.ok → tmN t ≤ 900000000 → Tells Try.prog E0 X 40 [t.a false, sA x, tmA false vk vn vs vz vtk vtn vta vts vaa, .t (.sl false (fr.map sR))] (putTup (puT t x (Tm.mk vk vn vs vz (.mk vtk vtn vta) vts vaa) fr))
  | .mk kk nn ss zz (.mk tk tn ta) ts aa, hok, hn => by
    have cC := l2Copy_t (X := X) (.mk kk nn ss zz (.mk tk tn ta) ts aa) hok
    have cV := l2Copy_t (X := X) (Tm.mk vk vn vs vz (.mk vtk vtn vta) vts vaa) hv
    rw [Tm.ok] at hok
    obtain ⟨l1, l2, l3, l4, l5, l6⟩ := hok
    rw [tmN] at hn
    have hse := str_beq ss x
    refine Tells.by Try.func40 (by simp [Try.f40]) (Body.i rfl rfl rfl (fun _ => rfl) fun f => ?_)
    repeat' (first
       | refine wp_region_tB (id := 1) 24 (decide (kk = 3) && (ss.toList == x.toList)) k_l18Put rfl rfl rfl ?_ ?_ | refine wp_seq_i ?_ | refine wp_region_t k_l18Put rfl ?_ | refine Run.done rfl ?_ | refine then_n ?_
       | refine then_r ?_ | refine then_e ?_ | refine Run.go1 rfl ?_ | refine wp_skip_i ?_ | refine wp_ret_i ?_ | refine wp_exit_i ?_ | refine wp_block_i ?_ | refine block_n ?_ | refine block_r ?_ | refine block_e ?_
       | refine block_o rfl ?_ | refine wp_cond_t rfl ?_ | refine wp_cond_f rfl ?_ | refine Run.gT rfl rfl rfl rfl ?_ | refine Run.pT rfl rfl ?_ | (refine Run.splitG rfl rfl rfl rfl rfl rfl ?_ ?_ <;> intro _)
       | (refine Run.splitP rfl rfl rfl rfl ?_ ?_ <;> intro _) | refine Run.call rfl rfl rfl (cV) rfl rfl ?_ | refine Run.call rfl rfl rfl (cC) rfl rfl ?_ | refine Run.one rfl rfl rfl ?_
       | (refine wp_cond_k rfl rfl rfl ?_ ?_ <;> intro _) | (refine wp_cond_i rfl ?_ ?_ <;> intro _))
    all_goals first
    | (refine ⟨?_⟩; clear cC cV hse; simp_all; done)
    | (rename_i h
       rw [hse] at h
       have hp : puT (.mk kk nn ss zz (.mk tk tn ta) ts aa) x (Tm.mk vk vn vs vz (.mk vtk vtn vta) vts vaa) fr = some (Tm.mk vk vn vs vz (.mk vtk vtn vta) vts vaa) := by rw [puT, if_pos (by simpa using h)]
       rw [hp]
       exact ret_m [] rfl rfl rfl)
    | skip
    rename_i hB
    rw [hse] at hB
    have hpu : puT (.mk kk nn ss zz (.mk tk tn ta) ts aa) x (Tm.mk vk vn vs vz (.mk vtk vtn vta) vts vaa) fr = match puL aa kk ss zz 0 x (Tm.mk vk vn vs vz (.mk vtk vtn vta) vts vaa) fr with
      | some a' => some (.mk kk nn ss zz (.mk tk tn ta) ts a')
      | none => none := by rw [puT, if_neg (by simpa using hB)]
    rw [hpu]
    clear hpu hB hse cC cV
    refine wp_loop_k (α := Nat × List Tm) [.keep [1, 3, 4, 6, 8, 10, 11] [4, 6, 8, 10, 6028, 7028, 8028]] (fun p => [(11, iA p.1)]) (fun _ => []) (fun p => [(8028, 0, (p.2 ++ aa.drop p.1).map (Tm.c true))]) (fun p => (p.1 ≤ aa.length ∧ p.2.length = p.1) ∧ (puL (aa.drop p.1) kk ss zz p.1 x (Tm.mk vk vn vs vz (.mk vtk vtn vta) vts vaa) fr).map (p.2 ++ ·) = puL aa kk ss zz 0 x (Tm.mk vk vn vs vz (.mk vtk vtn vta) vts vaa) fr) (fun p => aa.length - p.1) (0, []) rfl (fun _ => rfl) rfl ⟨⟨Nat.zero_le _, rfl⟩, by simp⟩ ?_
    rintro ⟨j, m⟩ ⟨⟨hj, hm⟩, hI⟩
    simp only at hj hm hI
    by_cases hlt : j < aa.length
    · obtain ⟨t, ht⟩ : ∃ t, aa[j]? = some t := ⟨_, List.getElem?_eq_getElem hlt⟩
      have hjd : decide ((j : Int) < ((aa.map (Tm.c false)).length : Int)) = true := by rw [List.length_map]; simpa using hlt
      have hnm := tmNL_mem aa j t ht
      have hbn := bndL_len kk ss zz j
      have hoT := Tm.okL_iff.1 l6 t (List.mem_of_getElem? ht)
      have hdr : aa.drop j = t :: aa.drop (j + 1) := by rw [List.drop_eq_getElem_cons hlt, (List.getElem?_eq_some_iff.1 ht).2]
      have hgo : (m ++ aa.drop j).map (Tm.c true) = ((m ++ [t]) ++ aa.drop (j + 1)).map (Tm.c true) := by rw [hdr]; simp
      have hrow := put_at m aa j t hm ht
      have hset := fun t' => put_rows m aa j t t' hm ht
      rw [hdr, puL] at hI
      have c3 := l2Binds_t (X := X) kk nn ss zz tk tn ta ts aa j
      have c4 : Tells Try.prog E0 X 49 [.t (.sl false (shrR ((bndL kk ss zz j).map sR))), sA x] (bA (has (bndL kk ss zz j) x)) := by rw [shr_S]; exact l2Has_t _ _ (by omega)
      have c5 := l18Uses_t (X := X) t x hoT (by omega)
      have hul := usT_le t x
      have c6 := l18Put_t vk vn vs vz vtk vtn vta vts vaa hv x fr hfr t hoT (by omega)
      generalize usT t x = u at hI c5 hul
      generalize has (bndL kk ss zz j) x = hb at hI c4
      generalize bndL kk ss zz j = B at hI c4 c3 hbn
      generalize puT t x (Tm.mk vk vn vs vz (.mk vtk vtn vta) vts vaa) fr = pt at hI c6
      obtain ⟨k2, n2, y2, z2, ⟨tk2, tn2, ta2⟩, ts2, a2⟩ := t
      rw [Tm.c_mk] at hrow
      have hx : (aa.map (Tm.c false))[j]? = some [iT k2, iT n2, sT y2, sT z2, iT tk2, iT tn2, .sl false (ta2.map (Ty.c false)), .sl false (ts2.map (Ty.c false)), .sl false (a2.map (Tm.c false))] := by rw [List.getElem?_map, ht]; exact congrArg some (Tm.c_mk ..)
      repeat' (first
         | refine wp_region_tB (id := 8) 51 (hb || ((u : Int) == 0)) k_l18Put rfl rfl rfl ?_ ?_ | refine wp_seq_i ?_ | refine wp_region_t k_l18Put rfl ?_ | refine Run.done rfl ?_ | refine then_n ?_ | refine then_r ?_
         | refine then_e ?_ | refine Run.go1 rfl ?_ | refine wp_skip_i ?_ | refine wp_ret_i ?_ | refine wp_exit_i ?_ | refine wp_block_i ?_ | refine block_n ?_ | refine block_r ?_ | refine block_e ?_ | refine block_o rfl ?_
         | refine wp_cond_t rfl ?_ | refine wp_cond_f rfl ?_ | refine Run.gT rfl rfl rfl rfl ?_ | refine Run.pT rfl rfl ?_ | (refine Run.splitG rfl rfl rfl rfl rfl rfl ?_ ?_ <;> intro _)
         | (refine Run.splitP rfl rfl rfl rfl ?_ ?_ <;> intro _) | refine Run.call rfl rfl rfl (c3) rfl rfl ?_ | refine Run.callB rfl rfl rfl (c4) (by simp [AV.own, T.own]) rfl ?_ | refine Run.call rfl rfl rfl (c5) rfl rfl ?_
         | refine Run.ix rfl rfl rfl rfl rfl rfl rfl hx rfl rfl rfl ?_ | refine Run.one rfl rfl rfl ?_ | (refine wp_cond_k rfl rfl rfl ?_ ?_ <;> intro _) | (refine wp_cond_i rfl ?_ ?_ <;> intro _))
      all_goals first
      | (exfalso; rename_i h; rw [hjd] at h; cases h; done)
      | (refine ⟨?_⟩; rename_i h; rw [h]; rfl)
      | (rename_i h
         have h : hb = true ∨ u = 0 := by simp at h; rcases h with h | h
                                          · exact .inl h
                                          · exact .inr (by omega)
         rw [if_pos h, opt_map_map] at hI
         refine back_i [.keep [1, 3, 4, 6, 8, 10, 11] [4, 6, 8, 10, 6028, 7028, 8028]] (j + 1, m ++ [_]) rfl ?_ ⟨⟨by simp; omega, by simp; omega⟩, hI⟩ (by simp; omega)
         simp only [w_succ hlt (show aa.length ≤ 9223372036854775807 by omega), ← hgo]; first | done | rfl)
      | skip
      rename_i hB
      have hB : ¬ (hb = true ∨ u = 0) := by simp at hB; rintro (h | h)
                                            · rw [hB.1] at h; cases h
                                            · exact hB.2 (by omega)
      rw [if_neg hB] at hI
      clear hB c4 c5 hgo
      refine wp_loop_k (α := Nat) [.keep [1, 3, 4, 6, 8, 10, 11, 12, 13] [4, 6, 8, 10, 6028, 7028, 8028, 38]] (fun k => [(13, iA k)]) (fun _ => []) (fun _ => []) (fun k => k ≤ B.length ∧ (B.drop k).any (fun y => has fr y) = B.any (fun y => has fr y)) (fun k => B.length - k) 0 rfl (fun _ => rfl) rfl ⟨Nat.zero_le _, rfl⟩ ?_
      rintro k ⟨hk, hJ⟩
      by_cases hkl : k < B.length
      · obtain ⟨y, hy⟩ : ∃ y, B[k]? = some y := ⟨_, List.getElem?_eq_getElem hkl⟩
        have hkd : decide ((k : Int) < ((B.map sR).length : Int)) = true := by rw [List.length_map]; simpa using hkl
        have hyx : (B.map sR)[k]? = some [sT y] := by rw [List.getElem?_map, hy]; rfl
        have c7 := l2Has_t (X := X) fr y (by omega)
        rw [List.drop_eq_getElem_cons hkl, (List.getElem?_eq_some_iff.1 hy).2, List.any_cons] at hJ
        generalize has fr y = hh at c7 hJ
        clear c6
        repeat' (first
           | refine wp_seq_i ?_ | refine wp_region_t k_l18Put rfl ?_ | refine Run.done rfl ?_ | refine then_n ?_ | refine then_r ?_ | refine then_e ?_ | refine Run.go1 rfl ?_ | refine wp_skip_i ?_ | refine wp_ret_i ?_
           | refine wp_exit_i ?_ | refine wp_block_i ?_ | refine block_n ?_ | refine block_r ?_ | refine block_e ?_ | refine block_o rfl ?_ | refine wp_cond_t rfl ?_ | refine wp_cond_f rfl ?_
           | refine Run.ix rfl rfl rfl rfl rfl rfl rfl hyx rfl rfl rfl ?_ | refine Run.ix rfl rfl rfl rfl rfl rfl rfl hyx rfl rfl rfl ?_ | refine Run.ldr rfl rfl rfl hyx rfl rfl ?_ | refine Run.call rfl rfl rfl (c7) rfl rfl ?_
           | refine Run.one rfl rfl rfl ?_ | (refine wp_cond_k rfl rfl rfl ?_ ?_ <;> intro _) | (refine wp_cond_i rfl ?_ ?_ <;> intro _))
        all_goals first
        | (exfalso; rename_i h; rw [hkd] at h; cases h; done)
        | (rename_i h
           have h : hh = true := by simpa using h
           rw [if_pos (by rw [← hJ, h, Bool.true_or])] at hI
           rw [← hI]
           exact ret_m [] rfl rfl rfl)
        | (rename_i h
           have h : hh = false := by simpa using h
           refine back_i [.keep [1, 3, 4, 6, 8, 10, 11, 12, 13] [4, 6, 8, 10, 6028, 7028, 8028, 38]] (k + 1) rfl ?_ ⟨by omega, by rw [← hJ, h, Bool.false_or]⟩ (by omega)
           simp only [w_succ hkl (show B.length ≤ 9223372036854775807 by omega)]; first | done | rfl)
        | trace_state
      · have hkl : k = B.length := by omega
        subst hkl
        have hkd : decide ((B.length : Int) < ((B.map sR).length : Int)) = false := by rw [List.length_map]; simp
        rw [List.drop_length, List.any_nil] at hJ
        rw [if_neg (by rw [← hJ]; decide)] at hI
        rcases pt with _ | ⟨k3, n3, y3, z3, ⟨tk3, tn3, ta3⟩, ts3, a3⟩
        · simp only at hI
          repeat' (first
             | refine wp_seq_i ?_ | refine wp_region_t k_l18Put rfl ?_ | refine Run.done rfl ?_ | refine then_n ?_ | refine then_r ?_ | refine then_e ?_ | refine Run.go1 rfl ?_ | refine wp_skip_i ?_ | refine wp_ret_i ?_
             | refine wp_exit_i ?_ | refine wp_block_i ?_ | refine block_n ?_ | refine block_r ?_ | refine block_e ?_ | refine block_o rfl ?_ | refine wp_cond_t rfl ?_ | refine wp_cond_f rfl ?_ | refine RunQ.go1 rfl ?_
             | refine RunQ.done rfl ?_
             | (refine wp_region_m (id := 14) k_l18Put [0, 1, 2, 3, 4, 5, 6, 7] [8, 9, 10, 11, 12, 13] 6 [0, 1, 0, 7, 15, 0, 0, 0, 255, 511, 1023, 1023, 0, 6143, 16383] rfl (by decide +kernel) rfl rfl rfl ?_; apply Exists.intro; refine And.intro ?_ ?_)
             | refine RunMs.call rfl rfl rfl rfl (c6) (.inl rfl) rfl rfl ?_ ?_ ?_ | refine RunM.go ?_ | exact RunM.done rfl | exact RunMs.nil | refine RunMs.skip rfl ?_ | refine RepL.done rfl | refine RepL.skip rfl ?_
             | refine RepL.ix rfl rfl rfl rfl rfl rfl rfl rfl rfl hx rfl rfl rfl ?_ | refine RepL.one rfl rfl rfl rfl rfl rfl ?_ | refine RepL.off rfl rfl rfl rfl rfl ?_ | refine RunMs.one rfl rfl rfl rfl rfl ?_ ?_ ?_
             | refine RunMs.off rfl rfl rfl rfl ?_ ?_ ?_ | refine RunQ.ix rfl rfl rfl rfl rfl rfl rfl hx rfl rfl rfl ?_ | refine Run.ix rfl rfl rfl rfl rfl rfl rfl hrow rfl rfl rfl ?_
             | refine Run.str rfl rfl rfl rfl rfl rfl hrow rfl rfl ?_ | refine Run.one rfl rfl rfl ?_ | (refine wp_cond_k rfl rfl rfl ?_ ?_ <;> intro _) | (refine wp_cond_i rfl ?_ ?_ <;> intro _))
          all_goals first
          | (exfalso; rename_i h; rw [hkd] at h; cases h; done)
          | (rw [← hI]; exact ret_m [] rfl rfl rfl)
          | trace_state
        · simp only at hI
          rw [opt_map_map] at hI
          repeat' (first
             | refine wp_seq_i ?_ | refine wp_region_t k_l18Put rfl ?_ | refine Run.done rfl ?_ | refine then_n ?_ | refine then_r ?_ | refine then_e ?_ | refine Run.go1 rfl ?_ | refine wp_skip_i ?_ | refine wp_ret_i ?_
             | refine wp_exit_i ?_ | refine wp_block_i ?_ | refine block_n ?_ | refine block_r ?_ | refine block_e ?_ | refine block_o rfl ?_ | refine wp_cond_t rfl ?_ | refine wp_cond_f rfl ?_ | refine RunQ.go1 rfl ?_
             | refine RunQ.done rfl ?_
             | (refine wp_region_m (id := 14) k_l18Put [0, 1, 2, 3, 4, 5, 6, 7] [8, 9, 10, 11, 12, 13] 6 [0, 1, 0, 7, 15, 0, 0, 0, 255, 511, 1023, 1023, 0, 6143, 16383] rfl (by decide +kernel) rfl rfl rfl ?_; apply Exists.intro; refine And.intro ?_ ?_)
             | refine RunMs.call rfl rfl rfl rfl (c6) (.inl rfl) rfl rfl ?_ ?_ ?_ | refine RunM.go ?_ | exact RunM.done rfl | exact RunMs.nil | refine RunMs.skip rfl ?_ | refine RepL.done rfl | refine RepL.skip rfl ?_
             | refine RepL.ix rfl rfl rfl rfl rfl rfl rfl rfl rfl hx rfl rfl rfl ?_ | refine RepL.one rfl rfl rfl rfl rfl rfl ?_ | refine RepL.off rfl rfl rfl rfl rfl ?_ | refine RunMs.one rfl rfl rfl rfl rfl ?_ ?_ ?_
             | refine RunMs.off rfl rfl rfl rfl ?_ ?_ ?_ | refine RunQ.ix rfl rfl rfl rfl rfl rfl rfl hx rfl rfl rfl ?_ | refine Run.ix rfl rfl rfl rfl rfl rfl rfl hrow rfl rfl rfl ?_
             | refine Run.str rfl rfl rfl rfl rfl rfl hrow rfl rfl ?_ | refine Run.one rfl rfl rfl ?_ | (refine wp_cond_k rfl rfl rfl ?_ ?_ <;> intro _) | (refine wp_cond_i rfl ?_ ?_ <;> intro _))
          all_goals first
          | (exfalso; rename_i h; rw [hkd] at h; cases h; done)
          | (refine back_i [.keep [1, 3, 4, 6, 8, 10, 11] [4, 6, 8, 10, 6028, 7028, 8028]] (j + 1, m ++ [Tm.mk k3 n3 y3 z3 (.mk tk3 tn3 ta3) ts3 a3]) rfl ?_ ⟨⟨by simp; omega, by simp; omega⟩, hI⟩ (by simp; omega)
             simp only [w_succ hlt (show aa.length ≤ 9223372036854775807 by omega), ← hset, Tm.c_mk]; first | done | rfl)
          | trace_state
    · have hjl : j = aa.length := by omega
      subst hjl
      have hjd : decide ((aa.length : Int) < ((aa.map (Tm.c false)).length : Int)) = false := by rw [List.length_map]; simp
      rw [List.drop_length, puL] at hI
      repeat' (first
         | refine wp_seq_i ?_ | refine wp_region_t k_l18Put rfl ?_ | refine Run.done rfl ?_ | refine then_n ?_ | refine then_r ?_ | refine then_e ?_ | refine Run.go1 rfl ?_ | refine wp_skip_i ?_ | refine wp_ret_i ?_
         | refine wp_exit_i ?_ | refine wp_block_i ?_ | refine block_n ?_ | refine block_r ?_ | refine block_e ?_ | refine block_o rfl ?_ | refine wp_cond_t rfl ?_ | refine wp_cond_f rfl ?_ | refine Run.one rfl rfl rfl ?_
         | (refine wp_cond_k rfl rfl rfl ?_ ?_ <;> intro _) | (refine wp_cond_i rfl ?_ ?_ <;> intro _))
      all_goals first
      | (exfalso; rename_i h; rw [hjd] at h; cases h; done)
      | (rw [← hI]
         refine ret_m [] rfl rfl ?_
         simp [putTup, Tm.a]; done)
      | trace_state
  termination_by t => SizeOf.sizeOf t
  decreasing_by
    all_goals (have hsz := List.sizeOf_lt_of_mem (List.mem_of_getElem? ht); simp; omega)
end Go.Proofs

set_option linter.unusedVariables false
set_option linter.unusedSimpArgs false
set_option maxHeartbeats 4000000
namespace Go.Proofs
open Go Go.Ev
set_option maxRecDepth 100000
variable {X : Rel3}
def idxQ (p : ByteArray → Bool) : List ByteArray → Nat → Int
  | [], _ => -1
  | t :: r, k => if p t then k else idxQ p r (k + 1)
theorem idxQ_any (p : ByteArray → Bool) : ∀ (l : List ByteArray) (k : Nat), decide (idxQ p l k ≥ 0) = l.any p
  | [], k => by rw [idxQ]; rfl
  | t :: r, k => by
    rw [idxQ, List.any_cons]
    by_cases h : p t = true
    · rw [if_pos h, h, Bool.true_or]; exact decide_eq_true (by omega)
    · rw [if_neg h, Bool.eq_false_iff.2 h, Bool.false_or]; exact idxQ_any p r (k + 1)
def k_IdxQ : List (Nat × List Nat) := [(0, [0, 1]), (1, [0, 1, 7, 8]), (2, [0, 1, 7, 8, 9]), (3, [0, 1, 5, 7, 8]), (4, [0, 1, 5, 7, 8, 16]), (5, [4]), (6, [0, 1, 7, 8]), (7, [4])]
theorem IdxQ_t (l : List ByteArray) (g : FuncId) (hg : modeOf E0.md g = []) (cs : List T) (p : ByteArray → Bool) (hp : ∀ x ∈ l, Tells Try.prog E0 X g [sA x, .t (.pt cs)] (bA (p x))) (hl : l.length ≤ 1048576) : Tells Try.prog E0 X 73 [.t (.sl false (l.map sR)), .t (.fn g [.pt cs])] (iA (idxQ p l 0)) := by
  refine Tells.by Try.func73 (by simp [Try.f73]) (Body.i rfl rfl rfl (fun _ => rfl) fun f => ?_)
  repeat' (first
     | refine wp_seq_i ?_ | refine wp_region_t k_IdxQ rfl ?_ | refine Run.done rfl ?_ | refine then_n ?_ | refine then_r ?_ | refine then_e ?_ | refine Run.go1 rfl ?_ | refine wp_skip_i ?_ | refine wp_ret_i ?_
     | refine wp_exit_i ?_ | refine wp_block_i ?_ | refine block_n ?_ | refine block_r ?_ | refine block_e ?_ | refine block_o rfl ?_ | refine wp_cond_t rfl ?_ | refine wp_cond_f rfl ?_
     | (refine wp_cond_k rfl rfl rfl ?_ ?_ <;> intro _) | (refine wp_cond_i rfl ?_ ?_ <;> intro _))
  refine wp_loop_k (α := Nat) [.keep [0, 1, 7, 8] []] (fun k => [(8, iA k)]) (fun _ => []) (fun _ => []) (fun k => k ≤ l.length ∧ idxQ p (l.drop k) k = idxQ p l 0) (fun k => l.length - k) 0 rfl (fun _ => rfl) rfl ⟨by simp, rfl⟩ ?_
  rintro k ⟨hk, hI⟩
  by_cases hlt : k < l.length
  · obtain ⟨t, ht⟩ : ∃ t, l[k]? = some t := ⟨_, List.getElem?_eq_getElem hlt⟩
    have hT := hp t (List.mem_of_getElem? ht)
    rw [List.drop_eq_getElem_cons hlt, (List.getElem?_eq_some_iff.1 ht).2, idxQ] at hI
    generalize p t = q at hT hI
    have hx : (l.map sR)[k]? = some [sT t] := by rw [List.getElem?_map, ht]; rfl
    repeat' (first
       | refine wp_seq_i ?_ | refine wp_region_t k_IdxQ rfl ?_ | refine Run.done rfl ?_ | refine then_n ?_ | refine then_r ?_ | refine then_e ?_ | refine Run.go1 rfl ?_ | refine wp_skip_i ?_ | refine wp_ret_i ?_
       | refine wp_exit_i ?_ | refine wp_block_i ?_ | refine block_n ?_ | refine block_r ?_ | refine block_e ?_ | refine block_o rfl ?_ | refine wp_cond_t rfl ?_ | refine wp_cond_f rfl ?_
       | refine Run.ix rfl rfl rfl rfl rfl rfl rfl hx rfl rfl rfl ?_ | refine Run.callF rfl rfl rfl hg rfl (hT) rfl rfl ?_ | (refine wp_cond_k rfl rfl rfl ?_ ?_ <;> intro _) | (refine wp_cond_i rfl ?_ ?_ <;> intro _))
    all_goals first
    | (exfalso; rename_i h; simp [hlt] at h; done)
    | (rename_i h
       refine ret_m [] rfl rfl ?_
       rw [← hI, if_pos h]; done)
    | (rename_i h
       refine back_i [.keep [0, 1, 7, 8] []] (k + 1) rfl ?_ ⟨by omega, ?_⟩ (by omega)
       · simp only [w_succ hlt (show l.length ≤ 9223372036854775807 by omega)]
       · rw [← hI, if_neg (by rw [h]; decide)])
    | trace_state
  · have hk : k = l.length := by omega
    subst hk
    simp [idxQ] at hI
    repeat' (first
       | refine wp_seq_i ?_ | refine wp_region_t k_IdxQ rfl ?_ | refine Run.done rfl ?_ | refine then_n ?_ | refine then_r ?_ | refine then_e ?_ | refine Run.go1 rfl ?_ | refine wp_skip_i ?_ | refine wp_ret_i ?_
       | refine wp_exit_i ?_ | refine wp_block_i ?_ | refine block_n ?_ | refine block_r ?_ | refine block_e ?_ | refine block_o rfl ?_ | refine wp_cond_t rfl ?_ | refine wp_cond_f rfl ?_
       | (refine wp_cond_k rfl rfl rfl ?_ ?_ <;> intro _) | (refine wp_cond_i rfl ?_ ?_ <;> intro _))
    all_goals first
    | (exfalso; rename_i h; simp at h; done)
    | (refine ret_m [] rfl rfl ?_; rw [hI]; done)
    | trace_state
theorem ConQ_t (l : List ByteArray) (g : FuncId) (hg : modeOf E0.md g = []) (cs : List T) (p : ByteArray → Bool) (hp : ∀ x ∈ l, Tells Try.prog E0 X g [sA x, .t (.pt cs)] (bA (p x))) (hl : l.length ≤ 1048576) : Tells Try.prog E0 X 63 [.t (.sl false (l.map sR)), .t (.fn g [.pt cs])] (bA (l.any p)) := by
  have hi := idxQ_any p l 0
  refine Tells.by Try.func63 (by simp [Try.f63]) (Body.i rfl rfl rfl (fun _ => rfl) fun f => ?_)
  repeat' (first
     | refine wp_seq_i ?_ | refine wp_region_i ?_ | refine Run.done rfl ?_ | refine then_n ?_ | refine then_r ?_ | refine then_e ?_ | refine Run.go1 rfl ?_ | refine wp_skip_i ?_ | refine wp_ret_i ?_ | refine wp_exit_i ?_
     | refine wp_block_i ?_ | refine block_n ?_ | refine block_r ?_ | refine block_e ?_ | refine block_o rfl ?_ | refine wp_cond_t rfl ?_ | refine wp_cond_f rfl ?_
     | refine Run.call rfl rfl rfl (IdxQ_t l g hg cs p hp hl) rfl rfl ?_ | (refine wp_cond_k rfl rfl rfl ?_ ?_ <;> intro _) | (refine wp_cond_i rfl ?_ ?_ <;> intro _))
  all_goals (refine ret_m [] rfl rfl ?_; rw [← hi])
theorem putIn1_t (y : ByteArray) (fr : List ByteArray) (hfr : fr.length ≤ 900000000) : Tells Try.prog E0 X 64 [sA y, .t (.pt [.sl false (fr.map sR)])] (bA (has fr y)) := by
  have c1 := ConS_t (X := X) fr y (by omega)
  refine Tells.by Try.func64 (by simp [Try.f64]) (Body.i rfl rfl rfl (fun _ => rfl) fun f => ?_)
  repeat' (first
     | refine wp_seq_i ?_ | refine wp_region_i ?_ | refine Run.done rfl ?_ | refine then_n ?_ | refine then_r ?_ | refine then_e ?_ | refine Run.go1 rfl ?_ | refine wp_skip_i ?_ | refine wp_ret_i ?_ | refine wp_exit_i ?_
     | refine wp_block_i ?_ | refine block_n ?_ | refine block_r ?_ | refine block_e ?_ | refine block_o rfl ?_ | refine wp_cond_t rfl ?_ | refine wp_cond_f rfl ?_ | refine Run.call rfl rfl rfl (c1) rfl rfl ?_
     | (refine wp_cond_k rfl rfl rfl ?_ ?_ <;> intro _) | (refine wp_cond_i rfl ?_ ?_ <;> intro _))
  all_goals exact ret_m [] rfl rfl rfl
def k_putIn : List (Nat × List Nat) := [(0, [1, 4, 6, 7, 8]), (1, [1, 4, 6, 7, 8, 24]), (2, [8, 9]), (3, [1, 4, 6, 7, 8, 10]), (4, [1, 4, 6, 7, 8, 10, 30, 31, 32]), (5, [1, 4, 6, 7, 8, 10, 30, 31, 32, 33]), (6, [1, 4, 6, 7, 8, 10, 11, 12, 30, 31, 32]), (7, [1, 4, 6, 7, 8, 10, 11, 12, 13, 30, 31, 32]), (8, [1, 4, 6, 7, 8, 10, 11, 12, 13, 30, 31, 32, 48]), (9, [1, 4, 6, 7, 8, 10, 11, 12, 30, 31, 32, 51]), (10, [8, 9]), (11, [1, 4, 6, 7, 8, 10, 11, 14, 15, 30, 31, 32]), (12, [1, 4, 6, 7, 8, 10, 11, 14, 30, 31, 32, 62]), (13, [8, 9]), (14, [1, 4, 6, 7, 8, 10, 30, 31, 32]), (15, [1, 4, 6, 7, 8, 10, 30, 31, 32]), (16, [8, 9])]
theorem putIn_t (vk vn : Int) (vs vz : ByteArray) (vtk vtn : Int) (vta vts : List Ty) (vaa : List Tm) (hv : (Tm.mk vk vn vs vz (.mk vtk vtn vta) vts vaa).ok) (x : ByteArray) (fr : List ByteArray) (hfr : fr.length ≤ 900000000) : ∀ (t : Tm), t.ok → tmN t ≤ 900000000 → Tells Try.prog E0 X 42 [t.a false, sA x, tmA false vk vn vs vz vtk vtn vta vts vaa, .t (.sl false (fr.map sR))] (putTup (puT t x (Tm.mk vk vn vs vz (.mk vtk vtn vta) vts vaa) fr))
  | .mk kk nn ss zz (.mk tk tn ta) ts aa, hok, hn => by
    have cC := cloneTerm_t (X := X) (.mk kk nn ss zz (.mk tk tn ta) ts aa) hok
    have cV := cloneTerm_t (X := X) (Tm.mk vk vn vs vz (.mk vtk vtn vta) vts vaa) hv
    rw [Tm.ok] at hok
    obtain ⟨l1, l2, l3, l4, l5, l6⟩ := hok
    rw [tmN] at hn
    have hse := str_beq ss x
    refine Tells.by Try.func42 (by simp [Try.f42]) (Body.i rfl rfl rfl (fun _ => rfl) fun f => ?_)
    repeat' (first
       | refine wp_region_tB (id := 1) 24 (decide (kk = 3) && (ss.toList == x.toList)) k_putIn rfl rfl rfl ?_ ?_ | refine wp_seq_i ?_ | refine wp_region_t k_putIn rfl ?_ | refine Run.done rfl ?_ | refine then_n ?_
       | refine then_r ?_ | refine then_e ?_ | refine Run.go1 rfl ?_ | refine wp_skip_i ?_ | refine wp_ret_i ?_ | refine wp_exit_i ?_ | refine wp_block_i ?_ | refine block_n ?_ | refine block_r ?_ | refine block_e ?_
       | refine block_o rfl ?_ | refine wp_cond_t rfl ?_ | refine wp_cond_f rfl ?_ | refine Run.gT rfl rfl rfl rfl ?_ | refine Run.pT rfl rfl ?_ | (refine Run.splitG rfl rfl rfl rfl rfl rfl ?_ ?_ <;> intro _)
       | (refine Run.splitP rfl rfl rfl rfl ?_ ?_ <;> intro _) | refine Run.call rfl rfl rfl (cV) rfl rfl ?_ | refine Run.call rfl rfl rfl (cC) rfl rfl ?_ | refine Run.one rfl rfl rfl ?_
       | (refine wp_cond_k rfl rfl rfl ?_ ?_ <;> intro _) | (refine wp_cond_i rfl ?_ ?_ <;> intro _))
    all_goals first
    | (refine ⟨?_⟩; clear cC cV hse; simp_all; done)
    | (rename_i h
       rw [hse] at h
       have hp : puT (.mk kk nn ss zz (.mk tk tn ta) ts aa) x (Tm.mk vk vn vs vz (.mk vtk vtn vta) vts vaa) fr = some (Tm.mk vk vn vs vz (.mk vtk vtn vta) vts vaa) := by rw [puT, if_pos (by simpa using h)]
       rw [hp]
       exact ret_m [] rfl rfl rfl)
    | skip
    rename_i hB
    rw [hse] at hB
    have hpu : puT (.mk kk nn ss zz (.mk tk tn ta) ts aa) x (Tm.mk vk vn vs vz (.mk vtk vtn vta) vts vaa) fr = match puL aa kk ss zz 0 x (Tm.mk vk vn vs vz (.mk vtk vtn vta) vts vaa) fr with
      | some a' => some (.mk kk nn ss zz (.mk tk tn ta) ts a')
      | none => none := by (rw [puT, if_neg (by simpa using hB)]; first | done | rfl)
    rw [hpu]
    clear hpu hB hse cC cV
    refine wp_loop_k (α := Nat × List Tm) [.keep [1, 4, 6, 7, 8, 10, 30, 31, 32] [4, 6, 7, 8, 10, 6028, 7028, 8028]] (fun p => [(32, iA p.1)]) (fun _ => []) (fun p => [(8028, 0, (p.2 ++ aa.drop p.1).map (Tm.c true))]) (fun p => (p.1 ≤ aa.length ∧ p.2.length = p.1) ∧ (puL (aa.drop p.1) kk ss zz p.1 x (Tm.mk vk vn vs vz (.mk vtk vtn vta) vts vaa) fr).map (p.2 ++ ·) = puL aa kk ss zz 0 x (Tm.mk vk vn vs vz (.mk vtk vtn vta) vts vaa) fr) (fun p => aa.length - p.1) (0, []) rfl (fun _ => rfl) rfl ⟨⟨Nat.zero_le _, rfl⟩, by simp⟩ ?_
    rintro ⟨j, m⟩ ⟨⟨hj, hm⟩, hI⟩
    simp only at hj hm hI
    by_cases hlt : j < aa.length
    · obtain ⟨t, ht⟩ : ∃ t, aa[j]? = some t := ⟨_, List.getElem?_eq_getElem hlt⟩
      have hjd : decide ((j : Int) < ((aa.map (Tm.c false)).length : Int)) = true := by rw [List.length_map]; simpa using hlt
      have hnm := tmNL_mem aa j t ht
      have hbn := bndL_len kk ss zz j
      have hoT := Tm.okL_iff.1 l6 t (List.mem_of_getElem? ht)
      have hdr : aa.drop j = t :: aa.drop (j + 1) := by rw [List.drop_eq_getElem_cons hlt, (List.getElem?_eq_some_iff.1 ht).2]
      have hgo : (m ++ aa.drop j).map (Tm.c true) = ((m ++ [t]) ++ aa.drop (j + 1)).map (Tm.c true) := by rw [hdr]; simp
      have hrow := put_at m aa j t hm ht
      have hset := fun t' => put_rows m aa j t t' hm ht
      rw [hdr, puL] at hI
      have c3 := boundIn_t (X := X) kk nn ss zz tk tn ta ts aa j
      have c4 : Tells Try.prog E0 X 61 [.t (.sl false (shrR ((bndL kk ss zz j).map sR))), sA x] (bA (has (bndL kk ss zz j) x)) := by rw [shr_S]; exact ConS_t _ _ (by omega)
      have c5 := usesIn_t (X := X) t x hoT (by omega)
      have c7 : Tells Try.prog E0 X 63 [.t (.sl false (shrR ((bndL kk ss zz j).map sR))), .t (.fn 64 [.pt [.sl false (fr.map sR)]])] (bA ((bndL kk ss zz j).any (fun y => has fr y))) := by rw [shr_S]; exact ConQ_t _ _ rfl _ _ (fun y _ => putIn1_t y fr hfr) (by omega)
      have hul := usT_le t x
      have c6 := putIn_t vk vn vs vz vtk vtn vta vts vaa hv x fr hfr t hoT (by omega)
      generalize usT t x = u at hI c5 hul
      generalize has (bndL kk ss zz j) x = hb at hI c4
      generalize (bndL kk ss zz j).any (fun y => has fr y) = ha at hI c7
      generalize bndL kk ss zz j = B at c4 c3 hbn c7
      generalize puT t x (Tm.mk vk vn vs vz (.mk vtk vtn vta) vts vaa) fr = pt at hI c6
      obtain ⟨k2, n2, y2, z2, ⟨tk2, tn2, ta2⟩, ts2, a2⟩ := t
      rw [Tm.c_mk] at hrow
      have hx : (aa.map (Tm.c false))[j]? = some [iT k2, iT n2, sT y2, sT z2, iT tk2, iT tn2, .sl false (ta2.map (Ty.c false)), .sl false (ts2.map (Ty.c false)), .sl false (a2.map (Tm.c false))] := by rw [List.getElem?_map, ht]; exact congrArg some (Tm.c_mk ..)
      rcases pt with _ | ⟨k3, n3, y3, z3, ⟨tk3, tn3, ta3⟩, ts3, a3⟩
      all_goals simp only at hI
      repeat' (first
         | refine wp_region_tB (id := 8) 48 (hb || ((u : Int) == 0)) k_putIn rfl rfl rfl ?_ ?_ | refine wp_seq_i ?_ | refine wp_region_t k_putIn rfl ?_ | refine Run.done rfl ?_ | refine then_n ?_ | refine then_r ?_
         | refine then_e ?_ | refine Run.go1 rfl ?_ | refine wp_skip_i ?_ | refine wp_ret_i ?_ | refine wp_exit_i ?_ | refine wp_block_i ?_ | refine block_n ?_ | refine block_r ?_ | refine block_e ?_ | refine block_o rfl ?_
         | refine wp_cond_t rfl ?_ | refine wp_cond_f rfl ?_ | refine Run.gT rfl rfl rfl rfl ?_ | refine Run.pT rfl rfl ?_ | (refine Run.splitG rfl rfl rfl rfl rfl rfl ?_ ?_ <;> intro _)
         | (refine Run.splitP rfl rfl rfl rfl ?_ ?_ <;> intro _) | refine Run.call rfl rfl rfl (c3) rfl rfl ?_ | refine Run.callB rfl rfl rfl (c4) (by simp [AV.own, T.own]) rfl ?_ | refine Run.call rfl rfl rfl (c5) rfl rfl ?_
         | refine Run.callB rfl rfl rfl (c7) (by simp [AV.own, T.own]) rfl ?_ | refine Run.call rfl rfl rfl (c6) rfl rfl ?_ | refine Run.ix rfl rfl rfl rfl rfl rfl rfl hx rfl rfl rfl ?_
         | refine Run.ix rfl rfl rfl rfl rfl rfl rfl hrow rfl rfl rfl ?_ | refine Run.str rfl rfl rfl rfl rfl rfl hrow rfl rfl ?_ | refine Run.one rfl rfl rfl ?_ | (refine wp_cond_k rfl rfl rfl ?_ ?_ <;> intro _)
         | (refine wp_cond_i rfl ?_ ?_ <;> intro _))
      all_goals first
      | (exfalso; rename_i h; rw [hjd] at h; cases h; done)
      | (refine ⟨?_⟩; rename_i h; rw [h]; rfl)
      | (rename_i h
         have h : hb = true ∨ u = 0 := by simp at h; rcases h with h | h
                                          · exact .inl h
                                          · exact .inr (by omega)
         rw [if_pos h, opt_map_map] at hI
         refine back_i [.keep [1, 4, 6, 7, 8, 10, 30, 31, 32] [4, 6, 7, 8, 10, 6028, 7028, 8028]] (j + 1, m ++ [_]) rfl ?_ ⟨⟨by simp; omega, by simp; omega⟩, hI⟩ (by simp; omega)
         simp only [w_succ hlt (show aa.length ≤ 9223372036854775807 by omega), ← hgo]; first | done | rfl)
      | skip
      all_goals (
        rename_i hB h
        have hB : ¬ (hb = true ∨ u = 0) := by simp at hB; rintro (h | h)
                                              · rw [hB.1] at h; cases h
                                              · exact hB.2 (by omega)
        rw [if_neg hB] at hI
        first
        | (have h : ha = true := by simpa using h
           rw [if_pos h] at hI
           rw [← hI]
           exact ret_m [] rfl rfl rfl)
        | (have h : ha = false := by simpa using h
           rw [if_neg (by rw [h]; decide)] at hI
           first
           | (rw [← hI]; exact ret_m [] rfl rfl rfl)
           | (rw [opt_map_map] at hI
              refine back_i [.keep [1, 4, 6, 7, 8, 10, 30, 31, 32] [4, 6, 7, 8, 10, 6028, 7028, 8028]] (j + 1, m ++ [Tm.mk k3 n3 y3 z3 (.mk tk3 tn3 ta3) ts3 a3]) rfl ?_ ⟨⟨by simp; omega, by simp; omega⟩, hI⟩ (by simp; omega)
              simp only [w_succ hlt (show aa.length ≤ 9223372036854775807 by omega), ← hset, Tm.c_mk]; first | done | rfl))
        | trace_state)
    · have hjl : j = aa.length := by omega
      subst hjl
      have hjd : decide ((aa.length : Int) < ((aa.map (Tm.c false)).length : Int)) = false := by rw [List.length_map]; simp
      rw [List.drop_length, puL] at hI
      repeat' (first
         | refine wp_seq_i ?_ | refine wp_region_t k_putIn rfl ?_ | refine Run.done rfl ?_ | refine then_n ?_ | refine then_r ?_ | refine then_e ?_ | refine Run.go1 rfl ?_ | refine wp_skip_i ?_ | refine wp_ret_i ?_
         | refine wp_exit_i ?_ | refine wp_block_i ?_ | refine block_n ?_ | refine block_r ?_ | refine block_e ?_ | refine block_o rfl ?_ | refine wp_cond_t rfl ?_ | refine wp_cond_f rfl ?_ | refine Run.one rfl rfl rfl ?_
         | (refine wp_cond_k rfl rfl rfl ?_ ?_ <;> intro _) | (refine wp_cond_i rfl ?_ ?_ <;> intro _))
      all_goals first
      | (exfalso; rename_i h; rw [hjd] at h; cases h; done)
      | (rw [← hI]
         refine ret_m [] rfl rfl ?_
         simp [putTup, Tm.a]; done)
      | trace_state
  termination_by t => SizeOf.sizeOf t
  decreasing_by
    all_goals (have hsz := List.sizeOf_lt_of_mem (List.mem_of_getElem? ht); simp; omega)
end Go.Proofs

namespace Go.Proofs
open Go Go.Ev
/-- a term in own memory, as it is handed on to be read -/
abbrev tmS (k n : Int) (s z : ByteArray) (tk tn : Int) (ta ts : List Ty) (a : List Tm) : AV := .ag [iA k, iA n, sA s, sA z, iA tk, iA tn, .t (.sl false (shrR (ta.map (Ty.c true)))), .t (.sl false (shrR (ts.map (Ty.c true)))), .t (.sl false (shrR (a.map (Tm.c true))))]
theorem tmS_eq (k n : Int) (s z : ByteArray) (tk tn : Int) (ta ts : List Ty) (a : List Tm) : tmS k n s z tk tn ta ts a = tmA false k n s z tk tn ta ts a := by unfold tmS; rw [shr_Ty, shr_Ty, shr_Tm]
end Go.Proofs

set_option linter.unusedVariables false
set_option linter.unusedSimpArgs false
set_option maxHeartbeats 4000000
namespace Go.Proofs
open Go Go.Ev
set_option maxRecDepth 100000
variable {X : Rel3}
noncomputable def putB (t : Tm) (x : ByteArray) (v : Tm) : Option Tm :=
  if tmB t = true ∧ tmB v = true then match puT t x v (frT v [] []) with
    | some o => if tmB o = true then some o else none
    | none => none
  else none
theorem frT_len0 {v : Tm} (h : tmB v = true) : (frT v [] []).length ≤ 150 := by
  have h1 := frT_len v [] []
  have h2 := (tmB_H h).2.2
  simp at h1; omega
def k_PutForS : List (Nat × List Nat) := [(0, [1, 3, 5, 6]), (1, [1, 3, 5, 6, 17]), (2, [6, 7]), (3, [6, 8, 9]), (4, [6, 8, 36]), (5, [6, 7]), (6, [6, 7])]
theorem PutForS_t (kk nn : Int) (ss zz : ByteArray) (tk tn : Int) (ta ts : List Ty) (aa : List Tm) (vk vn : Int) (vs vz : ByteArray) (vtk vtn : Int) (vta vts : List Ty) (vaa : List Tm) (x : ByteArray) (hok : (Tm.mk kk nn ss zz (.mk tk tn ta) ts aa).ok) (hv : (Tm.mk vk vn vs vz (.mk vtk vtn vta) vts vaa).ok) (hc : cTm (Tm.mk kk nn ss zz (.mk tk tn ta) ts aa) ≤ 1000000000) (hcv : cTm (Tm.mk vk vn vs vz (.mk vtk vtn vta) vts vaa) ≤ 1000000000) (hcc : cTm (Tm.mk kk nn ss zz (.mk tk tn ta) ts aa) + 150 * cTm (Tm.mk vk vn vs vz (.mk vtk vtn vta) vts vaa) ≤ 1000000000) : Tells Try.prog E0 X 15 [tmA false kk nn ss zz tk tn ta ts aa, sA x, tmA false vk vn vs vz vtk vtn vta vts vaa] (putTup (putB (.mk kk nn ss zz (.mk tk tn ta) ts aa) x (Tm.mk vk vn vs vz (.mk vtk vtn vta) vts vaa))) := by
  have c1 := TermOkS_t (X := X) (.mk kk nn ss zz (.mk tk tn ta) ts aa) hok
  have c2 := TermOkS_t (X := X) (Tm.mk vk vn vs vz (.mk vtk vtn vta) vts vaa) hv
  have hpB : putB (.mk kk nn ss zz (.mk tk tn ta) ts aa) x (Tm.mk vk vn vs vz (.mk vtk vtn vta) vts vaa) = if tmB (.mk kk nn ss zz (.mk tk tn ta) ts aa) = true ∧ tmB (Tm.mk vk vn vs vz (.mk vtk vtn vta) vts vaa) = true then match puT (.mk kk nn ss zz (.mk tk tn ta) ts aa) x (Tm.mk vk vn vs vz (.mk vtk vtn vta) vts vaa) (frT (Tm.mk vk vn vs vz (.mk vtk vtn vta) vts vaa) [] []) with
    | some o => if tmB o = true then some o else none
    | none => none
  else none := rfl
  rw [hpB]
  clear hpB
  by_cases hB : tmB (.mk kk nn ss zz (.mk tk tn ta) ts aa) = true ∧ tmB (Tm.mk vk vn vs vz (.mk vtk vtn vta) vts vaa) = true
  · rw [if_pos hB]
    obtain ⟨hB1, hB2⟩ := hB
    rw [hB1] at c1
    rw [hB2] at c2
    obtain ⟨-, -, hN⟩ := tmB_H hB1
    obtain ⟨-, hvD, hvN⟩ := tmB_H hB2
    have hfl := frT_len0 hB2
    have c3 := l2Free_t (X := X) (Tm.mk vk vn vs vz (.mk vtk vtn vta) vts vaa) [] [] hv (by simp; omega) (by simp; omega)
    have c4 := l18Put_t (X := X) vk vn vs vz vtk vtn vta vts vaa hv x (frT (Tm.mk vk vn vs vz (.mk vtk vtn vta) vts vaa) [] []) (by omega) (.mk kk nn ss zz (.mk tk tn ta) ts aa) hok (by omega)
    rcases hp : puT (.mk kk nn ss zz (.mk tk tn ta) ts aa) x (Tm.mk vk vn vs vz (.mk vtk vtn vta) vts vaa) (frT (Tm.mk vk vn vs vz (.mk vtk vtn vta) vts vaa) [] []) with _ | ⟨k3, n3, y3, z3, ⟨tk3, tn3, ta3⟩, ts3, a3⟩
    · rw [hp] at c4
      simp only
      have c4 : Tells Try.prog E0 X 40 [tmA false kk nn ss zz tk tn ta ts aa, sA x, tmA false vk vn vs vz vtk vtn vta vts vaa, .t (.sl false (shrR ((frT (Tm.mk vk vn vs vz (.mk vtk vtn vta) vts vaa) [] []).map sR)))] (putTup none) := by rw [shr_S]; exact c4
      generalize frT (Tm.mk vk vn vs vz (.mk vtk vtn vta) vts vaa) [] [] = q at c3 c4
      have c4own : (putTup none).own := by simp [putTup, Tm.a, Tm.z, AV.own, T.own, AV.own.ownTL, ownCL, ownC, ownR]
      refine Tells.by Try.func15 (by simp [Try.f15]) (Body.i rfl rfl rfl (fun _ => rfl) fun f => ?_)
      repeat' (first
         | refine RepL.done rfl | refine RepL.skip rfl ?_ | refine RepL.one rfl rfl rfl rfl rfl rfl ?_ | refine RunMs.skip rfl ?_ | exact RunMs.nil | exact RunM.done rfl | refine RunM.go ?_
         | refine RunMs.one rfl rfl rfl rfl rfl ?_ ?_ ?_ | refine RunMs.call rfl rfl rfl rfl (c3) (.inr (ownA_S _)) rfl rfl ?_ ?_ ?_ | refine RunMs.call rfl rfl rfl rfl (c4) (.inr c4own) rfl rfl ?_ ?_ ?_
         | refine RunMs.off rfl rfl rfl rfl ?_ ?_ ?_ | refine RepL.off rfl rfl rfl rfl rfl ?_
         | (refine wp_region_m (id := 3) k_PutForS [0, 1, 2, 3] [4, 5, 6, 7, 8, 9, 10, 11, 12] 9 [0, 0, 0, 0, 0, 0, 56, 127, 255, 511, 511, 0, 3071, 8191] rfl (by decide +kernel) rfl rfl rfl ?_; apply Exists.intro; refine And.intro ?_ ?_)
         | refine wp_seq_i ?_ | refine wp_region_t k_PutForS rfl ?_ | refine Run.done rfl ?_ | refine then_n ?_ | refine then_r ?_ | refine then_e ?_ | refine Run.go1 rfl ?_ | refine wp_skip_i ?_ | refine wp_ret_i ?_
         | refine wp_exit_i ?_ | refine wp_block_i ?_ | refine block_n ?_ | refine block_r ?_ | refine block_e ?_ | refine block_o rfl ?_ | refine wp_cond_t rfl ?_ | refine wp_cond_f rfl ?_ | refine RunQ.go1 rfl ?_
         | refine RunQ.done rfl ?_ | refine Run.gT rfl rfl rfl rfl ?_ | refine Run.pT rfl rfl ?_ | (refine Run.splitG rfl rfl rfl rfl rfl rfl ?_ ?_ <;> intro _) | (refine Run.splitP rfl rfl rfl rfl ?_ ?_ <;> intro _)
         | refine RunQ.gT rfl rfl rfl rfl ?_ | refine RunQ.pT rfl rfl ?_ | (refine RunQ.splitG rfl rfl rfl rfl rfl rfl ?_ ?_ <;> intro _) | (refine RunQ.splitP rfl rfl rfl rfl ?_ ?_ <;> intro _)
         | refine Run.call rfl rfl rfl (c1) rfl rfl ?_ | refine Run.call rfl rfl rfl (c2) rfl rfl ?_ | refine Run.one rfl rfl rfl ?_ | (refine wp_cond_k rfl rfl rfl ?_ ?_ <;> intro _) | (refine wp_cond_i rfl ?_ ?_ <;> intro _))
      all_goals first
      | (exact ret_m [] rfl rfl rfl)
      | trace_state
    · obtain ⟨ho, hco⟩ := puT_ok _ _ _ _ _ hok hv hp
      have hco2 : cTm (Tm.mk k3 n3 y3 z3 (.mk tk3 tn3 ta3) ts3 a3) ≤ 1000000000 := by
        refine Nat.le_trans hco (Nat.le_trans ?_ hcc)
        exact Nat.add_le_add_left (Nat.mul_le_mul_right _ hN) _
      rw [hp] at c4
      simp only
      have c4 : Tells Try.prog E0 X 40 [tmA false kk nn ss zz tk tn ta ts aa, sA x, tmA false vk vn vs vz vtk vtn vta vts vaa, .t (.sl false (shrR ((frT (Tm.mk vk vn vs vz (.mk vtk vtn vta) vts vaa) [] []).map sR)))] (putTup (some (Tm.mk k3 n3 y3 z3 (.mk tk3 tn3 ta3) ts3 a3))) := by rw [shr_S]; exact c4
      have c5 : Tells Try.prog E0 X 20 [tmS k3 n3 y3 z3 tk3 tn3 ta3 ts3 a3] (bA (tmB (Tm.mk k3 n3 y3 z3 (.mk tk3 tn3 ta3) ts3 a3))) := by rw [tmS_eq]; exact TermOkS_t _ ho
      generalize frT (Tm.mk vk vn vs vz (.mk vtk vtn vta) vts vaa) [] [] = q at c3 c4
      generalize tmB (Tm.mk k3 n3 y3 z3 (.mk tk3 tn3 ta3) ts3 a3) = ob at c5 ⊢
      clear ho hco hco2 hp
      have c4own : (putTup (some (Tm.mk k3 n3 y3 z3 (.mk tk3 tn3 ta3) ts3 a3))).own := by simp [putTup, Tm.a, AV.own, T.own, AV.own.ownTL, ownCL, ownC, own_Ty, own_Tm]
      refine Tells.by Try.func15 (by simp [Try.f15]) (Body.i rfl rfl rfl (fun _ => rfl) fun f => ?_)
      repeat' (first
         | refine RepL.done rfl | refine RepL.skip rfl ?_ | refine RepL.one rfl rfl rfl rfl rfl rfl ?_ | refine RunMs.skip rfl ?_ | exact RunMs.nil | exact RunM.done rfl | refine RunM.go ?_
         | refine RunMs.one rfl rfl rfl rfl rfl ?_ ?_ ?_ | refine RunMs.call rfl rfl rfl rfl (c3) (.inr (ownA_S _)) rfl rfl ?_ ?_ ?_ | refine RunMs.call rfl rfl rfl rfl (c4) (.inr c4own) rfl rfl ?_ ?_ ?_
         | refine RunMs.off rfl rfl rfl rfl ?_ ?_ ?_ | refine RepL.off rfl rfl rfl rfl rfl ?_
         | (refine wp_region_m (id := 3) k_PutForS [0, 1, 2, 3] [4, 5, 6, 7, 8, 9, 10, 11, 12] 9 [0, 0, 0, 0, 0, 0, 56, 127, 255, 511, 511, 0, 3071, 8191] rfl (by decide +kernel) rfl rfl rfl ?_; apply Exists.intro; refine And.intro ?_ ?_)
         | refine wp_seq_i ?_ | refine wp_region_t k_PutForS rfl ?_ | refine Run.done rfl ?_ | refine then_n ?_ | refine then_r ?_ | refine then_e ?_ | refine Run.go1 rfl ?_ | refine wp_skip_i ?_ | refine wp_ret_i ?_
         | refine wp_exit_i ?_ | refine wp_block_i ?_ | refine block_n ?_ | refine block_r ?_ | refine block_e ?_ | refine block_o rfl ?_ | refine wp_cond_t rfl ?_ | refine wp_cond_f rfl ?_ | refine RunQ.go1 rfl ?_
         | refine RunQ.done rfl ?_ | refine Run.gT rfl rfl rfl rfl ?_ | refine Run.pT rfl rfl ?_ | (refine Run.splitG rfl rfl rfl rfl rfl rfl ?_ ?_ <;> intro _) | (refine Run.splitP rfl rfl rfl rfl ?_ ?_ <;> intro _)
         | refine RunQ.gT rfl rfl rfl rfl ?_ | refine RunQ.pT rfl rfl ?_ | (refine RunQ.splitG rfl rfl rfl rfl rfl rfl ?_ ?_ <;> intro _) | (refine RunQ.splitP rfl rfl rfl rfl ?_ ?_ <;> intro _)
         | refine Run.call rfl rfl rfl (c1) rfl rfl ?_ | refine Run.call rfl rfl rfl (c2) rfl rfl ?_ | refine Run.callB rfl rfl rfl (c5) (by simp [AV.own, T.own]) rfl ?_ | refine Run.one rfl rfl rfl ?_
         | (refine wp_cond_k rfl rfl rfl ?_ ?_ <;> intro _) | (refine wp_cond_i rfl ?_ ?_ <;> intro _))
      all_goals first
      | (rename_i h
         have h : ob = false := by simpa using h
         rw [h]
         exact ret_m [] rfl rfl rfl)
      | (rename_i h
         have h : ob = true := by simpa using h
         rw [h]
         refine ret_m [] rfl rfl ?_
         simp [putTup, Tm.a]; done)
      | trace_state
  · rw [if_neg hB]
    generalize tmB (.mk kk nn ss zz (.mk tk tn ta) ts aa) = b1 at c1 hB
    generalize tmB (Tm.mk vk vn vs vz (.mk vtk vtn vta) vts vaa) = b2 at c2 hB
    refine Tells.by Try.func15 (by simp [Try.f15]) (Body.i rfl rfl rfl (fun _ => rfl) fun f => ?_)
    repeat' (first
       | refine wp_region_tB (id := 1) 17 (!b1 || !b2) k_PutForS rfl rfl rfl ?_ ?_ | refine wp_seq_i ?_ | refine wp_region_t k_PutForS rfl ?_ | refine Run.done rfl ?_ | refine then_n ?_ | refine then_r ?_ | refine then_e ?_
       | refine Run.go1 rfl ?_ | refine wp_skip_i ?_ | refine wp_ret_i ?_ | refine wp_exit_i ?_ | refine wp_block_i ?_ | refine block_n ?_ | refine block_r ?_ | refine block_e ?_ | refine block_o rfl ?_ | refine wp_cond_t rfl ?_
       | refine wp_cond_f rfl ?_ | refine Run.gT rfl rfl rfl rfl ?_ | refine Run.pT rfl rfl ?_ | (refine Run.splitG rfl rfl rfl rfl rfl rfl ?_ ?_ <;> intro _) | (refine Run.splitP rfl rfl rfl rfl ?_ ?_ <;> intro _)
       | refine Run.call rfl rfl rfl (c1) rfl rfl ?_ | refine Run.call rfl rfl rfl (c2) rfl rfl ?_ | refine Run.one rfl rfl rfl ?_ | (refine wp_cond_k rfl rfl rfl ?_ ?_ <;> intro _) | (refine wp_cond_i rfl ?_ ?_ <;> intro _))
    all_goals first
    | (refine ⟨?_⟩; rename_i h; rw [h]; rfl)
    | (exact ret_m [] rfl rfl rfl)
    | (exfalso; simp_all; done)
    | trace_state
def k_PutForI : List (Nat × List Nat) := [(0, [1, 3, 5, 6]), (1, [1, 3, 5, 6, 17]), (2, [6, 7]), (3, [6, 8, 9]), (4, [6, 8, 34]), (5, [6, 7]), (6, [6, 7])]
theorem PutForI_t (kk nn : Int) (ss zz : ByteArray) (tk tn : Int) (ta ts : List Ty) (aa : List Tm) (vk vn : Int) (vs vz : ByteArray) (vtk vtn : Int) (vta vts : List Ty) (vaa : List Tm) (x : ByteArray) (hok : (Tm.mk kk nn ss zz (.mk tk tn ta) ts aa).ok) (hv : (Tm.mk vk vn vs vz (.mk vtk vtn vta) vts vaa).ok) (hc : cTm (Tm.mk kk nn ss zz (.mk tk tn ta) ts aa) ≤ 1000000000) (hcv : cTm (Tm.mk vk vn vs vz (.mk vtk vtn vta) vts vaa) ≤ 1000000000) (hcc : cTm (Tm.mk kk nn ss zz (.mk tk tn ta) ts aa) + 150 * cTm (Tm.mk vk vn vs vz (.mk vtk vtn vta) vts vaa) ≤ 1000000000) : Tells Try.prog E0 XK 16 [tmA false kk nn ss zz tk tn ta ts aa, sA x, tmA false vk vn vs vz vtk vtn vta vts vaa] (putTup (putB (.mk kk nn ss zz (.mk tk tn ta) ts aa) x (Tm.mk vk vn vs vz (.mk vtk vtn vta) vts vaa))) := by
  have c1 := TermOkI_t (X := XK) (.mk kk nn ss zz (.mk tk tn ta) ts aa) hok hc
  have c2 := TermOkI_t (X := XK) (Tm.mk vk vn vs vz (.mk vtk vtn vta) vts vaa) hv hcv
  have hpB : putB (.mk kk nn ss zz (.mk tk tn ta) ts aa) x (Tm.mk vk vn vs vz (.mk vtk vtn vta) vts vaa) = if tmB (.mk kk nn ss zz (.mk tk tn ta) ts aa) = true ∧ tmB (Tm.mk vk vn vs vz (.mk vtk vtn vta) vts vaa) = true then match puT (.mk kk nn ss zz (.mk tk tn ta) ts aa) x (Tm.mk vk vn vs vz (.mk vtk vtn vta) vts vaa) (frT (Tm.mk vk vn vs vz (.mk vtk vtn vta) vts vaa) [] []) with
    | some o => if tmB o = true then some o else none
    | none => none
  else none := rfl
  rw [hpB]
  clear hpB
  by_cases hB : tmB (.mk kk nn ss zz (.mk tk tn ta) ts aa) = true ∧ tmB (Tm.mk vk vn vs vz (.mk vtk vtn vta) vts vaa) = true
  · rw [if_pos hB]
    obtain ⟨hB1, hB2⟩ := hB
    rw [hB1] at c1
    rw [hB2] at c2
    obtain ⟨-, -, hN⟩ := tmB_H hB1
    obtain ⟨-, hvD, hvN⟩ := tmB_H hB2
    have hfl := frT_len0 hB2
    have c3 := FreeOfI_t (Tm.mk vk vn vs vz (.mk vtk vtn vta) vts vaa) hv hcv hB2
    have c4 := putIn_t (X := XK) vk vn vs vz vtk vtn vta vts vaa hv x (frT (Tm.mk vk vn vs vz (.mk vtk vtn vta) vts vaa) [] []) (by omega) (.mk kk nn ss zz (.mk tk tn ta) ts aa) hok (by omega)
    rcases hp : puT (.mk kk nn ss zz (.mk tk tn ta) ts aa) x (Tm.mk vk vn vs vz (.mk vtk vtn vta) vts vaa) (frT (Tm.mk vk vn vs vz (.mk vtk vtn vta) vts vaa) [] []) with _ | ⟨k3, n3, y3, z3, ⟨tk3, tn3, ta3⟩, ts3, a3⟩
    · rw [hp] at c4
      simp only
      have c4 : Tells Try.prog E0 XK 42 [tmA false kk nn ss zz tk tn ta ts aa, sA x, tmA false vk vn vs vz vtk vtn vta vts vaa, .t (.sl false (shrR ((frT (Tm.mk vk vn vs vz (.mk vtk vtn vta) vts vaa) [] []).map sR)))] (putTup none) := by rw [shr_S]; exact c4
      generalize frT (Tm.mk vk vn vs vz (.mk vtk vtn vta) vts vaa) [] [] = q at c3 c4
      have c4own : (putTup none).own := by simp [putTup, Tm.a, Tm.z, AV.own, T.own, AV.own.ownTL, ownCL, ownC, ownR]
      refine Tells.by Try.func16 (by simp [Try.f16]) (Body.i rfl rfl rfl (fun _ => rfl) fun f => ?_)
      repeat' (first
         | refine RepL.done rfl | refine RepL.skip rfl ?_ | refine RepL.one rfl rfl rfl rfl rfl rfl ?_ | refine RunMs.skip rfl ?_ | exact RunMs.nil | exact RunM.done rfl | refine RunM.go ?_
         | refine RunMs.one rfl rfl rfl rfl rfl ?_ ?_ ?_ | refine RunMs.call rfl rfl rfl rfl (c3) (.inl rfl) rfl rfl ?_ ?_ ?_ | refine RunMs.call rfl rfl rfl rfl (c4) (.inr c4own) rfl rfl ?_ ?_ ?_
         | refine RunMs.off rfl rfl rfl rfl ?_ ?_ ?_ | refine RepL.off rfl rfl rfl rfl rfl ?_
         | (refine wp_region_m (id := 3) k_PutForI [0, 1, 2, 3] [4, 5, 6, 7, 8, 9, 10] 7 [0, 0, 0, 0, 8, 31, 63, 127, 127, 0, 767, 2047] rfl (by decide +kernel) rfl rfl rfl ?_; apply Exists.intro; refine And.intro ?_ ?_)
         | refine wp_seq_i ?_ | refine wp_region_t k_PutForI rfl ?_ | refine Run.done rfl ?_ | refine then_n ?_ | refine then_r ?_ | refine then_e ?_ | refine Run.go1 rfl ?_ | refine wp_skip_i ?_ | refine wp_ret_i ?_
         | refine wp_exit_i ?_ | refine wp_block_i ?_ | refine block_n ?_ | refine block_r ?_ | refine block_e ?_ | refine block_o rfl ?_ | refine wp_cond_t rfl ?_ | refine wp_cond_f rfl ?_ | refine RunQ.go1 rfl ?_
         | refine RunQ.done rfl ?_ | refine Run.gT rfl rfl rfl rfl ?_ | refine Run.pT rfl rfl ?_ | (refine Run.splitG rfl rfl rfl rfl rfl rfl ?_ ?_ <;> intro _) | (refine Run.splitP rfl rfl rfl rfl ?_ ?_ <;> intro _)
         | refine RunQ.gT rfl rfl rfl rfl ?_ | refine RunQ.pT rfl rfl ?_ | (refine RunQ.splitG rfl rfl rfl rfl rfl rfl ?_ ?_ <;> intro _) | (refine RunQ.splitP rfl rfl rfl rfl ?_ ?_ <;> intro _)
         | refine Run.call rfl rfl rfl (c1) rfl rfl ?_ | refine Run.call rfl rfl rfl (c2) rfl rfl ?_ | refine Run.one rfl rfl rfl ?_ | (refine wp_cond_k rfl rfl rfl ?_ ?_ <;> intro _) | (refine wp_cond_i rfl ?_ ?_ <;> intro _))
      all_goals first
      | (exact ret_m [] rfl rfl rfl)
      | trace_state
    · obtain ⟨ho, hco⟩ := puT_ok _ _ _ _ _ hok hv hp
      have hco2 : cTm (Tm.mk k3 n3 y3 z3 (.mk tk3 tn3 ta3) ts3 a3) ≤ 1000000000 := by
        refine Nat.le_trans hco (Nat.le_trans ?_ hcc)
        exact Nat.add_le_add_left (Nat.mul_le_mul_right _ hN) _
      rw [hp] at c4
      simp only
      have c4 : Tells Try.prog E0 XK 42 [tmA false kk nn ss zz tk tn ta ts aa, sA x, tmA false vk vn vs vz vtk vtn vta vts vaa, .t (.sl false (shrR ((frT (Tm.mk vk vn vs vz (.mk vtk vtn vta) vts vaa) [] []).map sR)))] (putTup (some (Tm.mk k3 n3 y3 z3 (.mk tk3 tn3 ta3) ts3 a3))) := by rw [shr_S]; exact c4
      have c5 : Tells Try.prog E0 XK 26 [tmS k3 n3 y3 z3 tk3 tn3 ta3 ts3 a3] (bA (tmB (Tm.mk k3 n3 y3 z3 (.mk tk3 tn3 ta3) ts3 a3))) := by rw [tmS_eq]; exact TermOkI_t _ ho hco2
      generalize frT (Tm.mk vk vn vs vz (.mk vtk vtn vta) vts vaa) [] [] = q at c3 c4
      generalize tmB (Tm.mk k3 n3 y3 z3 (.mk tk3 tn3 ta3) ts3 a3) = ob at c5 ⊢
      clear ho hco hco2 hp
      have c4own : (putTup (some (Tm.mk k3 n3 y3 z3 (.mk tk3 tn3 ta3) ts3 a3))).own := by simp [putTup, Tm.a, AV.own, T.own, AV.own.ownTL, ownCL, ownC, own_Ty, own_Tm]
      refine Tells.by Try.func16 (by simp [Try.f16]) (Body.i rfl rfl rfl (fun _ => rfl) fun f => ?_)
      repeat' (first
         | refine RepL.done rfl | refine RepL.skip rfl ?_ | refine RepL.one rfl rfl rfl rfl rfl rfl ?_ | refine RunMs.skip rfl ?_ | exact RunMs.nil | exact RunM.done rfl | refine RunM.go ?_
         | refine RunMs.one rfl rfl rfl rfl rfl ?_ ?_ ?_ | refine RunMs.call rfl rfl rfl rfl (c3) (.inl rfl) rfl rfl ?_ ?_ ?_ | refine RunMs.call rfl rfl rfl rfl (c4) (.inr c4own) rfl rfl ?_ ?_ ?_
         | refine RunMs.off rfl rfl rfl rfl ?_ ?_ ?_ | refine RepL.off rfl rfl rfl rfl rfl ?_
         | (refine wp_region_m (id := 3) k_PutForI [0, 1, 2, 3] [4, 5, 6, 7, 8, 9, 10] 7 [0, 0, 0, 0, 8, 31, 63, 127, 127, 0, 767, 2047] rfl (by decide +kernel) rfl rfl rfl ?_; apply Exists.intro; refine And.intro ?_ ?_)
         | refine wp_seq_i ?_ | refine wp_region_t k_PutForI rfl ?_ | refine Run.done rfl ?_ | refine then_n ?_ | refine then_r ?_ | refine then_e ?_ | refine Run.go1 rfl ?_ | refine wp_skip_i ?_ | refine wp_ret_i ?_
         | refine wp_exit_i ?_ | refine wp_block_i ?_ | refine block_n ?_ | refine block_r ?_ | refine block_e ?_ | refine block_o rfl ?_ | refine wp_cond_t rfl ?_ | refine wp_cond_f rfl ?_ | refine RunQ.go1 rfl ?_
         | refine RunQ.done rfl ?_ | refine Run.gT rfl rfl rfl rfl ?_ | refine Run.pT rfl rfl ?_ | (refine Run.splitG rfl rfl rfl rfl rfl rfl ?_ ?_ <;> intro _) | (refine Run.splitP rfl rfl rfl rfl ?_ ?_ <;> intro _)
         | refine RunQ.gT rfl rfl rfl rfl ?_ | refine RunQ.pT rfl rfl ?_ | (refine RunQ.splitG rfl rfl rfl rfl rfl rfl ?_ ?_ <;> intro _) | (refine RunQ.splitP rfl rfl rfl rfl ?_ ?_ <;> intro _)
         | refine Run.call rfl rfl rfl (c1) rfl rfl ?_ | refine Run.call rfl rfl rfl (c2) rfl rfl ?_ | refine Run.callB rfl rfl rfl (c5) (by simp [AV.own, T.own]) rfl ?_ | refine Run.one rfl rfl rfl ?_
         | (refine wp_cond_k rfl rfl rfl ?_ ?_ <;> intro _) | (refine wp_cond_i rfl ?_ ?_ <;> intro _))
      all_goals first
      | (rename_i h
         have h : ob = false := by simpa using h
         rw [h]
         exact ret_m [] rfl rfl rfl)
      | (rename_i h
         have h : ob = true := by simpa using h
         rw [h]
         refine ret_m [] rfl rfl ?_
         simp [putTup, Tm.a]; done)
      | trace_state
  · rw [if_neg hB]
    generalize tmB (.mk kk nn ss zz (.mk tk tn ta) ts aa) = b1 at c1 hB
    generalize tmB (Tm.mk vk vn vs vz (.mk vtk vtn vta) vts vaa) = b2 at c2 hB
    refine Tells.by Try.func16 (by simp [Try.f16]) (Body.i rfl rfl rfl (fun _ => rfl) fun f => ?_)
    repeat' (first
       | refine wp_region_tB (id := 1) 17 (!b1 || !b2) k_PutForI rfl rfl rfl ?_ ?_ | refine wp_seq_i ?_ | refine wp_region_t k_PutForI rfl ?_ | refine Run.done rfl ?_ | refine then_n ?_ | refine then_r ?_ | refine then_e ?_
       | refine Run.go1 rfl ?_ | refine wp_skip_i ?_ | refine wp_ret_i ?_ | refine wp_exit_i ?_ | refine wp_block_i ?_ | refine block_n ?_ | refine block_r ?_ | refine block_e ?_ | refine block_o rfl ?_ | refine wp_cond_t rfl ?_
       | refine wp_cond_f rfl ?_ | refine Run.gT rfl rfl rfl rfl ?_ | refine Run.pT rfl rfl ?_ | (refine Run.splitG rfl rfl rfl rfl rfl rfl ?_ ?_ <;> intro _) | (refine Run.splitP rfl rfl rfl rfl ?_ ?_ <;> intro _)
       | refine Run.call rfl rfl rfl (c1) rfl rfl ?_ | refine Run.call rfl rfl rfl (c2) rfl rfl ?_ | refine Run.one rfl rfl rfl ?_ | (refine wp_cond_k rfl rfl rfl ?_ ?_ <;> intro _) | (refine wp_cond_i rfl ?_ ?_ <;> intro _))
    all_goals first
    | (refine ⟨?_⟩; rename_i h; rw [h]; rfl)
    | (exact ret_m [] rfl rfl rfl)
    | (exfalso; simp_all; done)
    | trace_state
end Go.Proofs

set_option linter.unusedVariables false
set_option linter.unusedSimpArgs false
set_option maxHeartbeats 4000000
namespace Go.Proofs
open Go Go.Ev
set_option maxRecDepth 100000
mutual
theorem szTy_c : ∀ {t : Ty} {n : Int}, Ty.len t → 0 ≤ n → n ≤ 1048576 → 0 ≤ szTy t n → (cTy t : Int) + 2 * szTy t n ≤ 2 * n + 2
  | .mk k m a, n, hl, h0, h1, h => by
    rw [Ty.len] at hl
    rw [szTy, lw_eq h0 (by omega) hl.1] at h ⊢
    split at h
    · omega
    · rename_i hn
      rw [if_neg hn]
      have h2 := szTyL_c hl.2 (by omega) (by omega) h
      rw [cTy]
      omega
theorem szTyL_c : ∀ {l : List Ty} {n : Int}, Ty.lenL l → 0 ≤ n → n ≤ 1048576 → 0 ≤ szTyL l n → (cTyL l : Int) + 2 * szTyL l n ≤ 2 * n + 2 * l.length
  | [], n, _, h0, h1, h => by rw [cTyL, szTyL]; simp
  | t :: r, n, hl, h0, h1, h => by
    rw [Ty.lenL] at hl
    rw [szTyL] at h ⊢
    split at h
    · omega
    · rename_i hn
      rw [if_neg hn]
      have h2 := szTy_c (t := t) hl.1 h0 h1 (by omega)
      have h3 := (szTy_ok (t := t) hl.1 h0 h1 (by omega)).2
      have h4 := szTyL_c (l := r) hl.2 (by omega) (by omega) h
      rw [cTyL]
      simp only [List.length_cons]
      omega
end
theorem szTyS_c {l : List Ty} {n : Int} (hl : l.length ≤ 9223372036854775807 ∧ Ty.lenL l) (h0 : 0 ≤ n) (h1 : n ≤ 1048576) (h : 0 ≤ szTyS l n) : (cTyL l : Int) + 2 * szTyS l n ≤ 2 * n := by
  unfold szTyS at h ⊢
  rw [lw_eq h0 (by omega) hl.1] at h ⊢
  split at h
  · omega
  · rename_i hn
    rw [if_neg hn]
    have h2 := szTyL_c hl.2 (by omega) (by omega) h
    omega
mutual
theorem szTm_c : ∀ {t : Tm} {n : Int}, Tm.len t → 0 ≤ n → n ≤ 1048576 → 0 ≤ szTm t n → (cTm t : Int) + 6 * szTm t n ≤ 6 * n + 6
  | .mk k m s z t ts a, n, hl, h0, h1, h => by
    rw [Tm.len] at hl
    obtain ⟨l1, l2, l3, l4, l5, l6⟩ := hl
    rw [szTm] at h ⊢
    try simp only at h ⊢
    rw [lw_eq h0 (by omega) l1] at h ⊢
    split at h
    · omega
    rename_i e1
    rw [if_neg e1]
    rw [lw_eq (n := n - s.size) (by omega) (by omega) l2] at h ⊢
    split at h
    · omega
    rename_i e2
    rw [if_neg e2]
    split at h
    · omega
    rename_i e3
    rw [if_neg e3]
    have b2 := (szTy_ok (t := t) l3 (by omega) (by omega) (by omega : 0 ≤ szTy t (n - s.size - z.size))).2
    have d2 := szTy_c (t := t) l3 (by omega) (by omega) (by omega : 0 ≤ szTy t (n - s.size - z.size))
    split at h
    · omega
    rename_i e4
    rw [if_neg e4]
    have b4 := (szTyS_ok (l := ts) l4 (by omega) (by omega) (by omega : 0 ≤ szTyS ts (szTy t (n - s.size - z.size)))).2
    have d4 := szTyS_c (l := ts) l4 (by omega) (by omega) (by omega : 0 ≤ szTyS ts (szTy t (n - s.size - z.size)))
    rw [lw_eq (n := szTyS ts (szTy t (n - s.size - z.size))) (by omega) (by omega) l5] at h ⊢
    split at h
    · omega
    rename_i e5
    rw [if_neg e5]
    have d6 := szTmL_c l6 (by omega) (by omega) h
    rw [cTm]
    omega
theorem szTmL_c : ∀ {l : List Tm} {n : Int}, Tm.lenL l → 0 ≤ n → n ≤ 1048576 → 0 ≤ szTmL l n → (cTmL l : Int) + 6 * szTmL l n ≤ 6 * n + 6 * l.length
  | [], n, _, h0, h1, h => by rw [cTmL, szTmL]; simp
  | t :: r, n, hl, h0, h1, h => by
    rw [Tm.lenL] at hl
    rw [szTmL] at h ⊢
    split at h
    · omega
    · rename_i hn
      rw [if_neg hn]
      have h2 := szTm_c (t := t) hl.1 h0 h1 (by omega)
      have h3 := (szTm_ok (t := t) hl.1 h0 h1 (by omega)).2
      have h4 := szTmL_c (l := r) hl.2 (by omega) (by omega) h
      rw [cTmL]
      simp only [List.length_cons]
      omega
end
end Go.Proofs

set_option linter.unusedVariables false
set_option linter.unusedSimpArgs false
set_option maxHeartbeats 4000000
namespace Go.Proofs
open Go Go.Ev
set_option maxRecDepth 100000
variable {X : Rel3}
theorem Run.adjwAt {Φ : Rel3} {E : Env} {all : List Oper} {D : List Nat} {lo : Option (List Nat)} {rest : List Oper} {s : St} {K : St → Prop} (d : Nat) {op : Op} {ty : Nat} {pos : String} {after : Array Edge} {g : Option (Nat × Bool)}
  (h : AdjW (fun s1 => Run Φ E all D lo (⟨some d, op, ty, pos, after, g⟩ :: rest) s1 K) s) : Run Φ E all D lo (⟨some d, op, ty, pos, after, g⟩ :: rest) s K := Run.adjw h
/-- what is put together, and whether -/
def putR : Option Tm → Tm × Bool
  | some t => (t, true)
  | none => (Tm.z, false)
theorem putR_tup (q : Option Tm) : putTup q = .tp [(putR q).1.a true, bA (putR q).2] := by cases q <;> rfl
theorem putB_ok {t v : Tm} {x : ByteArray} (ht : t.ok) (hv : v.ok) : (putR (putB t x v)).1.ok ∧ cTm (putR (putB t x v)).1 ≤ 6 + (cTm t + 150 * cTm v) := by
  have hz : Tm.z.ok ∧ cTm Tm.z = 6 := by
    refine ⟨?_, by rfl⟩
    unfold Tm.z
    rw [Tm.ok, Ty.ok]
    exact ⟨by decide, by decide, ⟨by decide, trivial⟩, ⟨by decide, trivial⟩, by decide, trivial⟩
  have h0 : (putR none).1.ok ∧ cTm (putR none).1 ≤ 6 + (cTm t + 150 * cTm v) := ⟨hz.1, by rw [show (putR none).1 = Tm.z from rfl, hz.2]; omega⟩
  unfold putB
  split
  · rename_i hB
    obtain ⟨-, -, hN⟩ := tmB_H hB.1
    split
    · rename_i q hp
      obtain ⟨h1, h2⟩ := puT_ok _ _ _ _ _ ht hv hp
      split
      · refine ⟨h1, Nat.le_trans h2 ?_⟩
        have := Nat.mul_le_mul_right (cTm v) hN
        omega
      · exact h0
    · exact h0
  · exact h0
def k_lawPf : List (Nat × List Nat) := [(0, [1, 3, 5]), (1, [1, 3, 5, 21]), (2, [6]), (3, [1, 3, 5, 7]), (4, [1, 3, 5, 7]), (5, [1, 3, 5, 7, 26]), (6, [6]), (7, [1, 3, 5, 7]), (8, [1, 3, 5, 31]), (9, [6]), (10, [1, 3, 5, 8, 9]), (11, [1, 3, 5, 8, 9, 10]), (12, [1, 3, 5, 8, 9, 10, 11]), (13, [1, 3, 5, 8, 9, 10, 11, 12, 13]), (14, [1, 3, 5, 8, 9, 10, 11, 12, 13, 60]), (15, [6]), (16, [1, 3, 5, 8, 9, 10, 11, 12, 13, 65]), (17, [6]), (18, [1, 3, 5, 8, 9, 10, 11, 12, 13, 70]), (19, [6]), (20, [1, 3, 5, 8, 9, 10, 11, 12, 13, 14]), (21, [1, 3, 5, 8, 9, 11, 12, 13, 14]), (22, [1, 3, 5, 8, 9, 12, 13, 14]), (23, [1, 3, 5, 8, 9, 12, 89]), (24, [6]), (25, [1, 3, 5, 8, 9, 12, 15]), (26, [1, 3, 5, 8, 9, 12, 15]), (27, [1, 3, 5, 8, 9, 12, 15, 16]), (28, [1, 3, 5, 8, 9, 12, 15, 16]), (29, [1, 3, 5, 8, 9, 12, 15, 16, 97]), (30, [6]), (31, [1, 3, 5, 8, 9, 12, 15, 100]), (32, [6]), (33, [8, 9, 12, 15, 17, 18]), (34, [12, 15, 118]), (35, [6]), (36, [12, 15, 16]), (37, [15, 16]), (38, [15, 16, 123]), (39, [6]), (40, [126]), (41, [6]), (42, [6])]
theorem lawPf_t (t : Tm) (x : ByteArray) (v : Tm) (hl : t.len) (hx : x.size ≤ 9223372036854775807) (hlv : v.len) : Tells Try.prog E0 XK 5 [t.a false, sA x, v.a false] (bA true) := by
  by_cases hxs : (x.size : Int) > 1048576
  · have hnd : decide ((x.size : Int) > 1048576) = true := decide_eq_true hxs
    have hnx := hnd
    have hnn := hnd
    obtain ⟨kk, nn, ss, zz, ⟨tk, tn, ta⟩, ts, aa⟩ := t
    obtain ⟨vk, vn, vs, vz, ⟨vtk, vtn, vta⟩, vts, vaa⟩ := v
    refine Tells.by Try.func5 (by simp [Try.f5]) (Body.i rfl rfl rfl (fun _ => rfl) fun f => ?_)
    repeat' (first
       | refine wp_seq_i ?_ | refine wp_region_t k_lawPf rfl ?_ | refine Run.done rfl ?_ | refine then_n ?_ | refine then_r ?_ | refine then_e ?_ | refine Run.go1 rfl ?_ | refine wp_skip_i ?_ | refine wp_ret_i ?_
       | refine wp_exit_i ?_ | refine wp_block_i ?_ | refine block_n ?_ | refine block_r ?_ | refine block_e ?_ | refine block_o rfl ?_ | refine wp_cond_t rfl ?_ | refine wp_cond_f rfl ?_ | refine Run.one rfl rfl rfl ?_
       | (refine wp_cond_k rfl rfl rfl ?_ ?_ <;> intro _) | (refine wp_cond_i rfl ?_ ?_ <;> intro _))
    all_goals first
    | (exact ret_m [] rfl rfl rfl)
    | (exfalso; rename_i h; rw [hnd] at h; cases h; done)
    | (exfalso; rename_i h; rw [hnx] at h; cases h; done)
    | (exfalso; rename_i h; rw [hnn] at h; cases h; done)
    | trace_state
  have hnx : decide ((x.size : Int) > 1048576) = false := decide_eq_false hxs
  have cZ := szTm_t (X := XK) t 1048576 hl
  have hcc := szTm_c (t := t) (n := 1048576) hl (by omega) (by omega)
  have hkk := szTm_ok (t := t) (n := 1048576) hl (by omega) (by omega)
  generalize szTm t 1048576 = left at cZ hcc hkk
  by_cases hneg : left < 0
  · have hnd : decide (left < 0) = true := decide_eq_true hneg
    have hnn := hnd
    obtain ⟨kk, nn, ss, zz, ⟨tk, tn, ta⟩, ts, aa⟩ := t
    obtain ⟨vk, vn, vs, vz, ⟨vtk, vtn, vta⟩, vts, vaa⟩ := v
    refine Tells.by Try.func5 (by simp [Try.f5]) (Body.i rfl rfl rfl (fun _ => rfl) fun f => ?_)
    repeat' (first
       | refine wp_seq_i ?_ | refine wp_region_t k_lawPf rfl ?_ | refine Run.done rfl ?_ | refine then_n ?_ | refine then_r ?_ | refine then_e ?_ | refine Run.go1 rfl ?_ | refine wp_skip_i ?_ | refine wp_ret_i ?_
       | refine wp_exit_i ?_ | refine wp_block_i ?_ | refine block_n ?_ | refine block_r ?_ | refine block_e ?_ | refine block_o rfl ?_ | refine wp_cond_t rfl ?_ | refine wp_cond_f rfl ?_
       | refine Run.call rfl rfl rfl (cZ) rfl rfl ?_ | refine Run.one rfl rfl rfl ?_ | (refine wp_cond_k rfl rfl rfl ?_ ?_ <;> intro _) | (refine wp_cond_i rfl ?_ ?_ <;> intro _))
    all_goals first
    | (exact ret_m [] rfl rfl rfl)
    | (exfalso; rename_i h; rw [hnd] at h; cases h; done)
    | (exfalso; rename_i h; rw [hnx] at h; cases h; done)
    | (exfalso; rename_i h; rw [hnn] at h; cases h; done)
    | trace_state
  have hnn : decide (left < 0) = false := decide_eq_false hneg
  have hle := (hkk (by omega)).2
  have cZ2 := szTm_t (X := XK) v left hlv
  have hcc2 := szTm_c (t := v) (n := left) hlv (by omega) (by omega)
  have hkk2 := szTm_ok (t := v) (n := left) hlv (by omega) (by omega)
  generalize szTm v left = left2 at cZ2 hcc2 hkk2
  by_cases hneg2 : left2 < 0
  · have hnd : decide (left2 < 0) = true := decide_eq_true hneg2
    obtain ⟨kk, nn, ss, zz, ⟨tk, tn, ta⟩, ts, aa⟩ := t
    obtain ⟨vk, vn, vs, vz, ⟨vtk, vtn, vta⟩, vts, vaa⟩ := v
    refine Tells.by Try.func5 (by simp [Try.f5]) (Body.i rfl rfl rfl (fun _ => rfl) fun f => ?_)
    repeat' (first
       | refine wp_seq_i ?_ | refine wp_region_t k_lawPf rfl ?_ | refine Run.done rfl ?_ | refine then_n ?_ | refine then_r ?_ | refine then_e ?_ | refine Run.go1 rfl ?_ | refine wp_skip_i ?_ | refine wp_ret_i ?_
       | refine wp_exit_i ?_ | refine wp_block_i ?_ | refine block_n ?_ | refine block_r ?_ | refine block_e ?_ | refine block_o rfl ?_ | refine wp_cond_t rfl ?_ | refine wp_cond_f rfl ?_
       | refine Run.call rfl rfl rfl (cZ) rfl rfl ?_ | refine Run.call rfl rfl rfl (cZ2) rfl rfl ?_ | refine Run.one rfl rfl rfl ?_ | (refine wp_cond_k rfl rfl rfl ?_ ?_ <;> intro _) | (refine wp_cond_i rfl ?_ ?_ <;> intro _))
    all_goals first
    | (exact ret_m [] rfl rfl rfl)
    | (exfalso; rename_i h; rw [hnd] at h; cases h; done)
    | (exfalso; rename_i h; rw [hnx] at h; cases h; done)
    | (exfalso; rename_i h; rw [hnn] at h; cases h; done)
    | trace_state
  have hn2 : decide (left2 < 0) = false := decide_eq_false hneg2
  have hok := (hkk (by omega)).1
  have hov := (hkk2 (by omega)).1
  have hc1 := hcc (by omega)
  have hc2 := hcc2 (by omega)
  have hsum : cTm t + cTm v ≤ 6291468 := by omega
  have hc : cTm t + 150 * cTm v ≤ 943720200 := by omega
  obtain ⟨hqo, hqc⟩ := putB_ok (x := x) hok hov
  have cT1 := toTm_t (X := XK) t hok
  have cT2 := toTm_t (X := XK) v hov
  have cE10 := eqTm_t (X := XK) t t hok
  have cE20 := eqTm_t (X := XK) v v hov
  have cM1 := markTerm_t (X := XK) t 1 hok (by omega) (by omega)
  have hM1 := mkTm0_up t 1 (by omega) (by omega)
  have cM2 := markTerm_t (X := XK) v (mkTm0 t 1).2 hov (by omega) (by omega)
  have hM2 := mkTm0_up v (mkTm0 t 1).2 (by omega) (by omega)
  have cE0 := eqTm_t (X := XK) (putR (putB t x v)).1 (putR (putB t x v)).1 hqo
  have cM3 := markTerm_t (X := XK) (putR (putB t x v)).1 1 hqo (by omega) (by omega)
  have hM3 := mkTm0_up (putR (putB t x v)).1 1 (by omega) (by omega)
  have cH0 := heldTerm_t (X := XK) (putR (putB t x v)).1 1 hqo (by omega) (by omega)
  clear hkk hkk2 hcc hcc2
  obtain ⟨kk, nn, ss, zz, ⟨tk, tn, ta⟩, ts, aa⟩ := t
  obtain ⟨vk, vn, vs, vz, ⟨vtk, vtn, vta⟩, vts, vaa⟩ := v
  have cS0 := PutForS_t (X := XK) kk nn ss zz tk tn ta ts aa vk vn vs vz vtk vtn vta vts vaa x hok hov (by omega) (by omega) (by omega)
  have cI0 := PutForI_t kk nn ss zz tk tn ta ts aa vk vn vs vz vtk vtn vta vts vaa x hok hov (by omega) (by omega) (by omega)
  rw [putR_tup] at cS0 cI0
  generalize putR (putB (Tm.mk kk nn ss zz (.mk tk tn ta) ts aa) x (Tm.mk vk vn vs vz (.mk vtk vtn vta) vts vaa)) = qr at cS0 cI0 cE0 cM3 hM3 cH0
  obtain ⟨q, ob⟩ := qr
  clear hqo hqc hc hsum hc1 hc2 hok hov hl hlv hx
  obtain ⟨k3, n3, y3, z3, ⟨tk3, tn3, ta3⟩, ts3, a3⟩ := q
  have cS : Tells Try.prog E0 XK 15 [tmS kk nn ss zz tk tn ta ts aa, sA x, tmS vk vn vs vz vtk vtn vta vts vaa] (.tp [tmA true k3 n3 y3 z3 tk3 tn3 ta3 ts3 a3, bA ob]) := by rw [tmS_eq, tmS_eq]; exact cS0
  have cI : Tells Try.prog E0 XK 16 [tmS kk nn ss zz tk tn ta ts aa, sA x, tmS vk vn vs vz vtk vtn vta vts vaa] (.tp [tmA true k3 n3 y3 z3 tk3 tn3 ta3 ts3 a3, bA ob]) := by rw [tmS_eq, tmS_eq]; exact cI0
  have cE1 : Tells Try.prog E0 XK 10 [tmS kk nn ss zz tk tn ta ts aa, tmS kk nn ss zz tk tn ta ts aa] (bA (decide ((Tm.mk kk nn ss zz (.mk tk tn ta) ts aa) = (Tm.mk kk nn ss zz (.mk tk tn ta) ts aa)))) := by rw [tmS_eq]; exact cE10
  have cE2 : Tells Try.prog E0 XK 10 [tmS vk vn vs vz vtk vtn vta vts vaa, tmS vk vn vs vz vtk vtn vta vts vaa] (bA (decide ((Tm.mk vk vn vs vz (.mk vtk vtn vta) vts vaa) = (Tm.mk vk vn vs vz (.mk vtk vtn vta) vts vaa)))) := by rw [tmS_eq]; exact cE20
  have cE : Tells Try.prog E0 XK 10 [tmS k3 n3 y3 z3 tk3 tn3 ta3 ts3 a3, tmS k3 n3 y3 z3 tk3 tn3 ta3 ts3 a3] (bA (decide ((Tm.mk k3 n3 y3 z3 (.mk tk3 tn3 ta3) ts3 a3) = (Tm.mk k3 n3 y3 z3 (.mk tk3 tn3 ta3) ts3 a3)))) := by rw [tmS_eq]; exact cE0
  have cH : Tells Try.prog E0 XK 12 [tmS k3 n3 y3 z3 tk3 tn3 (mkTyL ta3 1).1 (mkTyL ts3 (mkTyL ta3 1).2).1 (mkTmL a3 (mkTyL ts3 (mkTyL ta3 1).2).2).1, iA 1] (iA (mkTm0 (Tm.mk k3 n3 y3 z3 (.mk tk3 tn3 ta3) ts3 a3) 1).2) := by rw [tmS_eq]; exact cH0
  have hM3 : 0 ≤ (mkTm0 (Tm.mk k3 n3 y3 z3 (.mk tk3 tn3 ta3) ts3 a3) 1).2 ∧ (mkTm0 (Tm.mk k3 n3 y3 z3 (.mk tk3 tn3 ta3) ts3 a3) 1).2 ≤ 1 + cTm (Tm.mk k3 n3 y3 z3 (.mk tk3 tn3 ta3) ts3 a3) := hM3
  have dE : ∀ q : Tm, decide (q = q) = true := fun q => by simp
  rw [dE] at cE1 cE2 cE
  have hK : decide ((mkTm0 (Tm.mk vk vn vs vz (.mk vtk vtn vta) vts vaa) (mkTm0 (Tm.mk kk nn ss zz (.mk tk tn ta) ts aa) 1).2).2 < 0) = false := decide_eq_false (by omega)
  have hK2 : decide ((mkTm0 (Tm.mk k3 n3 y3 z3 (.mk tk3 tn3 ta3) ts3 a3) 1).2 < 0) = false := decide_eq_false (by omega)
  clear cS0 cI0 cE10 cE20 cE0 cH0 dE hM1 hM2 hM3
  have oS : (AV.tp [tmA true k3 n3 y3 z3 tk3 tn3 ta3 ts3 a3, bA ob]).own := by simp [tmA, AV.own, T.own, AV.own.ownTL, ownCL, ownC, own_Ty, own_Tm]
  cases ob
  all_goals (
    refine Tells.by Try.func5 (by simp [Try.f5]) (Body.i rfl rfl rfl (fun _ => rfl) fun f => ?_)
    repeat' (first
       | refine RepL.done rfl | refine RepL.skip rfl ?_ | refine RepL.one rfl rfl rfl rfl rfl rfl ?_ | refine RunMs.skip rfl ?_ | exact RunMs.nil | exact RunM.done rfl | refine RunM.go ?_
       | refine RunMs.one rfl rfl rfl rfl rfl ?_ ?_ ?_ | refine RunMs.call rfl rfl rfl rfl (cT1) (.inl rfl) rfl rfl ?_ ?_ ?_ | refine RunMs.call rfl rfl rfl rfl (cT2) (.inl rfl) rfl rfl ?_ ?_ ?_
       | refine RunMs.call rfl rfl rfl rfl (cS) (.inr oS) rfl rfl ?_ ?_ ?_ | refine RunMs.call rfl rfl rfl rfl (cI) (.inr oS) rfl rfl ?_ ?_ ?_ | refine RunMs.off rfl rfl rfl rfl ?_ ?_ ?_ | refine RepL.off rfl rfl rfl rfl rfl ?_
       | refine Run.adjwAt 90 (.ask 6049 _ _ _ _ rfl (fun _ => rfl) fun u => .holdB 12 6 6049 _ _ _ _ _ _ _ rfl rfl rfl rfl rfl rfl (.ask 7049 _ _ _ _ rfl (fun _ => rfl) fun u => .holdB 12 7 7049 _ _ _ _ _ _ _ rfl rfl rfl rfl rfl rfl (.ask 8049 _ _ _ _ rfl (fun _ => rfl) fun u => .holdB 12 8 8049 _ _ _ _ _ _ _ rfl rfl rfl rfl rfl rfl (.done _ (Run.go1 rfl (Run.adjw (.tellC 90 6 6049 _ _ _ _ _ _ _ rfl rfl rfl rfl rfl rfl (.tellC 90 7 7049 _ _ _ _ _ _ _ rfl rfl rfl rfl rfl rfl (.tellC 90 8 8049 _ _ _ _ _ _ _ rfl rfl rfl rfl rfl rfl (.done _ ?_))))))))))
       | refine Run.adjwAt 15 (.tellB 12 6 6049 _ _ _ _ _ _ _ rfl rfl rfl rfl rfl rfl (.tellB 12 7 7049 _ _ _ _ _ _ _ rfl rfl rfl rfl rfl rfl (.tellB 12 8 8049 _ _ _ _ _ _ _ rfl rfl rfl rfl rfl rfl (.done _ ?_))))
       | (refine wp_region_m (id := 10) k_lawPf [0, 2, 3] [1, 4, 5, 6, 7, 8, 9, 10] 8 [0, 1, 0, 0, 11, 31, 63, 127, 127, 0, 767, 2047] rfl (by decide +kernel) rfl rfl rfl ?_; apply Exists.intro; refine And.intro ?_ ?_)
       | refine wp_seq_i ?_ | refine wp_region_t k_lawPf rfl ?_ | refine Run.done rfl ?_ | refine then_n ?_ | refine then_r ?_ | refine then_e ?_ | refine Run.go1 rfl ?_ | refine wp_skip_i ?_ | refine wp_ret_i ?_
       | refine wp_exit_i ?_ | refine wp_block_i ?_ | refine block_n ?_ | refine block_r ?_ | refine block_e ?_ | refine block_o rfl ?_ | refine wp_cond_t rfl ?_ | refine wp_cond_f rfl ?_ | refine RunQ.go1 rfl ?_
       | refine RunQ.done rfl ?_ | refine Run.gT rfl rfl rfl rfl ?_ | refine Run.pT rfl rfl ?_ | (refine Run.splitG rfl rfl rfl rfl rfl rfl ?_ ?_ <;> intro _) | (refine Run.splitP rfl rfl rfl rfl ?_ ?_ <;> intro _)
       | refine RunQ.gT rfl rfl rfl rfl ?_ | refine RunQ.pT rfl rfl ?_ | (refine RunQ.splitG rfl rfl rfl rfl rfl rfl ?_ ?_ <;> intro _) | (refine RunQ.splitP rfl rfl rfl rfl ?_ ?_ <;> intro _)
       | (refine wp_region_m (id := 33) k_lawPf [0, 2, 3] [1, 4, 5, 6, 7, 8, 9, 10] 8 [0, 1, 0, 0, 11, 31, 63, 127, 127, 0, 767, 2047] rfl (by decide +kernel) rfl rfl rfl ?_; apply Exists.intro; refine And.intro ?_ ?_)
       | refine wp_region_l (id := 16) k_lawPf [0, 1] [2, 3] [0, 0, 2, 7, 15] rfl (by decide +kernel) (by decide +kernel) rfl rfl ?_
       | refine wp_region_l (id := 18) k_lawPf [0, 1] [2, 3] [0, 0, 2, 7, 15] rfl (by decide +kernel) (by decide +kernel) rfl rfl ?_ | refine RunL.call rfl rfl rfl rfl (cT1) (.inl rfl) rfl rfl ?_
       | refine RunL.call rfl rfl rfl rfl (cT2) (.inl rfl) rfl rfl ?_ | refine RunL.call rfl rfl rfl rfl (cE1) (.inr (by simp [AV.own, T.own])) rfl rfl ?_
       | refine RunL.call rfl rfl rfl rfl (cE2) (.inr (by simp [AV.own, T.own])) rfl rfl ?_ | refine RunL.done ?_ | refine Run.call rfl rfl rfl (cZ) rfl rfl ?_ | refine Run.call rfl rfl rfl (cZ2) rfl rfl ?_
       | refine Run.call rfl rfl rfl (cT1) rfl rfl ?_ | refine Run.call rfl rfl rfl (cT2) rfl rfl ?_ | refine Run.callB rfl rfl rfl (cI) (oS) rfl ?_ | refine Run.callB rfl rfl rfl (cE) (by simp [AV.own, T.own]) rfl ?_
       | refine Run.call rfl rfl rfl (cM1) rfl rfl ?_ | refine Run.call rfl rfl rfl (cM2) rfl rfl ?_ | refine Run.call rfl rfl rfl (cM3) rfl rfl ?_ | refine Run.callB rfl rfl rfl (cH) (by simp [AV.own, T.own]) rfl ?_
       | refine Run.one rfl rfl rfl ?_ | (refine wp_cond_k rfl rfl rfl ?_ ?_ <;> intro _) | (refine wp_cond_i rfl ?_ ?_ <;> intro _))
    all_goals first
    | (exact ret_m [] rfl rfl rfl)
    | (exfalso; rename_i h; rw [hnx] at h; cases h; done)
    | (exfalso; rename_i h; rw [hnn] at h; cases h; done)
    | (exfalso; rename_i h; rw [hn2] at h; cases h; done)
    | (exfalso; rename_i h; rw [hK] at h; cases h; done)
    | (exfalso; rename_i h; rw [hK2] at h; cases h; done)
    | (exfalso; rename_i h; simp at h; done)
    | trace_state)
end Go.Proofs

set_option linter.unusedSimpArgs false
set_option linter.unusedVariables false
namespace Go.Ev
open Go
theorem vs_of {w : World} {B : Nat → Prop} {ts : List T} {vs : List Value} (hl : vs.length = ts.length) (h : ∀ (k : Nat) (y : T) (v : Value), ts[k]? = some y → vs[k]? = some v → Rep w B y v)
    (hs : ∀ y ∈ ts, (∃ v, y = .sc v) ∨ ∃ rows, y = .sl false rows) : VS w B (.ag (ts.map AV.t)) (.agg vs.toArray) (fun _ => False) := by
  refine .inr (.inl ⟨_, _, rfl, rfl, Fam.of (by simp [hl]) fun k x v h1 h2 => ?_⟩)
  rw [List.getElem?_map, Option.map_eq_some_iff] at h1
  obtain ⟨y, hy, rfl⟩ := h1
  have hr := h k y v hy h2
  rcases hs y (List.mem_of_getElem? hy) with ⟨u, rfl⟩ | ⟨rows, rfl⟩
  · cases hr; exact ⟨_, rfl, .sc _ _⟩
  · exact ⟨_, rfl, .sh _ _ _ hr⟩
theorem OpensAt.imp {P : Program} {N : Nat} {t : TypeId} {α : Type} {d : Kt α} {ok ok' : α → Prop} (h : OpensAt P N t d ok) (hok : ∀ x, ok x → ok' x) : OpensAt P N t d ok' := by
  constructor
  intro H enc W base held fuel cs y hf ht
  obtain ⟨x, hk, hx⟩ := h.get enc W base held fuel cs y hf ht
  exact ⟨x, hk, hok x hx⟩
theorem vx_bool {w : World} {B : Nat → Prop} {vs : List Value} {b : Bool} {v : Value} {F : Nat → Prop} (h : VX w B vs (.t (.sc (.bool b))) v F) : v = .bool b := by
  rcases h with ⟨_, (⟨y, hy, ho⟩ | ⟨cs, us, h, _⟩ | ⟨_, _, _, _, _, h, _⟩) | ⟨cs, us, h, _⟩⟩ | ⟨r0, outs, F1, F2, h, _⟩
  · cases hy; cases ho; rfl
  · cases h
  · cases h
  · cases h
  · cases h
theorem vs_int {w : World} {B : Nat → Prop} {k : IntKind} {n : Int} : VS w B (.t (.sc (.int k n))) (.int k n) (fun _ => False) := .inl ⟨_, rfl, .sc _ _⟩
end Go.Ev
namespace Go.Proofs.Ytamcbocdcnndfaa.fnExactPutFor
open Go Go.Ev Go.Proofs
open Go.ChangeShapes Go.WideShapes Go.ChangeAt Go.RowKit
theorem own : ownKnob Try.prog.godebug = none := by kernel_rfl
theorem laidOut : laidOutB Try.prog = true := by kernel_rfl
abbrev kI : Kt Int := Kt.int .i64
theorem max_le : maxLen ≤ 9223372036854775807 := by decide
theorem oInt (n : Nat) : OpensAt Try.prog n 3 kI (fun _ => True) := (opens_int Try.underlying3).imp fun _ _ => trivial
theorem opens_zero {t : TypeId} {α : Type} (d : Kt α) (ok : α → Prop) : OpensAt Try.prog 0 t d ok := by
  constructor
  intro H enc W base held fuel cs y hf ht
  have : fuel = 0 := by omega
  subst this
  simp [DataW.trod] at ht
theorem opens_like {N : Nat} {t : TypeId} {α : Type} {d d' : Kt α} {ok : α → Prop} (hs : d.sz = d'.sz) (hc : ∀ x, d.cells x = d'.cells x) (h : OpensAt Try.prog N t d ok) : OpensAt Try.prog N t d' ok := by
  constructor
  intro H enc W base held fuel cs y hf ht
  obtain ⟨x, hk, hx⟩ := h.get enc W base held fuel cs y hf ht
  refine ⟨x, ⟨by rw [← hs]; exact hk.1, fun k y v h1 h2 => hk.2 k y v (by rw [hc]; exact h1) h2⟩, hx⟩
theorem Ty.c_len (x : Ty) : (Ty.c false x).length = 3 := by obtain ⟨k, n, a⟩ := x; rw [Ty.c_mk]; rfl
theorem Tm.c_len (x : Tm) : (Tm.c false x).length = 9 := by obtain ⟨k, n, s, z, ⟨tk, tn, ta⟩, ts, a⟩ := x; rw [Tm.c_mk]; rfl
abbrev kTy : Kt Ty := ⟨Ty.c false, 3, Ty.c_len⟩
abbrev kTm : Kt Tm := ⟨Tm.c false, 9, Tm.c_len⟩
abbrev kS : Kt ByteArray := Kt.string
def tyF : Ty → Int × Int × List Ty
  | .mk k n a => (k, n, a)
def tmF : Tm → Int × Int × ByteArray × ByteArray × Ty × List Ty × List Tm
  | .mk k n s z t ts a => (k, n, s, z, t, ts, a)
theorem oStr (n : Nat) : OpensAt Try.prog n 9 kS (fun s => s.size ≤ 9223372036854775807) := (opens_string Try.underlying9).imp fun _ h => Nat.le_trans h max_le
theorem oTyB : ∀ n : Nat, OpensAt Try.prog n 24 kTy Ty.len ∧ OpensAt Try.prog n 22 (Kt.slice kTy) (fun l => l.length ≤ 9223372036854775807 ∧ Ty.lenL l)
  | 0 => ⟨opens_zero _ _, opens_zero _ _⟩
  | n + 1 => by
    obtain ⟨h1, h2⟩ := oTyB n
    refine ⟨?_, (opens_slice Try.underlying22 (by kernel_rfl) (by decide) h1).imp fun _ h => ⟨Nat.le_trans h.1 max_le, Ty.lenL_iff.2 h.2⟩⟩
    have h3 := opens_iso (f := tyF) (fun x => .mk x.1 x.2.1 x.2.2) (fun _ => rfl) (opens_struct (t := 24) Try.underlying24 (by kernel_rfl) (from_cons rfl (by kernel_rfl) (oInt n) (from_cons rfl (by kernel_rfl) (oInt n) (from_one rfl (by kernel_rfl) h2))))
    refine (opens_like (d' := kTy) (by rfl) (fun x => ?_) h3).imp fun x h => ?_
    · obtain ⟨k, m, a⟩ := x
      show _ = Ty.c false _
      rw [Ty.c_mk]
      rfl
    · obtain ⟨k, m, a⟩ := x
      rw [Ty.len]
      exact h.2.2
theorem oTmB : ∀ n : Nat, OpensAt Try.prog n 27 kTm Tm.len ∧ OpensAt Try.prog n 25 (Kt.slice kTm) (fun l => l.length ≤ 9223372036854775807 ∧ Tm.lenL l)
  | 0 => ⟨opens_zero _ _, opens_zero _ _⟩
  | n + 1 => by
    obtain ⟨h1, h2⟩ := oTmB n
    obtain ⟨g1, g2⟩ := oTyB n
    refine ⟨?_, (opens_slice Try.underlying25 (by kernel_rfl) (by decide) h1).imp fun _ h => ⟨Nat.le_trans h.1 max_le, Tm.lenL_iff.2 h.2⟩⟩
    have h3 := opens_iso (f := tmF) (fun x => .mk x.1 x.2.1 x.2.2.1 x.2.2.2.1 x.2.2.2.2.1 x.2.2.2.2.2.1 x.2.2.2.2.2.2) (fun _ => rfl) (opens_struct (t := 27) Try.underlying27 (by kernel_rfl) (from_cons rfl (by kernel_rfl) (oInt n) (from_cons rfl (by kernel_rfl) (oInt n) (from_cons rfl (by kernel_rfl) (oStr n) (from_cons rfl (by kernel_rfl) (oStr n) (from_cons rfl (by kernel_rfl) g1 (from_cons rfl (by kernel_rfl) g2 (from_one rfl (by kernel_rfl) h2))))))))
    refine (opens_like (d' := kTm) (by rfl) (fun x => ?_) h3).imp fun x h => ?_
    · obtain ⟨k, m, s, z, ⟨tk, tn, ta⟩, ts, a⟩ := x
      show _ = Tm.c false _
      rw [Tm.c_mk]
      show _ ++ (_ ++ (_ ++ (_ ++ (Ty.c false (.mk tk tn ta) ++ _)))) = _
      rw [Ty.c_mk]
      rfl
    · obtain ⟨k, m, s, z, t, ts, a⟩ := x
      rw [Tm.len]
      exact ⟨h.2.2.1, h.2.2.2.1, h.2.2.2.2.1, h.2.2.2.2.2.1, h.2.2.2.2.2.2⟩
theorem vs_tm {W : World} {B : Nat → Prop} {x : Tm} {cs : List Value} (hl : cs.length = 9) (hk : ∀ (k : Nat) (y : T) (v : Value), (Tm.c false x)[k]? = some y → cs[k]? = some v → Rep W B y v) : VS W B (x.a false) (.agg cs.toArray) (fun _ => False) := by
  have e : x.a false = .ag ((Tm.c false x).map AV.t) := by obtain ⟨k, n, s, z, ⟨tk, tn, ta⟩, ts, a⟩ := x; rw [Tm.c_mk]; rfl
  rw [e]
  refine vs_of (by rw [hl, Tm.c_len]) hk fun y hy => ?_
  obtain ⟨k, n, s, z, ⟨tk, tn, ta⟩, ts, a⟩ := x
  rw [Tm.c_mk] at hy
  simp only [List.mem_cons, List.not_mem_nil, or_false] at hy
  rcases hy with rfl | rfl | rfl | rfl | rfl | rfl | rfl | rfl | rfl
  all_goals first
  | exact .inl ⟨_, rfl⟩
  | exact .inr ⟨_, rfl⟩
theorem vs_str {W : World} {B : Nat → Prop} {x : ByteArray} {v : Value} (h : Rep W B (.sc (.string x)) v) : VS W B (.t (.sc (.string x))) v (fun _ => False) := by
  cases h
  exact .inl ⟨_, rfl, .sc _ _⟩
theorem calls {W : World} {x0 : Tm} {cs0 : List Value} (hk0 : kTm.K W x0 cs0) (hl0 : Tm.len x0) {x1 : ByteArray} {v1 : Value} (hk1 : kS.K W x1 [v1]) (hl1 : x1.size ≤ 9223372036854775807) {x2 : Tm} {cs2 : List Value} (hk2 : kTm.K W x2 cs2) (hl2 : Tm.len x2) : Calls Try.prog 5 #[.agg cs0.toArray, v1, .agg cs2.toArray] W fun e W' => e = .returned (.bool true) ∧ Below W.heap.size W W' := by
  have h := (Tells.sound (X := XK) tab_ok XK_sound (lawPf_t x0 x1 x2 hl0 hl1 hl2)).2 W [.agg cs0.toArray, v1, .agg cs2.toArray] (fun b => b < W.heap.size) (fun _ => False) (fun b hb => ⟨hb, fun h => h⟩) (fun _ h => h.elim)
    (.cons _ _ _ _ (fun _ => False) (fun _ => False) _ (vs_tm hk0.1 hk0.2) (.cons _ _ _ _ (fun _ => False) (fun _ => False) _ (vs_str (hk1.2 0 _ _ rfl rfl)) (.cons _ _ _ _ (fun _ => False) (fun _ => False) _ (vs_tm hk2.1 hk2.2) (.nil _) (fun _ h => h.elim) (fun _ h => h) (fun _ h => h)) (fun _ h => h.elim) (fun _ h => h) (fun _ h => h)) (fun _ h => h.elim) (fun _ h => h) (fun _ h => h))
  refine h.mono fun e W' ⟨v, B', F', he, hv, _, _, hkeep⟩ => ?_
  rw [he, vx_bool hv]
  exact ⟨rfl, hkeep.os, hkeep.tape, hkeep.output, hkeep.size, fun k hk => hkeep.block k hk fun h => h⟩
set_option maxRecDepth 100000 in
theorem lifted (os : Os) (started : os.Started) (H : Type) (enc : TypeId × Value → H) :
    ReturnsInHanded {} Try.checked os 5 .any (Rows.fnExactPutForSpec.pre6 enc Try.prog Try.f5 Rows.fnExactPutForRow.domain false) (Rows.fnExactPutForSpec.post enc Try.prog Try.f5 false true false false) := by
  refine returnsInHanded_of_change_sized (C := Try.checked) own started (by kernel_rfl) Try.func5
    (ChangeSpec.witness6 (enc := enc) (C := Try.checked) false ⟨#[], #[.agg #[.int .i64 0, .int .i64 0, .string ByteArray.empty, .string ByteArray.empty, .int .i64 0, .int .i64 0, .slice none 0 0, .slice none 0 0, .slice none 0 0], .string ByteArray.empty, .agg #[.int .i64 0, .int .i64 0, .string ByteArray.empty, .string ByteArray.empty, .int .i64 0, .int .i64 0, .slice none 0 0, .slice none 0 0, .slice none 0 0]], []⟩ 8 (by kernel_rfl) (by kernel_rfl) (by kernel_rfl) (by kernel_rfl)) ?_
  intro W base args ds gs before hval0 hW hcnd hsz0 _
  have hval : ∀ (j : Nat) t v, Try.f5.params[j]? = some t → args[j]? = some v → Value.okWide Try.prog W .any base t v := hval0
  have hW' := hW
  obtain ⟨p, q, hA0, hV, rfl, hfz, hnd⟩ := hW
  have hA : DataW.TrodAll enc Try.prog W 0 (fun _ => true) true Try.f5.params.toList args.toList ds p := hA0
  rw [Try.params5] at hA hval
  obtain ⟨v0, vs0, d0, ds0, p0, q0, hargs, rfl, rfl, h0, r0⟩ := trodAll_cons hA
  obtain ⟨v1, vs1, d1, ds1, p1, q1, rfl, rfl, rfl, h1, r1⟩ := trodAll_cons r0
  obtain ⟨v2, vs2, d2, ds2, p2, q2, rfl, rfl, rfl, h2, r2⟩ := trodAll_cons r1
  obtain ⟨rfl, rfl, rfl⟩ := trodAll_nil r2
  obtain rfl : args = #[v0, v1, v2] := by cases args; simp_all
  obtain ⟨rfl, rfl⟩ := trodVars_none hV
  obtain ⟨cs0, rfl, hcs0⟩ := okWide_struct Try.underlying27 (hval 0 27 v0 rfl rfl)
  have k0 := h0
  have lt0 : ∀ x ∈ p0, x.block < W.heap.size := by obtain ⟨m, hm⟩ := k0; exact DataW.trod_lt m _ _ _ hm
  obtain ⟨x0, hk0, ok0⟩ : ∃ x, kTm.K W x cs0.toList ∧ Tm.len x := by
    obtain ⟨m, hm⟩ := h0
    exact (oTmB m).1.get enc W _ _ m _ _ (Nat.le_refl _) hm
  obtain ⟨s1, rfl⟩ := okWide_string Try.underlying9 (hval 1 9 v1 rfl rfl)
  have k1 := h1
  have lt1 : ∀ x ∈ p1, x.block < W.heap.size := by obtain ⟨m, hm⟩ := k1; exact DataW.trod_lt m _ _ _ hm
  obtain ⟨x1, hk1, ok1⟩ : ∃ x, kS.K W x [.string s1] ∧ x.size ≤ 9223372036854775807 := by
    obtain ⟨m, hm⟩ := h1
    exact (oStr m).get enc W _ _ m _ _ (Nat.le_refl _) hm
  obtain ⟨cs2, rfl, hcs2⟩ := okWide_struct Try.underlying27 (hval 2 27 v2 rfl rfl)
  have k2 := h2
  have lt2 : ∀ x ∈ p2, x.block < W.heap.size := by obtain ⟨m, hm⟩ := k2; exact DataW.trod_lt m _ _ _ hm
  obtain ⟨x2, hk2, ok2⟩ : ∃ x, kTm.K W x cs2.toList ∧ Tm.len x := by
    obtain ⟨m, hm⟩ := h2
    exact (oTmB m).1.get enc W _ _ m _ _ (Nat.le_refl _) hm
  refine (calls hk0 ok0 hk1 ok1 hk2 ok2).mono fun e W' ⟨he, bel0⟩ => ?_
  have bel : Below W.heap.size W W' := bel0
  subst he
  exact ⟨_, rfl, _, _, _, [], _, [], hW', trodAll_mk1 (shut_bool Try.underlying4 _), (trodAll_cons_mk (Below.trod laidOut (by kernel_rfl) (of_decide_eq_true (by kernel_rfl)) k0 bel lt0) (trodAll_cons_mk (Below.trod laidOut (by kernel_rfl) (of_decide_eq_true (by kernel_rfl)) k1 bel lt1) (trodAll_cons_mk (Below.trod laidOut (by kernel_rfl) (of_decide_eq_true (by kernel_rfl)) k2 bel lt2) trodAll_mk0))), rfl, bel.frame _, fun h => by cases h⟩
theorem over : Rows.fnExactPutForRow.holds Try.pinned (OpenSpec.ofChange Rows.fnExactPutForSpec) :=
  OpenClaim.holds_of_wide 5 Try.f5 rfl rfl rfl rfl rfl rfl rfl ⟨rfl, rfl, rfl, rfl, rfl⟩ rfl rfl rfl rfl rfl (by kernel_rfl) Try.func5 (by kernel_rfl)
    (of_decide_eq_true (by kernel_rfl)) (by unfold Func.isWrapper; first | (rw [if_pos (by decide +kernel)]; kernel_rfl) | (rw [if_neg (by decide +kernel)]; exact ⟨rfl, rfl⟩))
    (fun os started H enc _ => lifted os started H enc)
theorem proved : Rows.FnExactPutForSaid := over
#print axioms proved
end Go.Proofs.Ytamcbocdcnndfaa.fnExactPutFor
namespace Go.Proofs.Ytamcbocdcnndfaa
/-- The row, under a short name, for the claim. -/
theorem fnExactPutFor_holds : Rows.FnExactPutForSaid := fnExactPutFor.proved
end Go.Proofs.Ytamcbocdcnndfaa

