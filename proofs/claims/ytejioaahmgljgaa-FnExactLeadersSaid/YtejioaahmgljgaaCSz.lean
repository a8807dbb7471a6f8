import Derived.Test.YtejioaahmgljgaaCMk2
set_option linter.unusedVariables false
set_option linter.unusedSimpArgs false
namespace Go.Proofs
open Go Go.Ev
set_option maxRecDepth 100000
variable {X : Rel3}
theorem eqByteS_t (a b : List Int) (hl : a.length ≤ 9223372036854775807) : Tells Try.prog E0 X 11 [.t (.sl false (a.map (uR))), .t (.sl false (b.map (uR)))] (bA (decide (a = b))) := by
  refine Tells.by Try.func11 (by simp [Try.f11]) (Body.i rfl rfl rfl (fun _ => rfl) fun f => ?_)
  repeat' (first
     | refine wp_seq_i ?_ | refine wp_region_i ?_ | refine Run.done rfl ?_ | refine then_n ?_ | refine then_r ?_ | refine then_e ?_ | refine Run.go1 rfl ?_ | refine wp_skip_i ?_ | refine wp_ret_i ?_ | refine wp_exit_i ?_
     | refine wp_block_i ?_ | refine block_n ?_ | refine block_r ?_ | refine block_e ?_ | refine block_o rfl ?_ | refine wp_cond_t rfl ?_ | refine wp_cond_f rfl ?_ | (refine wp_cond_k rfl rfl rfl ?_ ?_ <;> intro _)
     | (refine wp_cond_i rfl ?_ ?_ <;> intro _))
  · rename_i h
    refine ret_m [] rfl rfl ?_
    simp at h
    simp; intro e; exact h (by rw [e])
  rename_i h
  have hab : a.length = b.length := by
    have : (a.length : Int) = b.length := by simpa using h
    omega
  refine wp_loop_k (α := Nat) [.keep [0, 1, 4, 5] []] (fun p => [(5, iA p)]) (fun _ => []) (fun _ => []) (fun p => p ≤ a.length ∧ a.take p = b.take p) (fun p => a.length - p) 0 rfl (fun _ => rfl) rfl ⟨by simp, by simp⟩ ?_
  rintro j ⟨hj, he⟩
  by_cases hlt : j < a.length
  · have hx : (a.map (uR))[j]? = some ((uR) a[j]) := by simp [hlt]
    have hy : (b.map (uR))[j]? = some ((uR) (b[j]'(by omega))) := by simp [← hab, hlt]
    have ta : a.take (j + 1) = a.take j ++ [a[j]] := by simp
    have tb : b.take (j + 1) = b.take j ++ [b[j]'(by omega)] := by simp
    repeat' (first
       | refine wp_seq_i ?_ | refine wp_region_i ?_ | refine Run.done rfl ?_ | refine then_n ?_ | refine then_r ?_ | refine then_e ?_ | refine Run.go1 rfl ?_ | refine wp_skip_i ?_ | refine wp_ret_i ?_ | refine wp_exit_i ?_
       | refine wp_block_i ?_ | refine block_n ?_ | refine block_r ?_ | refine block_e ?_ | refine block_o rfl ?_ | refine wp_cond_t rfl ?_ | refine wp_cond_f rfl ?_ | refine wp_region_q 9 rfl rfl rfl ?_ | refine RunQ.go1 rfl ?_
       | refine RunQ.done rfl ?_ | refine RunQ.ix rfl rfl rfl rfl rfl rfl rfl hx rfl rfl rfl ?_ | refine RunQ.ix rfl rfl rfl rfl rfl rfl rfl hy rfl rfl rfl ?_ | refine Run.ix rfl rfl rfl rfl rfl rfl rfl hx rfl rfl rfl ?_
       | refine Run.ix rfl rfl rfl rfl rfl rfl rfl hy rfl rfl rfl ?_ | (refine wp_cond_k rfl rfl rfl ?_ ?_ <;> intro _) | (refine wp_cond_i rfl ?_ ?_ <;> intro _))
    · rename_i h2
      refine ret_m [] rfl rfl ?_
      simp at h2
      simp; intro e; subst e; exact h2 rfl
    · rename_i h2
      simp at h2
      refine back_i [.keep [0, 1, 4, 5] []] (j + 1) rfl ?_ ⟨by omega, ?_⟩ (by omega)
      · simp only [w_succ hlt (show a.length ≤ 9223372036854775807 by omega)]
      · rw [ta, tb, he, h2]
    · rename_i h2; simp [hlt] at h2
  · have hjl : j = a.length := by omega
    repeat' (first
       | refine wp_seq_i ?_ | refine wp_region_i ?_ | refine Run.done rfl ?_ | refine then_n ?_ | refine then_r ?_ | refine then_e ?_ | refine Run.go1 rfl ?_ | refine wp_skip_i ?_ | refine wp_ret_i ?_ | refine wp_exit_i ?_
       | refine wp_block_i ?_ | refine block_n ?_ | refine block_r ?_ | refine block_e ?_ | refine block_o rfl ?_ | refine wp_cond_t rfl ?_ | refine wp_cond_f rfl ?_ | (refine wp_cond_k rfl rfl rfl ?_ ?_ <;> intro _)
       | (refine wp_cond_i rfl ?_ ?_ <;> intro _))
    · rename_i h2; simp [hjl] at h2
    · refine ret_m [] rfl rfl ?_
      rw [hjl] at he
      have : a = b := by rw [List.take_length, hab, List.take_length] at he; exact he
      simp [this]
def szIntS (l : List Int) (left : Int) : Int := if IntKind.i64.wrap (left - l.length) < 0 then -1 else IntKind.i64.wrap (left - l.length)
theorem szIntS_t (l : List Int) (left : Int) : Tells Try.prog E0 X 91 [.t (.sl false (l.map iR)), iA left] (iA (szIntS l left)) := by
  refine Tells.by Try.func91 (by simp [Try.f91]) (Body.i rfl rfl rfl (fun _ => rfl) fun f => ?_)
  repeat' (first
     | refine wp_seq_i ?_ | refine wp_region_i ?_ | refine Run.done rfl ?_ | refine then_n ?_ | refine then_r ?_ | refine then_e ?_ | refine Run.go1 rfl ?_ | refine wp_skip_i ?_ | refine wp_ret_i ?_ | refine wp_exit_i ?_
     | refine wp_block_i ?_ | refine block_n ?_ | refine block_r ?_ | refine block_e ?_ | refine block_o rfl ?_ | refine wp_cond_t rfl ?_ | refine wp_cond_f rfl ?_ | (refine wp_cond_k rfl rfl rfl ?_ ?_ <;> intro _)
     | (refine wp_cond_i rfl ?_ ?_ <;> intro _))
  all_goals (refine ret_m [] rfl rfl ?_; simp_all [szIntS] <;> omega)
def szIns (i : Ins) (left : Int) : Int := if szIntS i.l left < 0 then -1 else szIntS i.l left
theorem szIns_t (i : Ins) (left : Int) : Tells Try.prog E0 X 72 [i.a false, iA left] (iA (szIns i left)) := by
  refine Tells.by Try.func72 (by simp [Try.f72]) (Body.i rfl rfl rfl (fun _ => rfl) fun f => ?_)
  repeat' (first
     | refine wp_seq_i ?_ | refine wp_region_i ?_ | refine Run.done rfl ?_ | refine then_n ?_ | refine then_r ?_ | refine then_e ?_ | refine Run.go1 rfl ?_ | refine wp_skip_i ?_ | refine wp_ret_i ?_ | refine wp_exit_i ?_
     | refine wp_block_i ?_ | refine block_n ?_ | refine block_r ?_ | refine block_e ?_ | refine block_o rfl ?_ | refine wp_cond_t rfl ?_ | refine wp_cond_f rfl ?_ | refine Run.call rfl rfl rfl (szIntS_t _ _) rfl rfl ?_
     | (refine wp_cond_k rfl rfl rfl ?_ ?_ <;> intro _) | (refine wp_cond_i rfl ?_ ?_ <;> intro _))
  all_goals (refine ret_m [] rfl rfl ?_; simp_all [szIns] <;> omega)
def szL {α : Type} (f : α → Int → Int) : List α → Int → Int
  | [], left => left
  | x :: r, left => if f x left < 0 then -1 else szL f r (f x left)
def szInsS (l : List Ins) (left : Int) : Int := if IntKind.i64.wrap (left - l.length) < 0 then -1 else szL szIns l (IntKind.i64.wrap (left - l.length))
theorem szInsS_t (l : List Ins) (left : Int) (hl : l.length ≤ 9223372036854775807) : Tells Try.prog E0 X 51 [.t (.sl false (l.map (Ins.c false))), iA left] (iA (szInsS l left)) := by
  refine Tells.by Try.func51 (by simp [Try.f51]) (Body.i rfl rfl rfl (fun _ => rfl) fun f => ?_)
  repeat' (first
     | refine wp_seq_i ?_ | refine wp_region_i ?_ | refine Run.done rfl ?_ | refine then_n ?_ | refine then_r ?_ | refine then_e ?_ | refine Run.go1 rfl ?_ | refine wp_skip_i ?_ | refine wp_ret_i ?_ | refine wp_exit_i ?_
     | refine wp_block_i ?_ | refine block_n ?_ | refine block_r ?_ | refine block_e ?_ | refine block_o rfl ?_ | refine wp_cond_t rfl ?_ | refine wp_cond_f rfl ?_ | (refine wp_cond_k rfl rfl rfl ?_ ?_ <;> intro _)
     | (refine wp_cond_i rfl ?_ ?_ <;> intro _))
  · refine ret_m [] rfl rfl ?_; simp_all [szInsS]
  rename_i h0
  have h0 : ¬ IntKind.i64.wrap (left - l.length) < 0 := by simpa using h0
  refine wp_loop_k (α := Nat × Int) [.keep [0, 1, 4, 5] []] (fun p => [(1, iA p.2), (5, iA p.1)]) (fun _ => []) (fun _ => []) (fun p => p.1 ≤ l.length ∧ szL szIns (l.drop p.1) p.2 = szL szIns l (IntKind.i64.wrap (left - l.length))) (fun p => l.length - p.1) (0, IntKind.i64.wrap (left - (l.map (Ins.c false)).length)) rfl (fun _ => rfl) rfl ⟨by simp, by simp⟩ ?_
  rintro ⟨k, r⟩ ⟨hk, hI⟩
  simp only at hk hI
  have hgoal : szInsS l left = szL szIns l (IntKind.i64.wrap (left - l.length)) := if_neg h0
  by_cases hlt : k < l.length
  · have hx : (l.map (Ins.c false))[k]? = some ((Ins.c false) l[k]) := by simp [hlt]
    rw [List.drop_eq_getElem_cons hlt, szL] at hI
    repeat' (first
       | refine wp_seq_i ?_ | refine wp_region_i ?_ | refine Run.done rfl ?_ | refine then_n ?_ | refine then_r ?_ | refine then_e ?_ | refine Run.go1 rfl ?_ | refine wp_skip_i ?_ | refine wp_ret_i ?_ | refine wp_exit_i ?_
       | refine wp_block_i ?_ | refine block_n ?_ | refine block_r ?_ | refine block_e ?_ | refine block_o rfl ?_ | refine wp_cond_t rfl ?_ | refine wp_cond_f rfl ?_ | refine Run.ix rfl rfl rfl rfl rfl rfl rfl hx rfl rfl rfl ?_
       | refine Run.call rfl rfl rfl (szIns_t _ _) rfl rfl ?_ | (refine wp_cond_k rfl rfl rfl ?_ ?_ <;> intro _) | (refine wp_cond_i rfl ?_ ?_ <;> intro _))
    · rename_i h
      rw [if_pos (by simpa using h)] at hI
      refine ret_m [] rfl rfl ?_; rw [hgoal, ← hI]
    · rename_i h
      rw [if_neg (by simpa using h)] at hI
      refine back_i [.keep [0, 1, 4, 5] []] (k + 1, szIns l[k] r) rfl ?_ ⟨by simp; omega, hI⟩ (by simp; omega)
      simp only [w_succ hlt hl]
    · rename_i h; simp [hlt] at h
  · have hkl : k = l.length := by omega
    repeat' (first
       | refine wp_seq_i ?_ | refine wp_region_i ?_ | refine Run.done rfl ?_ | refine then_n ?_ | refine then_r ?_ | refine then_e ?_ | refine Run.go1 rfl ?_ | refine wp_skip_i ?_ | refine wp_ret_i ?_ | refine wp_exit_i ?_
       | refine wp_block_i ?_ | refine block_n ?_ | refine block_r ?_ | refine block_e ?_ | refine block_o rfl ?_ | refine wp_cond_t rfl ?_ | refine wp_cond_f rfl ?_ | (refine wp_cond_k rfl rfl rfl ?_ ?_ <;> intro _)
       | (refine wp_cond_i rfl ?_ ?_ <;> intro _))
    · rename_i h; simp [hkl] at h
    · refine ret_m [] rfl rfl ?_
      rw [hgoal, ← hI, hkl, List.drop_length]; rfl
def szPiece (p : Piece) (left : Int) : Int := if szInsS p.ins left < 0 then -1 else szInsS p.ins left
theorem szPiece_t (p : Piece) (left : Int) (hl : p.ins.length ≤ 9223372036854775807) : Tells Try.prog E0 X 20 [p.a false, iA left] (iA (szPiece p left)) := by
  refine Tells.by Try.func20 (by simp [Try.f20]) (Body.i rfl rfl rfl (fun _ => rfl) fun f => ?_)
  repeat' (first
     | refine wp_seq_i ?_ | refine wp_region_i ?_ | refine Run.done rfl ?_ | refine then_n ?_ | refine then_r ?_ | refine then_e ?_ | refine Run.go1 rfl ?_ | refine wp_skip_i ?_ | refine wp_ret_i ?_ | refine wp_exit_i ?_
     | refine wp_block_i ?_ | refine block_n ?_ | refine block_r ?_ | refine block_e ?_ | refine block_o rfl ?_ | refine wp_cond_t rfl ?_ | refine wp_cond_f rfl ?_ | refine Run.call rfl rfl rfl (szInsS_t _ _ hl) rfl rfl ?_
     | (refine wp_cond_k rfl rfl rfl ?_ ?_ <;> intro _) | (refine wp_cond_i rfl ?_ ?_ <;> intro _))
  all_goals (refine ret_m [] rfl rfl ?_; simp_all [szPiece] <;> omega)
def szPieceS (l : List Piece) (left : Int) : Int := if IntKind.i64.wrap (left - l.length) < 0 then -1 else szL szPiece l (IntKind.i64.wrap (left - l.length))
theorem szPieceS_t (l : List Piece) (left : Int) (hl : l.length ≤ 9223372036854775807) (hll : ∀ p ∈ l, p.ins.length ≤ 9223372036854775807) : Tells Try.prog E0 X 31 [.t (.sl false (l.map (Piece.c false))), iA left] (iA (szPieceS l left)) := by
  refine Tells.by Try.func31 (by simp [Try.f31]) (Body.i rfl rfl rfl (fun _ => rfl) fun f => ?_)
  repeat' (first
     | refine wp_seq_i ?_ | refine wp_region_i ?_ | refine Run.done rfl ?_ | refine then_n ?_ | refine then_r ?_ | refine then_e ?_ | refine Run.go1 rfl ?_ | refine wp_skip_i ?_ | refine wp_ret_i ?_ | refine wp_exit_i ?_
     | refine wp_block_i ?_ | refine block_n ?_ | refine block_r ?_ | refine block_e ?_ | refine block_o rfl ?_ | refine wp_cond_t rfl ?_ | refine wp_cond_f rfl ?_ | (refine wp_cond_k rfl rfl rfl ?_ ?_ <;> intro _)
     | (refine wp_cond_i rfl ?_ ?_ <;> intro _))
  · refine ret_m [] rfl rfl ?_; simp_all [szPieceS]
  rename_i h0
  have h0 : ¬ IntKind.i64.wrap (left - l.length) < 0 := by simpa using h0
  refine wp_loop_k (α := Nat × Int) [.keep [0, 1, 4, 5] []] (fun p => [(1, iA p.2), (5, iA p.1)]) (fun _ => []) (fun _ => []) (fun p => p.1 ≤ l.length ∧ szL szPiece (l.drop p.1) p.2 = szL szPiece l (IntKind.i64.wrap (left - l.length))) (fun p => l.length - p.1) (0, IntKind.i64.wrap (left - (l.map (Piece.c false)).length)) rfl (fun _ => rfl) rfl ⟨by simp, by simp⟩ ?_
  rintro ⟨k, r⟩ ⟨hk, hI⟩
  simp only at hk hI
  have hgoal : szPieceS l left = szL szPiece l (IntKind.i64.wrap (left - l.length)) := if_neg h0
  by_cases hlt : k < l.length
  · have hx : (l.map (Piece.c false))[k]? = some ((Piece.c false) l[k]) := by simp [hlt]
    rw [List.drop_eq_getElem_cons hlt, szL] at hI
    repeat' (first
       | refine wp_seq_i ?_ | refine wp_region_i ?_ | refine Run.done rfl ?_ | refine then_n ?_ | refine then_r ?_ | refine then_e ?_ | refine Run.go1 rfl ?_ | refine wp_skip_i ?_ | refine wp_ret_i ?_ | refine wp_exit_i ?_
       | refine wp_block_i ?_ | refine block_n ?_ | refine block_r ?_ | refine block_e ?_ | refine block_o rfl ?_ | refine wp_cond_t rfl ?_ | refine wp_cond_f rfl ?_ | refine Run.ix rfl rfl rfl rfl rfl rfl rfl hx rfl rfl rfl ?_
       | refine Run.call rfl rfl rfl (szPiece_t _ _ (hll _ (List.getElem_mem hlt))) rfl rfl ?_ | (refine wp_cond_k rfl rfl rfl ?_ ?_ <;> intro _) | (refine wp_cond_i rfl ?_ ?_ <;> intro _))
    · rename_i h
      rw [if_pos (by simpa using h)] at hI
      refine ret_m [] rfl rfl ?_; rw [hgoal, ← hI]
    · rename_i h
      rw [if_neg (by simpa using h)] at hI
      refine back_i [.keep [0, 1, 4, 5] []] (k + 1, szPiece l[k] r) rfl ?_ ⟨by simp; omega, hI⟩ (by simp; omega)
      simp only [w_succ hlt hl]
    · rename_i h; simp [hlt] at h
  · have hkl : k = l.length := by omega
    repeat' (first
       | refine wp_seq_i ?_ | refine wp_region_i ?_ | refine Run.done rfl ?_ | refine then_n ?_ | refine then_r ?_ | refine then_e ?_ | refine Run.go1 rfl ?_ | refine wp_skip_i ?_ | refine wp_ret_i ?_ | refine wp_exit_i ?_
       | refine wp_block_i ?_ | refine block_n ?_ | refine block_r ?_ | refine block_e ?_ | refine block_o rfl ?_ | refine wp_cond_t rfl ?_ | refine wp_cond_f rfl ?_ | (refine wp_cond_k rfl rfl rfl ?_ ?_ <;> intro _)
       | (refine wp_cond_i rfl ?_ ?_ <;> intro _))
    · rename_i h; simp [hkl] at h
    · refine ret_m [] rfl rfl ?_
      rw [hgoal, ← hI, hkl, List.drop_length]; rfl
def szCode (c : Code) (left : Int) : Int := if szPieceS c.funs left < 0 then -1 else if szPiece c.main (szPieceS c.funs left) < 0 then -1 else szPiece c.main (szPieceS c.funs left)
theorem szCode_t (c : Code) (left : Int) (hl : c.funs.length ≤ 9223372036854775807) (hll : ∀ p ∈ c.funs, p.ins.length ≤ 9223372036854775807) (hm : c.main.ins.length ≤ 9223372036854775807) : Tells Try.prog E0 X 7 [c.a false, iA left] (iA (szCode c left)) := by
  refine Tells.by Try.func7 (by simp [Try.f7]) (Body.i rfl rfl rfl (fun _ => rfl) fun f => ?_)
  repeat' (first
     | refine wp_seq_i ?_ | refine wp_region_i ?_ | refine Run.done rfl ?_ | refine then_n ?_ | refine then_r ?_ | refine then_e ?_ | refine Run.go1 rfl ?_ | refine wp_skip_i ?_ | refine wp_ret_i ?_ | refine wp_exit_i ?_
     | refine wp_block_i ?_ | refine block_n ?_ | refine block_r ?_ | refine block_e ?_ | refine block_o rfl ?_ | refine wp_cond_t rfl ?_ | refine wp_cond_f rfl ?_ | refine Run.call rfl rfl rfl (szPieceS_t _ _ hl hll) rfl rfl ?_
     | refine Run.call rfl rfl rfl (szPiece_t c.main _ hm) rfl rfl ?_ | (refine wp_cond_k rfl rfl rfl ?_ ?_ <;> intro _) | (refine wp_cond_i rfl ?_ ?_ <;> intro _))
  all_goals (refine ret_m [] rfl rfl ?_; simp_all [szCode] <;> omega)
end Go.Proofs
