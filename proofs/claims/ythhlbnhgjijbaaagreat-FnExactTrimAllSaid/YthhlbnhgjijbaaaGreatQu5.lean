import Derived.Test.YthhlbnhgjijbaaaGreatQu4
import Derived.Test.YthhlbnhgjijbaaaGreatRows
import Derived.WalkKit
import Derived.ProofKit
import Derived.OpenShut
import Derived.ShutString
import Derived.ChangeOld
import Derived.Below
import Derived.SizedLaws
set_option linter.unusedVariables false
set_option linter.unusedSimpArgs false
set_option maxHeartbeats 4000000
namespace Go.Proofs
open Go Go.Ev
set_option maxRecDepth 100000
variable {X : Rel3}
theorem shr_It (l : List Int) : shrR (l.map iR) = l.map iR := by
  induction l with
  | nil => rfl
  | cons x r ih => simp [shrR, shrL, T.shr, ih]
theorem shr_Inst (l : List Ins) : shrR (l.map (Ins.c true)) = l.map (Ins.c false) := by
  induction l with
  | nil => rfl
  | cons x r ih => simp [shrR, shrL, T.shr, ih, shr_It]
theorem shr_Pt (l : List Piece) : shrR (l.map (Piece.c true)) = l.map (Piece.c false) := by
  induction l with
  | nil => rfl
  | cons x r ih => simp [shrR, shrL, T.shr, ih, shr_Inst]
/-- code whose memory is its own, to be read -/
abbrev Code.s (c : Code) : AV := .ag [.t (.sl false (shrR (c.funs.map (Piece.c true)))), iA c.main.lam, iA c.main.in_, iA c.main.regs, .t (.sl false (shrR (c.main.ins.map (Ins.c true))))]
theorem Code.s_eq (c : Code) : c.s = c.a false := by simp only [Code.s, Code.a, shr_Pt, shr_Inst]
theorem own_I (l : List Int) : ownR (l.map iR) := by
  induction l with
  | nil => simp [ownR]
  | cons x r ih => simp [ownR, ownL, T.own, ih]
theorem own_Ins (l : List Ins) : ownR (l.map (Ins.c true)) := by
  induction l with
  | nil => simp [ownR]
  | cons x r ih => simp [ownR, ownL, T.own, ih, own_I]
theorem own_P (l : List Piece) : ownR (l.map (Piece.c true)) := by
  induction l with
  | nil => simp [ownR]
  | cons x r ih => simp [ownR, ownL, T.own, ih, own_Ins]
theorem szIntS_ok {l : List Int} {left : Int} (hl : l.length ≤ 9223372036854775807) (h0 : 0 ≤ left ∧ left ≤ 1048576) (h : ¬ szIntS l left < 0) : l.length ≤ 1048576 ∧ 0 ≤ szIntS l left ∧ szIntS l left ≤ 1048576 := by
  unfold szIntS at h ⊢
  rw [w64 (by omega) (by omega)] at h ⊢
  split at h
  · omega
  · rename_i h1; rw [if_neg h1]; omega
theorem szIns_ok {i : Ins} {left : Int} (hl : i.l.length ≤ 9223372036854775807) (h0 : 0 ≤ left ∧ left ≤ 1048576) (h : ¬ szIns i left < 0) : i.l.length ≤ 1048576 ∧ 0 ≤ szIns i left ∧ szIns i left ≤ 1048576 := by
  unfold szIns at h ⊢
  split at h
  · omega
  · rename_i h1; rw [if_neg h1]; exact szIntS_ok hl h0 h1
theorem szL_ok {α : Type} {f : α → Int → Int} {ok : α → Prop} {pre : α → Prop} (hf : ∀ x left, pre x → 0 ≤ left ∧ left ≤ 1048576 → ¬ f x left < 0 → ok x ∧ 0 ≤ f x left ∧ f x left ≤ 1048576) :
    ∀ {l : List α} {left : Int}, (∀ x ∈ l, pre x) → 0 ≤ left ∧ left ≤ 1048576 → ¬ szL f l left < 0 → (∀ x ∈ l, ok x) ∧ 0 ≤ szL f l left ∧ szL f l left ≤ 1048576 := by
  intro l
  induction l with
  | nil => intro left _ h0 h; exact ⟨by simp, h0⟩
  | cons x r ih =>
    intro left hp h0 h
    rw [szL] at h ⊢
    split at h
    · omega
    · rename_i h1
      rw [if_neg h1]
      obtain ⟨a1, a2⟩ := hf x left (hp x (List.mem_cons_self ..)) h0 h1
      obtain ⟨b1, b2⟩ := ih (fun y hy => hp y (List.mem_cons_of_mem _ hy)) a2 h
      refine ⟨fun y hy => ?_, b2⟩
      rcases List.mem_cons.1 hy with rfl | hy
      · exact a1
      · exact b1 y hy
def Ins.len (i : Ins) : Prop := i.l.length ≤ 9223372036854775807
def Piece.len (p : Piece) : Prop := p.ins.length ≤ 9223372036854775807 ∧ ∀ i ∈ p.ins, i.len
def Code.len (c : Code) : Prop := c.funs.length ≤ 9223372036854775807 ∧ (∀ p ∈ c.funs, p.len) ∧ c.main.len
theorem szInsS_ok {l : List Ins} {left : Int} (hl : l.length ≤ 9223372036854775807) (hll : ∀ i ∈ l, i.len) (h0 : 0 ≤ left ∧ left ≤ 1048576) (h : ¬ szInsS l left < 0) : (l.length ≤ 1048576 ∧ ∀ i ∈ l, i.l.length ≤ 1048576) ∧ 0 ≤ szInsS l left ∧ szInsS l left ≤ 1048576 := by
  unfold szInsS at h ⊢
  rw [w64 (by omega) (by omega)] at h ⊢
  split at h
  · omega
  · rename_i h1
    rw [if_neg h1]
    obtain ⟨a, b⟩ := szL_ok (pre := Ins.len) (ok := fun i => i.l.length ≤ 1048576) (fun x left hp h0 h => szIns_ok hp h0 h) hll (by omega) h
    exact ⟨⟨by omega, a⟩, b⟩
theorem szPiece_ok {p : Piece} {left : Int} (hl : p.len) (h0 : 0 ≤ left ∧ left ≤ 1048576) (h : ¬ szPiece p left < 0) : p.ok ∧ 0 ≤ szPiece p left ∧ szPiece p left ≤ 1048576 := by
  unfold szPiece at h ⊢
  split at h
  · omega
  · rename_i h1; rw [if_neg h1]; exact szInsS_ok hl.1 hl.2 h0 h1
theorem szPieceS_ok {l : List Piece} {left : Int} (hl : l.length ≤ 9223372036854775807) (hll : ∀ i ∈ l, i.len) (h0 : 0 ≤ left ∧ left ≤ 1048576) (h : ¬ szPieceS l left < 0) : (l.length ≤ 1048576 ∧ ∀ p ∈ l, p.ok) ∧ 0 ≤ szPieceS l left ∧ szPieceS l left ≤ 1048576 := by
  unfold szPieceS at h ⊢
  rw [w64 (by omega) (by omega)] at h ⊢
  split at h
  · omega
  · rename_i h1
    rw [if_neg h1]
    obtain ⟨a, b⟩ := szL_ok (pre := Piece.len) (ok := Piece.ok) (fun x left hp h0 h => szPiece_ok hp h0 h) hll (by omega) h
    exact ⟨⟨by omega, a⟩, b⟩
theorem szCode_ok {c : Code} (hl : c.len) (h : ¬ szCode c 1048576 < 0) : c.ok := by
  unfold szCode at h
  split at h
  · omega
  · rename_i h1
    obtain ⟨⟨a1, a2⟩, a3⟩ := szPieceS_ok hl.1 hl.2.1 (by omega) h1
    split at h
    · omega
    · rename_i h2
      exact ⟨a1, a2, (szPiece_ok hl.2.2 a3 h2).1⟩
theorem nx_up {k : Int} (h0 : 0 ≤ k) (h : k ≤ 9223372036854775806) : nx k = k + 1 := by unfold nx; rw [w64] <;> omega
theorem mk_up : ∀ (l : List Int) (k : Int), 0 ≤ k → k + l.length ≤ 9223372036854775807 → (mk l k).2 = k + l.length
  | [], k, _, _ => by simp [mk]
  | x :: r, k, h0, h => by
    simp only [List.length_cons] at h ⊢
    have e : IntKind.i64.wrap (k + 1) = k + 1 := by rw [w64] <;> omega
    rw [mk, e]
    have := mk_up r (k + 1) (by omega) (by omega)
    simp only; omega
theorem mkB_up : ∀ (l : List Int) (k : Int), 0 ≤ k → k + l.length ≤ 9223372036854775806 → (mkB l k).2 = k + l.length
  | [], k, _, _ => by simp [mkB]
  | x :: r, k, h0, h => by
    simp only [List.length_cons] at h ⊢
    rw [mkB, nx_up h0 (by omega)]
    have := mkB_up r (k + 1) (by omega) (by omega)
    simp only; omega
theorem heB_mkB : ∀ (l : List Int) (k : Int), heB (mkB l k).1 k = (mkB l k).2
  | [], k => rfl
  | x :: r, k => by rw [mkB, heB, if_pos rfl]; exact heB_mkB r (nx k)
theorem mkB_len' (l : List Int) (k : Int) : (mkB l k).1.length = l.length := mkB_len l k
theorem mkIns_up {i : Ins} {k : Int} (hi : i.l.length ≤ 1048576) (h0 : 0 ≤ k) (h : k ≤ 9223372036850000000) : 0 ≤ (mkIns i k).2 ∧ (mkIns i k).2 ≤ k + 1048583 := by
  unfold mkIns
  simp only
  rw [nx_up h0 (by omega), nx_up (k := k + 1) (by omega) (by omega), nx_up (k := k + 1 + 1) (by omega) (by omega), nx_up (k := k + 1 + 1 + 1) (by omega) (by omega), nx_up (k := k + 1 + 1 + 1 + 1) (by omega) (by omega)]
  have h2 := mk_up i.l (k + 1 + 1 + 1 + 1 + 1) (by omega) (by omega)
  rw [h2, nx_up (by omega) (by omega)]
  omega
theorem mkInsS_up : ∀ {l : List Ins} {k : Int}, (∀ i ∈ l, i.l.length ≤ 1048576) → 0 ≤ k → k + 1048583 * l.length ≤ 9223372036850000000 → 0 ≤ (mkInsS l k).2 ∧ (mkInsS l k).2 ≤ k + 1048583 * l.length
  | [], k, _, h0, _ => by simp [mkInsS]; exact h0
  | i :: r, k, hl, h0, h => by
    simp only [List.length_cons] at h ⊢
    obtain ⟨a, b⟩ := mkIns_up (hl i (List.mem_cons_self ..)) h0 (by omega)
    obtain ⟨c, d⟩ := mkInsS_up (fun j hj => hl j (List.mem_cons_of_mem _ hj)) a (by omega)
    rw [mkInsS]
    simp only; omega
theorem mkPiece_up {p : Piece} {k : Int} (hp : p.ok) (h0 : 0 ≤ k) (h : k ≤ 9222000000000000000) : 0 ≤ (mkPiece p k).2 ∧ (mkPiece p k).2 ≤ k + 1099518968000 := by
  unfold mkPiece
  simp only
  have h1 := hp.1
  rw [nx_up h0 (by omega), nx_up (k := k + 1) (by omega) (by omega), nx_up (k := k + 1 + 1) (by omega) (by omega)]
  have := mkInsS_up (k := k + 1 + 1 + 1) hp.2 (by omega) (by omega)
  omega
theorem mkPieceS_up : ∀ {l : List Piece} {k : Int}, (∀ p ∈ l, p.ok) → 0 ≤ k → k + 1099518968000 * l.length ≤ 9222000000000000000 → 0 ≤ (mkPieceS l k).2 ∧ (mkPieceS l k).2 ≤ k + 1099518968000 * l.length
  | [], k, _, h0, _ => by simp [mkPieceS]; exact h0
  | i :: r, k, hl, h0, h => by
    simp only [List.length_cons] at h ⊢
    obtain ⟨a, b⟩ := mkPiece_up (hl i (List.mem_cons_self ..)) h0 (by omega)
    obtain ⟨c, d⟩ := mkPieceS_up (fun j hj => hl j (List.mem_cons_of_mem _ hj)) a (by omega)
    rw [mkPieceS]
    simp only; omega
theorem mkCode_up {c : Code} (hc : c.ok) : ¬ (mkInsS c.main.ins (mkPieceS c.funs 1).2).2 < 0 := by
  have h1 := hc.1
  have h2 := hc.2.2.1
  obtain ⟨a, b⟩ := mkPieceS_up (k := 1) hc.2.1 (by omega) (by omega)
  have := (mkInsS_up (k := (mkPieceS c.funs 1).2) hc.2.2.2 a (by omega)).1
  omega
end Go.Proofs

set_option linter.unusedVariables false
set_option linter.unusedSimpArgs false
set_option maxHeartbeats 4000000
namespace Go.Proofs
open Go Go.Ev
set_option maxRecDepth 100000
variable {X : Rel3}
/-- what is marked is held -/
def heI : List Int → Int → Int
  | [], k => k
  | x :: r, k => if x = k then heI r (IntKind.i64.wrap (k + 1)) else -1
theorem heI_mk : ∀ (l : List Int) (k : Int), heI (mk l k).1 k = (mk l k).2
  | [], k => rfl
  | x :: r, k => by rw [mk, heI, if_pos rfl]; exact heI_mk r _
theorem heldIntS_t (l : List Int) (k : Int) (hl : l.length ≤ 9223372036854775807) : Tells Tryz.prog E0 X 62 [.t (.sl false (l.map iR)), iA k] (iA (heI l k)) := by
  refine Tells.by Tryz.func62 (by simp [Tryz.f62]) (Body.i rfl rfl rfl (fun _ => rfl) fun f => ?_)
  repeat' (first
     | refine wp_seq_i ?_ | refine wp_region_i ?_ | refine Run.done rfl ?_ | refine then_n ?_ | refine then_r ?_ | refine then_e ?_ | refine Run.go1 rfl ?_ | refine wp_skip_i ?_ | refine wp_ret_i ?_ | refine wp_exit_i ?_
     | refine wp_block_i ?_ | refine block_n ?_ | refine block_r ?_ | refine block_e ?_ | refine block_o rfl ?_ | refine wp_cond_t rfl ?_ | refine wp_cond_f rfl ?_ | (refine wp_cond_k rfl rfl rfl ?_ ?_ <;> intro _)
     | (refine wp_cond_i rfl ?_ ?_ <;> intro _))
  refine wp_loop_k (α := Nat × Int) [.keep [0, 1, 4, 5] []] (fun p => [(1, iA p.2), (5, iA p.1)]) (fun _ => []) (fun _ => []) (fun p => p.1 ≤ l.length ∧ heI (l.drop p.1) p.2 = heI l k) (fun p => l.length - p.1) (0, k) rfl (fun _ => rfl) rfl ⟨by simp, by simp⟩ ?_
  rintro ⟨j, c⟩ ⟨hj, hc⟩
  simp only at hj hc
  by_cases hlt : j < l.length
  · have hx : (l.map iR)[j]? = some (iR l[j]) := by simp [hlt]
    rw [List.drop_eq_getElem_cons hlt, heI] at hc
    repeat' (first
       | refine wp_seq_i ?_ | refine wp_region_i ?_ | refine Run.done rfl ?_ | refine then_n ?_ | refine then_r ?_ | refine then_e ?_ | refine Run.go1 rfl ?_ | refine wp_skip_i ?_ | refine wp_ret_i ?_ | refine wp_exit_i ?_
       | refine wp_block_i ?_ | refine block_n ?_ | refine block_r ?_ | refine block_e ?_ | refine block_o rfl ?_ | refine wp_cond_t rfl ?_ | refine wp_cond_f rfl ?_ | refine Run.ix rfl rfl rfl rfl rfl rfl rfl hx rfl rfl rfl ?_
       | (refine wp_cond_k rfl rfl rfl ?_ ?_ <;> intro _) | (refine wp_cond_i rfl ?_ ?_ <;> intro _))
    · rename_i h
      rw [if_neg (by simpa using h)] at hc
      refine ret_m [] rfl rfl ?_
      rw [← hc]
    · rename_i h
      rw [if_pos (by simpa using h)] at hc
      refine back_i [.keep [0, 1, 4, 5] []] (j + 1, IntKind.i64.wrap (c + 1)) rfl ?_ ⟨by simp; omega, hc⟩ (by simp; omega)
      simp only [w_succ hlt hl]
    · rename_i h; simp [hlt] at h
  · have hjl : j = l.length := by omega
    repeat' (first
       | refine wp_seq_i ?_ | refine wp_region_i ?_ | refine Run.done rfl ?_ | refine then_n ?_ | refine then_r ?_ | refine then_e ?_ | refine Run.go1 rfl ?_ | refine wp_skip_i ?_ | refine wp_ret_i ?_ | refine wp_exit_i ?_
       | refine wp_block_i ?_ | refine block_n ?_ | refine block_r ?_ | refine block_e ?_ | refine block_o rfl ?_ | refine wp_cond_t rfl ?_ | refine wp_cond_f rfl ?_ | (refine wp_cond_k rfl rfl rfl ?_ ?_ <;> intro _)
       | (refine wp_cond_i rfl ?_ ?_ <;> intro _))
    · rename_i h; simp [hjl] at h
    · refine ret_m [] rfl rfl ?_
      rw [← hc, hjl, List.drop_length]; rfl
abbrev Piece.s (p : Piece) : AV := .ag [iA p.lam, iA p.in_, iA p.regs, .t (.sl false (shrR (p.ins.map (Ins.c true))))]
theorem Piece.s_eq (p : Piece) : p.s = p.a false := by simp only [Piece.s, Piece.a, shr_Inst]
theorem mkP_up {p : Piece} (hp : p.ok) : ¬ (mkInsS p.ins 1).2 < 0 := by
  have h2 := hp.1
  have := (mkInsS_up (k := 1) hp.2 (by omega) (by omega)).1
  omega
end Go.Proofs

set_option linter.unusedVariables false
set_option linter.unusedSimpArgs false
set_option maxHeartbeats 4000000
namespace Go.Proofs
open Go Go.Ev
set_option maxRecDepth 100000
variable {X : Rel3}
theorem shr_Bo (l : List Bool) : shrR (l.map bR) = l.map bR := by
  induction l with
  | nil => rfl
  | cons x r ih => simp [shrR, shrL, T.shr, ih]
theorem own_Bo (l : List Bool) : ownR (l.map bR) := by
  induction l with
  | nil => simp [ownR]
  | cons x r ih => simp [ownR, ownL, T.own, ih]
theorem mkT_up : ∀ (l : List Bool) (k : Int), 0 ≤ k → k + l.length ≤ 9223372036854775806 → (mkT l k).2 = k + l.length
  | [], k, _, _ => by simp [mkT]
  | x :: r, k, h0, h => by
    simp only [List.length_cons] at h ⊢
    rw [mkT, nx_up h0 (by omega)]
    have := mkT_up r (k + 1) (by omega) (by omega)
    simp only; omega
theorem heT_mkT : ∀ (l : List Bool) (k : Int), heT (mkT l k).1 k = (mkT l k).2
  | [], k => rfl
  | x :: r, k => by rw [mkT, heT, if_pos rfl]; exact heT_mkT r (nx k)
theorem metB_len (p : Piece) : (metB p).length ≤ 600 := by
  unfold metB
  split
  · rename_i h; rw [metC_len]; exact (len_pos h).2
  · simp
def k_lawMt : List (Nat × List Nat) := [(0, [1]), (1, [1, 3]), (2, [1, 3]), (3, [1, 15]), (4, [2]), (5, [1, 4]), (6, [1, 4, 5]), (7, [1, 4, 5, 6]), (8, [1, 4, 5, 6, 26]), (9, [2]), (10, [1, 4, 5, 6, 31]), (11, [2]), (12, [1, 4, 5, 6, 7]), (13, [1, 4, 6, 7]), (14, [1, 4, 6, 42]), (15, [2]), (16, [1, 4, 6, 8]), (17, [1, 4, 6, 8]), (18, [1, 4, 6, 8, 9]), (19, [1, 4, 6, 8, 9]), (20, [1, 4, 6, 8, 9, 50]), (21, [2]), (22, [1, 4, 6, 8, 53]), (23, [2]), (24, [4, 6, 8, 10]), (25, [6, 8, 60]), (26, [2]), (27, [6, 8, 9]), (28, [8, 9]), (29, [8, 9, 65]), (30, [2]), (31, [68]), (32, [2]), (33, [2])]
end Go.Proofs

set_option linter.unusedVariables false
set_option linter.unusedSimpArgs false
set_option maxHeartbeats 4000000
namespace Go.Proofs
open Go Go.Ev
set_option maxRecDepth 100000
variable {X : Rel3}
def keepB (l : List Ins) (met : List Bool) (i : Nat) (x : Ins) : Bool :=
  if i + 1 = l.length then true else if x.op = 17 ∨ x.op = 18 then true else if met[i]? = some false ∨ (x.op = 4 ∧ x.d = x.x) then false else !(x.op == 13 && x.to_ == ((i + 1 : Nat) : Int))
def idleB (met : List Bool) (i : Nat) (x : Ins) : Bool := (met[i]? == some false && x.op != 17 && x.op != 18) || (x.op == 4 && x.d == x.x) || (x.op == 13 && x.to_ == ((i + 1 : Nat) : Int))
theorem keep_idle {l : List Ins} {met : List Bool} {i : Nat} {x : Ins} (h : ¬ i + 1 = l.length) : keepB l met i x = !idleB met i x := by
  unfold keepB idleB
  rw [if_neg h]
  by_cases h1 : x.op = 17
  · simp [h1]
  by_cases h2 : x.op = 18
  · simp [h2]
  rw [if_neg (by omega)]
  by_cases h3 : met[i]? = some false
  · simp [h1, h2, h3]
  by_cases h4 : x.op = 4 ∧ x.d = x.x
  · simp [h4]
  · have h5 : (x.op == 4 && x.d == x.x) = false := by simpa using h4
    rw [if_neg (by simp [h3, h4]), h5]
    simp [h3]
def k_stays : List (Nat × List Nat) := [(0, [1, 2, 3]), (1, [1, 2, 3, 7]), (2, [1, 2, 7, 13]), (3, [6]), (4, [1, 2, 7, 20]), (5, [6]), (6, [2, 7, 29]), (7, [6]), (8, [6])]
theorem stays_t (p : Piece) (met : List Bool) (i : Nat) (x : Ins) (bb : Bool) (hp : p.ins.length ≤ 1048576) (hx0 : p.ins[i]? = some x) (hm : met[i]? = some bb) : Tells Tryz.prog E0 X 31 [p.a false, .t (.sl false (shrR (met.map bR))), iA i] (bA (keepB p.ins met i x)) := by
  have hi : i < p.ins.length := (List.getElem?_eq_some_iff.1 hx0).1
  have hx : (p.ins.map (Ins.c false))[i]? = some (Ins.c false x) := by rw [List.getElem?_map, hx0]; rfl
  have hz : (met.map bR)[i]? = some (bR bb) := by rw [List.getElem?_map, hm]; rfl
  have hw := w_succ hi (by omega)
  have hwl : IntKind.i64.wrap (((p.ins.map (Ins.c false)).length : Int) - 1) = (p.ins.length : Int) - 1 := by rw [List.length_map, w64] <;> omega
  rw [shr_Bo]
  refine Tells.by Tryz.func31 (by simp [Tryz.f31]) (Body.i rfl rfl rfl (fun _ => rfl) fun f => ?_)
  repeat' (first
     | refine wp_seq_i ?_ | refine wp_region_t k_stays rfl ?_ | refine Run.done rfl ?_ | refine then_n ?_ | refine then_r ?_ | refine then_e ?_ | refine Run.go1 rfl ?_ | refine wp_skip_i ?_ | refine wp_ret_i ?_
     | refine wp_exit_i ?_ | refine wp_block_i ?_ | refine block_n ?_ | refine block_r ?_ | refine block_e ?_ | refine block_o rfl ?_ | refine wp_cond_t rfl ?_ | refine wp_cond_f rfl ?_ | refine Run.gT rfl rfl rfl rfl ?_
     | refine Run.pT rfl rfl ?_ | (refine Run.splitG rfl rfl rfl rfl rfl rfl ?_ ?_ <;> intro _) | (refine Run.splitP rfl rfl rfl rfl ?_ ?_ <;> intro _) | refine Run.ix rfl rfl rfl rfl rfl rfl rfl hx rfl rfl rfl ?_
     | refine Run.ix rfl rfl rfl rfl rfl rfl rfl hz rfl rfl rfl ?_ | (refine wp_cond_k rfl rfl rfl ?_ ?_ <;> intro _) | (refine wp_cond_i rfl ?_ ?_ <;> intro _))
  all_goals first
  | (refine ret_m [] rfl rfl ?_
     clear hx hx0 hz
     simp only [hw, hwl] at *
     unfold keepB
     rw [hm]
     by_cases hlast : i + 1 = p.ins.length <;> cases bb <;> simp_all [bne] <;> omega)
  | trace_state
def k_idle : List (Nat × List Nat) := [(0, [1, 2, 3]), (1, [1, 2, 7]), (2, [6])]
theorem idle_t (p : Piece) (met : List Bool) (i : Nat) (x : Ins) (bb : Bool) (hp : p.ins.length ≤ 1048576) (hx0 : p.ins[i]? = some x) (hm : met[i]? = some bb) : Tells Tryz.prog E0 X 38 [p.a false, iA i, .t (.sl false (shrR (met.map bR)))] (bA (idleB met i x)) := by
  have hi : i < p.ins.length := (List.getElem?_eq_some_iff.1 hx0).1
  have hx : (p.ins.map (Ins.c false))[i]? = some (Ins.c false x) := by rw [List.getElem?_map, hx0]; rfl
  have hz : (met.map bR)[i]? = some (bR bb) := by rw [List.getElem?_map, hm]; rfl
  have hw := w_succ hi (by omega)
  rw [shr_Bo]
  refine Tells.by Tryz.func38 (by simp [Tryz.f38]) (Body.i rfl rfl rfl (fun _ => rfl) fun f => ?_)
  repeat' (first
     | refine wp_seq_i ?_ | refine wp_region_t k_idle rfl ?_ | refine Run.done rfl ?_ | refine then_n ?_ | refine then_r ?_ | refine then_e ?_ | refine Run.go1 rfl ?_ | refine wp_skip_i ?_ | refine wp_ret_i ?_
     | refine wp_exit_i ?_ | refine wp_block_i ?_ | refine block_n ?_ | refine block_r ?_ | refine block_e ?_ | refine block_o rfl ?_ | refine wp_cond_t rfl ?_ | refine wp_cond_f rfl ?_ | refine Run.gT rfl rfl rfl rfl ?_
     | refine Run.pT rfl rfl ?_ | (refine Run.splitG rfl rfl rfl rfl rfl rfl ?_ ?_ <;> intro _) | (refine Run.splitP rfl rfl rfl rfl ?_ ?_ <;> intro _) | refine Run.ix rfl rfl rfl rfl rfl rfl rfl hx rfl rfl rfl ?_
     | refine Run.ix rfl rfl rfl rfl rfl rfl rfl hz rfl rfl rfl ?_ | (refine wp_cond_k rfl rfl rfl ?_ ?_ <;> intro _) | (refine wp_cond_i rfl ?_ ?_ <;> intro _))
  all_goals first
  | (refine ret_m [] rfl rfl ?_
     clear hx hx0 hz
     simp only [hw] at *
     unfold idleB
     rw [hm]
     cases bb <;> simp_all)
  | trace_state
end Go.Proofs

set_option linter.unusedVariables false
set_option linter.unusedSimpArgs false
set_option maxHeartbeats 4000000
namespace Go.Proofs
open Go Go.Ev
set_option maxRecDepth 100000
variable {X : Rel3}
theorem shr_Insf (l : List Ins) : shrR (l.map (Ins.c false)) = l.map (Ins.c false) := by
  induction l with
  | nil => rfl
  | cons x r ih => simp [shrR, shrL, T.shr, ih, shr_It]
theorem cloneInts_t (l : List Int) (hl : l.length ≤ 1000000000000) : Tells Tryz.prog E0 X 52 [.t (.sl false (l.map iR))] (.t (.sl true (l.map iR))) := by
  refine Tells.by Tryz.func52 (by simp [Tryz.f52]) (Body.i rfl rfl rfl (fun _ => rfl) fun f => ?_)
  repeat' (first
     | refine wp_seq_i ?_ | refine wp_region_i ?_ | refine Run.done rfl ?_ | refine then_n ?_ | refine then_r ?_ | refine then_e ?_ | refine Run.go1 rfl ?_ | refine wp_skip_i ?_ | refine wp_ret_i ?_ | refine wp_exit_i ?_
     | refine wp_block_i ?_ | refine block_n ?_ | refine block_r ?_ | refine block_e ?_ | refine block_o rfl ?_ | refine wp_cond_t rfl ?_ | refine wp_cond_f rfl ?_
     | refine Run.nilc rfl rfl rfl (fun _ => rfl) (fun _ => ?_) (fun _ _ => ?_) | refine Run.cnd rfl rfl rfl ⟨by simp; omega, by simp, by simp, .inl rfl, by simp [flatT]⟩ ?_ | (refine wp_cond_k rfl rfl rfl ?_ ?_ <;> intro _)
     | (refine wp_cond_i rfl ?_ ?_ <;> intro _))
  all_goals (refine ret_m [] rfl rfl ?_; simp_all)
theorem cloneIns_t (l : List Ins) (hl : l.length ≤ 1048576) : Tells Tryz.prog E0 X 51 [.t (.sl false (l.map (Ins.c false)))] (.t (.sl true (l.map (Ins.c false)))) := by
  refine Tells.by Tryz.func51 (by simp [Tryz.f51]) (Body.i rfl rfl rfl (fun _ => rfl) fun f => ?_)
  repeat' (first
     | refine wp_seq_i ?_ | refine wp_region_i ?_ | refine Run.done rfl ?_ | refine then_n ?_ | refine then_r ?_ | refine then_e ?_ | refine Run.go1 rfl ?_ | refine wp_skip_i ?_ | refine wp_ret_i ?_ | refine wp_exit_i ?_
     | refine wp_block_i ?_ | refine block_n ?_ | refine block_r ?_ | refine block_e ?_ | refine block_o rfl ?_ | refine wp_cond_t rfl ?_ | refine wp_cond_f rfl ?_
     | refine Run.nilc rfl rfl rfl (fun _ => rfl) (fun _ => ?_) (fun _ _ => ?_) | refine Run.cnd rfl rfl rfl ⟨by simp [shrR_len]; omega, by simp, by simp [shr_Insf], .inl rfl, by simp [okT, Value.oneCell']⟩ ?_
     | (refine wp_cond_k rfl rfl rfl ?_ ?_ <;> intro _) | (refine wp_cond_i rfl ?_ ?_ <;> intro _))
  all_goals (refine ret_m [] rfl rfl ?_; simp_all [shr_Insf, shrR])
def k_clonePiece : List (Nat × List Nat) := [(0, [1, 2]), (1, [1, 2]), (2, [1, 2, 10, 11, 12]), (3, [1, 2, 10, 11, 12, 13]), (4, [1, 2, 3, 4, 10, 11, 12]), (5, [1, 2, 10, 11, 12]), (6, [1, 2, 10, 11, 12]), (7, [2])]
theorem clonePiece_t (p : Piece) (hp : p.ok) : Tells Tryz.prog E0 X 35 [p.a false] (p.a true) := by
  have hpl := hp.1
  refine Tells.by Tryz.func35 (by simp [Tryz.f35]) (Body.i rfl rfl rfl (fun _ => rfl) fun f => ?_)
  repeat' (first
     | refine wp_seq_i ?_ | refine wp_region_t k_clonePiece rfl ?_ | refine Run.done rfl ?_ | refine then_n ?_ | refine then_r ?_ | refine then_e ?_ | refine Run.go1 rfl ?_ | refine wp_skip_i ?_ | refine wp_ret_i ?_
     | refine wp_exit_i ?_ | refine wp_block_i ?_ | refine block_n ?_ | refine block_r ?_ | refine block_e ?_ | refine block_o rfl ?_ | refine wp_cond_t rfl ?_ | refine wp_cond_f rfl ?_
     | refine Run.call rfl rfl rfl (cloneIns_t p.ins hpl) rfl rfl ?_ | (refine wp_cond_k rfl rfl rfl ?_ ?_ <;> intro _) | (refine wp_cond_i rfl ?_ ?_ <;> intro _))
  refine wp_loop_k (α := Nat) [.keep [1, 2, 10, 11, 12] [1, 2, 7]] (fun k => [(12, iA k)]) (fun _ => []) (fun k => [(7, 0, (p.ins.take k).map (Ins.c true) ++ (p.ins.drop k).map (Ins.c false))]) (fun k => k ≤ p.ins.length) (fun k => p.ins.length - k) 0 rfl (fun _ => rfl) ?_ (by simp) ?_
  · simp
  rintro k hk
  by_cases hlt : k < p.ins.length
  · have hx : ((p.ins.take k).map (Ins.c true) ++ (p.ins.drop k).map (Ins.c false))[k]? = some (Ins.c false p.ins[k]) := by
      rw [List.getElem?_append_right (by simp; omega)]
      simp [Nat.min_eq_left hk, hlt]
    have hil := hp.2 _ (List.getElem_mem hlt)
    have hset : ((p.ins.take k).map (Ins.c true) ++ (p.ins.drop k).map (Ins.c false)).set k (Ins.c true p.ins[k]) = (p.ins.take (k + 1)).map (Ins.c true) ++ (p.ins.drop (k + 1)).map (Ins.c false) := by
      rw [List.set_append_right _ _ (by simp; omega)]
      simp only [List.length_map, List.length_take, Nat.min_eq_left hk, Nat.sub_self]
      rw [List.drop_eq_getElem_cons hlt, List.map_cons, List.set_cons_zero, List.take_succ_eq_append_getElem hlt, List.map_append, List.map_cons, List.map_nil, List.append_assoc, List.singleton_append]
    have hlen : ((p.ins.take k).map (Ins.c true) ++ (p.ins.drop k).map (Ins.c false)).length = p.ins.length := by simp; omega
    repeat' (first
       | refine wp_seq_i ?_ | refine wp_region_t k_clonePiece rfl ?_ | refine Run.done rfl ?_ | refine then_n ?_ | refine then_r ?_ | refine then_e ?_ | refine Run.go1 rfl ?_ | refine wp_skip_i ?_ | refine wp_ret_i ?_
       | refine wp_exit_i ?_ | refine wp_block_i ?_ | refine block_n ?_ | refine block_r ?_ | refine block_e ?_ | refine block_o rfl ?_ | refine wp_cond_t rfl ?_ | refine wp_cond_f rfl ?_
       | refine wp_region_qt k_clonePiece rfl 6 (by decide +kernel) rfl rfl ?_ | refine RunQ.go1 rfl ?_ | refine RunQ.done rfl ?_ | refine Run.ix rfl rfl rfl rfl rfl rfl rfl hx rfl rfl rfl ?_
       | refine Run.ldr rfl rfl rfl hx rfl rfl ?_ | refine RunQ.ix rfl rfl rfl rfl rfl rfl rfl hx rfl rfl rfl ?_ | refine RunQ.ldr rfl rfl rfl hx rfl rfl ?_
       | refine RunQ.callO rfl rfl rfl rfl rfl rfl (cloneInts_t p.ins[k].l (by omega)) (.inl rfl) rfl rfl rfl ?_ | refine Run.str rfl rfl rfl rfl rfl rfl hx rfl rfl ?_ | (refine wp_cond_k rfl rfl rfl ?_ ?_ <;> intro _)
       | (refine wp_cond_i rfl ?_ ?_ <;> intro _))
    all_goals first
    | (exfalso; rename_i h; simp [hlt] at h; done)
    | (refine back_i [.keep [1, 2, 10, 11, 12] [1, 2, 7]] (k + 1) rfl ?_ (by omega) (by omega)
       rw [w_succ hlt (by omega), ← hset]; done)
    | trace_state
  · have hkn : k = p.ins.length := by omega
    subst hkn
    have hlen : ((p.ins.take p.ins.length).map (Ins.c true) ++ (p.ins.drop p.ins.length).map (Ins.c false)).length = p.ins.length := by simp
    repeat' (first
       | refine wp_seq_i ?_ | refine wp_region_t k_clonePiece rfl ?_ | refine Run.done rfl ?_ | refine then_n ?_ | refine then_r ?_ | refine then_e ?_ | refine Run.go1 rfl ?_ | refine wp_skip_i ?_ | refine wp_ret_i ?_
       | refine wp_exit_i ?_ | refine wp_block_i ?_ | refine block_n ?_ | refine block_r ?_ | refine block_e ?_ | refine block_o rfl ?_ | refine wp_cond_t rfl ?_ | refine wp_cond_f rfl ?_
       | (refine wp_cond_k rfl rfl rfl ?_ ?_ <;> intro _) | (refine wp_cond_i rfl ?_ ?_ <;> intro _))
    all_goals first
    | (exfalso; rename_i h; simp at h; done)
    | (refine ret_m [] rfl rfl ?_; simp; done)
    | trace_state
def k_copyP : List (Nat × List Nat) := [(0, [1, 2]), (1, [1, 2, 3]), (2, [1, 2, 3]), (3, [1, 2, 3, 4]), (4, [1, 2, 3, 4, 13]), (5, [1, 2, 3, 4]), (6, [1, 2, 3, 4, 5]), (7, [1, 2, 3, 4, 5]), (8, [1, 2, 3, 4]), (9, [2])]
theorem copyPiece_t (p : Piece) (hp : p.ok) : Tells Tryz.prog E0 X 29 [p.a false] (p.a true) := by
  have hpl := hp.1
  refine Tells.by Tryz.func29 (by simp [Tryz.f29]) (Body.i rfl rfl rfl (fun _ => rfl) fun f => ?_)
  repeat' (first
     | refine wp_seq_i ?_ | refine wp_region_t k_copyP rfl ?_ | refine Run.done rfl ?_ | refine then_n ?_ | refine then_r ?_ | refine then_e ?_ | refine Run.go1 rfl ?_ | refine wp_skip_i ?_ | refine wp_ret_i ?_
     | refine wp_exit_i ?_ | refine wp_block_i ?_ | refine block_n ?_ | refine block_r ?_ | refine block_e ?_ | refine block_o rfl ?_ | refine wp_cond_t rfl ?_ | refine wp_cond_f rfl ?_
     | (refine wp_cond_k rfl rfl rfl ?_ ?_ <;> intro _) | (refine wp_cond_i rfl ?_ ?_ <;> intro _))
  refine wp_loop_k (α := Nat × List Ins) [.keep [1, 2, 3, 4] [1, 2, 3, 7]] (fun z => [(4, iA z.1)]) (fun _ => []) (fun z => [(7, 0, z.2.map (Ins.c true))]) (fun z => z.1 ≤ p.ins.length ∧ z.2 = p.ins.take z.1) (fun z => p.ins.length - z.1) (0, []) rfl (fun _ => rfl) rfl ⟨by simp, by simp⟩ ?_
  rintro ⟨k, c⟩ ⟨hk, hc⟩
  simp only at hk hc
  by_cases hlt : k < p.ins.length
  · have hx : (p.ins.map (Ins.c false))[k]? = some (Ins.c false p.ins[k]) := map_at hlt
    have hil := hp.2 _ (List.getElem_mem hlt)
    have hcl : c.length = k := by rw [hc]; simp; omega
    have htk : p.ins.take (k + 1) = c ++ [p.ins[k]] := by rw [hc]; simp
    repeat' (first
       | refine wp_seq_i ?_ | refine wp_region_t k_copyP rfl ?_ | refine Run.done rfl ?_ | refine then_n ?_ | refine then_r ?_ | refine then_e ?_ | refine Run.go1 rfl ?_ | refine wp_skip_i ?_ | refine wp_ret_i ?_
       | refine wp_exit_i ?_ | refine wp_block_i ?_ | refine block_n ?_ | refine block_r ?_ | refine block_e ?_ | refine block_o rfl ?_ | refine wp_cond_t rfl ?_ | refine wp_cond_f rfl ?_
       | refine Run.ix rfl rfl rfl rfl rfl rfl rfl hx rfl rfl rfl ?_ | refine Run.cnd rfl rfl rfl ⟨by simp; omega, by simp, by simp, .inl rfl, by first | (simp [flatT]; done) | trivial⟩ ?_
       | (refine wp_cond_k rfl rfl rfl ?_ ?_ <;> intro _) | (refine wp_cond_i rfl ?_ ?_ <;> intro _))
    all_goals first
    | (exfalso; rename_i h; simp [hlt] at h; done)
    | (refine back_i [.keep [1, 2, 3, 4] [1, 2, 3, 30], .ren 30 7] (k + 1, c ++ [p.ins[k]]) rfl ?_ ⟨by simp; omega, htk.symm⟩ (by simp; omega)
       simp only [w_succ hlt (by omega), List.map_append, List.map_cons, List.map_nil, List.nil_append]; try rfl; done)
    | trace_state
  · have hkn : k = p.ins.length := by omega
    subst hkn
    rw [List.take_length] at hc
    repeat' (first
       | refine wp_seq_i ?_ | refine wp_region_t k_copyP rfl ?_ | refine Run.done rfl ?_ | refine then_n ?_ | refine then_r ?_ | refine then_e ?_ | refine Run.go1 rfl ?_ | refine wp_skip_i ?_ | refine wp_ret_i ?_
       | refine wp_exit_i ?_ | refine wp_block_i ?_ | refine block_n ?_ | refine block_r ?_ | refine block_e ?_ | refine block_o rfl ?_ | refine wp_cond_t rfl ?_ | refine wp_cond_f rfl ?_
       | (refine wp_cond_k rfl rfl rfl ?_ ?_ <;> intro _) | (refine wp_cond_i rfl ?_ ?_ <;> intro _))
    all_goals first
    | (exfalso; rename_i h; simp at h; done)
    | (refine ret_m [] rfl rfl ?_; rw [hc]; done)
    | trace_state
end Go.Proofs

set_option linter.unusedVariables false
set_option linter.unusedSimpArgs false
set_option maxHeartbeats 4000000
namespace Go.Proofs
open Go Go.Ev
set_option maxRecDepth 100000
variable {X : Rel3}
def k_l20Cut : List (Nat × List Nat) := [(0, [1, 2]), (1, [1, 2, 5]), (2, [1, 2, 5, 6]), (3, [1, 2, 5, 6, 16]), (4, [1, 2, 5, 6]), (5, [1, 2, 5, 6]), (6, [1, 2, 5, 6, 7]), (7, [1, 2, 5, 6, 7, 25]), (8, [1, 2, 5, 6, 7]), (9, [1, 2, 5, 6, 7, 8]), (10, [1, 2, 5, 6, 7, 8, 9]), (11, [1, 2, 5, 6, 7, 8, 9, 37]), (12, [1, 2, 5, 6, 7, 8, 9]), (13, [1, 2, 5, 6, 7, 8, 9, 55]), (14, [1, 2, 5, 6, 7, 8, 9]), (15, [1, 2, 5, 6, 7, 8, 9]), (16, [4])]
def k_metW : List (Nat × List Nat) := [(0, [1, 2]), (1, [1, 2, 5]), (2, [1, 2, 5, 6]), (3, [1, 2, 5, 6, 15]), (4, [1, 2, 5, 6, 7]), (5, [1, 2, 5, 6, 7]), (6, [1, 2, 5, 6, 7, 30]), (7, [1, 2, 5, 6, 7]), (8, [1, 2, 5, 6]), (9, [4])]
end Go.Proofs

set_option linter.unusedVariables false
set_option linter.unusedSimpArgs false
set_option maxHeartbeats 4000000
namespace Go.Proofs
open Go Go.Ev Go.Sort
set_option maxRecDepth 100000
end Go.Proofs

set_option linter.unusedVariables false
set_option linter.unusedSimpArgs false
set_option maxHeartbeats 4000000
namespace Go.Proofs
open Go Go.Ev
set_option maxRecDepth 100000
variable {X : Rel3}
theorem reach_ne {l : List Ins} {c : Int} {y : Nat} (h : Reach l c y) : (y : Int) ≠ c := by
  cases h with
  | zero h => exact fun e => h (by omega)
  | step _ _ hc => exact hc
theorem reach_no {l : List Ins} {k y : Nat} (hk : ¬ Reach l (-1) k) (h : Reach l (-1) y) : Reach l (k : Int) y := by
  induction h with
  | zero h =>
    by_cases e : k = 0
    · subst e; exact absurd (.zero (by decide)) hk
    · exact .zero (by omega)
  | step h hy hc ih =>
    rename_i i z
    by_cases e : z = k
    · subst e; exact absurd (.step h hy hc) hk
    · exact .step ih hy (by omega)
noncomputable def metAt (l : List Ins) (c : Int) (i : Nat) : Bool := ((metC l c)[i]?).getD false
theorem metAt_iff {l : List Ins} {c : Int} {i : Nat} (hi : i < l.length) : metAt l c i = true ↔ Reach l c i := by
  unfold metAt
  have e : (metC l c)[i]? = some ((metC l c)[i]'(by rw [metC_len]; exact hi)) := List.getElem?_eq_getElem (by rw [metC_len]; exact hi)
  have h := metC_at (l := l) (c := c) (i := i)
  rw [e] at h ⊢
  simp only [Option.some.injEq, Option.getD_some] at h ⊢
  rw [h]; simp [hi]
theorem met_row {l : List Ins} {c : Int} {i : Nat} (hi : i < l.length) : ((metC l c).map bR)[i]? = some (bR (metAt l c i)) := by
  have e : (metC l c)[i]? = some ((metC l c)[i]'(by rw [metC_len]; exact hi)) := List.getElem?_eq_getElem (by rw [metC_len]; exact hi)
  rw [List.getElem?_map, metAt, e]; rfl
noncomputable def aheadF (l : List Ins) (i : Nat) (k : Nat) : Bool := (k == i) || !metAt l k i
noncomputable def aheadL (f : Nat → Bool) (n : Nat) : List Int := ((List.range n).filter f).map fun k : Nat => (k : Int)
theorem aheadL_step (f : Nat → Bool) (n : Nat) : aheadL f (n + 1) = aheadL f n ++ (if f n then [(n : Int)] else []) := by
  unfold aheadL
  rw [List.range_succ, List.filter_append, List.map_append]
  congr 1
  by_cases h : f n <;> simp [h]
theorem aheadL_len (f : Nat → Bool) (n : Nat) : (aheadL f n).length ≤ n := by
  unfold aheadL
  rw [List.length_map]
  exact Nat.le_trans (List.length_filter_le ..) (by simp)
theorem ahead_eq {l : List Ins} {i k : Nat} (hi : i < l.length) (hk : k < l.length) (hr : metAt l (-1) i = true) : (metAt l (-1) k && !metAt l k i) = aheadF l i k := by
  have hri := (metAt_iff hi).1 hr
  unfold aheadF
  by_cases e : k = i
  · subst e
    have : metAt l (k : Int) k = false := by
      cases h : metAt l (k : Int) k with
      | false => rfl
      | true => exact absurd rfl (reach_ne ((metAt_iff hi).1 h))
    simp [hr, this]
  · have : (k == i) = false := by simpa using e
    rw [this, Bool.false_or]
    cases h : metAt l (-1) k with
    | true => simp
    | false =>
      have hn : ¬ Reach l (-1) k := fun h' => by rw [(metAt_iff hk).2 h'] at h; cases h
      rw [(metAt_iff hi).2 (reach_no hn hri)]; rfl
noncomputable def aheadB (p : Piece) (i : Int) : List Int := if pieceB p && (rng i 0 (p.ins.length - 1) && metAt p.ins (-1) i.toNat) then aheadL (aheadF p.ins i.toNat) p.ins.length else []
def k_AheadS : List (Nat × List Nat) := [(0, [1, 2]), (1, [1, 2, 5]), (2, [1, 2, 5, 27]), (3, [4]), (4, [1, 2, 5, 6]), (5, [1, 2, 5, 6, 33]), (6, [1, 2, 5, 6]), (7, [1, 2, 5, 6, 47]), (8, [1, 2, 5, 6]), (9, [4])]
end Go.Proofs

set_option linter.unusedVariables false
set_option linter.unusedSimpArgs false
set_option maxHeartbeats 4000000
namespace Go.Proofs
open Go Go.Ev
set_option maxRecDepth 100000
variable {X : Rel3}
/-- how many of the first are so -/
def kept (f : Nat → Bool) : Nat → Nat
  | 0 => 0
  | k + 1 => kept f k + (if f k then 1 else 0)
theorem kept_le (f : Nat → Bool) : ∀ k, kept f k ≤ k
  | 0 => Nat.le_refl _
  | k + 1 => by have := kept_le f k; rw [kept]; split <;> omega
def keptL (f : Nat → Bool) (n : Nat) : List Int := (List.range n).map fun k => ((kept f k : Nat) : Int)
theorem keptL_step (f : Nat → Bool) (n : Nat) : keptL f (n + 1) = keptL f n ++ [((kept f n : Nat) : Int)] := by simp [keptL, List.range_succ]
theorem keptL_row (f : Nat → Bool) {n k : Nat} (h : k < n) : ((keptL f n).map iR)[k]? = some (iR ((kept f k : Nat) : Int)) := by
  simp [keptL, h]
def fixI (f : Nat → Bool) (x : Ins) : Ins := if uT x.op then { x with to_ := ((kept f x.to_.toNat : Nat) : Int) } else x
def selI (f : Nat → Bool) (l : List Ins) : Nat → List Ins
  | 0 => []
  | k + 1 => selI f l k ++ (if f k then (match l[k]? with
    | some x => [x]
    | none => []) else [])
theorem selI_len (f : Nat → Bool) (l : List Ins) : ∀ k, k ≤ l.length → (selI f l k).length = kept f k
  | 0, _ => rfl
  | k + 1, h => by
    have := selI_len f l k (by omega)
    rw [selI, kept, List.length_append, this, List.getElem?_eq_getElem (show k < l.length by omega)]
    split <;> rfl
theorem selI_step (f : Nat → Bool) (l : List Ins) {k : Nat} {x : Ins} (h : l[k]? = some x) : selI f l (k + 1) = selI f l k ++ (if f k then [x] else []) := by rw [selI, h]
noncomputable def keepF (l : List Ins) (i : Nat) : Bool := match l[i]? with
  | some x => keepB l (metC l (-1)) i x
  | none => false
noncomputable def trimP (p : Piece) : Piece := { p with ins := (selI (keepF p.ins) p.ins p.ins.length).map (fixI (keepF p.ins)) }
noncomputable def trimB (p : Piece) : Piece := if pieceB p then trimP p else p
def k_l15Trim : List (Nat × List Nat) := [(0, [1, 2]), (1, [1, 2, 3]), (2, [1, 2, 3, 4]), (3, [1, 2, 3, 4, 5]), (4, [1, 2, 3, 4, 5, 6]), (5, [1, 2, 3, 4, 5, 6, 17]), (6, [1, 2, 3, 4, 5, 6]), (7, [1, 2, 3, 4, 5, 6]), (8, [1, 2, 3, 4, 5, 6, 27]), (9, [1, 2, 3, 4, 5, 6]), (10, [1, 2, 3, 4, 7]), (11, [1, 2, 3, 4, 7]), (12, [1, 2, 3, 4, 7, 8]), (13, [1, 2, 3, 4, 7, 8, 38]), (14, [1, 2, 3, 4, 7, 8]), (15, [1, 2, 3, 4, 7, 8, 45]), (16, [1, 2, 3, 4, 7, 8, 9]), (17, [1, 2, 3, 4, 7, 8, 9]), (18, [1, 2, 3, 4, 7, 8, 9, 59]), (19, [1, 2, 3, 4, 7, 8, 9]), (20, [1, 2, 3, 4, 7, 8]), (21, [2])]
theorem l15Trim_t (p : Piece) (hb : pieceB p = true) (hp : p.ok) : Tells Tryz.prog E0 X 15 [p.a false] ((trimP p).a true) := by
  have hpl := hp.1
  have met : ∀ i (hi : i < p.ins.length), (metC p.ins (-1))[i]? = some (metAt p.ins (-1) i) := fun i hi => by
    have e : (metC p.ins (-1))[i]? = some ((metC p.ins (-1))[i]'(by rw [metC_len]; exact hi)) := List.getElem?_eq_getElem (by rw [metC_len]; exact hi)
    rw [metAt, e]; rfl
  have hkp : ∀ i (hi : i < p.ins.length), Tells Tryz.prog E0 X 31 [p.a false, .t (.sl false (shrR ((metC p.ins (-1)).map bR))), iA i] (bA (keepF p.ins i)) := fun i hi => by
    have := stays_t (X := X) p (metC p.ins (-1)) i p.ins[i] _ hpl (List.getElem?_eq_getElem hi) (met i hi)
    unfold keepF
    rw [List.getElem?_eq_getElem hi]
    exact this
  refine Tells.by Tryz.func15 (by simp [Tryz.f15]) (Body.i rfl rfl rfl (fun _ => rfl) fun f => ?_)
  repeat' (first
     | refine wp_seq_i ?_ | refine wp_region_t k_l15Trim rfl ?_ | refine Run.done rfl ?_ | refine then_n ?_ | refine then_r ?_ | refine then_e ?_ | refine Run.go1 rfl ?_ | refine wp_skip_i ?_ | refine wp_ret_i ?_
     | refine wp_exit_i ?_ | refine wp_block_i ?_ | refine block_n ?_ | refine block_r ?_ | refine block_e ?_ | refine block_o rfl ?_ | refine wp_cond_t rfl ?_ | refine wp_cond_f rfl ?_
     | refine Run.call rfl rfl rfl (l15Met_t p hb hpl) rfl rfl ?_ | (refine wp_cond_k rfl rfl rfl ?_ ?_ <;> intro _) | (refine wp_cond_i rfl ?_ ?_ <;> intro _))
  refine wp_loop_k (α := Nat) [.keep [1, 2, 3, 4, 5, 6] [1, 2, 11, 12]] (fun z => [(5, iA (kept (keepF p.ins) z : Nat)), (6, iA z)]) (fun _ => []) (fun z => [(12, 0, (keptL (keepF p.ins) z).map iR)]) (fun z => z ≤ p.ins.length) (fun z => p.ins.length - z) 0 rfl (fun _ => rfl) rfl (by simp) ?_
  rintro k hk
  have hkl := kept_le (keepF p.ins) k
  by_cases hlt : k < p.ins.length
  · have hx : (p.ins.map (Ins.c false))[k]? = some (Ins.c false p.ins[k]) := map_at hlt
    have hst := keptL_step (keepF p.ins) k
    have hks : kept (keepF p.ins) (k + 1) = kept (keepF p.ins) k + (if keepF p.ins k then 1 else 0) := rfl
    have hll : (keptL (keepF p.ins) k).length = k := by simp [keptL]
    have hwk : IntKind.i64.wrap (((kept (keepF p.ins) k : Nat) : Int) + 1) = ((kept (keepF p.ins) k + 1 : Nat) : Int) := by rw [w64] <;> omega
    repeat' (first
       | refine wp_seq_i ?_ | refine wp_region_t k_l15Trim rfl ?_ | refine Run.done rfl ?_ | refine then_n ?_ | refine then_r ?_ | refine then_e ?_ | refine Run.go1 rfl ?_ | refine wp_skip_i ?_ | refine wp_ret_i ?_
       | refine wp_exit_i ?_ | refine wp_block_i ?_ | refine block_n ?_ | refine block_r ?_ | refine block_e ?_ | refine block_o rfl ?_ | refine wp_cond_t rfl ?_ | refine wp_cond_f rfl ?_
       | refine Run.cnd rfl rfl rfl ⟨by simp; omega, (by intro r hr; first | (simp at hr; done) | skip; simp at hr; first | (rcases hr with ⟨a, _, rfl⟩ | rfl <;> rfl) | (obtain ⟨a, _, rfl⟩ := hr; rfl) | (subst hr; rfl)), by simp, .inl rfl, by first | (simp [flatT]; done) | trivial⟩ ?_
       | refine Run.callB rfl rfl rfl (hkp k hlt) (by simp [AV.own, T.own]) rfl ?_ | (refine wp_cond_k rfl rfl rfl ?_ ?_ <;> intro _) | (refine wp_cond_i rfl ?_ ?_ <;> intro _))
    all_goals first
    | (exfalso; rename_i h; simp [hlt] at h; done)
    | (rename_i h
       rw [h] at hks
       refine back_i [.keep [1, 2, 3, 4, 5, 6] [1, 2, 11, 23], .ren 23 12] (k + 1) rfl ?_ (by omega) (by omega)
       simp only [w_succ hlt (by omega), hks, hst, hwk, if_true, List.map_append, List.map_cons, List.map_nil]; try rfl; done)
    | (rename_i h
       rw [h] at hks
       refine back_i [.keep [1, 2, 3, 4, 5, 6] [1, 2, 11, 23], .ren 23 12] (k + 1) rfl ?_ (by omega) (by omega)
       simp only [w_succ hlt (by omega), hks, hst, Bool.false_eq_true, if_false, Nat.add_zero, List.map_append, List.map_cons, List.map_nil]; try rfl; done)
    | trace_state
  · have hkn : k = p.ins.length := by omega
    subst hkn
    repeat' (first
       | refine wp_seq_i ?_ | refine wp_region_t k_l15Trim rfl ?_ | refine Run.done rfl ?_ | refine then_n ?_ | refine then_r ?_ | refine then_e ?_ | refine Run.go1 rfl ?_ | refine wp_skip_i ?_ | refine wp_ret_i ?_
       | refine wp_exit_i ?_ | refine wp_block_i ?_ | refine block_n ?_ | refine block_r ?_ | refine block_e ?_ | refine block_o rfl ?_ | refine wp_cond_t rfl ?_ | refine wp_cond_f rfl ?_
       | refine Run.call rfl rfl rfl (copyPiece_t p hp) rfl rfl ?_ | (refine wp_cond_k rfl rfl rfl ?_ ?_ <;> intro _) | (refine wp_cond_i rfl ?_ ?_ <;> intro _))
    any_goals (exfalso; rename_i h; simp at h; done)
    refine wp_loop_k (α := Nat) [.keep [1, 2, 3, 4, 7, 8] [1, 2, 7, 11, 12, 32]] (fun z => [(8, iA z)]) (fun _ => []) (fun z => [(32, 0, ((selI (keepF p.ins) p.ins z).map (fixI (keepF p.ins))).map (Ins.c true))]) (fun z => z ≤ p.ins.length) (fun z => p.ins.length - z) 0 rfl (fun _ => rfl) rfl (by simp) ?_
    rintro k hk
    by_cases hlt : k < p.ins.length
    · have hx : (p.ins.map (Ins.c false))[k]? = some (Ins.c false p.ins[k]) := map_at hlt
      have hil := hp.2 _ (List.getElem_mem hlt)
      have hsl := selI_len (keepF p.ins) p.ins k hk
      have hkl := kept_le (keepF p.ins) k
      have hst := selI_step (keepF p.ins) p.ins (List.getElem?_eq_getElem hlt)
      have hK := hkp k hlt
      have hto : uT p.ins[k].op = true → p.ins[k].to_ = ((p.ins[k].to_.toNat : Nat) : Int) ∧ p.ins[k].to_.toNat < p.ins.length := fun h => by have := to_at hb (List.getElem?_eq_getElem hlt) h; omega
      have hnow : uT p.ins[k].op = true → ((keptL (keepF p.ins) p.ins.length).map iR)[p.ins[k].to_.toNat]? = some (iR ((kept (keepF p.ins) p.ins[k].to_.toNat : Nat) : Int)) := fun h => keptL_row _ (hto h).2
      generalize p.ins[k] = x at *
      by_cases hu : uT x.op = true
      · have hn := hnow hu
        have ht := (hto hu).1
        repeat' (first
           | refine wp_seq_i ?_ | refine wp_region_t k_l15Trim rfl ?_ | refine Run.done rfl ?_ | refine then_n ?_ | refine then_r ?_ | refine then_e ?_ | refine Run.go1 rfl ?_ | refine wp_skip_i ?_ | refine wp_ret_i ?_
           | refine wp_exit_i ?_ | refine wp_block_i ?_ | refine block_n ?_ | refine block_r ?_ | refine block_e ?_ | refine block_o rfl ?_ | refine wp_cond_t rfl ?_ | refine wp_cond_f rfl ?_
           | refine Run.ix rfl rfl rfl rfl rfl rfl rfl hx rfl rfl rfl ?_ | refine Run.callB rfl rfl rfl (hK) (by simp [AV.own, T.own]) rfl ?_ | refine Run.call rfl rfl rfl (l9Uses_t _) rfl rfl ?_
           | refine Run.ix rfl rfl rfl rfl rfl rfl ht hn rfl rfl rfl ?_ | refine Run.ldr rfl rfl rfl hn rfl rfl ?_
           | refine Run.cnd rfl rfl rfl ⟨by simp; omega, (by intro r hr; first | (simp at hr; done) | skip; simp at hr; first | (rcases hr with ⟨a, _, rfl⟩ | rfl <;> rfl) | (obtain ⟨a, _, rfl⟩ := hr; rfl) | (subst hr; rfl)), by simp, .inl rfl, by first | (simp [flatT]; done) | trivial⟩ ?_
           | (refine wp_cond_k rfl rfl rfl ?_ ?_ <;> intro _) | (refine wp_cond_i rfl ?_ ?_ <;> intro _))
        all_goals first
        | (exfalso; rename_i h; simp [hlt] at h; done)
        | (exfalso; rename_i h2; rw [hu] at h2; cases h2; done)
        | (rename_i h1 h2
           have hkf : keepF p.ins k = true := by simpa using h1
           rw [hkf, if_pos rfl] at hst
           refine back_i [.keep [1, 2, 3, 4, 7, 8] [1, 2, 7, 11, 12, 70], .ren 70 32] (k + 1) rfl ?_ (by omega) (by omega)
           simp only [w_succ hlt (by omega), hst, fixI, hu, if_true, Bool.false_eq_true, if_false, List.map_append, List.map_cons, List.map_nil, List.nil_append]; try rfl; done)
        | (rename_i h1
           have hkf : keepF p.ins k = false := by simpa using h1
           rw [hkf] at hst
           simp only [Bool.false_eq_true, if_false, List.append_nil] at hst
           refine back_i [.keep [1, 2, 3, 4, 7, 8] [1, 2, 7, 11, 12, 32]] (k + 1) rfl ?_ (by omega) (by omega)
           simp only [w_succ hlt (by omega), hst]; try rfl; done)
        | trace_state
      · have hu : uT x.op = false := by simpa using hu
        repeat' (first
           | refine wp_seq_i ?_ | refine wp_region_t k_l15Trim rfl ?_ | refine Run.done rfl ?_ | refine then_n ?_ | refine then_r ?_ | refine then_e ?_ | refine Run.go1 rfl ?_ | refine wp_skip_i ?_ | refine wp_ret_i ?_
           | refine wp_exit_i ?_ | refine wp_block_i ?_ | refine block_n ?_ | refine block_r ?_ | refine block_e ?_ | refine block_o rfl ?_ | refine wp_cond_t rfl ?_ | refine wp_cond_f rfl ?_
           | refine Run.ix rfl rfl rfl rfl rfl rfl rfl hx rfl rfl rfl ?_ | refine Run.callB rfl rfl rfl (hK) (by simp [AV.own, T.own]) rfl ?_ | refine Run.call rfl rfl rfl (l9Uses_t _) rfl rfl ?_
           | refine Run.cnd rfl rfl rfl ⟨by simp; omega, (by intro r hr; first | (simp at hr; done) | skip; simp at hr; first | (rcases hr with ⟨a, _, rfl⟩ | rfl <;> rfl) | (obtain ⟨a, _, rfl⟩ := hr; rfl) | (subst hr; rfl)), by simp, .inl rfl, by first | (simp [flatT]; done) | trivial⟩ ?_
           | (refine wp_cond_k rfl rfl rfl ?_ ?_ <;> intro _) | (refine wp_cond_i rfl ?_ ?_ <;> intro _))
        all_goals first
        | (exfalso; rename_i h; simp [hlt] at h; done)
        | (exfalso; rename_i h2; rw [hu] at h2; cases h2; done)
        | (rename_i h1 h2
           have hkf : keepF p.ins k = true := by simpa using h1
           rw [hkf, if_pos rfl] at hst
           refine back_i [.keep [1, 2, 3, 4, 7, 8] [1, 2, 7, 11, 12, 70], .ren 70 32] (k + 1) rfl ?_ (by omega) (by omega)
           simp only [w_succ hlt (by omega), hst, fixI, hu, if_true, Bool.false_eq_true, if_false, List.map_append, List.map_cons, List.map_nil, List.nil_append]; try rfl; done)
        | (rename_i h1
           have hkf : keepF p.ins k = false := by simpa using h1
           rw [hkf] at hst
           simp only [Bool.false_eq_true, if_false, List.append_nil] at hst
           refine back_i [.keep [1, 2, 3, 4, 7, 8] [1, 2, 7, 11, 12, 32]] (k + 1) rfl ?_ (by omega) (by omega)
           simp only [w_succ hlt (by omega), hst]; try rfl; done)
        | trace_state
    · have hkn : k = p.ins.length := by omega
      subst hkn
      repeat' (first
         | refine wp_seq_i ?_ | refine wp_region_t k_l15Trim rfl ?_ | refine Run.done rfl ?_ | refine then_n ?_ | refine then_r ?_ | refine then_e ?_ | refine Run.go1 rfl ?_ | refine wp_skip_i ?_ | refine wp_ret_i ?_
         | refine wp_exit_i ?_ | refine wp_block_i ?_ | refine block_n ?_ | refine block_r ?_ | refine block_e ?_ | refine block_o rfl ?_ | refine wp_cond_t rfl ?_ | refine wp_cond_f rfl ?_
         | (refine wp_cond_k rfl rfl rfl ?_ ?_ <;> intro _) | (refine wp_cond_i rfl ?_ ?_ <;> intro _))
      all_goals first
      | (exfalso; rename_i h; simp at h; done)
      | (refine ret_m [] rfl rfl rfl; done)
      | trace_state
def k_TrimS : List (Nat × List Nat) := [(0, [1, 2]), (1, [1, 2, 5]), (2, [2]), (3, [2])]
end Go.Proofs

set_option linter.unusedVariables false
set_option linter.unusedSimpArgs false
set_option maxHeartbeats 4000000
namespace Go.Proofs
open Go Go.Ev
set_option maxRecDepth 100000
variable {X : Rel3}
theorem keepF_at {l : List Ins} {k : Nat} {x : Ins} (h : l[k]? = some x) : keepF l k = ((k : Int) == (l.length : Int) - 1 || !idleB (metC l (-1)) k x) := by
  have hk : k < l.length := (List.getElem?_eq_some_iff.1 h).1
  unfold keepF
  rw [h]
  simp only
  by_cases e : k + 1 = l.length
  · have e2 : ((k : Int) == (l.length : Int) - 1) = true := by simp; omega
    rw [e2, Bool.true_or]; unfold keepB; rw [if_pos e]
  · have e2 : ((k : Int) == (l.length : Int) - 1) = false := by simp; omega
    rw [e2, Bool.false_or, keep_idle e]
theorem selI_mem (f : Nat → Bool) (l : List Ins) : ∀ k, ∀ x ∈ selI f l k, x ∈ l
  | 0, x, h => by cases h
  | k + 1, x, h => by
    rw [selI] at h
    rcases List.mem_append.1 h with h | h
    · exact selI_mem f l k x h
    · split at h
      · split at h
        · rename_i y hy
          obtain rfl : x = y := by simpa using h
          exact List.mem_of_getElem? hy
        · cases h
      · cases h
def k_TrimI : List (Nat × List Nat) := [(0, [1, 2]), (1, [1, 2, 3]), (2, [1, 2, 3, 15]), (3, [2]), (4, [1, 2, 3, 4]), (5, [1, 2, 3, 4]), (6, [1, 2, 3, 4, 5]), (7, [1, 2, 3, 4, 5, 6]), (8, [1, 2, 3, 4, 5, 6, 27, 28, 29]), (9, [1, 2, 3, 4, 5, 6, 27, 28, 29, 30]), (10, [1, 2, 3, 4, 5, 6, 7, 8, 27, 28, 29]), (11, [1, 2, 3, 4, 5, 6, 7, 8, 27, 28, 29]), (12, [1, 2, 3, 4, 5, 6, 8, 27, 28, 29, 49]), (13, [1, 2, 3, 4, 5, 6, 27, 28, 29]), (14, [1, 2, 3, 4, 5, 6, 27, 28, 29]), (15, [2, 3, 5, 58, 59, 60]), (16, [2, 3, 5, 58, 59, 60, 61]), (17, [2, 3, 5, 9, 10, 58, 59, 60]), (18, [2, 3, 5, 9, 10, 58, 59, 60, 67]), (19, [2, 3, 5, 58, 59, 60]), (20, [2, 3, 5, 58, 59, 60]), (21, [2])]
theorem TrimI_t (p : Piece) (hp : p.ok) : Tells Tryz.prog E0 XS 19 [p.a false] ((trimB p).a true) := by
  have hpl := hp.1
  by_cases hb : pieceB p = true
  rotate_left 1
  · refine Tells.by Tryz.func19 (by simp [Tryz.f19]) (Body.i rfl rfl rfl (fun _ => rfl) fun f => ?_)
    repeat' (first
       | refine wp_seq_i ?_ | refine wp_region_t k_TrimI rfl ?_ | refine Run.done rfl ?_ | refine then_n ?_ | refine then_r ?_ | refine then_e ?_ | refine Run.go1 rfl ?_ | refine wp_skip_i ?_ | refine wp_ret_i ?_
       | refine wp_exit_i ?_ | refine wp_block_i ?_ | refine block_n ?_ | refine block_r ?_ | refine block_e ?_ | refine block_o rfl ?_ | refine wp_cond_t rfl ?_ | refine wp_cond_f rfl ?_
       | refine Run.call rfl rfl rfl (clonePiece_t p hp) rfl rfl ?_ | refine Run.call rfl rfl rfl (pieceOk_t p hp) rfl rfl ?_ | (refine wp_cond_k rfl rfl rfl ?_ ?_ <;> intro _) | (refine wp_cond_i rfl ?_ ?_ <;> intro _))
    all_goals first
    | (exfalso; rename_i h; simp [hb] at h; done)
    | (refine ret_m [] rfl rfl ?_; simp only [trimB, if_neg hb]; done)
    | trace_state
  have hlp := len_pos hb
  have hmb : metB p = metC p.ins (-1) := by simp [metB, hb]
  have hM : Tells Tryz.prog E0 XS 37 [p.a false] (.t (.sl true ((metC p.ins (-1)).map bR))) := by have := MetI_t p hp; rw [hmb] at this; exact this
  have hwl : IntKind.i64.wrap (((p.ins.map (Ins.c false)).length : Int) - 1) = (p.ins.length : Int) - 1 := by rw [List.length_map, w64] <;> omega
  refine Tells.by Tryz.func19 (by simp [Tryz.f19]) (Body.i rfl rfl rfl (fun _ => rfl) fun f => ?_)
  repeat' (first
     | refine wp_seq_i ?_ | refine wp_region_t k_TrimI rfl ?_ | refine Run.done rfl ?_ | refine then_n ?_ | refine then_r ?_ | refine then_e ?_ | refine Run.go1 rfl ?_ | refine wp_skip_i ?_ | refine wp_ret_i ?_
     | refine wp_exit_i ?_ | refine wp_block_i ?_ | refine block_n ?_ | refine block_r ?_ | refine block_e ?_ | refine block_o rfl ?_ | refine wp_cond_t rfl ?_ | refine wp_cond_f rfl ?_
     | refine Run.call rfl rfl rfl (clonePiece_t p hp) rfl rfl ?_ | refine Run.call rfl rfl rfl (pieceOk_t p hp) rfl rfl ?_ | refine Run.call rfl rfl rfl (hM) rfl rfl ?_ | (refine wp_cond_k rfl rfl rfl ?_ ?_ <;> intro _)
     | (refine wp_cond_i rfl ?_ ?_ <;> intro _))
  any_goals (exfalso; rename_i h; simp [hb] at h; done)
  refine wp_loop_k (α := Nat × List (List T)) [.nilH 3 3 77, .keep [1, 2, 3, 4, 5, 6, 27, 28, 29] [1, 2, 3, 18, 20, 3026, 77]] (fun z => [(29, iA z.1)]) (fun _ => []) (fun z => [(20, 0, (keptL (keepF p.ins) z.1).map iR), (3026, 0, z.2), (77, 0, (selI (keepF p.ins) p.ins z.1).map (Ins.c true))]) (fun z => z.1 ≤ p.ins.length ∧ z.2.length = p.ins.length ∧ ∀ (j : Nat) (x : Ins), z.1 ≤ j → p.ins[j]? = some x → z.2[j]? = some (Ins.c true x)) (fun z => p.ins.length - z.1) (0, p.ins.map (Ins.c true)) rfl (fun _ => rfl) rfl ⟨by simp, by simp, fun j x _ h => by rw [List.getElem?_map, h]; rfl⟩ ?_
  rintro ⟨k, rows⟩ ⟨hk, hrl, hrow⟩
  simp only at hk hrl hrow
  have hkl := kept_le (keepF p.ins) k
  have hll : (keptL (keepF p.ins) k).length = k := by simp [keptL]
  have hsl := selI_len (keepF p.ins) p.ins k hk
  by_cases hlt : k < p.ins.length
  · obtain ⟨x, hxx⟩ : ∃ x, p.ins[k]? = some x := ⟨_, List.getElem?_eq_getElem hlt⟩
    have hx := hrow k x (Nat.le_refl _) hxx
    have hlr : k < rows.length := by omega
    have hst := keptL_step (keepF p.ins) k
    have hss := selI_step (keepF p.ins) p.ins hxx
    have hkf := keepF_at hxx
    have hil : x.l.length ≤ 1048576 := hp.2 _ (List.mem_of_getElem? hxx)
    have hmt : (metC p.ins (-1))[k]? = some (metAt p.ins (-1) k) := by
      have e : (metC p.ins (-1))[k]? = some ((metC p.ins (-1))[k]'(by rw [metC_len]; exact hlt)) := List.getElem?_eq_getElem (by rw [metC_len]; exact hlt)
      rw [metAt, e]; rfl
    have hrest : ∀ (r : List T) (j : Nat) (y : Ins), k + 1 ≤ j → p.ins[j]? = some y → (rows.set k r)[j]? = some (Ins.c true y) := fun r j y hj hy => by rw [List.getElem?_set_ne (by omega)]; exact hrow j y (by omega) hy
    repeat' (first
       | refine wp_seq_i ?_ | refine wp_region_t k_TrimI rfl ?_ | refine Run.done rfl ?_ | refine then_n ?_ | refine then_r ?_ | refine then_e ?_ | refine Run.go1 rfl ?_ | refine wp_skip_i ?_ | refine wp_ret_i ?_
       | refine wp_exit_i ?_ | refine wp_block_i ?_ | refine block_n ?_ | refine block_r ?_ | refine block_e ?_ | refine block_o rfl ?_ | refine wp_cond_t rfl ?_ | refine wp_cond_f rfl ?_ | refine Run.gT rfl rfl rfl rfl ?_
       | refine Run.pT rfl rfl ?_ | (refine Run.splitG rfl rfl rfl rfl rfl rfl ?_ ?_ <;> intro _) | (refine Run.splitP rfl rfl rfl rfl ?_ ?_ <;> intro _) | refine Run.ix rfl rfl rfl rfl rfl rfl rfl hx rfl rfl rfl ?_
       | refine Run.adjw (.hole 3026 k 5 900000 _ _ _ _ _ _ rfl hx rfl (fun _ => rfl) fun u => .done _ (Run.ldr rfl rfl rfl (set_hit hlr) rfl rfl (Run.adjw (.tellC 33 5 900000 _ _ _ _ _ _ _ rfl rfl rfl rfl rfl rfl (.done _ ?_)))))
       | refine Run.cnd rfl rfl rfl ⟨by simp; omega, (by intro r hr; first | (simp at hr; done) | skip; simp at hr; first | (rcases hr with ⟨a, _, rfl⟩ | rfl <;> rfl) | (obtain ⟨a, _, rfl⟩ := hr; rfl) | (subst hr; rfl)), by simp, .inl rfl, by first | (simp [flatT]; done) | trivial⟩ ?_
       | refine Run.callB rfl rfl rfl (idle_t p (metC p.ins (-1)) k x _ hpl hxx hmt) (by simp [AV.own, T.own]) rfl ?_ | (refine wp_cond_k rfl rfl rfl ?_ ?_ <;> intro _) | (refine wp_cond_i rfl ?_ ?_ <;> intro _))
    all_goals first
    | (exfalso; rename_i h; simp [hlt] at h; done)
    | (rename_i u h
       have hkt : keepF p.ins k = true := by rw [hwl] at h; rw [hkf, show ((k : Int) == (p.ins.length : Int) - 1) = true from h]; rfl
       refine back_i [.keep [1, 2, 3, 4, 5, 6, 27, 28, 29] [1, 2, 3, 18, 39, 3026, 54], .ren 39 20, .ren 3026 98, .ren 98 3026, .ren 54 77] (k + 1, rows.set k [iT x.op, iT x.d, iT x.x, iT x.y, iT x.n, .sc u, iT x.to_]) rfl ?_ ⟨by simp; omega, by simp [hrl], fun j y hj hy => hrest _ j y hj hy⟩ (by simp; omega)
       simp only [w_succ hlt (by omega), hst, hss, hkt, if_true, List.map_append, List.map_cons, List.map_nil, List.length_map, hsl]; first | done | rfl)
    | (rename_i u h1 h2
       have hkt : keepF p.ins k = true := by rw [hkf, h2, Bool.or_true]
       refine back_i [.keep [1, 2, 3, 4, 5, 6, 27, 28, 29] [1, 2, 3, 18, 39, 3026, 54], .ren 39 20, .ren 3026 98, .ren 98 3026, .ren 54 77] (k + 1, rows.set k [iT x.op, iT x.d, iT x.x, iT x.y, iT x.n, .sc u, iT x.to_]) rfl ?_ ⟨by simp; omega, by simp [hrl], fun j y hj hy => hrest _ j y hj hy⟩ (by simp; omega)
       simp only [w_succ hlt (by omega), hst, hss, hkt, if_true, List.map_append, List.map_cons, List.map_nil, List.length_map, hsl]; first | done | rfl)
    | (rename_i u h1 h2
       have hkt : keepF p.ins k = false := by rw [hwl] at h1; rw [hkf, show ((k : Int) == (p.ins.length : Int) - 1) = false from h1, h2]; rfl
       refine back_i [.keep [1, 2, 3, 4, 5, 6, 27, 28, 29] [1, 2, 3, 18, 39, 3026, 77], .ren 39 20, .ren 3026 98, .ren 98 3026, .ren 77 99, .ren 99 77] (k + 1, rows.set k [iT x.op, iT x.d, iT x.x, iT x.y, iT x.n, .sc u, iT x.to_]) rfl ?_ ⟨by simp; omega, by simp [hrl], fun j y hj hy => hrest _ j y hj hy⟩ (by simp; omega)
       simp only [w_succ hlt (by omega), hst, hss, hkt, Bool.false_eq_true, if_false, List.append_nil, List.map_append, List.map_cons, List.map_nil, List.length_map, hsl]; first | done | rfl)
    | trace_state
  · have hkn : k = p.ins.length := by omega
    subst hkn
    repeat' (first
       | refine wp_seq_i ?_ | refine wp_region_t k_TrimI rfl ?_ | refine Run.done rfl ?_ | refine then_n ?_ | refine then_r ?_ | refine then_e ?_ | refine Run.go1 rfl ?_ | refine wp_skip_i ?_ | refine wp_ret_i ?_
       | refine wp_exit_i ?_ | refine wp_block_i ?_ | refine block_n ?_ | refine block_r ?_ | refine block_e ?_ | refine block_o rfl ?_ | refine wp_cond_t rfl ?_ | refine wp_cond_f rfl ?_
       | (refine wp_cond_k rfl rfl rfl ?_ ?_ <;> intro _) | (refine wp_cond_i rfl ?_ ?_ <;> intro _))
    any_goals (exfalso; rename_i h; simp at h; done)
    have hmem : ∀ x ∈ selI (keepF p.ins) p.ins p.ins.length, x ∈ p.ins := selI_mem _ _ _
    have htr : trimB p = { p with ins := (selI (keepF p.ins) p.ins p.ins.length).map (fixI (keepF p.ins)) } := by rw [trimB, if_pos hb]; rfl
    generalize hmm : selI (keepF p.ins) p.ins p.ins.length = m at hmem htr
    refine wp_loop_k (α := Nat) [.keep [2, 3, 5, 58, 59, 60] [2, 3, 20, 77]] (fun z => [(60, iA z)]) (fun _ => []) (fun z => [(77, 0, ((m.take z).map (fixI (keepF p.ins)) ++ m.drop z).map (Ins.c true))]) (fun z => z ≤ m.length) (fun z => m.length - z) 0 rfl (fun _ => rfl) (by simp only [List.take_zero, List.map_nil, List.drop_zero, List.nil_append, hmm]; try rfl) (by simp) ?_
    rintro z hz
    have hml : m.length ≤ 600 := by rw [← hmm, hsl]; omega
    by_cases hzl : z < m.length
    · obtain ⟨x, hxx⟩ : ∃ x, m[z]? = some x := ⟨_, List.getElem?_eq_getElem hzl⟩
      have hx : (((m.take z).map (fixI (keepF p.ins)) ++ m.drop z).map (Ins.c true))[z]? = some (Ins.c true x) := by
        rw [List.getElem?_map, List.getElem?_append_right (by simp; omega)]
        simp only [List.length_map, List.length_take, Nat.min_eq_left hz, Nat.sub_self]
        rw [List.getElem?_drop, Nat.add_zero, hxx]; rfl
      have hset : (((m.take z).map (fixI (keepF p.ins)) ++ m.drop z).map (Ins.c true)).set z (Ins.c true (fixI (keepF p.ins) x)) = ((m.take (z + 1)).map (fixI (keepF p.ins)) ++ m.drop (z + 1)).map (Ins.c true) := by
        have e : m[z] = x := by rw [List.getElem?_eq_getElem hzl] at hxx; exact Option.some.inj hxx
        rw [← List.map_set, List.set_append_right _ _ (by simp; omega)]
        simp only [List.length_map, List.length_take, Nat.min_eq_left hz, Nat.sub_self]
        rw [List.drop_eq_getElem_cons hzl, List.set_cons_zero, List.take_succ_eq_append_getElem hzl, e]
        simp
      have hnoset : uT x.op = false → ((m.take (z + 1)).map (fixI (keepF p.ins)) ++ m.drop (z + 1)).map (Ins.c true) = ((m.take z).map (fixI (keepF p.ins)) ++ m.drop z).map (Ins.c true) := fun h => by
        have e : m[z] = x := by rw [List.getElem?_eq_getElem hzl] at hxx; exact Option.some.inj hxx
        have hf : fixI (keepF p.ins) x = x := by simp [fixI, h]
        rw [List.take_succ_eq_append_getElem hzl, e, List.drop_eq_getElem_cons hzl, e]
        simp [hf]
      obtain ⟨j0, hj0⟩ := List.getElem?_of_mem (hmem x (List.mem_of_getElem? hxx))
      have hto : uT x.op = true → x.to_ = ((x.to_.toNat : Nat) : Int) ∧ x.to_.toNat < p.ins.length := fun h => by have := to_at hb hj0 h; omega
      have hnow : uT x.op = true → ((keptL (keepF p.ins) p.ins.length).map iR)[x.to_.toNat]? = some (iR ((kept (keepF p.ins) x.to_.toNat : Nat) : Int)) := fun h => keptL_row _ (hto h).2
      by_cases hu : uT x.op = true
      · have hn := hnow hu
        have ht := (hto hu).1
        repeat' (first
           | refine wp_seq_i ?_ | refine wp_region_t k_TrimI rfl ?_ | refine Run.done rfl ?_ | refine then_n ?_ | refine then_r ?_ | refine then_e ?_ | refine Run.go1 rfl ?_ | refine wp_skip_i ?_ | refine wp_ret_i ?_
           | refine wp_exit_i ?_ | refine wp_block_i ?_ | refine block_n ?_ | refine block_r ?_ | refine block_e ?_ | refine block_o rfl ?_ | refine wp_cond_t rfl ?_ | refine wp_cond_f rfl ?_
           | refine wp_region_qt k_TrimI rfl 8 (by decide +kernel) rfl rfl ?_ | refine RunQ.go1 rfl ?_ | refine RunQ.done rfl ?_ | refine Run.ix rfl rfl rfl rfl rfl rfl rfl hx rfl rfl rfl ?_
           | refine Run.ldr rfl rfl rfl hx rfl rfl ?_ | refine Run.call rfl rfl rfl (hasT_t _) rfl rfl ?_ | refine RunQ.ix rfl rfl rfl rfl rfl rfl ht hn rfl rfl rfl ?_ | refine RunQ.ldr rfl rfl rfl hn rfl rfl ?_
           | refine Run.str rfl rfl rfl rfl rfl rfl hx rfl rfl ?_ | (refine wp_cond_k rfl rfl rfl ?_ ?_ <;> intro _) | (refine wp_cond_i rfl ?_ ?_ <;> intro _))
        all_goals first
        | (exfalso; rename_i h; simp [hzl] at h; done)
        | (exfalso; rename_i h; rw [hu] at h; cases h; done)
        | (refine back_i [.keep [2, 3, 5, 58, 59, 60] [2, 3, 20, 77]] (z + 1) rfl ?_ (by omega) (by omega)
           rw [← hset]
           simp only [w_succ hzl (by omega), fixI, hu, if_true, Bool.false_eq_true, if_false]; first | done | rfl)
        | (refine back_i [.keep [2, 3, 5, 58, 59, 60] [2, 3, 20, 77]] (z + 1) rfl ?_ (by omega) (by omega)
           rw [hnoset hu]
           simp only [w_succ hzl (by omega)]; first | done | rfl)
        | trace_state
      · have hu : uT x.op = false := by simpa using hu
        repeat' (first
           | refine wp_seq_i ?_ | refine wp_region_t k_TrimI rfl ?_ | refine Run.done rfl ?_ | refine then_n ?_ | refine then_r ?_ | refine then_e ?_ | refine Run.go1 rfl ?_ | refine wp_skip_i ?_ | refine wp_ret_i ?_
           | refine wp_exit_i ?_ | refine wp_block_i ?_ | refine block_n ?_ | refine block_r ?_ | refine block_e ?_ | refine block_o rfl ?_ | refine wp_cond_t rfl ?_ | refine wp_cond_f rfl ?_
           | refine wp_region_qt k_TrimI rfl 8 (by decide +kernel) rfl rfl ?_ | refine RunQ.go1 rfl ?_ | refine RunQ.done rfl ?_ | refine Run.ix rfl rfl rfl rfl rfl rfl rfl hx rfl rfl rfl ?_
           | refine Run.ldr rfl rfl rfl hx rfl rfl ?_ | refine Run.call rfl rfl rfl (hasT_t _) rfl rfl ?_ | (refine wp_cond_k rfl rfl rfl ?_ ?_ <;> intro _) | (refine wp_cond_i rfl ?_ ?_ <;> intro _))
        all_goals first
        | (exfalso; rename_i h; simp [hzl] at h; done)
        | (exfalso; rename_i h; rw [hu] at h; cases h; done)
        | (refine back_i [.keep [2, 3, 5, 58, 59, 60] [2, 3, 20, 77]] (z + 1) rfl ?_ (by omega) (by omega)
           rw [← hset]
           simp only [w_succ hzl (by omega), fixI, hu, if_true, Bool.false_eq_true, if_false]; first | done | rfl)
        | (refine back_i [.keep [2, 3, 5, 58, 59, 60] [2, 3, 20, 77]] (z + 1) rfl ?_ (by omega) (by omega)
           rw [hnoset hu]
           simp only [w_succ hzl (by omega)]; first | done | rfl)
        | trace_state
    · have hzm : z = m.length := by omega
      subst hzm
      repeat' (first
         | refine wp_seq_i ?_ | refine wp_region_t k_TrimI rfl ?_ | refine Run.done rfl ?_ | refine then_n ?_ | refine then_r ?_ | refine then_e ?_ | refine Run.go1 rfl ?_ | refine wp_skip_i ?_ | refine wp_ret_i ?_
         | refine wp_exit_i ?_ | refine wp_block_i ?_ | refine block_n ?_ | refine block_r ?_ | refine block_e ?_ | refine block_o rfl ?_ | refine wp_cond_t rfl ?_ | refine wp_cond_f rfl ?_
         | (refine wp_cond_k rfl rfl rfl ?_ ?_ <;> intro _) | (refine wp_cond_i rfl ?_ ?_ <;> intro _))
      all_goals first
      | (exfalso; rename_i h; simp at h; done)
      | (refine ret_m [] rfl rfl ?_
         rw [htr]
         simp only [List.take_length, List.drop_length, List.append_nil]; done)
      | trace_state
end Go.Proofs

set_option linter.unusedVariables false
set_option linter.unusedSimpArgs false
set_option maxHeartbeats 4000000
namespace Go.Proofs
open Go Go.Ev
set_option maxRecDepth 100000
variable {X : Rel3}
theorem mkInsS_len2 (l : List Ins) (k : Int) : (mkInsS l k).1.length = l.length := mkInsS_len l k
theorem mkInsS_at : ∀ (l : List Ins) (k : Int) (j : Nat) (x : Ins), l[j]? = some x → (mkInsS l k).1[j]? = some (mkIns x (mkInsS (l.take j) k).2).1
  | [], k, j, x, h => by simp at h
  | i :: r, k, 0, x, h => by simp at h; subst h; simp [mkInsS]
  | i :: r, k, j + 1, x, h => by
    have := mkInsS_at r (mkIns i k).2 j x (by simpa using h)
    simp only [mkInsS, List.getElem?_cons_succ, List.take_succ_cons]
    exact this
theorem mkIns_up5 {i : Ins} {k : Int} (hi : i.l.length ≤ 1048576) (h0 : 0 ≤ k) (h : k ≤ 9223372036850000000) : ¬ (mk i.l (nx (nx (nx (nx (nx k)))))).2 < 0 := by
  rw [nx_up h0 (by omega), nx_up (k := k + 1) (by omega) (by omega), nx_up (k := k + 1 + 1) (by omega) (by omega), nx_up (k := k + 1 + 1 + 1) (by omega) (by omega), nx_up (k := k + 1 + 1 + 1 + 1) (by omega) (by omega)]
  rw [mk_up i.l (k + 1 + 1 + 1 + 1 + 1) (by omega) (by omega)]
  omega
def k_heldInsS : List (Nat × List Nat) := [(0, [0, 1]), (1, [0, 1, 5]), (2, [0, 1, 5, 9]), (3, [0, 1, 5]), (4, [0, 1, 5, 18]), (5, [4]), (6, [0, 1, 5]), (7, [0, 1, 5, 27]), (8, [4]), (9, [0, 1, 5]), (10, [0, 1, 5, 36]), (11, [4]), (12, [0, 1, 5]), (13, [0, 1, 5, 45]), (14, [4]), (15, [0, 1, 5]), (16, [0, 1, 5, 54]), (17, [4]), (18, [0, 1, 5]), (19, [0, 1, 5]), (20, [0, 1, 5, 65]), (21, [4]), (22, [0, 1, 5, 72]), (23, [4]), (24, [0, 1, 5]), (25, [4])]
theorem heldInsS_t (l : List Ins) (k : Int) (hl : l.length ≤ 1048576) (hll : ∀ i ∈ l, i.l.length ≤ 1048576) (h0 : 0 ≤ k) (hk : k + 1048583 * l.length ≤ 9223372036850000000) : Tells Tryz.prog E0 X 42 [.t (.sl false ((mkInsS l k).1.map (Ins.c false))), iA k] (iA (mkInsS l k).2) := by
  have hml := mkInsS_len l k
  refine Tells.by Tryz.func42 (by simp [Tryz.f42]) (Body.i rfl rfl rfl (fun _ => rfl) fun f => ?_)
  repeat' (first
     | refine wp_seq_i ?_ | refine wp_region_t k_heldInsS rfl ?_ | refine Run.done rfl ?_ | refine then_n ?_ | refine then_r ?_ | refine then_e ?_ | refine Run.go1 rfl ?_ | refine wp_skip_i ?_ | refine wp_ret_i ?_
     | refine wp_exit_i ?_ | refine wp_block_i ?_ | refine block_n ?_ | refine block_r ?_ | refine block_e ?_ | refine block_o rfl ?_ | refine wp_cond_t rfl ?_ | refine wp_cond_f rfl ?_
     | (refine wp_cond_k rfl rfl rfl ?_ ?_ <;> intro _) | (refine wp_cond_i rfl ?_ ?_ <;> intro _))
  refine wp_loop_k (α := Nat) [.keep [0, 1, 4, 5] []] (fun j => [(1, iA (mkInsS (l.take j) k).2), (5, iA j)]) (fun _ => []) (fun _ => []) (fun j => j ≤ l.length) (fun j => l.length - j) 0 rfl (fun _ => rfl) rfl (by simp) ?_
  rintro j hj
  by_cases hlt : j < l.length
  · obtain ⟨x, hxx⟩ : ∃ x, l[j]? = some x := ⟨_, List.getElem?_eq_getElem hlt⟩
    have hat := mkInsS_at l k j x hxx
    have hil := hll x (List.mem_of_getElem? hxx)
    have hup := mkInsS_up (l := l.take j) (k := k) (fun i hi => hll i (List.mem_of_mem_take hi)) h0 (by simp; omega)
    have hsn : (mkInsS (l.take (j + 1)) k).2 = (mkIns x (mkInsS (l.take j) k).2).2 := by
      have e : l.take (j + 1) = l.take j ++ [x] := by
        rw [List.getElem?_eq_getElem hlt] at hxx
        rw [List.take_succ_eq_append_getElem hlt, Option.some.inj hxx]
      rw [e, mkInsS_snoc]
    have hln : (l.take j).length ≤ 1048576 := by simp; omega
    generalize (mkInsS (l.take j) k).2 = c at hat hup hsn
    have hc0 : 0 ≤ c ∧ c ≤ 9223372036850000000 := by simp at hup; omega
    have hneg := mkIns_up5 hil hc0.1 hc0.2
    have hx : ((mkInsS l k).1.map (Ins.c false))[j]? = some (Ins.c false ⟨c, nx c, nx (nx c), nx (nx (nx c)), nx (nx (nx (nx c))), (mk x.l (nx (nx (nx (nx (nx c)))))).1, (mk x.l (nx (nx (nx (nx (nx c)))))).2⟩) := by rw [List.getElem?_map, hat]; rfl
    have hH : Tells Tryz.prog E0 X 62 [.t (.sl false ((mk x.l (nx (nx (nx (nx (nx c)))))).1.map iR)), iA (nx (nx (nx (nx (nx c)))))] (iA (mk x.l (nx (nx (nx (nx (nx c)))))).2) := by
      have := heldIntS_t (X := X) (mk x.l (nx (nx (nx (nx (nx c)))))).1 (nx (nx (nx (nx (nx c))))) (by rw [mk_len]; omega)
      rw [heI_mk] at this; exact this
    repeat' (first
       | refine wp_seq_i ?_ | refine wp_region_t k_heldInsS rfl ?_ | refine Run.done rfl ?_ | refine then_n ?_ | refine then_r ?_ | refine then_e ?_ | refine Run.go1 rfl ?_ | refine wp_skip_i ?_ | refine wp_ret_i ?_
       | refine wp_exit_i ?_ | refine wp_block_i ?_ | refine block_n ?_ | refine block_r ?_ | refine block_e ?_ | refine block_o rfl ?_ | refine wp_cond_t rfl ?_ | refine wp_cond_f rfl ?_
       | refine Run.ix rfl rfl rfl rfl rfl rfl rfl hx rfl rfl rfl ?_ | refine Run.call rfl rfl rfl (hH) rfl rfl ?_ | (refine wp_cond_k rfl rfl rfl ?_ ?_ <;> intro _) | (refine wp_cond_i rfl ?_ ?_ <;> intro _))
    all_goals first
    | (exfalso; rename_i h; exact hneg (of_decide_eq_true h); done)
    | (exfalso; rename_i h; simp [nx] at h; done)
    | (exfalso; rename_i h; simp [hml, hlt] at h; done)
    | (refine back_i [.keep [0, 1, 4, 5] []] (j + 1) rfl ?_ (by omega) (by omega)
       simp only [w_succ hlt (by omega), hsn]; first | done | rfl)
    | trace_state
  · have hjl : j = l.length := by omega
    subst hjl
    rw [List.take_length]
    repeat' (first
       | refine wp_seq_i ?_ | refine wp_region_t k_heldInsS rfl ?_ | refine Run.done rfl ?_ | refine then_n ?_ | refine then_r ?_ | refine then_e ?_ | refine Run.go1 rfl ?_ | refine wp_skip_i ?_ | refine wp_ret_i ?_
       | refine wp_exit_i ?_ | refine wp_block_i ?_ | refine block_n ?_ | refine block_r ?_ | refine block_e ?_ | refine block_o rfl ?_ | refine wp_cond_t rfl ?_ | refine wp_cond_f rfl ?_
       | (refine wp_cond_k rfl rfl rfl ?_ ?_ <;> intro _) | (refine wp_cond_i rfl ?_ ?_ <;> intro _))
    all_goals first
    | (exfalso; rename_i h; simp [hml] at h; done)
    | (refine ret_m [] rfl rfl rfl; done)
    | trace_state
theorem heldPiece_t (p : Piece) (k : Int) (hp : p.ok) (h0 : 0 ≤ k) (hk : k + 1048583 * p.ins.length ≤ 9223372036850000000) : Tells Tryz.prog E0 X 25 [({ p with ins := (mkInsS p.ins k).1 } : Piece).a false, iA k] (iA (mkInsS p.ins k).2) := by
  have hpl := hp.1
  have hup := mkInsS_up (l := p.ins) (k := k) hp.2 h0 (by omega)
  refine Tells.by Tryz.func25 (by simp [Tryz.f25]) (Body.i rfl rfl rfl (fun _ => rfl) fun f => ?_)
  repeat' (first
     | refine wp_seq_i ?_ | refine wp_region_i ?_ | refine Run.done rfl ?_ | refine then_n ?_ | refine then_r ?_ | refine then_e ?_ | refine Run.go1 rfl ?_ | refine wp_skip_i ?_ | refine wp_ret_i ?_ | refine wp_exit_i ?_
     | refine wp_block_i ?_ | refine block_n ?_ | refine block_r ?_ | refine block_e ?_ | refine block_o rfl ?_ | refine wp_cond_t rfl ?_ | refine wp_cond_f rfl ?_
     | refine Run.call rfl rfl rfl (heldInsS_t p.ins k hpl hp.2 h0 hk) rfl rfl ?_ | (refine wp_cond_k rfl rfl rfl ?_ ?_ <;> intro _) | (refine wp_cond_i rfl ?_ ?_ <;> intro _))
  all_goals first
  | (exfalso; rename_i h; simp at h; omega)
  | (refine ret_m [] rfl rfl rfl; done)
  | trace_state
theorem trimB_ok (p : Piece) (hp : p.ok) : (trimB p).ok := by
  unfold trimB
  split
  · refine ⟨?_, fun i hi => ?_⟩
    · simp only [trimP, List.length_map]
      rw [selI_len _ _ _ (Nat.le_refl _)]
      exact Nat.le_trans (kept_le _ _) hp.1
    · simp only [trimP] at hi
      obtain ⟨x, hx, rfl⟩ := List.mem_map.1 hi
      have := hp.2 x (selI_mem _ _ _ x hx)
      unfold fixI
      split
      · exact this
      · exact this
  · exact hp
end Go.Proofs

set_option linter.unusedVariables false
set_option linter.unusedSimpArgs false
set_option maxHeartbeats 4000000
namespace Go.Proofs
open Go Go.Ev
set_option maxRecDepth 100000
variable {X : Rel3}
abbrev Code.c (o : Bool) (c : Code) : List T := [.sl o (c.funs.map (Piece.c o)), iT c.main.lam, iT c.main.in_, iT c.main.regs, .sl o (c.main.ins.map (Ins.c o))]
def lamI2 (funs : List Piece) (i : Ins) : Bool := lamI funs i && (i.op != 14 || asc i.l)
def k_lamsOk1 : List (Nat × List Nat) := [(0, [1, 2]), (1, [1, 2, 9]), (2, [1, 2, 4]), (3, [3]), (4, [1, 2, 30, 31, 32]), (5, [1, 2, 30, 31, 32, 33]), (6, [1, 2, 5, 6, 30, 31, 32]), (7, [1, 2, 30, 31, 32, 59]), (8, [3]), (9, [1, 2, 30, 31, 32]), (10, [3])]
theorem lamsOk1_t (c : Code) (i : Ins) (hc : c.funs.length ≤ 1048576) (hil : i.l.length ≤ 1048576) : Tells Tryz.prog E0 X 70 [i.a false, .t (.pt (Code.c false c))] (bA (!lamI2 c.funs i)) := by
  refine Tells.by Tryz.func70 (by simp [Tryz.f70]) (Body.i rfl rfl rfl (fun _ => rfl) fun f => ?_)
  repeat' (first
     | refine wp_seq_i ?_ | refine wp_region_t k_lamsOk1 rfl ?_ | refine Run.done rfl ?_ | refine then_n ?_ | refine then_r ?_ | refine then_e ?_ | refine Run.go1 rfl ?_ | refine wp_skip_i ?_ | refine wp_ret_i ?_
     | refine wp_exit_i ?_ | refine wp_block_i ?_ | refine block_n ?_ | refine block_r ?_ | refine block_e ?_ | refine block_o rfl ?_ | refine wp_cond_t rfl ?_ | refine wp_cond_f rfl ?_
     | refine wp_region_qt k_lamsOk1 rfl 16 (by decide +kernel) rfl rfl ?_ | refine RunQ.go1 rfl ?_ | refine RunQ.done rfl ?_ | refine Run.gT rfl rfl rfl rfl ?_ | refine Run.pT rfl rfl ?_
     | (refine Run.splitG rfl rfl rfl rfl rfl rfl ?_ ?_ <;> intro _) | (refine Run.splitP rfl rfl rfl rfl ?_ ?_ <;> intro _) | refine RunQ.gT rfl rfl rfl rfl ?_ | refine RunQ.pT rfl rfl ?_
     | (refine RunQ.splitG rfl rfl rfl rfl rfl rfl ?_ ?_ <;> intro _) | (refine RunQ.splitP rfl rfl rfl rfl ?_ ?_ <;> intro _) | refine Run.call rfl rfl rfl (pieceAt_t c _ hc) rfl rfl ?_
     | refine RunQ.ix rfl rfl rfl rfl rfl rfl (funAt_row (by simpa using ‹decide (funAt c.funs i.n < 0) = false›)).1 (funAt_row (by simpa using ‹decide (funAt c.funs i.n < 0) = false›)).2 rfl rfl rfl ?_
     | (refine wp_cond_k rfl rfl rfl ?_ ?_ <;> intro _) | (refine wp_cond_i rfl ?_ ?_ <;> intro _))
  any_goals (refine ret_m [] rfl rfl ?_; first | (simp_all [lamI2, lamI]; done) | (have h0 : decide (funAt c.funs i.n < 0) = false := (by assumption); have h8 : i.op = 8 := (by simp_all); simp only [lamI2, lamI, h8, h0, bne, List.length_map, if_true]; simp; done))
  have h8 : ¬ i.op = 8 := by simp_all
  refine wp_loop_k (α := Nat) [.keep [1, 2, 30, 31, 32] [2]] (fun k => [(32, iA k)]) (fun _ => []) (fun _ => []) (fun k => k ≤ i.l.length ∧ (i.op = 14 → asc (i.l.drop (k - 1)) = asc i.l ∧ allF c.funs (i.l.drop k) = allF c.funs i.l)) (fun k => i.l.length - k) 0 rfl (fun _ => rfl) rfl ⟨by simp, by simp⟩ ?_
  rintro k ⟨hk, hA⟩
  by_cases hlt : k < i.l.length
  · have hx : (i.l.map iR)[k]? = some (iR i.l[k]) := map_at hlt
    have hy : (i.l.map iR)[k - 1]? = some (iR (i.l[k - 1]'(by omega))) := map_at (by omega)
    have hkk : decide ((k : Int) > 0) = true → IntKind.i64.wrap ((k : Int) - 1) = ((k - 1 : Nat) : Int) := by intro h; simp at h; rw [w_pred] <;> omega
    have hA1 : 0 < k → i.op = 14 → asc i.l = (decide ((i.l[k - 1]'(by omega)) < i.l[k]) && asc (i.l.drop k)) := by
      intro h h14
      obtain ⟨j, rfl⟩ : ∃ j, k = j + 1 := ⟨k - 1, by omega⟩
      rw [← (hA h14).1]; exact asc_step hlt
    have hA2 : k = 0 → asc (i.l.drop k) = asc i.l := by rintro rfl; simp
    have hI : i.op = 14 → (!decide (funAt c.funs i.l[k] < 0) && allF c.funs (i.l.drop (k + 1))) = allF c.funs i.l := by intro h14; rw [← allF_step hlt]; exact (hA h14).2
    repeat' (first
       | refine wp_seq_i ?_ | refine wp_region_t k_lamsOk1 rfl ?_ | refine Run.done rfl ?_ | refine then_n ?_ | refine then_r ?_ | refine then_e ?_ | refine Run.go1 rfl ?_ | refine wp_skip_i ?_ | refine wp_ret_i ?_
       | refine wp_exit_i ?_ | refine wp_block_i ?_ | refine block_n ?_ | refine block_r ?_ | refine block_e ?_ | refine block_o rfl ?_ | refine wp_cond_t rfl ?_ | refine wp_cond_f rfl ?_ | refine Run.gT rfl rfl rfl rfl ?_
       | refine Run.pT rfl rfl ?_ | (refine Run.splitG rfl rfl rfl rfl rfl rfl ?_ ?_ <;> intro _) | (refine Run.splitP rfl rfl rfl rfl ?_ ?_ <;> intro _) | refine Run.ix rfl rfl rfl rfl rfl rfl rfl hx rfl rfl rfl ?_
       | refine Run.ix rfl rfl rfl rfl rfl rfl (hkk (by assumption)) hy rfl rfl rfl ?_ | refine Run.call rfl rfl rfl (pieceAt_t c _ hc) rfl rfl ?_ | (refine wp_cond_k rfl rfl rfl ?_ ?_ <;> intro _)
       | (refine wp_cond_i rfl ?_ ?_ <;> intro _))
    all_goals first
    | (rename_i h; simp [hlt] at h; done)
    | (exfalso; clear hA hA1 hA2 hI; simp_all; done)
    | (refine ret_m [] rfl rfl ?_
       have h14 : i.op = 14 := by clear hA hA1 hA2 hI; simp_all
       have hl : (0 < k ∧ ¬ (i.l[k - 1]'(by omega)) < i.l[k]) ∨ funAt c.funs i.l[k] < 0 := by
         clear hA hA1 hA2 hI
         rcases Nat.eq_zero_or_pos k with h0 | h0 <;> simp_all
       rcases hl with ⟨h0, hl⟩ | hl
       · have := hA1 h0 h14; simp [hl] at this; simp [lamI2, h14, this]
       · have hI := hI h14; simp [hl] at hI; simp [lamI2, lamI, h14, ← hI])
    | (refine back_i [.keep [1, 2, 30, 31, 32] [2]] (k + 1) rfl ?_ ⟨by omega, ?_⟩ (by omega)
       · simp only [w_succ hlt (by omega)]
       · intro h14
         refine ⟨?_, ?_⟩
         · rcases Nat.eq_zero_or_pos k with h0 | h0
           · exact hA2 h0
           · have hq := hA1 h0 h14
             have hl : (i.l[k - 1]'(by omega)) < i.l[k] := by clear hA1 hA2 hA hI hq; simp_all
             rw [hq]; simp [hl]
         · have hl : ¬ funAt c.funs i.l[k] < 0 := by clear hA1 hA2 hA hI; simp_all
           rw [← hI h14]; simp [hl])
  · have hk : k = i.l.length := by omega
    subst hk
    have hA : i.op = 14 → asc i.l = true ∧ allF c.funs i.l = true := by intro h; rw [← (hA h).1, ← (hA h).2]; exact ⟨asc_end (by omega), by simp [allF]⟩
    repeat' (first
       | refine wp_seq_i ?_ | refine wp_region_t k_lamsOk1 rfl ?_ | refine Run.done rfl ?_ | refine then_n ?_ | refine then_r ?_ | refine then_e ?_ | refine Run.go1 rfl ?_ | refine wp_skip_i ?_ | refine wp_ret_i ?_
       | refine wp_exit_i ?_ | refine wp_block_i ?_ | refine block_n ?_ | refine block_r ?_ | refine block_e ?_ | refine block_o rfl ?_ | refine wp_cond_t rfl ?_ | refine wp_cond_f rfl ?_
       | (refine wp_cond_k rfl rfl rfl ?_ ?_ <;> intro _) | (refine wp_cond_i rfl ?_ ?_ <;> intro _))
    · rename_i h; simp at h
    · refine ret_m [] rfl rfl ?_
      by_cases h14 : i.op = 14
      · simp [lamI2, lamI, h14, hA h14]
      · simp [lamI2, lamI, h14, h8]
def lams2 (funs : List Piece) (l : List Ins) : Bool := l.all (lamI2 funs)
theorem lams2_eq {funs : List Piece} {p : Piece} : (pieceB p && lams2 funs p.ins) = (pieceB p && lamsB funs p.ins) := by
  cases hp : pieceB p with
  | false => rfl
  | true =>
    simp only [Bool.true_and]
    have hi : allI p.regs p.ins.length p.ins = true := by simp [pieceB] at hp; exact hp.2.1
    rw [Bool.eq_iff_iff]
    simp only [lams2, lamsB, List.all_eq_true]
    simp only [allI, List.all_eq_true] at hi
    refine forall_congr' fun i => forall_congr' fun hm => ?_
    have hb := hi i hm
    by_cases h14 : i.op = 14
    · have ha : asc i.l = true := by simp [insB, numB, h14] at hb; exact hb.2.1
      simp [lamI2, ha]
    · simp [lamI2, h14]
theorem lamsOk_t (c : Code) (p : Piece) (hc : c.funs.length ≤ 1048576) (hp : p.ok) : Tells Tryz.prog E0 X 49 [c.a false, p.a false] (bA (lams2 c.funs p.ins)) := by
  have hcf := containsFIns_t (X := X) p.ins 70 rfl (Code.c false c) (fun i => !lamI2 c.funs i) (fun i hi => lamsOk1_t c i hc (hp.2 _ hi)) hp.1
  have e : (!(p.ins.any fun i => !lamI2 c.funs i)) = lams2 c.funs p.ins := by simp only [lams2, List.all_eq_not_any_not]
  refine Tells.by Tryz.func49 (by simp [Tryz.f49]) (Body.i rfl rfl rfl (fun _ => rfl) fun f => ?_)
  repeat' (first
     | refine wp_seq_i ?_ | refine wp_region_i ?_ | refine Run.done rfl ?_ | refine then_n ?_ | refine then_r ?_ | refine then_e ?_ | refine Run.go1 rfl ?_ | refine wp_skip_i ?_ | refine wp_ret_i ?_ | refine wp_exit_i ?_
     | refine wp_block_i ?_ | refine block_n ?_ | refine block_r ?_ | refine block_e ?_ | refine block_o rfl ?_ | refine wp_cond_t rfl ?_ | refine wp_cond_f rfl ?_
     | refine Run.callB rfl rfl rfl (hcf) (by simp [AV.own, T.own]) rfl ?_ | (refine wp_cond_k rfl rfl rfl ?_ ?_ <;> intro _) | (refine wp_cond_i rfl ?_ ?_ <;> intro _))
  all_goals (refine ret_m [] rfl rfl ?_; rw [e])
end Go.Proofs

set_option linter.unusedVariables false
set_option linter.unusedSimpArgs false
set_option maxHeartbeats 4000000
namespace Go.Proofs
open Go Go.Ev
set_option maxRecDepth 100000
variable {X : Rel3}
def gB (funs : List Piece) (p : Piece) : Bool := rng p.lam 0 149 && (!decide (p.in_ < 1) && (pieceB p && lams2 funs p.ins))
theorem gB_eq {funs : List Piece} {p : Piece} : gB funs p = fB funs p := by
  unfold gB fB
  rw [lams2_eq]
  cases hp : pieceB p with
  | false => simp
  | true =>
    have hh : headB p = true := by simp [pieceB] at hp; exact hp.1
    have := headB_iff.1 hh
    rw [Bool.eq_iff_iff]
    simp [rng]
    constructor
    · rintro ⟨h1, h2, h3⟩; exact ⟨h1.1, h3⟩
    · rintro ⟨h1, h3⟩; exact ⟨by omega, by omega, h3⟩
theorem mainB {funs : List Piece} {p : Piece} (h : p.lam = -1) (hp : pieceB p = true) : p.in_ = 0 := by
  have hh : headB p = true := by simp [pieceB] at hp; exact hp.1
  have := headB_iff.1 hh
  omega
def k_CodeOkI : List (Nat × List Nat) := [(0, [1]), (1, [1, 33]), (2, [2]), (3, [1, 35, 36, 37]), (4, [1, 35, 36, 37, 38]), (5, [1, 3, 4, 35, 36, 37]), (6, [1, 35, 36, 37, 77]), (7, [2]), (8, [1, 35, 36, 37]), (9, [2])]
theorem CodeOkI_t (c : Code) (hc : c.ok) : Tells Tryz.prog E0 X 34 [c.a false] (bA (codeB c)) := by
  have hcl := hc.1
  have hme := lams2_eq (funs := c.funs) (p := c.main)
  have hm0 := mainB (funs := c.funs) (p := c.main)
  refine Tells.by Tryz.func34 (by simp [Tryz.f34]) (Body.i rfl rfl rfl (fun _ => rfl) fun f => ?_)
  repeat' (first
     | refine wp_seq_i ?_ | refine wp_region_t k_CodeOkI rfl ?_ | refine Run.done rfl ?_ | refine then_n ?_ | refine then_r ?_ | refine then_e ?_ | refine Run.go1 rfl ?_ | refine wp_skip_i ?_ | refine wp_ret_i ?_
     | refine wp_exit_i ?_ | refine wp_block_i ?_ | refine block_n ?_ | refine block_r ?_ | refine block_e ?_ | refine block_o rfl ?_ | refine wp_cond_t rfl ?_ | refine wp_cond_f rfl ?_ | refine Run.gT rfl rfl rfl rfl ?_
     | refine Run.pT rfl rfl ?_ | (refine Run.splitG rfl rfl rfl rfl rfl rfl ?_ ?_ <;> intro _) | (refine Run.splitP rfl rfl rfl rfl ?_ ?_ <;> intro _) | refine Run.call rfl rfl rfl (pieceOk_t c.main hc.2.2) rfl rfl ?_
     | refine Run.call rfl rfl rfl (lamsOk_t c c.main hc.1 hc.2.2) rfl rfl ?_ | (refine wp_cond_k rfl rfl rfl ?_ ?_ <;> intro _) | (refine wp_cond_i rfl ?_ ?_ <;> intro _))
  any_goals (refine ret_m [] rfl rfl ?_; have hx : codeB c = ((decide ((c.funs.length : Int) ≤ 200) && c.main.lam == -1) && ((pieceB c.main && lams2 c.funs c.main.ins) && (asc (lamsL c.funs) && allP c.funs c.funs))) := (by rw [hme]; rfl); rw [hx]; clear hx hme; first | (simp_all; done) | (by_cases hq : pieceB c.main = true <;> simp_all; done) | (simp_all; omega))
  have hM : pieceB c.main = true ∧ lamsB c.funs c.main.ins = true ∧ c.main.lam = -1 ∧ (c.funs.length : Int) ≤ 200 := by clear hm0; simp_all
  clear hme hm0
  refine wp_loop_k (α := Nat) [.keep [1, 35, 36, 37] [1]] (fun k => [(37, iA k)]) (fun _ => []) (fun _ => []) (fun k => k ≤ c.funs.length ∧ asc ((lamsL c.funs).drop (k - 1)) = asc (lamsL c.funs) ∧ allP c.funs (c.funs.drop k) = allP c.funs c.funs) (fun k => c.funs.length - k) 0 rfl (fun _ => rfl) rfl ⟨by simp, by simp, by simp⟩ ?_
  rintro k ⟨hk, hA, hI⟩
  by_cases hlt : k < c.funs.length
  · have hx : (c.funs.map (Piece.c false))[k]? = some (Piece.c false c.funs[k]) := map_at hlt
    have hy : (c.funs.map (Piece.c false))[k - 1]? = some (Piece.c false (c.funs[k - 1]'(by omega))) := map_at (by omega)
    have hpo := hc.2.1 _ (List.getElem_mem hlt)
    rw [allP_step hlt, ← gB_eq] at hI
    have hkk : decide ((k : Int) > 0) = true → IntKind.i64.wrap ((k : Int) - 1) = ((k - 1 : Nat) : Int) := by intro h; simp at h; rw [w_pred] <;> omega
    have hA1 : 0 < k → asc (lamsL c.funs) = (decide ((c.funs[k - 1]'(by omega)).lam < c.funs[k].lam) && asc ((lamsL c.funs).drop k)) := by
      intro h
      obtain ⟨j, rfl⟩ : ∃ j, k = j + 1 := ⟨k - 1, by omega⟩
      rw [← hA]; exact lams_step hlt
    have hA0 : k = 0 → asc ((lamsL c.funs).drop k) = asc (lamsL c.funs) := by rintro rfl; simp
    repeat' (first
       | refine wp_seq_i ?_ | refine wp_region_t k_CodeOkI rfl ?_ | refine Run.done rfl ?_ | refine then_n ?_ | refine then_r ?_ | refine then_e ?_ | refine Run.go1 rfl ?_ | refine wp_skip_i ?_ | refine wp_ret_i ?_
       | refine wp_exit_i ?_ | refine wp_block_i ?_ | refine block_n ?_ | refine block_r ?_ | refine block_e ?_ | refine block_o rfl ?_ | refine wp_cond_t rfl ?_ | refine wp_cond_f rfl ?_
       | refine wp_region_qt k_CodeOkI rfl 36 (by decide +kernel) rfl rfl ?_ | refine RunQ.go1 rfl ?_ | refine RunQ.done rfl ?_ | refine Run.gT rfl rfl rfl rfl ?_ | refine Run.pT rfl rfl ?_
       | (refine Run.splitG rfl rfl rfl rfl rfl rfl ?_ ?_ <;> intro _) | (refine Run.splitP rfl rfl rfl rfl ?_ ?_ <;> intro _) | refine RunQ.gT rfl rfl rfl rfl ?_ | refine RunQ.pT rfl rfl ?_
       | (refine RunQ.splitG rfl rfl rfl rfl rfl rfl ?_ ?_ <;> intro _) | (refine RunQ.splitP rfl rfl rfl rfl ?_ ?_ <;> intro _) | refine Run.ix rfl rfl rfl rfl rfl rfl rfl hx rfl rfl rfl ?_
       | refine RunQ.ix rfl rfl rfl rfl rfl rfl rfl hx rfl rfl rfl ?_ | refine RunQ.ix rfl rfl rfl rfl rfl rfl (hkk (by assumption)) hy rfl rfl rfl ?_ | refine RunQ.call rfl rfl rfl rfl rfl rfl (in_t _ _ _) (.inl rfl) rfl rfl ?_
       | refine RunQ.call rfl rfl rfl rfl rfl rfl (pieceOk_t _ hpo) (.inl rfl) rfl rfl ?_ | refine RunQ.call rfl rfl rfl rfl rfl rfl (lamsOk_t c _ hcl hpo) (.inl rfl) rfl rfl ?_ | (refine wp_cond_k rfl rfl rfl ?_ ?_ <;> intro _)
       | (refine wp_cond_i rfl ?_ ?_ <;> intro _))
    all_goals first
    | (rename_i h; simp [hlt] at h; done)
    | (exfalso; clear hA0 hA1 hA hI hM; simp_all; done)
    | (refine ret_m [] rfl rfl ?_
       have hl : (0 < k ∧ ¬ (c.funs[k - 1]'(by omega)).lam < c.funs[k].lam) ∨ gB c.funs c.funs[k] = false := by
         clear hA0 hA1 hA hI hM
         rcases Nat.eq_zero_or_pos k with h0 | h0
         · right; simp_all [gB]
         · simp_all [gB]
       rcases hl with ⟨h0, hl⟩ | hl
       · have := hA1 h0; simp [hl] at this; simp [codeB, this]
       · rw [hl] at hI; simp [codeB, ← hI])
    | (refine back_i [.keep [1, 35, 36, 37] [1]] (k + 1) rfl ?_ ⟨by omega, ?_, ?_⟩ (by omega)
       · simp only [w_succ hlt (by omega)]
       · rcases Nat.eq_zero_or_pos k with h0 | h0
         · exact hA0 h0
         · have hq := hA1 h0
           have hl : (c.funs[k - 1]'(by omega)).lam < c.funs[k].lam := by clear hA0 hA1 hA hI hq hM; simp_all
           rw [hq]; simp [hl]
       · have hl : gB c.funs c.funs[k] = true := by clear hA0 hA1 hA hI hM; simp_all [gB]
         rw [← hI, hl, Bool.true_and])
  · have hk : k = c.funs.length := by omega
    subst hk
    have hA : asc (lamsL c.funs) = true := by rw [← hA]; exact asc_end (by simp; omega)
    simp [allP] at hI
    repeat' (first
       | refine wp_seq_i ?_ | refine wp_region_t k_CodeOkI rfl ?_ | refine Run.done rfl ?_ | refine then_n ?_ | refine then_r ?_ | refine then_e ?_ | refine Run.go1 rfl ?_ | refine wp_skip_i ?_ | refine wp_ret_i ?_
       | refine wp_exit_i ?_ | refine wp_block_i ?_ | refine block_n ?_ | refine block_r ?_ | refine block_e ?_ | refine block_o rfl ?_ | refine wp_cond_t rfl ?_ | refine wp_cond_f rfl ?_
       | (refine wp_cond_k rfl rfl rfl ?_ ?_ <;> intro _) | (refine wp_cond_i rfl ?_ ?_ <;> intro _))
    · rename_i h; simp at h
    · refine ret_m [] rfl rfl ?_
      have : allP c.funs c.funs = true := by simp [allP]; exact hI
      simp [codeB, hM, this, hA]
end Go.Proofs

set_option linter.unusedVariables false
set_option linter.unusedSimpArgs false
set_option maxHeartbeats 4000000
namespace Go.Proofs
open Go Go.Ev
set_option maxRecDepth 100000
variable {X : Rel3}
theorem own_Pc (p : Piece) : (p.a true).own := by simp [AV.own, T.own, ownCL, ownC, own_Ins]
noncomputable def trimC (c : Code) : Code := if codeB c then ⟨c.funs.map trimB, trimB c.main⟩ else c
def k_copyCode : List (Nat × List Nat) := [(0, [1, 2]), (1, [1, 2, 3]), (2, [1, 2, 3, 4]), (3, [1, 2, 3, 4, 13]), (4, [1, 2, 3, 4]), (5, [1, 2, 3, 4]), (6, [2])]
theorem copyCode_t (c : Code) (hc : c.ok) : Tells Tryz.prog E0 X 14 [c.a false] (c.a true) := by
  have hcl := hc.1
  refine Tells.by Tryz.func14 (by simp [Tryz.f14]) (Body.i rfl rfl rfl (fun _ => rfl) fun f => ?_)
  repeat' (first
     | refine wp_seq_i ?_ | refine wp_region_t k_copyCode rfl ?_ | refine Run.done rfl ?_ | refine then_n ?_ | refine then_r ?_ | refine then_e ?_ | refine Run.go1 rfl ?_ | refine wp_skip_i ?_ | refine wp_ret_i ?_
     | refine wp_exit_i ?_ | refine wp_block_i ?_ | refine block_n ?_ | refine block_r ?_ | refine block_e ?_ | refine block_o rfl ?_ | refine wp_cond_t rfl ?_ | refine wp_cond_f rfl ?_
     | refine Run.call rfl rfl rfl (copyPiece_t c.main hc.2.2) rfl rfl ?_ | (refine wp_cond_k rfl rfl rfl ?_ ?_ <;> intro _) | (refine wp_cond_i rfl ?_ ?_ <;> intro _))
  refine wp_loop_k (α := Nat) [.nilH 3 0 77, .keep [1, 2, 3, 4] [1, 2, 3, 77, 3007]] (fun z => [(4, iA z)]) (fun _ => []) (fun z => [(77, 0, ((c.funs.take z).map id).map (Piece.c true))]) (fun z => z ≤ c.funs.length) (fun z => c.funs.length - z) 0 rfl (fun _ => rfl) rfl (by simp) ?_
  rintro k hk
  by_cases hlt : k < c.funs.length
  · have hx : (c.funs.map (Piece.c false))[k]? = some (Piece.c false c.funs[k]) := map_at hlt
    have hpk := hc.2.1 _ (List.getElem_mem hlt)
    have hst : c.funs.take (k + 1) = c.funs.take k ++ [c.funs[k]] := List.take_succ_eq_append_getElem hlt
    repeat' (first
       | refine wp_seq_i ?_ | refine wp_region_t k_copyCode rfl ?_ | refine Run.done rfl ?_ | refine then_n ?_ | refine then_r ?_ | refine then_e ?_ | refine Run.go1 rfl ?_ | refine wp_skip_i ?_ | refine wp_ret_i ?_
       | refine wp_exit_i ?_ | refine wp_block_i ?_ | refine block_n ?_ | refine block_r ?_ | refine block_e ?_ | refine block_o rfl ?_ | refine wp_cond_t rfl ?_ | refine wp_cond_f rfl ?_ | refine RunQ.go1 rfl ?_
       | refine RunQ.done rfl ?_ | refine Run.ix rfl rfl rfl rfl rfl rfl rfl hx rfl rfl rfl ?_ | refine RunQ.ix rfl rfl rfl rfl rfl rfl rfl hx rfl rfl rfl ?_
       | refine wp_region_l k_copyCode [0, 1, 2, 3, 4, 5, 6] [7, 8] [0, 1, 0, 4, 0, 28, 60, 124, 252, 511, 1023, 2047] rfl (by decide +kernel) (by decide +kernel) rfl rfl ?_
       | refine RunL.call rfl rfl rfl rfl (copyPiece_t _ hpk) (.inl rfl) rfl rfl ?_ | refine RunL.one rfl rfl rfl rfl rfl ?_ | refine RunL.done ?_
       | refine Run.cnd rfl rfl rfl ⟨by simp; omega, (by intro r hr; obtain ⟨a, _, rfl⟩ := List.mem_map.1 hr; rfl), by simp, .inl rfl, by trivial⟩ ?_ | (refine wp_cond_k rfl rfl rfl ?_ ?_ <;> intro _)
       | (refine wp_cond_i rfl ?_ ?_ <;> intro _))
    all_goals first
    | (exfalso; rename_i h; simp [hlt] at h; done)
    | (refine back_i [.keep [1, 2, 3, 4] [1, 2, 3, 25, 3007], .ren 25 77] (k + 1) rfl ?_ (by omega) (by omega)
       simp only [w_succ hlt (by omega), hst, List.map_append, List.map_cons, List.map_nil]; first | done | rfl)
    | trace_state
  · have hkn : k = c.funs.length := by omega
    subst hkn
    repeat' (first
       | refine wp_seq_i ?_ | refine wp_region_t k_copyCode rfl ?_ | refine Run.done rfl ?_ | refine then_n ?_ | refine then_r ?_ | refine then_e ?_ | refine Run.go1 rfl ?_ | refine wp_skip_i ?_ | refine wp_ret_i ?_
       | refine wp_exit_i ?_ | refine wp_block_i ?_ | refine block_n ?_ | refine block_r ?_ | refine block_e ?_ | refine block_o rfl ?_ | refine wp_cond_t rfl ?_ | refine wp_cond_f rfl ?_
       | (refine wp_cond_k rfl rfl rfl ?_ ?_ <;> intro _) | (refine wp_cond_i rfl ?_ ?_ <;> intro _))
    all_goals first
    | (exfalso; rename_i h; simp at h; done)
    | (refine ret_m [] rfl rfl ?_
       simp only [List.take_length, List.map_id]; done)
    | trace_state
end Go.Proofs

set_option linter.unusedVariables false
set_option linter.unusedSimpArgs false
set_option maxHeartbeats 4000000
namespace Go.Proofs
open Go Go.Ev
set_option maxRecDepth 100000
variable {X : Rel3}
theorem codeB_pieces {c : Code} (h : codeB c = true) : c.funs.length ≤ 200 ∧ pieceB c.main = true ∧ ∀ p ∈ c.funs, pieceB p = true := by
  simp only [codeB, Bool.and_eq_true, decide_eq_true_eq, allP, List.all_eq_true, fB] at h
  exact ⟨by omega, h.2.1.1, fun p hp => (h.2.2.2 p hp).2.1⟩
theorem l15TrimB_t (p : Piece) (hb : pieceB p = true) (hp : p.ok) : Tells Tryz.prog E0 X 15 [p.a false] ((trimB p).a true) := by rw [trimB, if_pos hb]; exact l15Trim_t p hb hp
def k_TrimAllS : List (Nat × List Nat) := [(0, [1, 2]), (1, [1, 2, 7]), (2, [2]), (3, [1, 2, 3]), (4, [1, 2, 3, 4]), (5, [1, 2, 3, 4, 18]), (6, [1, 2, 3, 4]), (7, [1, 2, 3, 4]), (8, [2])]
theorem TrimAllS_t (c : Code) (hc : c.ok) : Tells Tryz.prog E0 X 5 [c.a false] ((trimC c).a true) := by
  have hcl := hc.1
  by_cases hb : codeB c = true
  rotate_left 1
  · refine Tells.by Tryz.func5 (by simp [Tryz.f5]) (Body.i rfl rfl rfl (fun _ => rfl) fun f => ?_)
    repeat' (first
       | refine wp_seq_i ?_ | refine wp_region_t k_TrimAllS rfl ?_ | refine Run.done rfl ?_ | refine then_n ?_ | refine then_r ?_ | refine then_e ?_ | refine Run.go1 rfl ?_ | refine wp_skip_i ?_ | refine wp_ret_i ?_
       | refine wp_exit_i ?_ | refine wp_block_i ?_ | refine block_n ?_ | refine block_r ?_ | refine block_e ?_ | refine block_o rfl ?_ | refine wp_cond_t rfl ?_ | refine wp_cond_f rfl ?_
       | refine Run.call rfl rfl rfl (CodeOkS_t c hc) rfl rfl ?_ | refine Run.call rfl rfl rfl (copyCode_t c hc) rfl rfl ?_ | (refine wp_cond_k rfl rfl rfl ?_ ?_ <;> intro _) | (refine wp_cond_i rfl ?_ ?_ <;> intro _))
    all_goals first
    | (exfalso; rename_i h; simp [hb] at h; done)
    | (refine ret_m [] rfl rfl ?_; simp only [trimC, if_neg hb]; done)
    | trace_state
  obtain ⟨hb0, hb1, hb2⟩ := codeB_pieces hb
  refine Tells.by Tryz.func5 (by simp [Tryz.f5]) (Body.i rfl rfl rfl (fun _ => rfl) fun f => ?_)
  repeat' (first
     | refine wp_seq_i ?_ | refine wp_region_t k_TrimAllS rfl ?_ | refine Run.done rfl ?_ | refine then_n ?_ | refine then_r ?_ | refine then_e ?_ | refine Run.go1 rfl ?_ | refine wp_skip_i ?_ | refine wp_ret_i ?_
     | refine wp_exit_i ?_ | refine wp_block_i ?_ | refine block_n ?_ | refine block_r ?_ | refine block_e ?_ | refine block_o rfl ?_ | refine wp_cond_t rfl ?_ | refine wp_cond_f rfl ?_
     | refine Run.call rfl rfl rfl (CodeOkS_t c hc) rfl rfl ?_ | refine Run.call rfl rfl rfl (l15TrimB_t c.main hb1 hc.2.2) rfl rfl ?_ | (refine wp_cond_k rfl rfl rfl ?_ ?_ <;> intro _) | (refine wp_cond_i rfl ?_ ?_ <;> intro _))
  any_goals (exfalso; rename_i h; simp [hb] at h; done)
  refine wp_loop_k (α := Nat) [.nilH 3 0 77, .keep [1, 2, 3, 4] [1, 2, 3, 77, 3012]] (fun z => [(4, iA z)]) (fun _ => []) (fun z => [(77, 0, ((c.funs.take z).map trimB).map (Piece.c true))]) (fun z => z ≤ c.funs.length) (fun z => c.funs.length - z) 0 rfl (fun _ => rfl) rfl (by simp) ?_
  rintro k hk
  by_cases hlt : k < c.funs.length
  · have hx : (c.funs.map (Piece.c false))[k]? = some (Piece.c false c.funs[k]) := map_at hlt
    have hpk := hc.2.1 _ (List.getElem_mem hlt)
    have hst : c.funs.take (k + 1) = c.funs.take k ++ [c.funs[k]] := List.take_succ_eq_append_getElem hlt
    repeat' (first
       | refine wp_seq_i ?_ | refine wp_region_t k_TrimAllS rfl ?_ | refine Run.done rfl ?_ | refine then_n ?_ | refine then_r ?_ | refine then_e ?_ | refine Run.go1 rfl ?_ | refine wp_skip_i ?_ | refine wp_ret_i ?_
       | refine wp_exit_i ?_ | refine wp_block_i ?_ | refine block_n ?_ | refine block_r ?_ | refine block_e ?_ | refine block_o rfl ?_ | refine wp_cond_t rfl ?_ | refine wp_cond_f rfl ?_ | refine RunQ.go1 rfl ?_
       | refine RunQ.done rfl ?_ | refine Run.ix rfl rfl rfl rfl rfl rfl rfl hx rfl rfl rfl ?_ | refine RunQ.ix rfl rfl rfl rfl rfl rfl rfl hx rfl rfl rfl ?_
       | refine wp_region_l k_TrimAllS [0, 1, 2, 3, 4, 5, 6] [7, 8] [0, 1, 0, 4, 0, 28, 60, 124, 252, 511, 1023, 2047] rfl (by decide +kernel) (by decide +kernel) rfl rfl ?_
       | refine RunL.call rfl rfl rfl rfl (l15TrimB_t _ (hb2 _ (List.getElem_mem hlt)) hpk) (.inl rfl) rfl rfl ?_ | refine RunL.one rfl rfl rfl rfl rfl ?_ | refine RunL.done ?_
       | refine Run.cnd rfl rfl rfl ⟨by simp; omega, (by intro r hr; obtain ⟨a, _, rfl⟩ := List.mem_map.1 hr; rfl), by simp, .inl rfl, by trivial⟩ ?_ | (refine wp_cond_k rfl rfl rfl ?_ ?_ <;> intro _)
       | (refine wp_cond_i rfl ?_ ?_ <;> intro _))
    all_goals first
    | (exfalso; rename_i h; simp [hlt] at h; done)
    | (refine back_i [.keep [1, 2, 3, 4] [1, 2, 3, 30, 3012], .ren 30 77] (k + 1) rfl ?_ (by omega) (by omega)
       simp only [w_succ hlt (by omega), hst, List.map_append, List.map_cons, List.map_nil]; first | done | rfl)
    | trace_state
  · have hkn : k = c.funs.length := by omega
    subst hkn
    repeat' (first
       | refine wp_seq_i ?_ | refine wp_region_t k_TrimAllS rfl ?_ | refine Run.done rfl ?_ | refine then_n ?_ | refine then_r ?_ | refine then_e ?_ | refine Run.go1 rfl ?_ | refine wp_skip_i ?_ | refine wp_ret_i ?_
       | refine wp_exit_i ?_ | refine wp_block_i ?_ | refine block_n ?_ | refine block_r ?_ | refine block_e ?_ | refine block_o rfl ?_ | refine wp_cond_t rfl ?_ | refine wp_cond_f rfl ?_
       | (refine wp_cond_k rfl rfl rfl ?_ ?_ <;> intro _) | (refine wp_cond_i rfl ?_ ?_ <;> intro _))
    all_goals first
    | (exfalso; rename_i h; simp at h; done)
    | (refine ret_m [] rfl rfl ?_
       simp only [List.take_length, trimC, if_pos hb]; done)
    | trace_state
end Go.Proofs

set_option linter.unusedVariables false
set_option linter.unusedSimpArgs false
set_option maxHeartbeats 4000000
namespace Go.Proofs
open Go Go.Ev
set_option maxRecDepth 100000
variable {X : Rel3}
def k_eachPiece : List (Nat × List Nat) := [(0, [1, 2, 4]), (1, [1, 2, 4, 10]), (2, [1, 2, 4]), (3, [1, 2, 4, 5]), (4, [1, 4, 5, 17, 18, 19]), (5, [1, 4, 5, 17, 18, 19, 20]), (6, [1, 4, 5, 7, 17, 18, 19]), (7, [1, 4, 5, 17, 18, 19]), (8, [1, 4, 5, 17, 18, 19]), (9, [4])]
theorem eachPiece_t (c : Code) (hc : c.ok) : Tells Tryz.prog E0 XS 18 [c.a false, .t (.fn 19 [])] ((trimC c).a true) := by
  have hcl := hc.1
  by_cases hb : codeB c = true
  rotate_left 1
  · refine Tells.by Tryz.func18 (by simp [Tryz.f18]) (Body.i rfl rfl rfl (fun _ => rfl) fun f => ?_)
    repeat' (first
       | refine wp_seq_i ?_ | refine wp_region_t k_eachPiece rfl ?_ | refine Run.done rfl ?_ | refine then_n ?_ | refine then_r ?_ | refine then_e ?_ | refine Run.go1 rfl ?_ | refine wp_skip_i ?_ | refine wp_ret_i ?_
       | refine wp_exit_i ?_ | refine wp_block_i ?_ | refine block_n ?_ | refine block_r ?_ | refine block_e ?_ | refine block_o rfl ?_ | refine wp_cond_t rfl ?_ | refine wp_cond_f rfl ?_
       | refine Run.call rfl rfl rfl (CodeOkI_t c hc) rfl rfl ?_ | refine Run.call rfl rfl rfl (clonePiece_t c.main hc.2.2) rfl rfl ?_ | (refine wp_cond_k rfl rfl rfl ?_ ?_ <;> intro _) | (refine wp_cond_i rfl ?_ ?_ <;> intro _))
    any_goals (exfalso; rename_i h; simp [hb] at h; done)
    refine wp_loop_k (α := Nat) [.nilH 5 0 77, .keep [1, 2, 4, 5, 17, 18, 19] [2, 4, 5, 77, 3014]] (fun z => [(19, iA z)]) (fun _ => []) (fun z => [(77, 0, ((c.funs.take z).map id).map (Piece.c true))]) (fun z => z ≤ c.funs.length) (fun z => c.funs.length - z) 0 rfl (fun _ => rfl) rfl (by simp) ?_
    rintro k hk
    by_cases hlt : k < c.funs.length
    · have hx : (c.funs.map (Piece.c false))[k]? = some (Piece.c false c.funs[k]) := map_at hlt
      have hpk := hc.2.1 _ (List.getElem_mem hlt)
      have hst : c.funs.take (k + 1) = c.funs.take k ++ [c.funs[k]] := List.take_succ_eq_append_getElem hlt
      repeat' (first
         | refine wp_seq_i ?_ | refine wp_region_t k_eachPiece rfl ?_ | refine Run.done rfl ?_ | refine then_n ?_ | refine then_r ?_ | refine then_e ?_ | refine Run.go1 rfl ?_ | refine wp_skip_i ?_ | refine wp_ret_i ?_
         | refine wp_exit_i ?_ | refine wp_block_i ?_ | refine block_n ?_ | refine block_r ?_ | refine block_e ?_ | refine block_o rfl ?_ | refine wp_cond_t rfl ?_ | refine wp_cond_f rfl ?_ | refine RunQ.go1 rfl ?_
         | refine RunQ.done rfl ?_ | refine Run.ix rfl rfl rfl rfl rfl rfl rfl hx rfl rfl rfl ?_ | refine RunQ.ix rfl rfl rfl rfl rfl rfl rfl hx rfl rfl rfl ?_
         | refine wp_region_l k_eachPiece [0, 1, 2, 3] [4, 5] [0, 1, 0, 0, 12, 28, 63, 127, 255] rfl (by decide +kernel) (by decide +kernel) rfl rfl ?_ | refine RunL.call rfl rfl rfl rfl (clonePiece_t _ hpk) (.inl rfl) rfl rfl ?_
         | refine RunL.one rfl rfl rfl rfl rfl ?_ | refine RunL.done ?_ | refine Run.cnd rfl rfl rfl ⟨by simp; omega, (by intro r hr; obtain ⟨a, _, rfl⟩ := List.mem_map.1 hr; rfl), by simp, .inl rfl, by trivial⟩ ?_
         | (refine wp_cond_k rfl rfl rfl ?_ ?_ <;> intro _) | (refine wp_cond_i rfl ?_ ?_ <;> intro _))
      all_goals first
      | (exfalso; rename_i h; simp [hlt] at h; done)
      | (refine back_i [.keep [1, 2, 4, 5, 17, 18, 19] [2, 4, 5, 29, 3014], .ren 29 77] (k + 1) rfl ?_ (by omega) (by omega)
         simp only [w_succ hlt (by omega), hst, List.map_append, List.map_cons, List.map_nil]; first | done | rfl)
      | trace_state
    · have hkn : k = c.funs.length := by omega
      subst hkn
      repeat' (first
         | refine wp_seq_i ?_ | refine wp_region_t k_eachPiece rfl ?_ | refine Run.done rfl ?_ | refine then_n ?_ | refine then_r ?_ | refine then_e ?_ | refine Run.go1 rfl ?_ | refine wp_skip_i ?_ | refine wp_ret_i ?_
         | refine wp_exit_i ?_ | refine wp_block_i ?_ | refine block_n ?_ | refine block_r ?_ | refine block_e ?_ | refine block_o rfl ?_ | refine wp_cond_t rfl ?_ | refine wp_cond_f rfl ?_
         | (refine wp_cond_k rfl rfl rfl ?_ ?_ <;> intro _) | (refine wp_cond_i rfl ?_ ?_ <;> intro _))
      all_goals first
      | (exfalso; rename_i h; simp at h; done)
      | (refine ret_m [] rfl rfl ?_
         simp only [List.take_length, trimC, if_neg hb, List.map_id]; done)
      | trace_state
  · refine Tells.by Tryz.func18 (by simp [Tryz.f18]) (Body.i rfl rfl rfl (fun _ => rfl) fun f => ?_)
    repeat' (first
       | refine wp_seq_i ?_ | refine wp_region_t k_eachPiece rfl ?_ | refine Run.done rfl ?_ | refine then_n ?_ | refine then_r ?_ | refine then_e ?_ | refine Run.go1 rfl ?_ | refine wp_skip_i ?_ | refine wp_ret_i ?_
       | refine wp_exit_i ?_ | refine wp_block_i ?_ | refine block_n ?_ | refine block_r ?_ | refine block_e ?_ | refine block_o rfl ?_ | refine wp_cond_t rfl ?_ | refine wp_cond_f rfl ?_
       | refine Run.call rfl rfl rfl (CodeOkI_t c hc) rfl rfl ?_ | refine Run.call rfl rfl rfl (TrimI_t c.main hc.2.2) rfl rfl ?_ | (refine wp_cond_k rfl rfl rfl ?_ ?_ <;> intro _) | (refine wp_cond_i rfl ?_ ?_ <;> intro _))
    any_goals (exfalso; rename_i h; simp [hb] at h; done)
    refine wp_loop_k (α := Nat) [.nilH 5 0 77, .keep [1, 2, 4, 5, 17, 18, 19] [2, 4, 5, 77, 3014]] (fun z => [(19, iA z)]) (fun _ => []) (fun z => [(77, 0, ((c.funs.take z).map trimB).map (Piece.c true))]) (fun z => z ≤ c.funs.length) (fun z => c.funs.length - z) 0 rfl (fun _ => rfl) rfl (by simp) ?_
    rintro k hk
    by_cases hlt : k < c.funs.length
    · have hx : (c.funs.map (Piece.c false))[k]? = some (Piece.c false c.funs[k]) := map_at hlt
      have hpk := hc.2.1 _ (List.getElem_mem hlt)
      have hst : c.funs.take (k + 1) = c.funs.take k ++ [c.funs[k]] := List.take_succ_eq_append_getElem hlt
      repeat' (first
         | refine wp_seq_i ?_ | refine wp_region_t k_eachPiece rfl ?_ | refine Run.done rfl ?_ | refine then_n ?_ | refine then_r ?_ | refine then_e ?_ | refine Run.go1 rfl ?_ | refine wp_skip_i ?_ | refine wp_ret_i ?_
         | refine wp_exit_i ?_ | refine wp_block_i ?_ | refine block_n ?_ | refine block_r ?_ | refine block_e ?_ | refine block_o rfl ?_ | refine wp_cond_t rfl ?_ | refine wp_cond_f rfl ?_ | refine RunQ.go1 rfl ?_
         | refine RunQ.done rfl ?_ | refine Run.ix rfl rfl rfl rfl rfl rfl rfl hx rfl rfl rfl ?_ | refine RunQ.ix rfl rfl rfl rfl rfl rfl rfl hx rfl rfl rfl ?_
         | refine wp_region_l k_eachPiece [0, 1, 2, 3] [4, 5] [0, 1, 0, 0, 12, 28, 63, 127, 255] rfl (by decide +kernel) (by decide +kernel) rfl rfl ?_ | refine RunL.call rfl rfl rfl rfl (TrimI_t _ hpk) (.inl rfl) rfl rfl ?_
         | refine RunL.one rfl rfl rfl rfl rfl ?_ | refine RunL.done ?_ | refine Run.cnd rfl rfl rfl ⟨by simp; omega, (by intro r hr; obtain ⟨a, _, rfl⟩ := List.mem_map.1 hr; rfl), by simp, .inl rfl, by trivial⟩ ?_
         | (refine wp_cond_k rfl rfl rfl ?_ ?_ <;> intro _) | (refine wp_cond_i rfl ?_ ?_ <;> intro _))
      all_goals first
      | (exfalso; rename_i h; simp [hlt] at h; done)
      | (refine back_i [.keep [1, 2, 4, 5, 17, 18, 19] [2, 4, 5, 29, 3014], .ren 29 77] (k + 1) rfl ?_ (by omega) (by omega)
         simp only [w_succ hlt (by omega), hst, List.map_append, List.map_cons, List.map_nil]; first | done | rfl)
      | trace_state
    · have hkn : k = c.funs.length := by omega
      subst hkn
      repeat' (first
         | refine wp_seq_i ?_ | refine wp_region_t k_eachPiece rfl ?_ | refine Run.done rfl ?_ | refine then_n ?_ | refine then_r ?_ | refine then_e ?_ | refine Run.go1 rfl ?_ | refine wp_skip_i ?_ | refine wp_ret_i ?_
         | refine wp_exit_i ?_ | refine wp_block_i ?_ | refine block_n ?_ | refine block_r ?_ | refine block_e ?_ | refine block_o rfl ?_ | refine wp_cond_t rfl ?_ | refine wp_cond_f rfl ?_
         | (refine wp_cond_k rfl rfl rfl ?_ ?_ <;> intro _) | (refine wp_cond_i rfl ?_ ?_ <;> intro _))
      all_goals first
      | (exfalso; rename_i h; simp at h; done)
      | (refine ret_m [] rfl rfl ?_
         simp only [List.take_length, trimC, if_pos hb]; done)
      | trace_state
theorem TrimAllI_t (c : Code) (hc : c.ok) : Tells Tryz.prog E0 XS 7 [c.a false] ((trimC c).a true) := by
  refine Tells.by Tryz.func7 (by simp [Tryz.f7]) (Body.i rfl rfl rfl (fun _ => rfl) fun f => ?_)
  repeat' (first
     | refine wp_seq_i ?_ | refine wp_region_i ?_ | refine Run.done rfl ?_ | refine then_n ?_ | refine then_r ?_ | refine then_e ?_ | refine Run.go1 rfl ?_ | refine wp_skip_i ?_ | refine wp_ret_i ?_ | refine wp_exit_i ?_
     | refine wp_block_i ?_ | refine block_n ?_ | refine block_r ?_ | refine block_e ?_ | refine block_o rfl ?_ | refine wp_cond_t rfl ?_ | refine wp_cond_f rfl ?_ | refine Run.call rfl rfl rfl (eachPiece_t c hc) rfl rfl ?_
     | (refine wp_cond_k rfl rfl rfl ?_ ?_ <;> intro _) | (refine wp_cond_i rfl ?_ ?_ <;> intro _))
  all_goals first
  | (refine ret_m [] rfl rfl rfl; done)
  | trace_state
end Go.Proofs

set_option linter.unusedVariables false
set_option linter.unusedSimpArgs false
set_option maxHeartbeats 4000000
namespace Go.Proofs
open Go Go.Ev
set_option maxRecDepth 100000
variable {X : Rel3}
theorem mkPieceS_at : ∀ (l : List Piece) (k : Int) (j : Nat) (x : Piece), l[j]? = some x → (mkPieceS l k).1[j]? = some (mkPiece x (mkPieceS (l.take j) k).2).1
  | [], k, j, x, h => by simp at h
  | i :: r, k, 0, x, h => by simp at h; subst h; simp [mkPieceS]
  | i :: r, k, j + 1, x, h => by
    have := mkPieceS_at r (mkPiece i k).2 j x (by simpa using h)
    simp only [mkPieceS, List.getElem?_cons_succ, List.take_succ_cons]
    exact this
theorem nx3_up {k : Int} (h0 : 0 ≤ k) (h : k ≤ 9222000000000000000) : nx (nx (nx k)) = k + 1 + 1 + 1 := by
  rw [nx_up h0 (by omega), nx_up (k := k + 1) (by omega) (by omega), nx_up (k := k + 1 + 1) (by omega) (by omega)]
def k_heldPieceS : List (Nat × List Nat) := [(0, [0, 1]), (1, [0, 1, 5]), (2, [0, 1, 5, 9]), (3, [0, 1, 5]), (4, [0, 1, 5, 18]), (5, [4]), (6, [0, 1, 5]), (7, [0, 1, 5, 27]), (8, [4]), (9, [0, 1, 5]), (10, [0, 1, 5, 36]), (11, [4]), (12, [0, 1, 5]), (13, [0, 1, 5]), (14, [0, 1, 5, 47]), (15, [4]), (16, [4])]
theorem heldPieceS_t (l : List Piece) (k : Int) (hl : l.length ≤ 1048576) (hll : ∀ p ∈ l, p.ok) (h0 : 0 ≤ k) (hk : k + 1099518968000 * l.length ≤ 9222000000000000000) : Tells Tryz.prog E0 X 24 [.t (.sl false ((mkPieceS l k).1.map (Piece.c false))), iA k] (iA (mkPieceS l k).2) := by
  have hml := mkPieceS_len l k
  refine Tells.by Tryz.func24 (by simp [Tryz.f24]) (Body.i rfl rfl rfl (fun _ => rfl) fun f => ?_)
  repeat' (first
     | refine wp_seq_i ?_ | refine wp_region_t k_heldPieceS rfl ?_ | refine Run.done rfl ?_ | refine then_n ?_ | refine then_r ?_ | refine then_e ?_ | refine Run.go1 rfl ?_ | refine wp_skip_i ?_ | refine wp_ret_i ?_
     | refine wp_exit_i ?_ | refine wp_block_i ?_ | refine block_n ?_ | refine block_r ?_ | refine block_e ?_ | refine block_o rfl ?_ | refine wp_cond_t rfl ?_ | refine wp_cond_f rfl ?_
     | (refine wp_cond_k rfl rfl rfl ?_ ?_ <;> intro _) | (refine wp_cond_i rfl ?_ ?_ <;> intro _))
  refine wp_loop_k (α := Nat) [.keep [0, 1, 4, 5] []] (fun j => [(1, iA (mkPieceS (l.take j) k).2), (5, iA j)]) (fun _ => []) (fun _ => []) (fun j => j ≤ l.length) (fun j => l.length - j) 0 rfl (fun _ => rfl) rfl (by simp) ?_
  rintro j hj
  by_cases hlt : j < l.length
  · obtain ⟨x, hxx⟩ : ∃ x, l[j]? = some x := ⟨_, List.getElem?_eq_getElem hlt⟩
    have hat := mkPieceS_at l k j x hxx
    have hpx := hll x (List.mem_of_getElem? hxx)
    have hpl := hpx.1
    have hup := mkPieceS_up (l := l.take j) (k := k) (fun i hi => hll i (List.mem_of_mem_take hi)) h0 (by simp; omega)
    have hsn : (mkPieceS (l.take (j + 1)) k).2 = (mkPiece x (mkPieceS (l.take j) k).2).2 := by
      have e : l.take (j + 1) = l.take j ++ [x] := by
        rw [List.getElem?_eq_getElem hlt] at hxx
        rw [List.take_succ_eq_append_getElem hlt, Option.some.inj hxx]
      rw [e, mkPieceS_snoc]
    generalize (mkPieceS (l.take j) k).2 = c at hat hup hsn
    have hc0 : 0 ≤ c ∧ c ≤ 9222000000000000000 := by simp at hup; omega
    have hn3 := nx3_up hc0.1 hc0.2
    have hneg : ¬ (mkInsS x.ins (nx (nx (nx c)))).2 < 0 := by
      have := (mkInsS_up (l := x.ins) (k := nx (nx (nx c))) hpx.2 (by rw [hn3]; omega) (by rw [hn3]; omega)).1
      omega
    have hx : ((mkPieceS l k).1.map (Piece.c false))[j]? = some (Piece.c false ⟨c, nx c, nx (nx c), (mkInsS x.ins (nx (nx (nx c)))).1⟩) := by rw [List.getElem?_map, hat]; rfl
    have hH : Tells Tryz.prog E0 X 42 [.t (.sl false ((mkInsS x.ins (nx (nx (nx c)))).1.map (Ins.c false))), iA (nx (nx (nx c)))] (iA (mkInsS x.ins (nx (nx (nx c)))).2) := heldInsS_t x.ins (nx (nx (nx c))) hpl hpx.2 (by rw [hn3]; omega) (by rw [hn3]; omega)
    repeat' (first
       | refine wp_seq_i ?_ | refine wp_region_t k_heldPieceS rfl ?_ | refine Run.done rfl ?_ | refine then_n ?_ | refine then_r ?_ | refine then_e ?_ | refine Run.go1 rfl ?_ | refine wp_skip_i ?_ | refine wp_ret_i ?_
       | refine wp_exit_i ?_ | refine wp_block_i ?_ | refine block_n ?_ | refine block_r ?_ | refine block_e ?_ | refine block_o rfl ?_ | refine wp_cond_t rfl ?_ | refine wp_cond_f rfl ?_
       | refine Run.ix rfl rfl rfl rfl rfl rfl rfl hx rfl rfl rfl ?_ | refine Run.call rfl rfl rfl (hH) rfl rfl ?_ | (refine wp_cond_k rfl rfl rfl ?_ ?_ <;> intro _) | (refine wp_cond_i rfl ?_ ?_ <;> intro _))
    all_goals first
    | (exfalso; rename_i h; exact hneg (of_decide_eq_true h); done)
    | (exfalso; rename_i h; simp [nx] at h; done)
    | (exfalso; rename_i h; simp [hml, hlt] at h; done)
    | (refine back_i [.keep [0, 1, 4, 5] []] (j + 1) rfl ?_ (by omega) (by omega)
       simp only [w_succ hlt (by omega), hsn]; first | done | rfl)
    | trace_state
  · have hjl : j = l.length := by omega
    subst hjl
    rw [List.take_length]
    repeat' (first
       | refine wp_seq_i ?_ | refine wp_region_t k_heldPieceS rfl ?_ | refine Run.done rfl ?_ | refine then_n ?_ | refine then_r ?_ | refine then_e ?_ | refine Run.go1 rfl ?_ | refine wp_skip_i ?_ | refine wp_ret_i ?_
       | refine wp_exit_i ?_ | refine wp_block_i ?_ | refine block_n ?_ | refine block_r ?_ | refine block_e ?_ | refine block_o rfl ?_ | refine wp_cond_t rfl ?_ | refine wp_cond_f rfl ?_
       | (refine wp_cond_k rfl rfl rfl ?_ ?_ <;> intro _) | (refine wp_cond_i rfl ?_ ?_ <;> intro _))
    all_goals first
    | (exfalso; rename_i h; simp [hml] at h; done)
    | (refine ret_m [] rfl rfl rfl; done)
    | trace_state
def mkC (c : Code) (k : Int) : Code := ⟨(mkPieceS c.funs k).1, { c.main with ins := (mkInsS c.main.ins (mkPieceS c.funs k).2).1 }⟩
theorem heldCode_t (c : Code) (hc : c.ok) : Tells Tryz.prog E0 X 10 [(mkC c 1).a false, iA 1] (iA (mkInsS c.main.ins (mkPieceS c.funs 1).2).2) := by
  have hcl := hc.1
  have hup := mkPieceS_up (l := c.funs) (k := 1) hc.2.1 (by omega) (by omega)
  have hml := hc.2.2.1
  have hn : ¬ (mkPieceS c.funs 1).2 < 0 := by omega
  have hn2 := mkCode_up hc
  have hP : Tells Tryz.prog E0 X 25 [({ c.main with ins := (mkInsS c.main.ins (mkPieceS c.funs 1).2).1 } : Piece).a false, iA (mkPieceS c.funs 1).2] (iA (mkInsS c.main.ins (mkPieceS c.funs 1).2).2) := heldPiece_t c.main (mkPieceS c.funs 1).2 hc.2.2 (by omega) (by omega)
  refine Tells.by Tryz.func10 (by simp [Tryz.f10]) (Body.i rfl rfl rfl (fun _ => rfl) fun f => ?_)
  repeat' (first
     | refine wp_seq_i ?_ | refine wp_region_i ?_ | refine Run.done rfl ?_ | refine then_n ?_ | refine then_r ?_ | refine then_e ?_ | refine Run.go1 rfl ?_ | refine wp_skip_i ?_ | refine wp_ret_i ?_ | refine wp_exit_i ?_
     | refine wp_block_i ?_ | refine block_n ?_ | refine block_r ?_ | refine block_e ?_ | refine block_o rfl ?_ | refine wp_cond_t rfl ?_ | refine wp_cond_f rfl ?_
     | refine Run.call rfl rfl rfl (heldPieceS_t c.funs 1 hcl hc.2.1 (by omega) (by omega)) rfl rfl ?_ | refine Run.call rfl rfl rfl (hP) rfl rfl ?_ | (refine wp_cond_k rfl rfl rfl ?_ ?_ <;> intro _)
     | (refine wp_cond_i rfl ?_ ?_ <;> intro _))
  all_goals first
  | (exfalso; rename_i h; exact hn (of_decide_eq_true h); done)
  | (exfalso; rename_i h; exact hn2 (of_decide_eq_true h); done)
  | (refine ret_m [] rfl rfl rfl; done)
  | trace_state
theorem trimC_ok (c : Code) (hc : c.ok) : (trimC c).ok := by
  unfold trimC
  split
  · refine ⟨by simpa using hc.1, fun p hp => ?_, trimB_ok _ hc.2.2⟩
    obtain ⟨x, hx, rfl⟩ := List.mem_map.1 hp
    exact trimB_ok x (hc.2.1 x hx)
  · exact hc
end Go.Proofs

set_option linter.unusedVariables false
set_option linter.unusedSimpArgs false
set_option maxHeartbeats 4000000
namespace Go.Proofs
open Go Go.Ev
set_option maxRecDepth 100000
variable {X : Rel3}
theorem Run.adjwAt {Φ : Rel3} {E : Env} {all : List Oper} {D : List Nat} {lo : Option (List Nat)} {rest : List Oper} {s : St} {K : St → Prop} (d : Nat) {op : Op} {ty : Nat} {pos : String} {after : Array Edge} {g : Option (Nat × Bool)}
  (h : AdjW (fun s1 => Run Φ E all D lo (⟨some d, op, ty, pos, after, g⟩ :: rest) s1 K) s) : Run Φ E all D lo (⟨some d, op, ty, pos, after, g⟩ :: rest) s K := Run.adjw h
def k_lawTa : List (Nat × List Nat) := [(0, [1]), (1, [1, 3]), (2, [1, 3]), (3, [1, 15]), (4, [2]), (5, [1, 4]), (6, [1, 4, 5]), (7, [1, 4, 5, 6]), (8, [1, 4, 5, 6, 26]), (9, [2]), (10, [1, 4, 5, 6, 31]), (11, [2]), (12, [1, 4, 5, 6, 7]), (13, [1, 4, 6, 7]), (14, [1, 4, 6, 42]), (15, [2]), (16, [1, 4, 6, 8]), (17, [1, 4, 6, 8]), (18, [1, 4, 6, 8, 9]), (19, [1, 4, 6, 8, 9]), (20, [1, 4, 6, 8, 9, 50]), (21, [2]), (22, [1, 4, 6, 8, 53]), (23, [2]), (24, [4, 6, 8, 10]), (25, [6, 8, 60]), (26, [2]), (27, [6, 8, 9]), (28, [8, 9]), (29, [8, 9, 65]), (30, [2]), (31, [68]), (32, [2]), (33, [2])]
theorem lawTa_t (c : Code) (hl : c.len) : Tells Tryz.prog E0 XS 3 [c.a false] (bA true) := by
  have hsz := szCode_t (X := XS) c 1048576 hl.1 (fun p hp => (hl.2.1 p hp).1) hl.2.2.1
  refine Tells.by Tryz.func3 (by simp [Tryz.f3]) (Body.i rfl rfl rfl (fun _ => rfl) fun f => ?_)
  repeat' (first
     | refine wp_seq_i ?_ | refine wp_region_t k_lawTa rfl ?_ | refine Run.done rfl ?_ | refine then_n ?_ | refine then_r ?_ | refine then_e ?_ | refine Run.go1 rfl ?_ | refine wp_skip_i ?_ | refine wp_ret_i ?_
     | refine wp_exit_i ?_ | refine wp_block_i ?_ | refine block_n ?_ | refine block_r ?_ | refine block_e ?_ | refine block_o rfl ?_ | refine wp_cond_t rfl ?_ | refine wp_cond_f rfl ?_
     | refine Run.call rfl rfl rfl (hsz) rfl rfl ?_ | (refine wp_cond_k rfl rfl rfl ?_ ?_ <;> intro _) | (refine wp_cond_i rfl ?_ ?_ <;> intro _))
  · refine ret_m [] rfl rfl rfl
  rename_i h
  have hc : c.ok := szCode_ok hl (by simpa using h)
  have hS : Tells Tryz.prog E0 XS 5 [c.s] ((trimC c).a true) := by rw [Code.s_eq]; exact TrimAllS_t c hc
  have hI : Tells Tryz.prog E0 XS 7 [c.s] ((trimC c).a true) := by rw [Code.s_eq]; exact TrimAllI_t c hc
  have hE : Tells Tryz.prog E0 XS 8 [c.s, c.s] (bA (decide (c = c))) := by rw [Code.s_eq]; exact eqCode_t c c hc
  have ht := trimC_ok c hc
  generalize trimC c = q at hS hI ht
  have hEt : Tells Tryz.prog E0 XS 8 [q.s, q.s] (bA (decide (q = q))) := by rw [Code.s_eq]; exact eqCode_t q q ht
  have hHe : Tells Tryz.prog E0 XS 10 [(mkC q 1).s, iA 1] (iA (mkInsS q.main.ins (mkPieceS q.funs 1).2).2) := by rw [Code.s_eq]; exact heldCode_t q ht
  have hM := mkCode_up hc
  have hK := mkCode_up ht
  repeat' (first
    
     | refine Run.adjwAt 43 (.ask 22 _ _ _ _ rfl (fun _ => rfl) fun u => .holdB 6 0 22 _ _ _ _ _ _ _ rfl rfl rfl rfl rfl rfl (.ask 4022 _ _ _ _ rfl (fun _ => rfl) fun u => .holdB 6 4 4022 _ _ _ _ _ _ _ rfl rfl rfl rfl rfl rfl (.done _ (Run.go1 rfl (Run.adjw (.tellC 43 0 22 _ _ _ _ _ _ _ rfl rfl rfl rfl rfl rfl (.tellC 43 4 4022 _ _ _ _ _ _ _ rfl rfl rfl rfl rfl rfl (.done _ ?_))))))))
     | refine Run.adjwAt 8 (.tellB 6 0 22 _ _ _ _ _ _ _ rfl rfl rfl rfl rfl rfl (.tellB 6 4 4022 _ _ _ _ _ _ _ rfl rfl rfl rfl rfl rfl (.done _ ?_))) | refine wp_seq_i ?_ | refine wp_region_t k_lawTa rfl ?_
     | refine Run.done rfl ?_ | refine then_n ?_ | refine then_r ?_ | refine then_e ?_ | refine Run.go1 rfl ?_ | refine wp_skip_i ?_ | refine wp_ret_i ?_ | refine wp_exit_i ?_ | refine wp_block_i ?_ | refine block_n ?_
     | refine block_r ?_ | refine block_e ?_ | refine block_o rfl ?_ | refine wp_cond_t rfl ?_ | refine wp_cond_f rfl ?_ | refine RunQ.go1 rfl ?_ | refine RunQ.done rfl ?_ | refine Run.gT rfl rfl rfl rfl ?_
     | refine Run.pT rfl rfl ?_ | (refine Run.splitG rfl rfl rfl rfl rfl rfl ?_ ?_ <;> intro _) | (refine Run.splitP rfl rfl rfl rfl ?_ ?_ <;> intro _) | refine RunQ.gT rfl rfl rfl rfl ?_ | refine RunQ.pT rfl rfl ?_
     | (refine RunQ.splitG rfl rfl rfl rfl rfl rfl ?_ ?_ <;> intro _) | (refine RunQ.splitP rfl rfl rfl rfl ?_ ?_ <;> intro _) | refine Run.call rfl rfl rfl (toCode_t c hc) rfl rfl ?_
     | refine Run.callB rfl rfl rfl (hS) (by simp [AV.own, T.own, ownCL, ownC, own_Ins, own_P]) rfl ?_ | refine Run.callB rfl rfl rfl (hI) (by simp [AV.own, T.own, ownCL, ownC, own_Ins, own_P]) rfl ?_
     | refine Run.callB rfl rfl rfl (hEt) (by simp [AV.own, T.own]) rfl ?_ | refine wp_region_l k_lawTa [0, 1] [2, 3] [0, 0, 2, 7, 15] rfl (by decide +kernel) (by decide +kernel) rfl rfl ?_
     | refine RunL.call rfl rfl rfl rfl (toCode_t c hc) (.inl rfl) rfl rfl ?_ | refine RunL.call rfl rfl rfl rfl (hE) (.inr (by simp [AV.own, T.own])) rfl rfl ?_ | refine RunL.done ?_
     | refine Run.call rfl rfl rfl (markCode_t c 1 hc) rfl rfl ?_ | refine Run.call rfl rfl rfl (markCode_t q 1 ht) rfl rfl ?_ | refine Run.callB rfl rfl rfl (hHe) (by simp [AV.own, T.own]) rfl ?_
     | (refine wp_cond_k rfl rfl rfl ?_ ?_ <;> intro _) | (refine wp_cond_i rfl ?_ ?_ <;> intro _))
  all_goals first
    | (refine ret_m [] rfl rfl rfl; done)
    | (rename_i hx; exfalso; simp [hK, hM] at hx; done)
    | (rename_i hx; exfalso; simp at hx; omega)
    | trace_state
end Go.Proofs

set_option linter.unusedSimpArgs false
set_option linter.unusedVariables false
namespace Go.Ev
open Go
theorem vs_of {w : World} {B : Nat → Prop} {ts : List T} {vs : List Value} (hl : vs.length = ts.length) (h : ∀ (k : Nat) (y : T) (v : Value), ts[k]? = some y → vs[k]? = some v → Rep w B y v)
    (hs : ∀ y ∈ ts, (∃ v, y = .sc v) ∨ ∃ rows, y = .sl false rows) : VS w B (.ag (ts.map AV.t)) (.agg vs.toArray) (fun _ => False) := by
  refine .inr (.inl ⟨_, _, rfl, rfl, Fam.of (by simp [hl]) fun k x v h1 h2 => ?_⟩)
  rw [List.getElem?_map, Option.map_eq_some_iff] at h1
  obtain ⟨y, hy, rfl⟩ := h1
  have hr := h k y v hy h2
  rcases hs y (List.mem_of_getElem? hy) with ⟨u, rfl⟩ | ⟨rows, rfl⟩
  · cases hr; exact ⟨_, rfl, .sc _ _⟩
  · exact ⟨_, rfl, .sh _ _ _ hr⟩
theorem OpensAt.imp {P : Program} {N : Nat} {t : TypeId} {α : Type} {d : Kt α} {ok ok' : α → Prop} (h : OpensAt P N t d ok) (hok : ∀ x, ok x → ok' x) : OpensAt P N t d ok' := by
  constructor
  intro H enc W base held fuel cs y hf ht
  obtain ⟨x, hk, hx⟩ := h.get enc W base held fuel cs y hf ht
  exact ⟨x, hk, hok x hx⟩
theorem vx_bool {w : World} {B : Nat → Prop} {vs : List Value} {b : Bool} {v : Value} {F : Nat → Prop} (h : VX w B vs (.t (.sc (.bool b))) v F) : v = .bool b := by
  rcases h with ⟨_, (⟨y, hy, ho⟩ | ⟨cs, us, h, _⟩ | ⟨_, _, _, _, _, h, _⟩) | ⟨cs, us, h, _⟩⟩ | ⟨r0, outs, F1, F2, h, _⟩
  · cases hy; cases ho; rfl
  · cases h
  · cases h
  · cases h
  · cases h
theorem vs_int {w : World} {B : Nat → Prop} {k : IntKind} {n : Int} : VS w B (.t (.sc (.int k n))) (.int k n) (fun _ => False) := .inl ⟨_, rfl, .sc _ _⟩
end Go.Ev
namespace Go.Proofs.YthhlbnhgjijbaaaGreat.fnExactTrimAll
open Go Go.Ev Go.Proofs
open Go.ChangeShapes Go.WideShapes Go.ChangeAt Go.RowKit
theorem own : ownKnob Tryz.prog.godebug = none := by kernel_rfl
theorem laidOut : laidOutB Tryz.prog = true := by kernel_rfl
abbrev kI : Kt Int := Kt.int .i64
abbrev kL : Kt (List Int) := Kt.slice kI
abbrev kIns : Kt Ins := Kt.iso (Kt.pair kI (Kt.pair kI (Kt.pair kI (Kt.pair kI (Kt.pair kI (Kt.pair kL kI)))))) fun i => (i.op, i.d, i.x, i.y, i.n, i.l, i.to_)
abbrev kPiece : Kt Piece := Kt.iso (Kt.pair kI (Kt.pair kI (Kt.pair kI (Kt.slice kIns)))) fun p => (p.lam, p.in_, p.regs, p.ins)
theorem max_le : maxLen ≤ 9223372036854775807 := by decide
theorem oInt (n : Nat) : OpensAt Tryz.prog n 3 kI (fun _ => True) := (opens_int Tryz.underlying3).imp fun _ _ => trivial
theorem oL (n : Nat) : OpensAt Tryz.prog (n + 1) 56 kL (fun l => l.length ≤ 9223372036854775807) := (opens_slice Tryz.underlying56 (by kernel_rfl) (by decide) (oInt n)).imp fun _ h => Nat.le_trans h.1 max_le
theorem oIns (n : Nat) : OpensAt Tryz.prog (n + 2) 68 kIns Ins.len :=
  (opens_iso (fun x => (⟨x.1, x.2.1, x.2.2.1, x.2.2.2.1, x.2.2.2.2.1, x.2.2.2.2.2.1, x.2.2.2.2.2.2⟩ : Ins)) (fun _ => rfl)
    (opens_struct Tryz.underlying68 (by kernel_rfl) (from_cons rfl (by kernel_rfl) (oInt _) (from_cons rfl (by kernel_rfl) (oInt _) (from_cons rfl (by kernel_rfl) (oInt _) (from_cons rfl (by kernel_rfl) (oInt _) (from_cons rfl (by kernel_rfl) (oInt _)
      (from_cons rfl (by kernel_rfl) (oL n) (from_one rfl (by kernel_rfl) (oInt _)))))))))).imp fun x h => h.2.2.2.2.2.1
theorem oInsS (n : Nat) : OpensAt Tryz.prog (n + 3) 23 (Kt.slice kIns) (fun l => l.length ≤ 9223372036854775807 ∧ ∀ i ∈ l, i.len) := (opens_slice Tryz.underlying23 (by kernel_rfl) (by decide) (oIns n)).imp fun _ h => ⟨Nat.le_trans h.1 max_le, h.2⟩
theorem oPiece (n : Nat) : OpensAt Tryz.prog (n + 4) 25 kPiece Piece.len :=
  (opens_iso (fun x => (⟨x.1, x.2.1, x.2.2.1, x.2.2.2⟩ : Piece)) (fun _ => rfl)
    (opens_struct Tryz.underlying25 (by kernel_rfl) (from_cons rfl (by kernel_rfl) (oInt _) (from_cons rfl (by kernel_rfl) (oInt _) (from_cons rfl (by kernel_rfl) (oInt _) (from_one rfl (by kernel_rfl) (oInsS n))))))).imp fun x h => h.2.2.2
abbrev kCode : Kt Code := Kt.iso (Kt.pair (Kt.slice kPiece) kPiece) fun c => (c.funs, c.main)
theorem oPieceS (n : Nat) : OpensAt Tryz.prog (n + 5) 22 (Kt.slice kPiece) (fun l => l.length ≤ 9223372036854775807 ∧ ∀ p ∈ l, p.len) := (opens_slice Tryz.underlying22 (by kernel_rfl) (by decide) (oPiece n)).imp fun _ h => ⟨Nat.le_trans h.1 max_le, h.2⟩
theorem oCode (n : Nat) : OpensAt Tryz.prog (n + 6) 27 kCode Code.len :=
  (opens_iso (fun x => (⟨x.1, x.2⟩ : Code)) (fun _ => rfl)
    (opens_struct Tryz.underlying27 (by kernel_rfl) (from_cons rfl (by kernel_rfl) (oPieceS n) (from_one rfl (by kernel_rfl) (oPiece (n + 1)))))).imp fun x h => ⟨h.1.1, h.1.2, h.2⟩
theorem calls {W : World} {x0 : Code} {cs0 : List Value} (hk0 : kCode.K W x0 cs0) (hl0 : Code.len x0) : Calls Tryz.prog 3 #[.agg cs0.toArray] W fun e W' => e = .returned (.bool true) ∧ Below W.heap.size W W' := by
  have h := (Tells.sound (X := XS) tab_ok XS_sound (lawTa_t x0 hl0)).2 W [.agg cs0.toArray] (fun b => b < W.heap.size) (fun _ => False) (fun b hb => ⟨hb, fun h => h⟩) (fun _ h => h.elim)
    (.cons _ _ _ _ (fun _ => False) (fun _ => False) _ (vs_of (ts := Code.c false x0) hk0.1 hk0.2 (by
      intro y hy
      simp only [Code.c, List.mem_cons, List.not_mem_nil, or_false] at hy
      rcases hy with rfl | rfl | rfl | rfl | rfl
      · exact .inr ⟨_, rfl⟩
      · exact .inl ⟨_, rfl⟩
      · exact .inl ⟨_, rfl⟩
      · exact .inl ⟨_, rfl⟩
      · exact .inr ⟨_, rfl⟩)) (.nil _) (fun _ h => h.elim) (fun _ h => h) (fun _ h => h))
  refine h.mono fun e W' ⟨v, B', F', he, hv, _, _, hkeep⟩ => ?_
  rw [he, vx_bool hv]
  exact ⟨rfl, hkeep.os, hkeep.tape, hkeep.output, hkeep.size, fun k hk => hkeep.block k hk fun h => h⟩
set_option maxRecDepth 100000 in
theorem lifted (os : Os) (started : os.Started) (H : Type) (enc : TypeId × Value → H) :
    ReturnsInHanded {} Tryz.checked os 3 .any (Rows.fnExactTrimAllSpec.pre6 enc Tryz.prog Tryz.f3 Rows.fnExactTrimAllRow.domain false) (Rows.fnExactTrimAllSpec.post enc Tryz.prog Tryz.f3 false true false false) := by
  refine returnsInHanded_of_change_sized (C := Tryz.checked) own started (by kernel_rfl) Tryz.func3
    (ChangeSpec.witness6 (enc := enc) (C := Tryz.checked) false ⟨#[], #[.agg #[.slice none 0 0, .int .i64 0, .int .i64 0, .int .i64 0, .slice none 0 0]], []⟩ 8 (by kernel_rfl) (by kernel_rfl) (by kernel_rfl) (by kernel_rfl)) ?_
  intro W base args ds gs before hval0 hW hcnd hsz0 _
  have hval : ∀ (j : Nat) t v, Tryz.f3.params[j]? = some t → args[j]? = some v → Value.okWide Tryz.prog W .any base t v := hval0
  have hW' := hW
  obtain ⟨p, q, hA0, hV, rfl, hfz, hnd⟩ := hW
  have hA : DataW.TrodAll enc Tryz.prog W 0 (fun _ => true) true Tryz.f3.params.toList args.toList ds p := hA0
  rw [Tryz.params3] at hA hval
  obtain ⟨v0, vs0, d0, ds0, p0, q0, hargs, rfl, rfl, h0, r0⟩ := trodAll_cons hA
  obtain ⟨rfl, rfl, rfl⟩ := trodAll_nil r0
  obtain rfl : args = #[v0] := by cases args; simp_all
  obtain ⟨rfl, rfl⟩ := trodVars_none hV
  obtain ⟨cs0, rfl, hcs0⟩ := okWide_struct Tryz.underlying27 (hval 0 27 v0 rfl rfl)
  have k0 := h0
  have lt0 : ∀ x ∈ p0, x.block < W.heap.size := by obtain ⟨m, hm⟩ := k0; exact DataW.trod_lt m _ _ _ hm
  obtain ⟨x0, hk0, ok0⟩ : ∃ x, kCode.K W x cs0.toList ∧ Code.len x := by
    obtain ⟨m, hm⟩ := h0
    exact (oCode m).get enc W _ _ m _ _ (by omega) hm
  refine (calls hk0 ok0).mono fun e W' ⟨he, bel0⟩ => ?_
  have bel : Below W.heap.size W W' := bel0
  subst he
  exact ⟨_, rfl, _, _, _, [], _, [], hW', trodAll_mk1 (shut_bool Tryz.underlying4 _), (trodAll_cons_mk (Below.trod laidOut (by kernel_rfl) (of_decide_eq_true (by kernel_rfl)) k0 bel lt0) trodAll_mk0), rfl, bel.frame _, fun h => by cases h⟩
theorem over : Rows.fnExactTrimAllRow.holds Tryz.pinned (OpenSpec.ofChange Rows.fnExactTrimAllSpec) :=
  OpenClaim.holds_of_wide 3 Tryz.f3 rfl rfl rfl rfl rfl rfl rfl ⟨rfl, rfl, rfl, rfl, rfl⟩ rfl rfl rfl rfl rfl (by kernel_rfl) Tryz.func3 (by kernel_rfl)
    (of_decide_eq_true (by kernel_rfl)) (by unfold Func.isWrapper; first | (rw [if_pos (by decide +kernel)]; kernel_rfl) | (rw [if_neg (by decide +kernel)]; exact ⟨rfl, rfl⟩))
    (fun os started H enc _ => lifted os started H enc)
theorem proved : Rows.FnExactTrimAllSaid := over
#print axioms proved
end Go.Proofs.YthhlbnhgjijbaaaGreat.fnExactTrimAll
namespace Go.Proofs.YthhlbnhgjijbaaaGreat
/-- The row, under a short name, for the claim. -/
theorem fnExactTrimAll_holds : Rows.FnExactTrimAllSaid := fnExactTrimAll.proved
end Go.Proofs.YthhlbnhgjijbaaaGreat

