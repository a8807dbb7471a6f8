import Derived.Test.YtejioaahmgljgaaCSz
import Derived.Test.YtejioaahmgljgaaCMk2
import Derived.Test.YtejioaahmgljgaaCEq2
import Derived.Test.YtejioaahmgljgaaCTo2
set_option linter.unusedVariables false
set_option linter.unusedSimpArgs false
set_option maxHeartbeats 4000000
namespace Go.Proofs
open Go Go.Ev
set_option maxRecDepth 100000
variable {X : Rel3}
theorem shr_It (l : List Int) : shrR (l.map iR) = l.map iR := by
  induction l with
  | nil => rfl
  | cons x r ih => simp [shrR, shrL, T.shr, ih]
theorem shr_Inst (l : List Ins) : shrR (l.map (Ins.c true)) = l.map (Ins.c false) := by
  induction l with
  | nil => rfl
  | cons x r ih => simp [shrR, shrL, T.shr, ih, shr_It]
theorem shr_Pt (l : List Piece) : shrR (l.map (Piece.c true)) = l.map (Piece.c false) := by
  induction l with
  | nil => rfl
  | cons x r ih => simp [shrR, shrL, T.shr, ih, shr_Inst]
/-- code whose memory is its own, to be read -/
abbrev Code.s (c : Code) : AV := .ag [.t (.sl false (shrR (c.funs.map (Piece.c true)))), iA c.main.lam, iA c.main.in_, iA c.main.regs, .t (.sl false (shrR (c.main.ins.map (Ins.c true))))]
theorem Code.s_eq (c : Code) : c.s = c.a false := by simp only [Code.s, Code.a, shr_Pt, shr_Inst]
theorem own_I (l : List Int) : ownR (l.map iR) := by
  induction l with
  | nil => simp [ownR]
  | cons x r ih => simp [ownR, ownL, T.own, ih]
theorem own_Ins (l : List Ins) : ownR (l.map (Ins.c true)) := by
  induction l with
  | nil => simp [ownR]
  | cons x r ih => simp [ownR, ownL, T.own, ih, own_I]
theorem own_P (l : List Piece) : ownR (l.map (Piece.c true)) := by
  induction l with
  | nil => simp [ownR]
  | cons x r ih => simp [ownR, ownL, T.own, ih, own_Ins]
theorem szIntS_ok {l : List Int} {left : Int} (hl : l.length ≤ 9223372036854775807) (h0 : 0 ≤ left ∧ left ≤ 1048576) (h : ¬ szIntS l left < 0) : l.length ≤ 1048576 ∧ 0 ≤ szIntS l left ∧ szIntS l left ≤ 1048576 := by
  unfold szIntS at h ⊢
  rw [w64 (by omega) (by omega)] at h ⊢
  split at h
  · omega
  · rename_i h1; rw [if_neg h1]; omega
theorem szIns_ok {i : Ins} {left : Int} (hl : i.l.length ≤ 9223372036854775807) (h0 : 0 ≤ left ∧ left ≤ 1048576) (h : ¬ szIns i left < 0) : i.l.length ≤ 1048576 ∧ 0 ≤ szIns i left ∧ szIns i left ≤ 1048576 := by
  unfold szIns at h ⊢
  split at h
  · omega
  · rename_i h1; rw [if_neg h1]; exact szIntS_ok hl h0 h1
theorem szL_ok {α : Type} {f : α → Int → Int} {ok : α → Prop} {pre : α → Prop} (hf : ∀ x left, pre x → 0 ≤ left ∧ left ≤ 1048576 → ¬ f x left < 0 → ok x ∧ 0 ≤ f x left ∧ f x left ≤ 1048576) :
    ∀ {l : List α} {left : Int}, (∀ x ∈ l, pre x) → 0 ≤ left ∧ left ≤ 1048576 → ¬ szL f l left < 0 → (∀ x ∈ l, ok x) ∧ 0 ≤ szL f l left ∧ szL f l left ≤ 1048576 := by
  intro l
  induction l with
  | nil => intro left _ h0 h; exact ⟨by simp, h0⟩
  | cons x r ih =>
    intro left hp h0 h
    rw [szL] at h ⊢
    split at h
    · omega
    · rename_i h1
      rw [if_neg h1]
      obtain ⟨a1, a2⟩ := hf x left (hp x (List.mem_cons_self ..)) h0 h1
      obtain ⟨b1, b2⟩ := ih (fun y hy => hp y (List.mem_cons_of_mem _ hy)) a2 h
      refine ⟨fun y hy => ?_, b2⟩
      rcases List.mem_cons.1 hy with rfl | hy
      · exact a1
      · exact b1 y hy
def Ins.len (i : Ins) : Prop := i.l.length ≤ 9223372036854775807
def Piece.len (p : Piece) : Prop := p.ins.length ≤ 9223372036854775807 ∧ ∀ i ∈ p.ins, i.len
def Code.len (c : Code) : Prop := c.funs.length ≤ 9223372036854775807 ∧ (∀ p ∈ c.funs, p.len) ∧ c.main.len
theorem szInsS_ok {l : List Ins} {left : Int} (hl : l.length ≤ 9223372036854775807) (hll : ∀ i ∈ l, i.len) (h0 : 0 ≤ left ∧ left ≤ 1048576) (h : ¬ szInsS l left < 0) : (l.length ≤ 1048576 ∧ ∀ i ∈ l, i.l.length ≤ 1048576) ∧ 0 ≤ szInsS l left ∧ szInsS l left ≤ 1048576 := by
  unfold szInsS at h ⊢
  rw [w64 (by omega) (by omega)] at h ⊢
  split at h
  · omega
  · rename_i h1
    rw [if_neg h1]
    obtain ⟨a, b⟩ := szL_ok (pre := Ins.len) (ok := fun i => i.l.length ≤ 1048576) (fun x left hp h0 h => szIns_ok hp h0 h) hll (by omega) h
    exact ⟨⟨by omega, a⟩, b⟩
theorem szPiece_ok {p : Piece} {left : Int} (hl : p.len) (h0 : 0 ≤ left ∧ left ≤ 1048576) (h : ¬ szPiece p left < 0) : p.ok ∧ 0 ≤ szPiece p left ∧ szPiece p left ≤ 1048576 := by
  unfold szPiece at h ⊢
  split at h
  · omega
  · rename_i h1; rw [if_neg h1]; exact szInsS_ok hl.1 hl.2 h0 h1
theorem szPieceS_ok {l : List Piece} {left : Int} (hl : l.length ≤ 9223372036854775807) (hll : ∀ i ∈ l, i.len) (h0 : 0 ≤ left ∧ left ≤ 1048576) (h : ¬ szPieceS l left < 0) : (l.length ≤ 1048576 ∧ ∀ p ∈ l, p.ok) ∧ 0 ≤ szPieceS l left ∧ szPieceS l left ≤ 1048576 := by
  unfold szPieceS at h ⊢
  rw [w64 (by omega) (by omega)] at h ⊢
  split at h
  · omega
  · rename_i h1
    rw [if_neg h1]
    obtain ⟨a, b⟩ := szL_ok (pre := Piece.len) (ok := Piece.ok) (fun x left hp h0 h => szPiece_ok hp h0 h) hll (by omega) h
    exact ⟨⟨by omega, a⟩, b⟩
theorem szCode_ok {c : Code} (hl : c.len) (h : ¬ szCode c 1048576 < 0) : c.ok := by
  unfold szCode at h
  split at h
  · omega
  · rename_i h1
    obtain ⟨⟨a1, a2⟩, a3⟩ := szPieceS_ok hl.1 hl.2.1 (by omega) h1
    split at h
    · omega
    · rename_i h2
      exact ⟨a1, a2, (szPiece_ok hl.2.2 a3 h2).1⟩
theorem nx_up {k : Int} (h0 : 0 ≤ k) (h : k ≤ 9223372036854775806) : nx k = k + 1 := by unfold nx; rw [w64] <;> omega
theorem mk_up : ∀ (l : List Int) (k : Int), 0 ≤ k → k + l.length ≤ 9223372036854775807 → (mk l k).2 = k + l.length
  | [], k, _, _ => by simp [mk]
  | x :: r, k, h0, h => by
    simp only [List.length_cons] at h ⊢
    have e : IntKind.i64.wrap (k + 1) = k + 1 := by rw [w64] <;> omega
    rw [mk, e]
    have := mk_up r (k + 1) (by omega) (by omega)
    simp only; omega
theorem mkB_up : ∀ (l : List Int) (k : Int), 0 ≤ k → k + l.length ≤ 9223372036854775806 → (mkB l k).2 = k + l.length
  | [], k, _, _ => by simp [mkB]
  | x :: r, k, h0, h => by
    simp only [List.length_cons] at h ⊢
    rw [mkB, nx_up h0 (by omega)]
    have := mkB_up r (k + 1) (by omega) (by omega)
    simp only; omega
theorem heB_mkB : ∀ (l : List Int) (k : Int), heB (mkB l k).1 k = (mkB l k).2
  | [], k => rfl
  | x :: r, k => by rw [mkB, heB, if_pos rfl]; exact heB_mkB r (nx k)
theorem mkB_len' (l : List Int) (k : Int) : (mkB l k).1.length = l.length := mkB_len l k
theorem mkIns_up {i : Ins} {k : Int} (hi : i.l.length ≤ 1048576) (h0 : 0 ≤ k) (h : k ≤ 9223372036850000000) : 0 ≤ (mkIns i k).2 ∧ (mkIns i k).2 ≤ k + 1048583 := by
  unfold mkIns
  simp only
  rw [nx_up h0 (by omega), nx_up (k := k + 1) (by omega) (by omega), nx_up (k := k + 1 + 1) (by omega) (by omega), nx_up (k := k + 1 + 1 + 1) (by omega) (by omega), nx_up (k := k + 1 + 1 + 1 + 1) (by omega) (by omega)]
  have h2 := mk_up i.l (k + 1 + 1 + 1 + 1 + 1) (by omega) (by omega)
  rw [h2, nx_up (by omega) (by omega)]
  omega
theorem mkInsS_up : ∀ {l : List Ins} {k : Int}, (∀ i ∈ l, i.l.length ≤ 1048576) → 0 ≤ k → k + 1048583 * l.length ≤ 9223372036850000000 → 0 ≤ (mkInsS l k).2 ∧ (mkInsS l k).2 ≤ k + 1048583 * l.length
  | [], k, _, h0, _ => by simp [mkInsS]; exact h0
  | i :: r, k, hl, h0, h => by
    simp only [List.length_cons] at h ⊢
    obtain ⟨a, b⟩ := mkIns_up (hl i (List.mem_cons_self ..)) h0 (by omega)
    obtain ⟨c, d⟩ := mkInsS_up (fun j hj => hl j (List.mem_cons_of_mem _ hj)) a (by omega)
    rw [mkInsS]
    simp only; omega
theorem mkPiece_up {p : Piece} {k : Int} (hp : p.ok) (h0 : 0 ≤ k) (h : k ≤ 9222000000000000000) : 0 ≤ (mkPiece p k).2 ∧ (mkPiece p k).2 ≤ k + 1099518968000 := by
  unfold mkPiece
  simp only
  have h1 := hp.1
  rw [nx_up h0 (by omega), nx_up (k := k + 1) (by omega) (by omega), nx_up (k := k + 1 + 1) (by omega) (by omega)]
  have := mkInsS_up (k := k + 1 + 1 + 1) hp.2 (by omega) (by omega)
  omega
theorem mkPieceS_up : ∀ {l : List Piece} {k : Int}, (∀ p ∈ l, p.ok) → 0 ≤ k → k + 1099518968000 * l.length ≤ 9222000000000000000 → 0 ≤ (mkPieceS l k).2 ∧ (mkPieceS l k).2 ≤ k + 1099518968000 * l.length
  | [], k, _, h0, _ => by simp [mkPieceS]; exact h0
  | i :: r, k, hl, h0, h => by
    simp only [List.length_cons] at h ⊢
    obtain ⟨a, b⟩ := mkPiece_up (hl i (List.mem_cons_self ..)) h0 (by omega)
    obtain ⟨c, d⟩ := mkPieceS_up (fun j hj => hl j (List.mem_cons_of_mem _ hj)) a (by omega)
    rw [mkPieceS]
    simp only; omega
theorem mkCode_up {c : Code} (hc : c.ok) : ¬ (mkInsS c.main.ins (mkPieceS c.funs 1).2).2 < 0 := by
  have h1 := hc.1
  have h2 := hc.2.2.1
  obtain ⟨a, b⟩ := mkPieceS_up (k := 1) hc.2.1 (by omega) (by omega)
  have := (mkInsS_up (k := (mkPieceS c.funs 1).2) hc.2.2.2 a (by omega)).1
  omega
end Go.Proofs
