import Derived.Test.YtejioaahmgljgaaCP3
import Derived.Test.YtejioaahmgljgaaCP4
set_option linter.unusedVariables false
set_option linter.unusedSimpArgs false
set_option maxHeartbeats 4000000
namespace Go.Proofs
open Go Go.Ev
set_option maxRecDepth 100000
variable {X : Rel3}
def encIns (i : Ins) : List Int := encL [i.op, i.d, i.x, i.y, i.n, i.to_, i.l.length] ++ encL i.l
def encInsL (l : List Ins) : List Int := l.flatMap encIns
def encHead (p : Piece) : List Int := encL [p.lam, p.in_, p.regs, p.ins.length]
def encPiece (p : Piece) : List Int := encHead p ++ encInsL p.ins
/-- as much as may be put -/
def Ins.few (i : Ins) : Prop := i.l.length ≤ 200
def Piece.few (p : Piece) : Prop := p.ins.length ≤ 600 ∧ ∀ i ∈ p.ins, i.few
theorem encIns_len {i : Ins} (h : i.few) : (encIns i).length ≤ 1035 := by
  have h1 := encL_len [i.op, i.d, i.x, i.y, i.n, i.to_, i.l.length]
  have h2 := encL_len i.l
  unfold Ins.few at h
  simp only [encIns, List.length_append, List.length_cons, List.length_nil] at h1 ⊢
  omega
theorem encInsL_len {l : List Ins} (h : ∀ i ∈ l, i.few) : (encInsL l).length ≤ 1035 * l.length := by
  induction l with
  | nil => simp [encInsL]
  | cons i r ih =>
    have h1 := encIns_len (h i (List.mem_cons_self ..))
    have h2 := ih fun j hj => h j (List.mem_cons_of_mem _ hj)
    simp only [encInsL, List.flatMap_cons, List.length_append, List.length_cons] at h2 ⊢
    omega
theorem encHead_len (p : Piece) : (encHead p).length ≤ 20 := encL_len [p.lam, p.in_, p.regs, p.ins.length]
theorem encPiece_len {p : Piece} (h : p.few) : (encPiece p).length ≤ 621020 := by
  have h1 := encHead_len p
  have h2 := encInsL_len h.2
  have h3 := h.1
  simp only [encPiece, List.length_append]
  omega
theorem encInsL_step {l : List Ins} {k : Nat} (h : k < l.length) : encInsL (l.drop k) = encIns l[k] ++ encInsL (l.drop (k + 1)) := by
  rw [List.drop_eq_getElem_cons h, encInsL, List.flatMap_cons]; rfl
theorem list_I (l : List Int) (rows : List (List T)) (h : rows = l.map iR) : T.sl false (shrR rows) = T.sl false (l.map iR) := by rw [h, shr_I]
def k_l16Piece : List (Nat × List Nat) := [(0, [0, 3]), (1, [0, 3]), (2, [0, 3, 5]), (3, [0, 3, 5, 23]), (4, [0, 3, 5]), (5, [0, 3, 5, 6]), (6, [0, 3, 5]), (7, [4])]
theorem l16Piece_t (b : List Int) (p : Piece) (hp : p.few) (hb : b.length ≤ 1000000000) : Tells Try.prog E0 X 34 [.t (.sl true (b.map uR)), p.a false] (.t (.sl true ((b ++ encPiece p).map uR))) := by
  have hp1 := hp.1
  have hh := encHead_len p
  have hA : Tells Try.prog E0 X 65 [.t (.sl true ((b).map uR)), .t (.sl false [[iT (p.lam)], [iT (p.in_)], [iT (p.regs)], [iT (((p.ins.map (Ins.c false)).length : Int))]])] (.t (.sl true ((b ++ encHead p).map uR))) := by
    have := l16Add_t (X := X) b [p.lam, p.in_, p.regs, p.ins.length] (by simp; omega)
    simpa [encHead, encIns] using this
  refine Tells.by Try.func34 (by simp [Try.f34]) (Body.i rfl rfl rfl (fun _ => rfl) fun f => ?_)
  repeat' (first
     | refine wp_seq_i ?_ | refine wp_region_t k_l16Piece rfl ?_ | refine Run.done rfl ?_ | refine then_n ?_ | refine then_r ?_ | refine then_e ?_ | refine Run.go1 rfl ?_ | refine wp_skip_i ?_ | refine wp_ret_i ?_
     | refine wp_exit_i ?_ | refine wp_block_i ?_ | refine block_n ?_ | refine block_r ?_ | refine block_e ?_ | refine block_o rfl ?_ | refine wp_cond_t rfl ?_ | refine wp_cond_f rfl ?_ | refine Run.one rfl rfl rfl ?_
     | refine Run.callB rfl rfl rfl (hA) (own_B _) rfl ?_ | (refine wp_cond_k rfl rfl rfl ?_ ?_ <;> intro _) | (refine wp_cond_i rfl ?_ ?_ <;> intro _))
  refine wp_loop_k (α := Nat × List Int) [.keep [0, 3, 5] [3, 18]] (fun p => [(5, iA p.1)]) (fun _ => []) (fun p => [(18, 0, p.2.map uR)]) (fun q => q.1 ≤ p.ins.length ∧ q.2 ++ encInsL (p.ins.drop q.1) = b ++ encPiece p) (fun q => p.ins.length - q.1) (0, b ++ encHead p) rfl (fun _ => rfl) rfl ⟨by simp, by simp [encPiece]⟩ ?_
  rintro ⟨k, c⟩ ⟨hk, h3⟩
  simp only at hk h3
  have hcl : c.length ≤ 2000000000 := by
    have h4 := congrArg List.length h3
    have h5 := encPiece_len hp
    simp only [List.length_append] at h4
    omega
  by_cases hlt : k < p.ins.length
  · have hx : (p.ins.map (Ins.c false))[k]? = some (Ins.c false p.ins[k]) := map_at hlt
    have hf := hp.2 _ (List.getElem_mem hlt)
    rw [encInsL_step hlt] at h3
    generalize hi : p.ins[k] = i at hx hf h3
    have hil : i.l.length ≤ 200 := hf
    have hel := encL_len [i.op, i.d, i.x, i.y, i.n, i.to_, i.l.length]
    have hB : Tells Try.prog E0 X 65 [.t (.sl true ((c).map uR)), .t (.sl false [[iT (i.op)], [iT (i.d)], [iT (i.x)], [iT (i.y)], [iT (i.n)], [iT (i.to_)], [iT (((i.l.map iR).length : Int))]])] (.t (.sl true ((c ++ encL [i.op, i.d, i.x, i.y, i.n, i.to_, i.l.length]).map uR))) := by
      have := l16Add_t (X := X) c [i.op, i.d, i.x, i.y, i.n, i.to_, i.l.length] (by simp; omega)
      simpa [encHead, encIns] using this
    have hC : Tells Try.prog E0 X 65 [.t (.sl true ((c ++ encL [i.op, i.d, i.x, i.y, i.n, i.to_, i.l.length]).map uR)), .t (.sl false (i.l.map iR))] (.t (.sl true ((c ++ encIns i).map uR))) := by
      have := l16Add_t (X := X) (c ++ encL [i.op, i.d, i.x, i.y, i.n, i.to_, i.l.length]) i.l (by simp only [List.length_append, List.length_cons, List.length_nil] at hel ⊢; omega)
      rw [List.append_assoc] at this; exact this
    repeat' (first
       | refine wp_seq_i ?_ | refine wp_region_t k_l16Piece rfl ?_ | refine Run.done rfl ?_ | refine then_n ?_ | refine then_r ?_ | refine then_e ?_ | refine Run.go1 rfl ?_ | refine wp_skip_i ?_ | refine wp_ret_i ?_
       | refine wp_exit_i ?_ | refine wp_block_i ?_ | refine block_n ?_ | refine block_r ?_ | refine block_e ?_ | refine block_o rfl ?_ | refine wp_cond_t rfl ?_ | refine wp_cond_f rfl ?_ | refine RunQ.go1 rfl ?_
       | refine RunQ.done rfl ?_ | refine Run.ix rfl rfl rfl rfl rfl rfl rfl hx rfl rfl rfl ?_
       | refine wp_region_l k_l16Piece [0, 1, 2, 3, 4, 5, 6, 7, 8, 9, 10, 11, 12, 13, 14, 15, 18, 19] [16, 17, 20] [0, 0, 2, 0, 8, 0, 32, 0, 128, 0, 512, 0, 2048, 0, 8192, 24576, 65534, 131071, 0, 262144, 1048575, 2097151] rfl (by decide +kernel) (by decide +kernel) rfl rfl ?_
       | refine RunL.one rfl rfl rfl rfl rfl ?_ | refine RunL.call rfl rfl rfl rfl (hB) (.inr (own_B _)) rfl rfl ?_ | refine RunL.call rfl rfl rfl rfl (hC) (.inr (own_B _)) rfl rfl ?_ | refine RunL.done ?_
       | (refine wp_cond_k rfl rfl rfl ?_ ?_ <;> intro _) | (refine wp_cond_i rfl ?_ ?_ <;> intro _))
    · refine back_i [.keep [0, 3, 5] [3, 51], .ren 51 18] (k + 1, c ++ encIns i) rfl ?_ ⟨by simp; omega, by simpa using h3⟩ (by simp; omega)
      simp only [w_succ hlt (by omega)]
    · rename_i h; simp [hlt] at h
  · have hk : k = p.ins.length := by omega
    subst hk
    simp [encInsL] at h3
    repeat' (first
       | refine wp_seq_i ?_ | refine wp_region_t k_l16Piece rfl ?_ | refine Run.done rfl ?_ | refine then_n ?_ | refine then_r ?_ | refine then_e ?_ | refine Run.go1 rfl ?_ | refine wp_skip_i ?_ | refine wp_ret_i ?_
       | refine wp_exit_i ?_ | refine wp_block_i ?_ | refine block_n ?_ | refine block_r ?_ | refine block_e ?_ | refine block_o rfl ?_ | refine wp_cond_t rfl ?_ | refine wp_cond_f rfl ?_
       | (refine wp_cond_k rfl rfl rfl ?_ ?_ <;> intro _) | (refine wp_cond_i rfl ?_ ?_ <;> intro _))
    · rename_i h; simp at h
    · refine ret_m [] rfl rfl ?_; rw [h3]
end Go.Proofs
