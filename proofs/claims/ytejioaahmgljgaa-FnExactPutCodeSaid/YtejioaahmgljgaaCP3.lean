import Derived.Test.YtejioaahmgljgaaCP2
set_option linter.unusedVariables false
set_option linter.unusedSimpArgs false
set_option maxHeartbeats 4000000
namespace Go.Proofs
open Go Go.Ev
set_option maxRecDepth 100000
variable {X : Rel3}
def encL (l : List Int) : List Int := l.flatMap encN
theorem encL_len (l : List Int) : (encL l).length ≤ 5 * l.length := by
  induction l with
  | nil => simp [encL]
  | cons x r ih =>
    have := encN_len x
    simp only [encL, List.flatMap_cons, List.length_append, List.length_cons] at ih ⊢
    omega
theorem encL_step {l : List Int} {k : Nat} (h : k < l.length) : encL (l.drop k) = encN l[k] ++ encL (l.drop (k + 1)) := by
  rw [List.drop_eq_getElem_cons h, encL, List.flatMap_cons]; rfl
theorem shr_U (l : List Int) : shrR (l.map uR) = l.map uR := by
  induction l with
  | nil => rfl
  | cons x r ih => simp [shrR, shrL, T.shr, ih]
theorem PutNumS_s (b : List Int) (n : Int) (hb : b.length ≤ 1000000000000) : Tells Try.prog E0 X 33 [.t (.sl false (shrR (b.map uR))), iA n] (.t (.sl true ((b ++ encN n).map uR))) := by rw [shr_U]; exact PutNumS_t b n hb
theorem PutNumI_s (b : List Int) (n : Int) (hb : b.length ≤ 1000000000000) : Tells Try.prog E0 X 67 [.t (.sl false (shrR (b.map uR))), iA n] (.t (.sl true ((b ++ encN n).map uR))) := by rw [shr_U]; exact PutNumI_t b n hb
def k_l16Add : List (Nat × List Nat) := [(0, [0, 1]), (1, [0, 1, 5]), (2, [0, 1, 5, 9]), (3, [0, 1, 5]), (4, [0, 1, 5]), (5, [4])]
theorem l16Add_t (b l : List Int) (hb : b.length + 5 * l.length ≤ 1000000000000) : Tells Try.prog E0 X 65 [.t (.sl true (b.map uR)), .t (.sl false (l.map iR))] (.t (.sl true ((b ++ encL l).map uR))) := by
  refine Tells.by Try.func65 (by simp [Try.f65]) (Body.i rfl rfl rfl (fun _ => rfl) fun f => ?_)
  repeat' (first
     | refine wp_seq_i ?_ | refine wp_region_t k_l16Add rfl ?_ | refine Run.done rfl ?_ | refine then_n ?_ | refine then_r ?_ | refine then_e ?_ | refine Run.go1 rfl ?_ | refine wp_skip_i ?_ | refine wp_ret_i ?_
     | refine wp_exit_i ?_ | refine wp_block_i ?_ | refine block_n ?_ | refine block_r ?_ | refine block_e ?_ | refine block_o rfl ?_ | refine wp_cond_t rfl ?_ | refine wp_cond_f rfl ?_
     | (refine wp_cond_k rfl rfl rfl ?_ ?_ <;> intro _) | (refine wp_cond_i rfl ?_ ?_ <;> intro _))
  refine wp_loop_k (α := Nat × List Int × Option Value) [.keep [0, 1, 5] [100000]] (fun p => [(5, iA p.1)]) (fun _ => []) (fun p => [(100000, ⟨0, p.2.2⟩, p.2.1.map uR)]) (fun p => p.1 ≤ l.length ∧ p.2.1.length + 5 * (l.length - p.1) ≤ 1000000000000 ∧ p.2.1 ++ encL (l.drop p.1) = b ++ encL l) (fun p => l.length - p.1) (0, b, some (f 100000)) rfl (fun _ => rfl) rfl ⟨by simp, by simpa using hb, by simp⟩ ?_
  rintro ⟨k, c, w⟩ ⟨hk, h2, h3⟩
  simp only at hk h2 h3
  by_cases hlt : k < l.length
  · have hx : (l.map iR)[k]? = some (iR l[k]) := map_at hlt
    have hlen := encN_len l[k]
    rw [encL_step hlt] at h3
    repeat' (first
       | refine wp_seq_i ?_ | refine wp_region_t k_l16Add rfl ?_ | refine Run.done rfl ?_ | refine then_n ?_ | refine then_r ?_ | refine then_e ?_ | refine Run.go1 rfl ?_ | refine wp_skip_i ?_ | refine wp_ret_i ?_
       | refine wp_exit_i ?_ | refine wp_block_i ?_ | refine block_n ?_ | refine block_r ?_ | refine block_e ?_ | refine block_o rfl ?_ | refine wp_cond_t rfl ?_ | refine wp_cond_f rfl ?_
       | refine Run.ix rfl rfl rfl rfl rfl rfl rfl hx rfl rfl rfl ?_ | refine Run.callB rfl rfl rfl (PutNumS_s c l[k] (by omega)) (own_B _) rfl ?_ | (refine wp_cond_k rfl rfl rfl ?_ ?_ <;> intro _)
       | (refine wp_cond_i rfl ?_ ?_ <;> intro _))
    · refine back_i [.keep [0, 1, 5] [17], .ren 17 100000] (k + 1, c ++ encN l[k], none) rfl ?_ ⟨by simp; omega, by simp; omega, by simpa using h3⟩ (by simp; omega)
      simp only [w_succ hlt (by omega)]; rfl
    · rename_i h; simp [hlt] at h
  · have hk : k = l.length := by omega
    subst hk
    simp [encL] at h3
    repeat' (first
       | refine wp_seq_i ?_ | refine wp_region_t k_l16Add rfl ?_ | refine Run.done rfl ?_ | refine then_n ?_ | refine then_r ?_ | refine then_e ?_ | refine Run.go1 rfl ?_ | refine wp_skip_i ?_ | refine wp_ret_i ?_
       | refine wp_exit_i ?_ | refine wp_block_i ?_ | refine block_n ?_ | refine block_r ?_ | refine block_e ?_ | refine block_o rfl ?_ | refine wp_cond_t rfl ?_ | refine wp_cond_f rfl ?_
       | (refine wp_cond_k rfl rfl rfl ?_ ?_ <;> intro _) | (refine wp_cond_i rfl ?_ ?_ <;> intro _))
    · rename_i h; simp at h
    · refine ret_m [] rfl rfl ?_; rw [h3]; rfl
def k_putAll : List (Nat × List Nat) := [(0, [0, 1]), (1, [0, 7, 8, 9]), (2, [0, 7, 8, 9, 10]), (3, [0, 6, 7, 8, 9]), (4, [0, 7, 8, 9]), (5, [0, 7, 8, 9]), (6, [4])]
theorem putAll_t (b l : List Int) (hb : b.length + 5 * l.length ≤ 1000000000000) : Tells Try.prog E0 X 38 [.t (.sl true (b.map uR)), .t (.sl false (l.map iR))] (.t (.sl true ((b ++ encL l).map uR))) := by
  refine Tells.by Try.func38 (by simp [Try.f38]) (Body.i rfl rfl rfl (fun _ => rfl) fun f => ?_)
  repeat' (first
     | refine wp_seq_i ?_ | refine wp_region_t k_putAll rfl ?_ | refine Run.done rfl ?_ | refine then_n ?_ | refine then_r ?_ | refine then_e ?_ | refine Run.go1 rfl ?_ | refine wp_skip_i ?_ | refine wp_ret_i ?_
     | refine wp_exit_i ?_ | refine wp_block_i ?_ | refine block_n ?_ | refine block_r ?_ | refine block_e ?_ | refine block_o rfl ?_ | refine wp_cond_t rfl ?_ | refine wp_cond_f rfl ?_
     | (refine wp_cond_k rfl rfl rfl ?_ ?_ <;> intro _) | (refine wp_cond_i rfl ?_ ?_ <;> intro _))
  refine wp_loop_k (α := Nat × List Int × Option Value) [.keep [0, 7, 8, 9] [100000]] (fun p => [(9, iA p.1)]) (fun _ => []) (fun p => [(100000, ⟨0, p.2.2⟩, p.2.1.map uR)]) (fun p => p.1 ≤ l.length ∧ p.2.1.length + 5 * (l.length - p.1) ≤ 1000000000000 ∧ p.2.1 ++ encL (l.drop p.1) = b ++ encL l) (fun p => l.length - p.1) (0, b, some (f 100000)) rfl (fun _ => rfl) rfl ⟨by simp, by simpa using hb, by simp⟩ ?_
  rintro ⟨k, c, w⟩ ⟨hk, h2, h3⟩
  simp only at hk h2 h3
  by_cases hlt : k < l.length
  · have hx : (l.map iR)[k]? = some (iR l[k]) := map_at hlt
    have hlen := encN_len l[k]
    rw [encL_step hlt] at h3
    repeat' (first
       | refine wp_seq_i ?_ | refine wp_region_t k_putAll rfl ?_ | refine Run.done rfl ?_ | refine then_n ?_ | refine then_r ?_ | refine then_e ?_ | refine Run.go1 rfl ?_ | refine wp_skip_i ?_ | refine wp_ret_i ?_
       | refine wp_exit_i ?_ | refine wp_block_i ?_ | refine block_n ?_ | refine block_r ?_ | refine block_e ?_ | refine block_o rfl ?_ | refine wp_cond_t rfl ?_ | refine wp_cond_f rfl ?_
       | refine Run.ix rfl rfl rfl rfl rfl rfl rfl hx rfl rfl rfl ?_ | refine Run.callB rfl rfl rfl (PutNumI_s c l[k] (by omega)) (own_B _) rfl ?_ | (refine wp_cond_k rfl rfl rfl ?_ ?_ <;> intro _)
       | (refine wp_cond_i rfl ?_ ?_ <;> intro _))
    · refine back_i [.keep [0, 7, 8, 9] [15], .ren 15 100000] (k + 1, c ++ encN l[k], none) rfl ?_ ⟨by simp; omega, by simp; omega, by simpa using h3⟩ (by simp; omega)
      simp only [w_succ hlt (by omega)]; rfl
    · rename_i h; simp [hlt] at h
  · have hk : k = l.length := by omega
    subst hk
    simp [encL] at h3
    repeat' (first
       | refine wp_seq_i ?_ | refine wp_region_t k_putAll rfl ?_ | refine Run.done rfl ?_ | refine then_n ?_ | refine then_r ?_ | refine then_e ?_ | refine Run.go1 rfl ?_ | refine wp_skip_i ?_ | refine wp_ret_i ?_
       | refine wp_exit_i ?_ | refine wp_block_i ?_ | refine block_n ?_ | refine block_r ?_ | refine block_e ?_ | refine block_o rfl ?_ | refine wp_cond_t rfl ?_ | refine wp_cond_f rfl ?_
       | (refine wp_cond_k rfl rfl rfl ?_ ?_ <;> intro _) | (refine wp_cond_i rfl ?_ ?_ <;> intro _))
    · rename_i h; simp at h
    · refine ret_m [] rfl rfl ?_; rw [h3]; rfl
theorem putAll1_t (b : List Int) (n : Int) (hb : b.length ≤ 1000000000) : Tells Try.prog E0 X 38 [.t (.sl false (b.map uR)), .t (.sl false [[iT n]])] (.t (.sl true ((b ++ encN n).map uR))) := by
  refine Tells.by Try.func38 (by simp [Try.f38]) (Body.i rfl rfl rfl (fun _ => rfl) fun f => ?_)
  repeat' (first
     | refine wp_seq_i ?_ | refine wp_region_t k_putAll rfl ?_ | refine Run.done rfl ?_ | refine then_n ?_ | refine then_r ?_ | refine then_e ?_ | refine Run.go1 rfl ?_ | refine wp_skip_i ?_ | refine wp_ret_i ?_
     | refine wp_exit_i ?_ | refine wp_block_i ?_ | refine block_n ?_ | refine block_r ?_ | refine block_e ?_ | refine block_o rfl ?_ | refine wp_cond_t rfl ?_ | refine wp_cond_f rfl ?_
     | (refine wp_cond_k rfl rfl rfl ?_ ?_ <;> intro _) | (refine wp_cond_i rfl ?_ ?_ <;> intro _))
  refine wp_loop_i (α := Bool) (fun p => match p with
    | false => ⟨[(0, AV.t (.sl false (b.map uR))), (7, AV.t (.sl false [[iT n]])), (8, iA 1), (9, iA 0)], [], [], Try.f38.ntmps⟩
    | true => ⟨[(0, AV.rf 15), (7, AV.t (.sl false [[iT n]])), (8, iA 1), (9, iA 1)], [], [(15, 0, (b ++ encN n).map uR)], Try.f38.ntmps⟩) (fun _ => True) (fun p => match p with
    | false => 1
    | true => 0) false (@AdjW.ofL _ [.keep [0, 7, 8, 9] []] _ _ rfl rfl) trivial ?_
  rintro (_ | _) _
  · have hx : ([[iT n]] : List (List T))[0]? = some [iT n] := rfl
    repeat' (first
       | refine wp_seq_i ?_ | refine wp_region_t k_putAll rfl ?_ | refine Run.done rfl ?_ | refine then_n ?_ | refine then_r ?_ | refine then_e ?_ | refine Run.go1 rfl ?_ | refine wp_skip_i ?_ | refine wp_ret_i ?_
       | refine wp_exit_i ?_ | refine wp_block_i ?_ | refine block_n ?_ | refine block_r ?_ | refine block_e ?_ | refine block_o rfl ?_ | refine wp_cond_t rfl ?_ | refine wp_cond_f rfl ?_
       | refine Run.ix rfl rfl rfl rfl rfl rfl rfl hx rfl rfl rfl ?_ | refine Run.callB rfl rfl rfl (PutNumI_t b n (by omega)) (own_B _) rfl ?_ | (refine wp_cond_k rfl rfl rfl ?_ ?_ <;> intro _)
       | (refine wp_cond_i rfl ?_ ?_ <;> intro _))
    · exact @AdjW.ofL _ [.keep [0, 7, 8, 9] [15]] _ _ rfl ⟨true, rfl, trivial, Nat.zero_lt_one⟩
  · skip
    repeat' (first
       | refine wp_seq_i ?_ | refine wp_region_t k_putAll rfl ?_ | refine Run.done rfl ?_ | refine then_n ?_ | refine then_r ?_ | refine then_e ?_ | refine Run.go1 rfl ?_ | refine wp_skip_i ?_ | refine wp_ret_i ?_
       | refine wp_exit_i ?_ | refine wp_block_i ?_ | refine block_n ?_ | refine block_r ?_ | refine block_e ?_ | refine block_o rfl ?_ | refine wp_cond_t rfl ?_ | refine wp_cond_f rfl ?_
       | (refine wp_cond_k rfl rfl rfl ?_ ?_ <;> intro _) | (refine wp_cond_i rfl ?_ ?_ <;> intro _))
    · refine ret_m [] rfl rfl rfl
end Go.Proofs
