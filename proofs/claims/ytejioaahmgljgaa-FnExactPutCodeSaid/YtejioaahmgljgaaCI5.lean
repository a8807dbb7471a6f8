import Derived.Test.YtejioaahmgljgaaCI4
set_option linter.unusedVariables false
set_option linter.unusedSimpArgs false
set_option maxHeartbeats 4000000
namespace Go.Proofs
open Go Go.Ev
set_option maxRecDepth 100000
variable {X : Rel3}
abbrev Code.c (o : Bool) (c : Code) : List T := [.sl o (c.funs.map (Piece.c o)), iT c.main.lam, iT c.main.in_, iT c.main.regs, .sl o (c.main.ins.map (Ins.c o))]
def lamI2 (funs : List Piece) (i : Ins) : Bool := lamI funs i && (i.op != 14 || asc i.l)
def k_lamsOk1 : List (Nat × List Nat) := [(0, [1, 2]), (1, [1, 2, 9]), (2, [1, 2, 4]), (3, [3]), (4, [1, 2, 30, 31, 32]), (5, [1, 2, 30, 31, 32, 33]), (6, [1, 2, 5, 6, 30, 31, 32]), (7, [1, 2, 30, 31, 32, 59]), (8, [3]), (9, [1, 2, 30, 31, 32]), (10, [3])]
theorem lamsOk1_t (c : Code) (i : Ins) (hc : c.funs.length ≤ 1048576) (hil : i.l.length ≤ 1048576) : Tells Try.prog E0 X 87 [i.a false, .t (.pt (Code.c false c))] (bA (!lamI2 c.funs i)) := by
  refine Tells.by Try.func87 (by simp [Try.f87]) (Body.i rfl rfl rfl (fun _ => rfl) fun f => ?_)
  repeat' (first
     | refine wp_seq_i ?_ | refine wp_region_t k_lamsOk1 rfl ?_ | refine Run.done rfl ?_ | refine then_n ?_ | refine then_r ?_ | refine then_e ?_ | refine Run.go1 rfl ?_ | refine wp_skip_i ?_ | refine wp_ret_i ?_
     | refine wp_exit_i ?_ | refine wp_block_i ?_ | refine block_n ?_ | refine block_r ?_ | refine block_e ?_ | refine block_o rfl ?_ | refine wp_cond_t rfl ?_ | refine wp_cond_f rfl ?_
     | refine wp_region_qt k_lamsOk1 rfl 16 (by decide +kernel) rfl rfl ?_ | refine RunQ.go1 rfl ?_ | refine RunQ.done rfl ?_ | refine Run.gT rfl rfl rfl rfl ?_ | refine Run.pT rfl rfl ?_
     | (refine Run.splitG rfl rfl rfl rfl rfl rfl ?_ ?_ <;> intro _) | (refine Run.splitP rfl rfl rfl rfl ?_ ?_ <;> intro _) | refine RunQ.gT rfl rfl rfl rfl ?_ | refine RunQ.pT rfl rfl ?_
     | (refine RunQ.splitG rfl rfl rfl rfl rfl rfl ?_ ?_ <;> intro _) | (refine RunQ.splitP rfl rfl rfl rfl ?_ ?_ <;> intro _) | refine Run.call rfl rfl rfl (pieceAt_t c _ hc) rfl rfl ?_
     | refine RunQ.ix rfl rfl rfl rfl rfl rfl (funAt_row (by simpa using ‹decide (funAt c.funs i.n < 0) = false›)).1 (funAt_row (by simpa using ‹decide (funAt c.funs i.n < 0) = false›)).2 rfl rfl rfl ?_
     | (refine wp_cond_k rfl rfl rfl ?_ ?_ <;> intro _) | (refine wp_cond_i rfl ?_ ?_ <;> intro _))
  any_goals (refine ret_m [] rfl rfl ?_; first | (simp_all [lamI2, lamI]; done) | (have h0 : decide (funAt c.funs i.n < 0) = false := (by assumption); have h8 : i.op = 8 := (by simp_all); simp only [lamI2, lamI, h8, h0, bne, List.length_map, if_true]; simp; done))
  have h8 : ¬ i.op = 8 := by simp_all
  refine wp_loop_k (α := Nat) [.keep [1, 2, 30, 31, 32] [2]] (fun k => [(32, iA k)]) (fun _ => []) (fun _ => []) (fun k => k ≤ i.l.length ∧ (i.op = 14 → asc (i.l.drop (k - 1)) = asc i.l ∧ allF c.funs (i.l.drop k) = allF c.funs i.l)) (fun k => i.l.length - k) 0 rfl (fun _ => rfl) rfl ⟨by simp, by simp⟩ ?_
  rintro k ⟨hk, hA⟩
  by_cases hlt : k < i.l.length
  · have hx : (i.l.map iR)[k]? = some (iR i.l[k]) := map_at hlt
    have hy : (i.l.map iR)[k - 1]? = some (iR (i.l[k - 1]'(by omega))) := map_at (by omega)
    have hkk : decide ((k : Int) > 0) = true → IntKind.i64.wrap ((k : Int) - 1) = ((k - 1 : Nat) : Int) := by intro h; simp at h; rw [w_pred] <;> omega
    have hA1 : 0 < k → i.op = 14 → asc i.l = (decide ((i.l[k - 1]'(by omega)) < i.l[k]) && asc (i.l.drop k)) := by
      intro h h14
      obtain ⟨j, rfl⟩ : ∃ j, k = j + 1 := ⟨k - 1, by omega⟩
      rw [← (hA h14).1]; exact asc_step hlt
    have hA2 : k = 0 → asc (i.l.drop k) = asc i.l := by rintro rfl; simp
    have hI : i.op = 14 → (!decide (funAt c.funs i.l[k] < 0) && allF c.funs (i.l.drop (k + 1))) = allF c.funs i.l := by intro h14; rw [← allF_step hlt]; exact (hA h14).2
    repeat' (first
       | refine wp_seq_i ?_ | refine wp_region_t k_lamsOk1 rfl ?_ | refine Run.done rfl ?_ | refine then_n ?_ | refine then_r ?_ | refine then_e ?_ | refine Run.go1 rfl ?_ | refine wp_skip_i ?_ | refine wp_ret_i ?_
       | refine wp_exit_i ?_ | refine wp_block_i ?_ | refine block_n ?_ | refine block_r ?_ | refine block_e ?_ | refine block_o rfl ?_ | refine wp_cond_t rfl ?_ | refine wp_cond_f rfl ?_ | refine Run.gT rfl rfl rfl rfl ?_
       | refine Run.pT rfl rfl ?_ | (refine Run.splitG rfl rfl rfl rfl rfl rfl ?_ ?_ <;> intro _) | (refine Run.splitP rfl rfl rfl rfl ?_ ?_ <;> intro _) | refine Run.ix rfl rfl rfl rfl rfl rfl rfl hx rfl rfl rfl ?_
       | refine Run.ix rfl rfl rfl rfl rfl rfl (hkk (by assumption)) hy rfl rfl rfl ?_ | refine Run.call rfl rfl rfl (pieceAt_t c _ hc) rfl rfl ?_ | (refine wp_cond_k rfl rfl rfl ?_ ?_ <;> intro _)
       | (refine wp_cond_i rfl ?_ ?_ <;> intro _))
    all_goals first
    | (rename_i h; simp [hlt] at h; done)
    | (exfalso; clear hA hA1 hA2 hI; simp_all; done)
    | (refine ret_m [] rfl rfl ?_
       have h14 : i.op = 14 := by clear hA hA1 hA2 hI; simp_all
       have hl : (0 < k ∧ ¬ (i.l[k - 1]'(by omega)) < i.l[k]) ∨ funAt c.funs i.l[k] < 0 := by
         clear hA hA1 hA2 hI
         rcases Nat.eq_zero_or_pos k with h0 | h0 <;> simp_all
       rcases hl with ⟨h0, hl⟩ | hl
       · have := hA1 h0 h14; simp [hl] at this; simp [lamI2, h14, this]
       · have hI := hI h14; simp [hl] at hI; simp [lamI2, lamI, h14, ← hI])
    | (refine back_i [.keep [1, 2, 30, 31, 32] [2]] (k + 1) rfl ?_ ⟨by omega, ?_⟩ (by omega)
       · simp only [w_succ hlt (by omega)]
       · intro h14
         refine ⟨?_, ?_⟩
         · rcases Nat.eq_zero_or_pos k with h0 | h0
           · exact hA2 h0
           · have hq := hA1 h0 h14
             have hl : (i.l[k - 1]'(by omega)) < i.l[k] := by clear hA1 hA2 hA hI hq; simp_all
             rw [hq]; simp [hl]
         · have hl : ¬ funAt c.funs i.l[k] < 0 := by clear hA1 hA2 hA hI; simp_all
           rw [← hI h14]; simp [hl])
  · have hk : k = i.l.length := by omega
    subst hk
    have hA : i.op = 14 → asc i.l = true ∧ allF c.funs i.l = true := by intro h; rw [← (hA h).1, ← (hA h).2]; exact ⟨asc_end (by omega), by simp [allF]⟩
    repeat' (first
       | refine wp_seq_i ?_ | refine wp_region_t k_lamsOk1 rfl ?_ | refine Run.done rfl ?_ | refine then_n ?_ | refine then_r ?_ | refine then_e ?_ | refine Run.go1 rfl ?_ | refine wp_skip_i ?_ | refine wp_ret_i ?_
       | refine wp_exit_i ?_ | refine wp_block_i ?_ | refine block_n ?_ | refine block_r ?_ | refine block_e ?_ | refine block_o rfl ?_ | refine wp_cond_t rfl ?_ | refine wp_cond_f rfl ?_
       | (refine wp_cond_k rfl rfl rfl ?_ ?_ <;> intro _) | (refine wp_cond_i rfl ?_ ?_ <;> intro _))
    · rename_i h; simp at h
    · refine ret_m [] rfl rfl ?_
      by_cases h14 : i.op = 14
      · simp [lamI2, lamI, h14, hA h14]
      · simp [lamI2, lamI, h14, h8]
def lams2 (funs : List Piece) (l : List Ins) : Bool := l.all (lamI2 funs)
theorem lams2_eq {funs : List Piece} {p : Piece} : (pieceB p && lams2 funs p.ins) = (pieceB p && lamsB funs p.ins) := by
  cases hp : pieceB p with
  | false => rfl
  | true =>
    simp only [Bool.true_and]
    have hi : allI p.regs p.ins.length p.ins = true := by simp [pieceB] at hp; exact hp.2.1
    rw [Bool.eq_iff_iff]
    simp only [lams2, lamsB, List.all_eq_true]
    simp only [allI, List.all_eq_true] at hi
    refine forall_congr' fun i => forall_congr' fun hm => ?_
    have hb := hi i hm
    by_cases h14 : i.op = 14
    · have ha : asc i.l = true := by simp [insB, numB, h14] at hb; exact hb.2.1
      simp [lamI2, ha]
    · simp [lamI2, h14]
theorem lamsOk_t (c : Code) (p : Piece) (hc : c.funs.length ≤ 1048576) (hp : p.ok) : Tells Try.prog E0 X 66 [c.a false, p.a false] (bA (lams2 c.funs p.ins)) := by
  have hcf := containsFIns_t (X := X) p.ins 87 rfl (Code.c false c) (fun i => !lamI2 c.funs i) (fun i hi => lamsOk1_t c i hc (hp.2 _ hi)) hp.1
  have e : (!(p.ins.any fun i => !lamI2 c.funs i)) = lams2 c.funs p.ins := by simp only [lams2, List.all_eq_not_any_not]
  refine Tells.by Try.func66 (by simp [Try.f66]) (Body.i rfl rfl rfl (fun _ => rfl) fun f => ?_)
  repeat' (first
     | refine wp_seq_i ?_ | refine wp_region_i ?_ | refine Run.done rfl ?_ | refine then_n ?_ | refine then_r ?_ | refine then_e ?_ | refine Run.go1 rfl ?_ | refine wp_skip_i ?_ | refine wp_ret_i ?_ | refine wp_exit_i ?_
     | refine wp_block_i ?_ | refine block_n ?_ | refine block_r ?_ | refine block_e ?_ | refine block_o rfl ?_ | refine wp_cond_t rfl ?_ | refine wp_cond_f rfl ?_
     | refine Run.callB rfl rfl rfl (hcf) (by simp [AV.own, T.own]) rfl ?_ | (refine wp_cond_k rfl rfl rfl ?_ ?_ <;> intro _) | (refine wp_cond_i rfl ?_ ?_ <;> intro _))
  all_goals (refine ret_m [] rfl rfl ?_; rw [e])
end Go.Proofs
