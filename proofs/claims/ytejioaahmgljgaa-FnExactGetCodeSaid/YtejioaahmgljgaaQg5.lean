import Derived.Test.YtejioaahmgljgaaQg4
import Derived.Test.YtejioaahmgljgaaRows
import Derived.WalkKit
import Derived.ProofKit
import Derived.OpenShut
import Derived.ShutString
import Derived.ChangeOld
import Derived.Below
import Derived.SizedLaws
set_option linter.unusedVariables false
set_option linter.unusedSimpArgs false
set_option maxHeartbeats 4000000
namespace Go.Proofs
open Go Go.Ev
set_option maxRecDepth 100000
variable {X : Rel3}
def k_l16InsR : List (Nat × List Nat) := [(0, [0, 2]), (1, [0, 2, 3]), (2, [0, 2, 3]), (3, [0, 2, 3]), (4, [0, 2, 3]), (5, [0, 2, 3]), (6, [0, 2, 3]), (7, [0, 2, 3]), (8, [0, 2, 3, 4]), (9, [0, 2, 3, 4, 5]), (10, [0, 2, 3, 4, 5, 40]), (11, [0, 2, 3, 4, 5]), (12, [0, 2, 3, 4, 5]), (13, [2])]
theorem InsR_t (b : List Int) (at_ : Int) (bad : Bool) (hl : b.length ≤ 1000000000000) (hb : ∀ c ∈ b, 0 ≤ c ∧ c < 256) (ha : at_ ≤ 9223372036854775807) : Tells Try.prog E0 X 69 [rdA b at_ bad] (.io [.ag (((rdIns b at_ bad).1.c true).map .t), rdA b (rdIns b at_ bad).2.1 (rdIns b at_ bad).2.2]) := by
  rcases h1 : nxt b at_ bad with ⟨o1, a1, b1⟩
  have ha1 := nxt_e h1 hl ha
  rcases h2 : nxt b a1 b1 with ⟨o2, a2, b2⟩
  have ha2 := nxt_e h2 hl ha1
  rcases h3 : nxt b a2 b2 with ⟨o3, a3, b3⟩
  have ha3 := nxt_e h3 hl ha2
  rcases h4 : nxt b a3 b3 with ⟨o4, a4, b4⟩
  have ha4 := nxt_e h4 hl ha3
  rcases h5 : nxt b a4 b4 with ⟨o5, a5, b5⟩
  have ha5 := nxt_e h5 hl ha4
  rcases h6 : nxt b a5 b5 with ⟨o6, a6, b6⟩
  have ha6 := nxt_e h6 hl ha5
  rcases h7 : nxt b a6 b6 with ⟨o7, a7, b7⟩
  have ha7 := nxt_e h7 hl ha6
  have hI : rdIns b at_ bad = (⟨o1, o2, o3, o4, o5, (rdLS b o7 201 0 a7 b7).1, o6⟩, (rdLS b o7 201 0 a7 b7).2) := by simp only [rdIns, h1, h2, h3, h4, h5, h6, h7]
  rw [hI]
  clear hI
  refine Tells.by Try.func69 (by simp [Try.f69]) (Body.i rfl rfl rfl (fun _ => rfl) fun f => ?_)
  repeat' (first
     | refine wp_seq_i ?_ | refine wp_region_t k_l16InsR rfl ?_ | refine Run.done rfl ?_ | refine then_n ?_ | refine then_r ?_ | refine then_e ?_ | refine Run.go1 rfl ?_ | refine wp_skip_i ?_ | refine wp_ret_i ?_
     | refine wp_exit_i ?_ | refine wp_block_i ?_ | refine block_n ?_ | refine block_r ?_ | refine block_e ?_ | refine block_o rfl ?_ | refine wp_cond_t rfl ?_ | refine wp_cond_f rfl ?_
     | refine Run.call rfl rfl rfl (Next_e h1 hl hb ha) rfl rfl ?_ | refine Run.call rfl rfl rfl (Next_e h2 hl hb ha1) rfl rfl ?_ | refine Run.call rfl rfl rfl (Next_e h3 hl hb ha2) rfl rfl ?_
     | refine Run.call rfl rfl rfl (Next_e h4 hl hb ha3) rfl rfl ?_ | refine Run.call rfl rfl rfl (Next_e h5 hl hb ha4) rfl rfl ?_ | refine Run.call rfl rfl rfl (Next_e h6 hl hb ha5) rfl rfl ?_
     | refine Run.call rfl rfl rfl (Next_e h7 hl hb ha6) rfl rfl ?_ | (refine wp_cond_k rfl rfl rfl ?_ ?_ <;> intro _) | (refine wp_cond_i rfl ?_ ?_ <;> intro _))
  refine wp_loop_k (α := Nat × List Int × Int × Bool) [.nilH 3 5 77, .keep [0, 2, 3, 4, 5] [2, 3, 100000, 77]] (fun z => [(5, iA z.1)]) (fun z => [(100000, [.t (.sl false (b.map uR)), iA z.2.2.1, bA z.2.2.2])]) (fun z => [(77, 0, z.2.1.map iR)]) (fun z => (z.1 ≤ 201 ∧ z.2.1.length = z.1 ∧ z.2.2.1 ≤ 9223372036854775807) ∧ rdLS b o7 201 0 a7 b7 = (z.2.1 ++ (rdLS b o7 (201 - z.1) z.1 z.2.2.1 z.2.2.2).1, (rdLS b o7 (201 - z.1) z.1 z.2.2.1 z.2.2.2).2)) (fun z => 201 - z.1) (0, [], a7, b7) rfl (fun _ => rfl) rfl ⟨⟨by simp, rfl, ha7⟩, rfl⟩ ?_
  rintro ⟨k, acc, a, bd⟩ ⟨⟨hk, hacc, haa⟩, hr⟩
  simp only at hk hacc haa hr
  rcases h8 : nxt b a bd with ⟨v, a', b'⟩
  have ha8 := nxt_e h8 hl haa
  have hgo := @rdLS_go b o7 k a bd v a' b'
  have hstop := @rdLS_stop b o7 k a bd hk
  repeat' (first
     | refine wp_seq_i ?_ | refine wp_region_t k_l16InsR rfl ?_ | refine Run.done rfl ?_ | refine then_n ?_ | refine then_r ?_ | refine then_e ?_ | refine Run.go1 rfl ?_ | refine wp_skip_i ?_ | refine wp_ret_i ?_
     | refine wp_exit_i ?_ | refine wp_block_i ?_ | refine block_n ?_ | refine block_r ?_ | refine block_e ?_ | refine block_o rfl ?_ | refine wp_cond_t rfl ?_ | refine wp_cond_f rfl ?_ | refine RunQ.go1 rfl ?_
     | refine RunQ.done rfl ?_ | refine Run.gT rfl rfl rfl rfl ?_ | refine Run.pT rfl rfl ?_ | (refine Run.splitG rfl rfl rfl rfl rfl rfl ?_ ?_ <;> intro _) | (refine Run.splitP rfl rfl rfl rfl ?_ ?_ <;> intro _)
     | refine RunQ.gT rfl rfl rfl rfl ?_ | refine RunQ.pT rfl rfl ?_ | (refine RunQ.splitG rfl rfl rfl rfl rfl rfl ?_ ?_ <;> intro _) | (refine RunQ.splitP rfl rfl rfl rfl ?_ ?_ <;> intro _)
     | refine wp_region_l k_l16InsR [0, 1, 2] [3, 4] [0, 1, 0, 4, 12, 31, 63, 127] rfl (by decide +kernel) (by decide +kernel) rfl rfl ?_ | refine RunL.call rfl rfl rfl rfl (Next_e h8 hl hb haa) (.inl rfl) rfl rfl ?_
     | refine RunL.one rfl rfl rfl rfl rfl ?_ | refine RunL.done ?_ | refine Run.cnd rfl rfl rfl ⟨by simp; omega, (by intro r hr; obtain ⟨a, _, rfl⟩ := List.mem_map.1 hr; rfl), by simp, .inl rfl, by simp [flatT]⟩ ?_
     | (refine wp_cond_k rfl rfl rfl ?_ ?_ <;> intro _) | (refine wp_cond_i rfl ?_ ?_ <;> intro _))
  · rename_i c1 c2 c3
    have c1 : (k : Int) < o7 := of_decide_eq_true c1
    have c2 : (k : Int) < 201 := of_decide_eq_true c2
    have hk1 : k < 201 := by omega
    have c3 : bd = false := by simpa using c3
    have hg := hgo hk1 c1 c3 h8
    refine back_i [.keep [0, 2, 3, 4, 5] [2, 3, 100000, 48], .ren 48 77] (k + 1, acc ++ [v], a', b') rfl ?_ ⟨⟨by simp; omega, by simp [hacc], ha8⟩, ?_⟩ (by simp; omega)
    · simp only [w_succ hk1 (by omega), List.map_append, List.map_cons, List.map_nil]; first | done | rfl
    · rw [hr, hg]; simp
  all_goals (
    have hs := hstop (by
      rintro ⟨q1, q2, q3⟩
      first
      | (rename_i c; have c := of_decide_eq_false c; simp only at c; omega)
      | (rename_i c; rw [q3] at c; simp at c))
    rw [hs] at hr
    refine ret_o [true] [] rfl rfl rfl (by simp) ?_
    rw [hr]
    simp [Ins.c])
end Go.Proofs

set_option linter.unusedVariables false
set_option linter.unusedSimpArgs false
set_option maxHeartbeats 4000000
namespace Go.Proofs
open Go Go.Ev
set_option maxRecDepth 100000
variable {X : Rel3}
theorem rdLS_le {b : List Int} {n : Int} (hl : b.length ≤ 1000000000000) : ∀ (d k : Nat) {at_ : Int} {bad : Bool}, at_ ≤ 9223372036854775807 → (rdLS b n d k at_ bad).2.1 ≤ 9223372036854775807
  | 0, k, at_, bad, ha => ha
  | d + 1, k, at_, bad, ha => by
    rw [rdLS]
    split
    · exact rdLS_le hl d (k + 1) (nxt_le hl ha)
    · exact ha
theorem rdIns_le {b : List Int} {at_ : Int} {bad : Bool} (hl : b.length ≤ 1000000000000) (ha : at_ ≤ 9223372036854775807) : (rdIns b at_ bad).2.1 ≤ 9223372036854775807 := by
  simp only [rdIns]
  exact rdLS_le hl _ _ (nxt_le hl (nxt_le hl (nxt_le hl (nxt_le hl (nxt_le hl (nxt_le hl (nxt_le hl ha)))))))
theorem rdIns_e {b : List Int} {at_ : Int} {bad : Bool} {o : Ins} {a1 : Int} {b1 : Bool} (h : rdIns b at_ bad = (o, a1, b1)) (hl : b.length ≤ 1000000000000) (ha : at_ ≤ 9223372036854775807) : a1 ≤ 9223372036854775807 := by
  have := rdIns_le (bad := bad) hl ha
  rw [h] at this; exact this
theorem Ins_e {b : List Int} {at_ : Int} {bad : Bool} {o : Ins} {a1 : Int} {b1 : Bool} (h : rdIns b at_ bad = (o, a1, b1)) (hl : b.length ≤ 1000000000000) (hb : ∀ c ∈ b, 0 ≤ c ∧ c < 256) (ha : at_ ≤ 9223372036854775807) : Tells Try.prog E0 X 69 [rdA b at_ bad] (.io [.ag ((o.c true).map .t), rdA b a1 b1]) := by
  have := InsR_t (X := X) b at_ bad hl hb ha
  rw [h] at this; exact this
/-- the instructions read: so many at most -/
def rdLI (b : List Int) (n : Int) : Nat → Nat → Int → Bool → List Ins × Int × Bool
  | 0, _, at_, bad => ([], at_, bad)
  | d + 1, k, at_, bad => if decide ((k : Int) < n) = true ∧ bad = false then ((rdIns b at_ bad).1 :: (rdLI b n d (k + 1) (rdIns b at_ bad).2.1 (rdIns b at_ bad).2.2).1, (rdLI b n d (k + 1) (rdIns b at_ bad).2.1 (rdIns b at_ bad).2.2).2) else ([], at_, bad)
theorem rdLI_go {b : List Int} {n : Int} {k : Nat} {at_ : Int} {bad : Bool} {v : Ins} {a1 : Int} {b1 : Bool} (hk : k < 601) (hn : (k : Int) < n) (hb : bad = false) (h : rdIns b at_ bad = (v, a1, b1)) :
    rdLI b n (601 - k) k at_ bad = (v :: (rdLI b n (601 - (k + 1)) (k + 1) a1 b1).1, (rdLI b n (601 - (k + 1)) (k + 1) a1 b1).2) := by
  rw [show 601 - k = (601 - (k + 1)) + 1 by omega, rdLI, if_pos ⟨decide_eq_true hn, hb⟩, h]
theorem rdLI_stop {b : List Int} {n : Int} {k : Nat} {at_ : Int} {bad : Bool} (hk : k ≤ 601) (h : ¬ ((k : Int) < n ∧ (k : Int) < 601 ∧ bad = false)) : rdLI b n (601 - k) k at_ bad = ([], at_, bad) := by
  rcases Nat.lt_or_ge k 601 with h1 | h1
  · rw [show 601 - k = (601 - (k + 1)) + 1 by omega, rdLI, if_neg (fun hh => h ⟨of_decide_eq_true hh.1, by omega, hh.2⟩)]
  · rw [show 601 - k = 0 by omega, rdLI]
def rdPc (b : List Int) (at_ : Int) (bad : Bool) : Piece × Int × Bool :=
  let o := nxt b at_ bad
  let d := nxt b o.2.1 o.2.2
  let x := nxt b d.2.1 d.2.2
  let m := nxt b x.2.1 x.2.2
  let l := rdLI b m.1 601 0 m.2.1 m.2.2
  (⟨o.1, d.1, x.1, l.1⟩, l.2)
def k_l16GetPiece : List (Nat × List Nat) := [(0, [0, 2]), (1, [0, 2, 3]), (2, [0, 2, 3]), (3, [0, 2, 3]), (4, [0, 2, 3]), (5, [0, 2, 3, 4]), (6, [0, 2, 3, 4, 5]), (7, [0, 2, 3, 4, 5, 31]), (8, [0, 2, 3, 4, 5]), (9, [0, 2, 3, 4, 5]), (10, [2])]
theorem GetPiece_t (b : List Int) (at_ : Int) (bad : Bool) (hl : b.length ≤ 1000000000000) (hb : ∀ c ∈ b, 0 ≤ c ∧ c < 256) (ha : at_ ≤ 9223372036854775807) : Tells Try.prog E0 X 44 [rdA b at_ bad] (.io [(rdPc b at_ bad).1.a true, rdA b (rdPc b at_ bad).2.1 (rdPc b at_ bad).2.2]) := by
  rcases h1 : nxt b at_ bad with ⟨o1, a1, b1⟩
  have ha1 := nxt_e h1 hl ha
  rcases h2 : nxt b a1 b1 with ⟨o2, a2, b2⟩
  have ha2 := nxt_e h2 hl ha1
  rcases h3 : nxt b a2 b2 with ⟨o3, a3, b3⟩
  have ha3 := nxt_e h3 hl ha2
  rcases h4 : nxt b a3 b3 with ⟨o4, a4, b4⟩
  have ha4 := nxt_e h4 hl ha3
  have hI : rdPc b at_ bad = (⟨o1, o2, o3, (rdLI b o4 601 0 a4 b4).1⟩, (rdLI b o4 601 0 a4 b4).2) := by simp only [rdPc, h1, h2, h3, h4]
  rw [hI]
  clear hI
  refine Tells.by Try.func44 (by simp [Try.f44]) (Body.i rfl rfl rfl (fun _ => rfl) fun f => ?_)
  repeat' (first
     | refine wp_seq_i ?_ | refine wp_region_t k_l16GetPiece rfl ?_ | refine Run.done rfl ?_ | refine then_n ?_ | refine then_r ?_ | refine then_e ?_ | refine Run.go1 rfl ?_ | refine wp_skip_i ?_ | refine wp_ret_i ?_
     | refine wp_exit_i ?_ | refine wp_block_i ?_ | refine block_n ?_ | refine block_r ?_ | refine block_e ?_ | refine block_o rfl ?_ | refine wp_cond_t rfl ?_ | refine wp_cond_f rfl ?_
     | refine Run.call rfl rfl rfl (Next_e h1 hl hb ha) rfl rfl ?_ | refine Run.call rfl rfl rfl (Next_e h2 hl hb ha1) rfl rfl ?_ | refine Run.call rfl rfl rfl (Next_e h3 hl hb ha2) rfl rfl ?_
     | refine Run.call rfl rfl rfl (Next_e h4 hl hb ha3) rfl rfl ?_ | (refine wp_cond_k rfl rfl rfl ?_ ?_ <;> intro _) | (refine wp_cond_i rfl ?_ ?_ <;> intro _))
  refine wp_loop_k (α := Nat × List Ins × Int × Bool) [.nilH 3 3 77, .keep [0, 2, 3, 4, 5] [2, 3, 100000, 77]] (fun z => [(5, iA z.1)]) (fun z => [(100000, [.t (.sl false (b.map uR)), iA z.2.2.1, bA z.2.2.2])]) (fun z => [(77, 0, z.2.1.map (Ins.c true))]) (fun z => (z.1 ≤ 601 ∧ z.2.1.length = z.1 ∧ z.2.2.1 ≤ 9223372036854775807) ∧ rdLI b o4 601 0 a4 b4 = (z.2.1 ++ (rdLI b o4 (601 - z.1) z.1 z.2.2.1 z.2.2.2).1, (rdLI b o4 (601 - z.1) z.1 z.2.2.1 z.2.2.2).2)) (fun z => 601 - z.1) (0, [], a4, b4) rfl (fun _ => rfl) rfl ⟨⟨by simp, rfl, ha4⟩, rfl⟩ ?_
  rintro ⟨k, acc, a, bd⟩ ⟨⟨hk, hacc, haa⟩, hr⟩
  simp only at hk hacc haa hr
  rcases h8 : rdIns b a bd with ⟨v, a', b'⟩
  have ha8 := rdIns_e h8 hl haa
  have hgo := @rdLI_go b o4 k a bd v a' b'
  have hstop := @rdLI_stop b o4 k a bd hk
  repeat' (first
     | refine wp_seq_i ?_ | refine wp_region_t k_l16GetPiece rfl ?_ | refine Run.done rfl ?_ | refine then_n ?_ | refine then_r ?_ | refine then_e ?_ | refine Run.go1 rfl ?_ | refine wp_skip_i ?_ | refine wp_ret_i ?_
     | refine wp_exit_i ?_ | refine wp_block_i ?_ | refine block_n ?_ | refine block_r ?_ | refine block_e ?_ | refine block_o rfl ?_ | refine wp_cond_t rfl ?_ | refine wp_cond_f rfl ?_ | refine RunQ.go1 rfl ?_
     | refine RunQ.done rfl ?_ | refine Run.gT rfl rfl rfl rfl ?_ | refine Run.pT rfl rfl ?_ | (refine Run.splitG rfl rfl rfl rfl rfl rfl ?_ ?_ <;> intro _) | (refine Run.splitP rfl rfl rfl rfl ?_ ?_ <;> intro _)
     | refine RunQ.gT rfl rfl rfl rfl ?_ | refine RunQ.pT rfl rfl ?_ | (refine RunQ.splitG rfl rfl rfl rfl rfl rfl ?_ ?_ <;> intro _) | (refine RunQ.splitP rfl rfl rfl rfl ?_ ?_ <;> intro _)
     | refine wp_region_l k_l16GetPiece [0, 1, 2] [3, 4] [0, 1, 0, 4, 12, 31, 63, 127] rfl (by decide +kernel) (by decide +kernel) rfl rfl ?_ | refine RunL.call rfl rfl rfl rfl (Ins_e h8 hl hb haa) (.inl rfl) rfl rfl ?_
     | refine RunL.one rfl rfl rfl rfl rfl ?_ | refine RunL.done ?_ | refine Run.cnd rfl rfl rfl ⟨by simp; omega, (by intro r hr; obtain ⟨a, _, rfl⟩ := List.mem_map.1 hr; rfl), by simp, .inl rfl, by trivial⟩ ?_
     | (refine wp_cond_k rfl rfl rfl ?_ ?_ <;> intro _) | (refine wp_cond_i rfl ?_ ?_ <;> intro _))
  · rename_i c1 c2 c3
    have c1 : (k : Int) < o4 := of_decide_eq_true c1
    have c2 : (k : Int) < 601 := of_decide_eq_true c2
    have hk1 : k < 601 := by omega
    have c3 : bd = false := by simpa using c3
    have hg := hgo hk1 c1 c3 h8
    refine back_i [.keep [0, 2, 3, 4, 5] [2, 3, 100000, 39], .ren 39 77] (k + 1, acc ++ [v], a', b') rfl ?_ ⟨⟨by simp; omega, by simp [hacc], ha8⟩, ?_⟩ (by simp; omega)
    · simp only [w_succ hk1 (by omega), List.map_append, List.map_cons, List.map_nil]; first | done | rfl
    · rw [hr, hg]; simp
  all_goals (
    have hs := hstop (by
      rintro ⟨q1, q2, q3⟩
      first
      | (rename_i c; have c := of_decide_eq_false c; simp only at c; omega)
      | (rename_i c; rw [q3] at c; simp at c))
    rw [hs] at hr
    refine ret_o [true] [] rfl rfl rfl (by simp) ?_
    rw [hr]
    simp)
end Go.Proofs

set_option linter.unusedVariables false
set_option linter.unusedSimpArgs false
set_option maxHeartbeats 4000000
namespace Go.Proofs
open Go Go.Ev
set_option maxRecDepth 100000
variable {X : Rel3}
theorem mny_rng {b : List Int} {at_ : Int} {bad : Bool} {o a1 : Int} {b1 : Bool} (h : mny b at_ bad = (o, a1, b1)) : 0 ≤ o ∧ o ≤ b.length := by
  unfold mny at h
  split at h
  · rename_i hr; rw [h] at hr; exact rng_iff.1 hr
  · cases h; omega
def imLS (b : List Int) : Nat → Int → Bool → List Int × Int × Bool
  | 0, at_, bad => ([], at_, bad)
  | n + 1, at_, bad => if bad = false then ((nxt b at_ bad).1 :: (imLS b n (nxt b at_ bad).2.1 (nxt b at_ bad).2.2).1, (imLS b n (nxt b at_ bad).2.1 (nxt b at_ bad).2.2).2) else ([], at_, bad)
theorem imLS_go {b : List Int} {k : Nat} {at_ : Int} {bad : Bool} {v a1 : Int} {b1 : Bool} (hb : bad = false) (h : nxt b at_ bad = (v, a1, b1)) : imLS b (k + 1) at_ bad = (v :: (imLS b k a1 b1).1, (imLS b k a1 b1).2) := by rw [imLS, if_pos hb, h]
theorem imLS_stop {b : List Int} {k : Nat} {at_ : Int} {bad : Bool} (h : k = 0 ∨ bad = true) : imLS b k at_ bad = ([], at_, bad) := by
  cases k with
  | zero => rfl
  | succ k => rw [imLS, if_neg (by rcases h with h | h <;> simp_all)]
def imIns (b : List Int) (at_ : Int) (bad : Bool) : Ins × Int × Bool :=
  let o := nxt b at_ bad
  let d := nxt b o.2.1 o.2.2
  let x := nxt b d.2.1 d.2.2
  let y := nxt b x.2.1 x.2.2
  let n := nxt b y.2.1 y.2.2
  let t := nxt b n.2.1 n.2.2
  let m := mny b t.2.1 t.2.2
  let l := imLS b m.1.toNat m.2.1 m.2.2
  (⟨o.1, d.1, x.1, y.1, n.1, l.1, t.1⟩, l.2)
def imLI (b : List Int) : Nat → Int → Bool → List Ins × Int × Bool
  | 0, at_, bad => ([], at_, bad)
  | n + 1, at_, bad => if bad = false then ((imIns b at_ bad).1 :: (imLI b n (imIns b at_ bad).2.1 (imIns b at_ bad).2.2).1, (imLI b n (imIns b at_ bad).2.1 (imIns b at_ bad).2.2).2) else ([], at_, bad)
theorem imLI_go {b : List Int} {k : Nat} {at_ : Int} {bad : Bool} {v : Ins} {a1 : Int} {b1 : Bool} (hb : bad = false) (h : imIns b at_ bad = (v, a1, b1)) : imLI b (k + 1) at_ bad = (v :: (imLI b k a1 b1).1, (imLI b k a1 b1).2) := by rw [imLI, if_pos hb, h]
theorem imLI_stop {b : List Int} {k : Nat} {at_ : Int} {bad : Bool} (h : k = 0 ∨ bad = true) : imLI b k at_ bad = ([], at_, bad) := by
  cases k with
  | zero => rfl
  | succ k => rw [imLI, if_neg (by rcases h with h | h <;> simp_all)]
def imPc (b : List Int) (at_ : Int) (bad : Bool) : Piece × Int × Bool :=
  let o := nxt b at_ bad
  let d := nxt b o.2.1 o.2.2
  let x := nxt b d.2.1 d.2.2
  let m := mny b x.2.1 x.2.2
  let l := imLI b m.1.toNat m.2.1 m.2.2
  (⟨o.1, d.1, x.1, l.1⟩, l.2)
theorem w_pred1 {k : Nat} (h : k < 9223372036854775807) : IntKind.i64.wrap (((k + 1 : Nat) : Int) - 1) = (k : Int) := by rw [w64] <;> omega
def k_getPiece : List (Nat × List Nat) := [(0, [0, 2]), (1, [0, 2, 3]), (2, [0, 2, 3]), (3, [0, 2, 3]), (4, [0, 2, 3, 4]), (5, [0, 2, 3, 4, 26]), (6, [0, 2, 3, 4]), (7, [0, 2, 3, 4, 5]), (8, [0, 2, 3, 4, 5]), (9, [0, 2, 3, 4, 5]), (10, [0, 2, 3, 4, 5]), (11, [0, 2, 3, 4, 5]), (12, [0, 2, 3, 4, 5]), (13, [0, 2, 3, 4, 5, 6]), (14, [0, 2, 3, 4, 5, 6, 57]), (15, [0, 2, 3, 4, 5, 6]), (16, [0, 2, 3, 4, 5, 6]), (17, [0, 2, 3, 4]), (18, [2])]
theorem piece_t (b : List Int) (at_ : Int) (bad : Bool) (hl : b.length ≤ 1000000000) (hb : ∀ c ∈ b, 0 ≤ c ∧ c < 256) (ha : at_ ≤ 9223372036854775807) : Tells Try.prog E0 X 48 [rdA b at_ bad] (.io [(imPc b at_ bad).1.a true, rdA b (imPc b at_ bad).2.1 (imPc b at_ bad).2.2]) := by
  have hl2 : b.length ≤ 1000000000000 := by omega
  rcases h1 : nxt b at_ bad with ⟨o1, a1, b1⟩
  have ha1 := nxt_e h1 hl2 ha
  rcases h2 : nxt b a1 b1 with ⟨o2, a2, b2⟩
  have ha2 := nxt_e h2 hl2 ha1
  rcases h3 : nxt b a2 b2 with ⟨o3, a3, b3⟩
  have ha3 := nxt_e h3 hl2 ha2
  rcases h4 : mny b a3 b3 with ⟨o4, a4, b4⟩
  have ha4 := mny_e h4 hl2 ha3
  have hm := mny_rng h4
  obtain ⟨m, rfl⟩ := Int.eq_ofNat_of_zero_le hm.1
  have hI : imPc b at_ bad = (⟨o1, o2, o3, (imLI b m a4 b4).1⟩, (imLI b m a4 b4).2) := by simp only [imPc, h1, h2, h3, h4, Int.toNat_natCast]
  rw [hI]
  clear hI
  refine Tells.by Try.func48 (by simp [Try.f48]) (Body.i rfl rfl rfl (fun _ => rfl) fun f => ?_)
  repeat' (first
     | refine wp_seq_i ?_ | refine wp_region_t k_getPiece rfl ?_ | refine Run.done rfl ?_ | refine then_n ?_ | refine then_r ?_ | refine then_e ?_ | refine Run.go1 rfl ?_ | refine wp_skip_i ?_ | refine wp_ret_i ?_
     | refine wp_exit_i ?_ | refine wp_block_i ?_ | refine block_n ?_ | refine block_r ?_ | refine block_e ?_ | refine block_o rfl ?_ | refine wp_cond_t rfl ?_ | refine wp_cond_f rfl ?_
     | refine Run.call rfl rfl rfl (one_e h1 hl2 hb ha) rfl rfl ?_ | refine Run.call rfl rfl rfl (one_e h2 hl2 hb ha1) rfl rfl ?_ | refine Run.call rfl rfl rfl (one_e h3 hl2 hb ha2) rfl rfl ?_
     | refine Run.call rfl rfl rfl (many_e h4 hl2 hb ha3) rfl rfl ?_ | (refine wp_cond_k rfl rfl rfl ?_ ?_ <;> intro _) | (refine wp_cond_i rfl ?_ ?_ <;> intro _))
  refine wp_loop_k (α := Nat × List Ins × Int × Bool) [.nilH 3 3 77, .keep [0, 2, 3, 4] [2, 3, 100000, 77]] (fun z => [(4, iA z.1)]) (fun z => [(100000, [.t (.sl false (b.map uR)), iA z.2.2.1, bA z.2.2.2])]) (fun z => [(77, 0, z.2.1.map (Ins.c true))]) (fun z => (z.2.1.length + z.1 ≤ b.length ∧ z.2.2.1 ≤ 9223372036854775807) ∧ imLI b m a4 b4 = (z.2.1 ++ (imLI b z.1 z.2.2.1 z.2.2.2).1, (imLI b z.1 z.2.2.1 z.2.2.2).2)) (fun z => z.1) (m, [], a4, b4) rfl (fun _ => rfl) rfl ⟨⟨by simp; omega, ha4⟩, rfl⟩ ?_
  rintro ⟨n, acc, a, bd⟩ ⟨⟨hn, haa⟩, hr⟩
  simp only at hn haa hr
  rcases g1 : nxt b a bd with ⟨p1, e1, f1⟩
  have he1 := nxt_e g1 hl2 haa
  rcases g2 : nxt b e1 f1 with ⟨p2, e2, f2⟩
  have he2 := nxt_e g2 hl2 he1
  rcases g3 : nxt b e2 f2 with ⟨p3, e3, f3⟩
  have he3 := nxt_e g3 hl2 he2
  rcases g4 : nxt b e3 f3 with ⟨p4, e4, f4⟩
  have he4 := nxt_e g4 hl2 he3
  rcases g5 : nxt b e4 f4 with ⟨p5, e5, f5⟩
  have he5 := nxt_e g5 hl2 he4
  rcases g6 : nxt b e5 f5 with ⟨p6, e6, f6⟩
  have he6 := nxt_e g6 hl2 he5
  rcases g7 : mny b e6 f6 with ⟨p7, e7, f7⟩
  have he7 := mny_e g7 hl2 he6
  have hq := mny_rng g7
  obtain ⟨q, rfl⟩ := Int.eq_ofNat_of_zero_le hq.1
  have hX : imIns b a bd = (⟨p1, p2, p3, p4, p5, (imLS b q e7 f7).1, p6⟩, (imLS b q e7 f7).2) := by simp only [imIns, g1, g2, g3, g4, g5, g6, g7, Int.toNat_natCast]
  repeat' (first
     | refine wp_seq_i ?_ | refine wp_region_t k_getPiece rfl ?_ | refine Run.done rfl ?_ | refine then_n ?_ | refine then_r ?_ | refine then_e ?_ | refine Run.go1 rfl ?_ | refine wp_skip_i ?_ | refine wp_ret_i ?_
     | refine wp_exit_i ?_ | refine wp_block_i ?_ | refine block_n ?_ | refine block_r ?_ | refine block_e ?_ | refine block_o rfl ?_ | refine wp_cond_t rfl ?_ | refine wp_cond_f rfl ?_ | refine Run.gT rfl rfl rfl rfl ?_
     | refine Run.pT rfl rfl ?_ | (refine Run.splitG rfl rfl rfl rfl rfl rfl ?_ ?_ <;> intro _) | (refine Run.splitP rfl rfl rfl rfl ?_ ?_ <;> intro _) | refine Run.call rfl rfl rfl (one_e g1 hl2 hb haa) rfl rfl ?_
     | refine Run.call rfl rfl rfl (one_e g2 hl2 hb he1) rfl rfl ?_ | refine Run.call rfl rfl rfl (one_e g3 hl2 hb he2) rfl rfl ?_ | refine Run.call rfl rfl rfl (one_e g4 hl2 hb he3) rfl rfl ?_
     | refine Run.call rfl rfl rfl (one_e g5 hl2 hb he4) rfl rfl ?_ | refine Run.call rfl rfl rfl (one_e g6 hl2 hb he5) rfl rfl ?_ | refine Run.call rfl rfl rfl (many_e g7 hl2 hb he6) rfl rfl ?_
     | (refine wp_cond_k rfl rfl rfl ?_ ?_ <;> intro _) | (refine wp_cond_i rfl ?_ ?_ <;> intro _))
  rotate_left 1
  any_goals (
    have hs : imLI b n a bd = ([], a, bd) := imLI_stop (by
      first
      | (rename_i c; have c := of_decide_eq_false c; simp only at c; left; omega)
      | (rename_i c; right; simpa using c))
    rw [hs] at hr
    refine ret_o [true] [] rfl rfl rfl (by simp) ?_
    rw [hr]
    simp; done)
  rename_i c1 c2
  have c1 : (n : Int) > 0 := of_decide_eq_true c1
  have c3 : bd = false := by simpa using c2
  obtain ⟨n', rfl⟩ : ∃ n', n = n' + 1 := ⟨n - 1, by omega⟩
  refine wp_loop_k (α := Nat × List Int × Int × Bool) [.nilH 5 5 78, .keep [0, 2, 3, 4, 5, 6] [2, 3, 5, 100000, 77, 78]] (fun z => [(6, iA z.1)]) (fun z => [(100000, [.t (.sl false (b.map uR)), iA z.2.2.1, bA z.2.2.2])]) (fun z => [(78, 0, z.2.1.map iR)]) (fun z => (z.2.1.length + z.1 ≤ b.length ∧ z.2.2.1 ≤ 9223372036854775807) ∧ imLS b q e7 f7 = (z.2.1 ++ (imLS b z.1 z.2.2.1 z.2.2.2).1, (imLS b z.1 z.2.2.1 z.2.2.2).2)) (fun z => z.1) (q, [], e7, f7) rfl (fun _ => rfl) rfl ⟨⟨by simp; omega, he7⟩, rfl⟩ ?_
  rintro ⟨k, l, a', bd'⟩ ⟨⟨hk, haa'⟩, hr'⟩
  simp only at hk haa' hr'
  rcases h8 : nxt b a' bd' with ⟨v, a8, b8⟩
  have ha8 := nxt_e h8 hl2 haa'
  repeat' (first
     | refine wp_seq_i ?_ | refine wp_region_t k_getPiece rfl ?_ | refine Run.done rfl ?_ | refine then_n ?_ | refine then_r ?_ | refine then_e ?_ | refine Run.go1 rfl ?_ | refine wp_skip_i ?_ | refine wp_ret_i ?_
     | refine wp_exit_i ?_ | refine wp_block_i ?_ | refine block_n ?_ | refine block_r ?_ | refine block_e ?_ | refine block_o rfl ?_ | refine wp_cond_t rfl ?_ | refine wp_cond_f rfl ?_ | refine RunQ.go1 rfl ?_
     | refine RunQ.done rfl ?_ | refine Run.gT rfl rfl rfl rfl ?_ | refine Run.pT rfl rfl ?_ | (refine Run.splitG rfl rfl rfl rfl rfl rfl ?_ ?_ <;> intro _) | (refine Run.splitP rfl rfl rfl rfl ?_ ?_ <;> intro _)
     | refine RunQ.gT rfl rfl rfl rfl ?_ | refine RunQ.pT rfl rfl ?_ | (refine RunQ.splitG rfl rfl rfl rfl rfl rfl ?_ ?_ <;> intro _) | (refine RunQ.splitP rfl rfl rfl rfl ?_ ?_ <;> intro _)
     | refine wp_region_l k_getPiece [0, 1, 2] [3, 4] [0, 1, 0, 4, 12, 31, 63, 127] rfl (by decide +kernel) (by decide +kernel) rfl rfl ?_ | refine RunL.call rfl rfl rfl rfl (one_e h8 hl2 hb haa') (.inl rfl) rfl rfl ?_
     | refine RunL.one rfl rfl rfl rfl rfl ?_ | refine RunL.done ?_
     | refine Run.cnd rfl rfl rfl ⟨by simp; omega, (by intro r hr; obtain ⟨a, _, rfl⟩ := List.mem_map.1 hr; rfl), by simp, .inl rfl, by first | trivial | (simp [flatT]; done)⟩ ?_ | refine Run.one rfl rfl rfl ?_
     | (refine wp_cond_k rfl rfl rfl ?_ ?_ <;> intro _) | (refine wp_cond_i rfl ?_ ?_ <;> intro _))
  · rename_i d1 d2
    have d1 : (k : Int) > 0 := of_decide_eq_true d1
    have d3 : bd' = false := by simpa using d2
    obtain ⟨k', rfl⟩ : ∃ k', k = k' + 1 := ⟨k - 1, by omega⟩
    have hg := @imLS_go b k' a' bd' v a8 b8 d3 h8
    refine back_i [.keep [0, 2, 3, 4, 5, 6] [2, 3, 5, 100000, 77, 65], .ren 65 78] (k', l ++ [v], a8, b8) rfl ?_ ⟨⟨by simp; omega, ha8⟩, ?_⟩ (by simp)
    · simp only [w_pred1 (k := k') (by omega), List.map_append, List.map_cons, List.map_nil]; first | done | rfl
    · rw [hr', hg]; simp
  all_goals (
    have hs : imLS b k a' bd' = ([], a', bd') := imLS_stop (by
      first
      | (rename_i c; have c := of_decide_eq_false c; simp only at c; left; omega)
      | (rename_i c; right; simpa using c))
    rw [hs, List.append_nil] at hr'
    rw [hr'] at hX
    have hg := @imLI_go b n' a bd _ a' bd' c3 hX
    refine back_i [.keep [0, 2, 3, 4] [2, 3, 100000, 71], .ren 71 77] (n', acc ++ [⟨p1, p2, p3, p4, p5, l, p6⟩], a', bd') rfl ?_ ⟨⟨by simp; omega, haa'⟩, ?_⟩ (by simp)
    · simp only [w_pred1 (k := n') (by omega), List.map_append, List.map_cons, List.map_nil]; first | done | rfl
    · rw [hr, hg]; simp)
end Go.Proofs

set_option linter.unusedVariables false
set_option linter.unusedSimpArgs false
set_option maxHeartbeats 4000000
namespace Go.Proofs
open Go Go.Ev
set_option maxRecDepth 100000
variable {X : Rel3}
theorem PutNumI_t (b : List Int) (n : Int) (hb : b.length ≤ 1000000000000) : Tells Try.prog E0 X 67 [.t (.sl false (b.map uR)), iA n] (.t (.sl true ((b ++ encN n).map uR))) := by
  refine Tells.by Try.func67 (by simp [Try.f67]) (Body.i rfl rfl rfl (fun _ => rfl) fun f => ?_)
  repeat' (first
     | refine wp_seq_i ?_ | refine wp_region_i ?_ | refine Run.done rfl ?_ | refine then_n ?_ | refine then_r ?_ | refine then_e ?_ | refine Run.go1 rfl ?_ | refine wp_skip_i ?_ | refine wp_ret_i ?_ | refine wp_exit_i ?_
     | refine wp_block_i ?_ | refine block_n ?_ | refine block_r ?_ | refine block_e ?_ | refine block_o rfl ?_ | refine wp_cond_t rfl ?_ | refine wp_cond_f rfl ?_
     | refine Run.cnd rfl rfl rfl ⟨by simp; omega, by simp, by simp, .inl rfl, by simp [flatT]⟩ ?_ | refine Run.callB rfl rfl rfl (cloneB_t _ hb) (own_B _) rfl ?_ | (refine wp_cond_k rfl rfl rfl ?_ ?_ <;> intro _)
     | (refine wp_cond_i rfl ?_ ?_ <;> intro _))
  all_goals (
    have hM := encM_lt n
    refine wp_loop_k (α := Int × List Int × Nat) [.keep [5, 6] [8]] (fun p => [(6, iA p.1)]) (fun _ => []) (fun p => [(8, 0, p.2.1.map uR)]) (fun p => (0 ≤ p.1 ∧ p.1 < 128 ^ (p.2.2 + 1)) ∧ p.2.1.length + p.2.2 = b.length + 4 ∧ p.2.1 ++ putL p.2.2 p.1 = b ++ encN n) (fun p => p.2.2) (encM n, b, 4) rfl (fun _ => rfl) ?_ ⟨by simpa using hM, by simp, rfl⟩ ?_
    · simp only [List.nil_append, St.mk.injEq, List.cons.injEq, Prod.mk.injEq, AV.t.injEq, T.sc.injEq, Value.int.injEq, true_and, and_true]
      clear hM
      try refine ⟨?_, rfl⟩
      simp only [decide_eq_true_eq, decide_eq_false_iff_not] at *
      unfold encM clampN
      repeat' split
      all_goals first
      | (exfalso; omega)
      | (simp [IntKind.wrap, IntKind.bits, IntKind.signed]; done)
      | (simp [IntKind.wrap, IntKind.bits, IntKind.signed]; omega)
    rintro ⟨k, c, j⟩ ⟨⟨h1, h2⟩, h3, h4⟩
    simp only at h1 h2 h3 h4
    repeat' (first
       | refine wp_seq_i ?_ | refine wp_region_i ?_ | refine Run.done rfl ?_ | refine then_n ?_ | refine then_r ?_ | refine then_e ?_ | refine Run.go1 rfl ?_ | refine wp_skip_i ?_ | refine wp_ret_i ?_ | refine wp_exit_i ?_
       | refine wp_block_i ?_ | refine block_n ?_ | refine block_r ?_ | refine block_e ?_ | refine block_o rfl ?_ | refine wp_cond_t rfl ?_ | refine wp_cond_f rfl ?_
       | refine Run.cnd rfl rfl rfl ⟨by simp; omega, by simp, by simp, .inl rfl, by simp [flatT]⟩ ?_ | (refine wp_cond_k rfl rfl rfl ?_ ?_ <;> intro _) | (refine wp_cond_i rfl ?_ ?_ <;> intro _))
    · rename_i h
      have hk : k > 127 := by simpa using h
      clear h
      obtain ⟨j', rfl⟩ : ∃ j', j = j' + 1 := by
        cases j with
        | zero => simp at h2; omega
        | succ j => exact ⟨j, rfl⟩
      refine back_i [.keep [5, 6] [27], .ren 27 8] (nextB k, c ++ [lowB k], j') rfl ?_ ⟨⟨?_, ?_⟩, ?_, ?_⟩ (by simp)
      · simp only [List.map_append, List.map_cons, List.map_nil]; rfl
      · rw [nextB_eq h1]; omega
      · rw [nextB_eq h1]
        simp only [Int.pow_succ] at h2 ⊢
        omega
      · simp; omega
      · rw [putL, if_pos hk] at h4; simpa using h4
    · rename_i h
      have h : ¬ k > 127 := by simpa using h
      refine ret_m [] rfl rfl ?_
      rw [← h4, putL_end h]; simp)
end Go.Proofs

set_option linter.unusedVariables false
set_option linter.unusedSimpArgs false
set_option maxHeartbeats 4000000
namespace Go.Proofs
open Go Go.Ev
set_option maxRecDepth 100000
variable {X : Rel3}
def encL (l : List Int) : List Int := l.flatMap encN
theorem encL_len (l : List Int) : (encL l).length ≤ 5 * l.length := by
  induction l with
  | nil => simp [encL]
  | cons x r ih =>
    have := encN_len x
    simp only [encL, List.flatMap_cons, List.length_append, List.length_cons] at ih ⊢
    omega
theorem encL_step {l : List Int} {k : Nat} (h : k < l.length) : encL (l.drop k) = encN l[k] ++ encL (l.drop (k + 1)) := by
  rw [List.drop_eq_getElem_cons h, encL, List.flatMap_cons]; rfl
theorem shr_U (l : List Int) : shrR (l.map uR) = l.map uR := by
  induction l with
  | nil => rfl
  | cons x r ih => simp [shrR, shrL, T.shr, ih]
theorem PutNumS_s (b : List Int) (n : Int) (hb : b.length ≤ 1000000000000) : Tells Try.prog E0 X 33 [.t (.sl false (shrR (b.map uR))), iA n] (.t (.sl true ((b ++ encN n).map uR))) := by rw [shr_U]; exact PutNumS_t b n hb
theorem PutNumI_s (b : List Int) (n : Int) (hb : b.length ≤ 1000000000000) : Tells Try.prog E0 X 67 [.t (.sl false (shrR (b.map uR))), iA n] (.t (.sl true ((b ++ encN n).map uR))) := by rw [shr_U]; exact PutNumI_t b n hb
def k_l16Add : List (Nat × List Nat) := [(0, [0, 1]), (1, [0, 1, 5]), (2, [0, 1, 5, 9]), (3, [0, 1, 5]), (4, [0, 1, 5]), (5, [4])]
theorem l16Add_t (b l : List Int) (hb : b.length + 5 * l.length ≤ 1000000000000) : Tells Try.prog E0 X 65 [.t (.sl true (b.map uR)), .t (.sl false (l.map iR))] (.t (.sl true ((b ++ encL l).map uR))) := by
  refine Tells.by Try.func65 (by simp [Try.f65]) (Body.i rfl rfl rfl (fun _ => rfl) fun f => ?_)
  repeat' (first
     | refine wp_seq_i ?_ | refine wp_region_t k_l16Add rfl ?_ | refine Run.done rfl ?_ | refine then_n ?_ | refine then_r ?_ | refine then_e ?_ | refine Run.go1 rfl ?_ | refine wp_skip_i ?_ | refine wp_ret_i ?_
     | refine wp_exit_i ?_ | refine wp_block_i ?_ | refine block_n ?_ | refine block_r ?_ | refine block_e ?_ | refine block_o rfl ?_ | refine wp_cond_t rfl ?_ | refine wp_cond_f rfl ?_
     | (refine wp_cond_k rfl rfl rfl ?_ ?_ <;> intro _) | (refine wp_cond_i rfl ?_ ?_ <;> intro _))
  refine wp_loop_k (α := Nat × List Int × Option Value) [.keep [0, 1, 5] [100000]] (fun p => [(5, iA p.1)]) (fun _ => []) (fun p => [(100000, ⟨0, p.2.2⟩, p.2.1.map uR)]) (fun p => p.1 ≤ l.length ∧ p.2.1.length + 5 * (l.length - p.1) ≤ 1000000000000 ∧ p.2.1 ++ encL (l.drop p.1) = b ++ encL l) (fun p => l.length - p.1) (0, b, some (f 100000)) rfl (fun _ => rfl) rfl ⟨by simp, by simpa using hb, by simp⟩ ?_
  rintro ⟨k, c, w⟩ ⟨hk, h2, h3⟩
  simp only at hk h2 h3
  by_cases hlt : k < l.length
  · have hx : (l.map iR)[k]? = some (iR l[k]) := map_at hlt
    have hlen := encN_len l[k]
    rw [encL_step hlt] at h3
    repeat' (first
       | refine wp_seq_i ?_ | refine wp_region_t k_l16Add rfl ?_ | refine Run.done rfl ?_ | refine then_n ?_ | refine then_r ?_ | refine then_e ?_ | refine Run.go1 rfl ?_ | refine wp_skip_i ?_ | refine wp_ret_i ?_
       | refine wp_exit_i ?_ | refine wp_block_i ?_ | refine block_n ?_ | refine block_r ?_ | refine block_e ?_ | refine block_o rfl ?_ | refine wp_cond_t rfl ?_ | refine wp_cond_f rfl ?_
       | refine Run.ix rfl rfl rfl rfl rfl rfl rfl hx rfl rfl rfl ?_ | refine Run.callB rfl rfl rfl (PutNumS_s c l[k] (by omega)) (own_B _) rfl ?_ | (refine wp_cond_k rfl rfl rfl ?_ ?_ <;> intro _)
       | (refine wp_cond_i rfl ?_ ?_ <;> intro _))
    · refine back_i [.keep [0, 1, 5] [17], .ren 17 100000] (k + 1, c ++ encN l[k], none) rfl ?_ ⟨by simp; omega, by simp; omega, by simpa using h3⟩ (by simp; omega)
      simp only [w_succ hlt (by omega)]; rfl
    · rename_i h; simp [hlt] at h
  · have hk : k = l.length := by omega
    subst hk
    simp [encL] at h3
    repeat' (first
       | refine wp_seq_i ?_ | refine wp_region_t k_l16Add rfl ?_ | refine Run.done rfl ?_ | refine then_n ?_ | refine then_r ?_ | refine then_e ?_ | refine Run.go1 rfl ?_ | refine wp_skip_i ?_ | refine wp_ret_i ?_
       | refine wp_exit_i ?_ | refine wp_block_i ?_ | refine block_n ?_ | refine block_r ?_ | refine block_e ?_ | refine block_o rfl ?_ | refine wp_cond_t rfl ?_ | refine wp_cond_f rfl ?_
       | (refine wp_cond_k rfl rfl rfl ?_ ?_ <;> intro _) | (refine wp_cond_i rfl ?_ ?_ <;> intro _))
    · rename_i h; simp at h
    · refine ret_m [] rfl rfl ?_; rw [h3]; rfl
def k_putAll : List (Nat × List Nat) := [(0, [0, 1]), (1, [0, 7, 8, 9]), (2, [0, 7, 8, 9, 10]), (3, [0, 6, 7, 8, 9]), (4, [0, 7, 8, 9]), (5, [0, 7, 8, 9]), (6, [4])]
theorem putAll_t (b l : List Int) (hb : b.length + 5 * l.length ≤ 1000000000000) : Tells Try.prog E0 X 38 [.t (.sl true (b.map uR)), .t (.sl false (l.map iR))] (.t (.sl true ((b ++ encL l).map uR))) := by
  refine Tells.by Try.func38 (by simp [Try.f38]) (Body.i rfl rfl rfl (fun _ => rfl) fun f => ?_)
  repeat' (first
     | refine wp_seq_i ?_ | refine wp_region_t k_putAll rfl ?_ | refine Run.done rfl ?_ | refine then_n ?_ | refine then_r ?_ | refine then_e ?_ | refine Run.go1 rfl ?_ | refine wp_skip_i ?_ | refine wp_ret_i ?_
     | refine wp_exit_i ?_ | refine wp_block_i ?_ | refine block_n ?_ | refine block_r ?_ | refine block_e ?_ | refine block_o rfl ?_ | refine wp_cond_t rfl ?_ | refine wp_cond_f rfl ?_
     | (refine wp_cond_k rfl rfl rfl ?_ ?_ <;> intro _) | (refine wp_cond_i rfl ?_ ?_ <;> intro _))
  refine wp_loop_k (α := Nat × List Int × Option Value) [.keep [0, 7, 8, 9] [100000]] (fun p => [(9, iA p.1)]) (fun _ => []) (fun p => [(100000, ⟨0, p.2.2⟩, p.2.1.map uR)]) (fun p => p.1 ≤ l.length ∧ p.2.1.length + 5 * (l.length - p.1) ≤ 1000000000000 ∧ p.2.1 ++ encL (l.drop p.1) = b ++ encL l) (fun p => l.length - p.1) (0, b, some (f 100000)) rfl (fun _ => rfl) rfl ⟨by simp, by simpa using hb, by simp⟩ ?_
  rintro ⟨k, c, w⟩ ⟨hk, h2, h3⟩
  simp only at hk h2 h3
  by_cases hlt : k < l.length
  · have hx : (l.map iR)[k]? = some (iR l[k]) := map_at hlt
    have hlen := encN_len l[k]
    rw [encL_step hlt] at h3
    repeat' (first
       | refine wp_seq_i ?_ | refine wp_region_t k_putAll rfl ?_ | refine Run.done rfl ?_ | refine then_n ?_ | refine then_r ?_ | refine then_e ?_ | refine Run.go1 rfl ?_ | refine wp_skip_i ?_ | refine wp_ret_i ?_
       | refine wp_exit_i ?_ | refine wp_block_i ?_ | refine block_n ?_ | refine block_r ?_ | refine block_e ?_ | refine block_o rfl ?_ | refine wp_cond_t rfl ?_ | refine wp_cond_f rfl ?_
       | refine Run.ix rfl rfl rfl rfl rfl rfl rfl hx rfl rfl rfl ?_ | refine Run.callB rfl rfl rfl (PutNumI_s c l[k] (by omega)) (own_B _) rfl ?_ | (refine wp_cond_k rfl rfl rfl ?_ ?_ <;> intro _)
       | (refine wp_cond_i rfl ?_ ?_ <;> intro _))
    · refine back_i [.keep [0, 7, 8, 9] [15], .ren 15 100000] (k + 1, c ++ encN l[k], none) rfl ?_ ⟨by simp; omega, by simp; omega, by simpa using h3⟩ (by simp; omega)
      simp only [w_succ hlt (by omega)]; rfl
    · rename_i h; simp [hlt] at h
  · have hk : k = l.length := by omega
    subst hk
    simp [encL] at h3
    repeat' (first
       | refine wp_seq_i ?_ | refine wp_region_t k_putAll rfl ?_ | refine Run.done rfl ?_ | refine then_n ?_ | refine then_r ?_ | refine then_e ?_ | refine Run.go1 rfl ?_ | refine wp_skip_i ?_ | refine wp_ret_i ?_
       | refine wp_exit_i ?_ | refine wp_block_i ?_ | refine block_n ?_ | refine block_r ?_ | refine block_e ?_ | refine block_o rfl ?_ | refine wp_cond_t rfl ?_ | refine wp_cond_f rfl ?_
       | (refine wp_cond_k rfl rfl rfl ?_ ?_ <;> intro _) | (refine wp_cond_i rfl ?_ ?_ <;> intro _))
    · rename_i h; simp at h
    · refine ret_m [] rfl rfl ?_; rw [h3]; rfl
theorem putAll1_t (b : List Int) (n : Int) (hb : b.length ≤ 1000000000) : Tells Try.prog E0 X 38 [.t (.sl false (b.map uR)), .t (.sl false [[iT n]])] (.t (.sl true ((b ++ encN n).map uR))) := by
  refine Tells.by Try.func38 (by simp [Try.f38]) (Body.i rfl rfl rfl (fun _ => rfl) fun f => ?_)
  repeat' (first
     | refine wp_seq_i ?_ | refine wp_region_t k_putAll rfl ?_ | refine Run.done rfl ?_ | refine then_n ?_ | refine then_r ?_ | refine then_e ?_ | refine Run.go1 rfl ?_ | refine wp_skip_i ?_ | refine wp_ret_i ?_
     | refine wp_exit_i ?_ | refine wp_block_i ?_ | refine block_n ?_ | refine block_r ?_ | refine block_e ?_ | refine block_o rfl ?_ | refine wp_cond_t rfl ?_ | refine wp_cond_f rfl ?_
     | (refine wp_cond_k rfl rfl rfl ?_ ?_ <;> intro _) | (refine wp_cond_i rfl ?_ ?_ <;> intro _))
  refine wp_loop_i (α := Bool) (fun p => match p with
    | false => ⟨[(0, AV.t (.sl false (b.map uR))), (7, AV.t (.sl false [[iT n]])), (8, iA 1), (9, iA 0)], [], [], Try.f38.ntmps⟩
    | true => ⟨[(0, AV.rf 15), (7, AV.t (.sl false [[iT n]])), (8, iA 1), (9, iA 1)], [], [(15, 0, (b ++ encN n).map uR)], Try.f38.ntmps⟩) (fun _ => True) (fun p => match p with
    | false => 1
    | true => 0) false (@AdjW.ofL _ [.keep [0, 7, 8, 9] []] _ _ rfl rfl) trivial ?_
  rintro (_ | _) _
  · have hx : ([[iT n]] : List (List T))[0]? = some [iT n] := rfl
    repeat' (first
       | refine wp_seq_i ?_ | refine wp_region_t k_putAll rfl ?_ | refine Run.done rfl ?_ | refine then_n ?_ | refine then_r ?_ | refine then_e ?_ | refine Run.go1 rfl ?_ | refine wp_skip_i ?_ | refine wp_ret_i ?_
       | refine wp_exit_i ?_ | refine wp_block_i ?_ | refine block_n ?_ | refine block_r ?_ | refine block_e ?_ | refine block_o rfl ?_ | refine wp_cond_t rfl ?_ | refine wp_cond_f rfl ?_
       | refine Run.ix rfl rfl rfl rfl rfl rfl rfl hx rfl rfl rfl ?_ | refine Run.callB rfl rfl rfl (PutNumI_t b n (by omega)) (own_B _) rfl ?_ | (refine wp_cond_k rfl rfl rfl ?_ ?_ <;> intro _)
       | (refine wp_cond_i rfl ?_ ?_ <;> intro _))
    · exact @AdjW.ofL _ [.keep [0, 7, 8, 9] [15]] _ _ rfl ⟨true, rfl, trivial, Nat.zero_lt_one⟩
  · skip
    repeat' (first
       | refine wp_seq_i ?_ | refine wp_region_t k_putAll rfl ?_ | refine Run.done rfl ?_ | refine then_n ?_ | refine then_r ?_ | refine then_e ?_ | refine Run.go1 rfl ?_ | refine wp_skip_i ?_ | refine wp_ret_i ?_
       | refine wp_exit_i ?_ | refine wp_block_i ?_ | refine block_n ?_ | refine block_r ?_ | refine block_e ?_ | refine block_o rfl ?_ | refine wp_cond_t rfl ?_ | refine wp_cond_f rfl ?_
       | (refine wp_cond_k rfl rfl rfl ?_ ?_ <;> intro _) | (refine wp_cond_i rfl ?_ ?_ <;> intro _))
    · refine ret_m [] rfl rfl rfl
end Go.Proofs

set_option linter.unusedVariables false
set_option linter.unusedSimpArgs false
set_option maxHeartbeats 4000000
namespace Go.Proofs
open Go Go.Ev
set_option maxRecDepth 100000
variable {X : Rel3}
theorem shr_I (l : List Int) : shrR (l.map iR) = l.map iR := by
  induction l with
  | nil => rfl
  | cons x r ih => simp [shrR, shrL, T.shr, ih]
theorem shr_Ins (l : List Ins) : shrR (l.map (Ins.c false)) = l.map (Ins.c false) := by
  induction l with
  | nil => rfl
  | cons x r ih => simp [shrR, shrL, T.shr, ih, shr_I]
theorem shr_P (l : List Piece) : shrR (l.map (Piece.c false)) = l.map (Piece.c false) := by
  induction l with
  | nil => rfl
  | cons x r ih => simp [shrR, shrL, T.shr, ih, shr_Ins]
theorem cloneP_t (l : List Piece) (hl : l.length ≤ 1048576) : Tells Try.prog E0 X 39 [.t (.sl false (l.map (Piece.c false)))] (.t (.sl true (l.map (Piece.c false)))) := by
  refine Tells.by Try.func39 (by simp [Try.f39]) (Body.i rfl rfl rfl (fun _ => rfl) fun f => ?_)
  repeat' (first
     | refine wp_seq_i ?_ | refine wp_region_i ?_ | refine Run.done rfl ?_ | refine then_n ?_ | refine then_r ?_ | refine then_e ?_ | refine Run.go1 rfl ?_ | refine wp_skip_i ?_ | refine wp_ret_i ?_ | refine wp_exit_i ?_
     | refine wp_block_i ?_ | refine block_n ?_ | refine block_r ?_ | refine block_e ?_ | refine block_o rfl ?_ | refine wp_cond_t rfl ?_ | refine wp_cond_f rfl ?_
     | refine Run.nilc rfl rfl rfl (fun _ => rfl) (fun _ => ?_) (fun _ _ => ?_) | refine Run.cnd rfl rfl rfl ⟨by simp [shrR_len]; omega, by simp, by simp [shr_P], .inl rfl, by simp [okT, Value.oneCell']⟩ ?_
     | (refine wp_cond_k rfl rfl rfl ?_ ?_ <;> intro _) | (refine wp_cond_i rfl ?_ ?_ <;> intro _))
  all_goals (refine ret_m [] rfl rfl ?_; simp_all [shr_P, shrR])
def hiB (k : Int) : Int := IntKind.u8.wrap (k.fdiv (2 ^ min (Int.toNat 8) IntKind.i64.bits))
def sumBytes (l : List Int) : List Int := [hiB (sumB l 0), IntKind.u8.wrap (sumB l 0)]
def k_codeSum : List (Nat × List Nat) := [(0, [0]), (1, [0, 3]), (2, [3, 6, 7, 8]), (3, [3, 6, 7, 8, 9]), (4, [3, 5, 6, 7, 8]), (5, [3, 6, 7, 8]), (6, [3, 6, 7, 8]), (7, [2])]
theorem codeSum_t (l : List Int) (hl : l.length ≤ 1000000000000) : Tells Try.prog E0 X 40 [.t (.sl false (l.map uR))] (.t (.sl true ((sumBytes l).map uR))) := by
  refine Tells.by Try.func40 (by simp [Try.f40]) (Body.i rfl rfl rfl (fun _ => rfl) fun f => ?_)
  repeat' (first
     | refine wp_seq_i ?_ | refine wp_region_t k_codeSum rfl ?_ | refine Run.done rfl ?_ | refine then_n ?_ | refine then_r ?_ | refine then_e ?_ | refine Run.go1 rfl ?_ | refine wp_skip_i ?_ | refine wp_ret_i ?_
     | refine wp_exit_i ?_ | refine wp_block_i ?_ | refine block_n ?_ | refine block_r ?_ | refine block_e ?_ | refine block_o rfl ?_ | refine wp_cond_t rfl ?_ | refine wp_cond_f rfl ?_
     | (refine wp_cond_k rfl rfl rfl ?_ ?_ <;> intro _) | (refine wp_cond_i rfl ?_ ?_ <;> intro _))
  refine wp_loop_k (α := Nat × Int) [.keep [3, 6, 7, 8] []] (fun p => [(3, iA p.2), (8, iA p.1)]) (fun _ => []) (fun _ => []) (fun p => p.1 ≤ l.length ∧ sumB (l.drop p.1) p.2 = sumB l 0) (fun p => l.length - p.1) (0, 0) rfl (fun _ => rfl) rfl ⟨by simp, by simp⟩ ?_
  rintro ⟨j, c⟩ ⟨hj, hc⟩
  simp only at hj hc
  by_cases hlt : j < l.length
  · have hx : (l.map uR)[j]? = some (uR l[j]) := map_at hlt
    rw [List.drop_eq_getElem_cons hlt, sumB] at hc
    repeat' (first
       | refine wp_seq_i ?_ | refine wp_region_t k_codeSum rfl ?_ | refine Run.done rfl ?_ | refine then_n ?_ | refine then_r ?_ | refine then_e ?_ | refine Run.go1 rfl ?_ | refine wp_skip_i ?_ | refine wp_ret_i ?_
       | refine wp_exit_i ?_ | refine wp_block_i ?_ | refine block_n ?_ | refine block_r ?_ | refine block_e ?_ | refine block_o rfl ?_ | refine wp_cond_t rfl ?_ | refine wp_cond_f rfl ?_
       | refine Run.ix rfl rfl rfl rfl rfl rfl rfl hx rfl rfl rfl ?_ | (refine wp_cond_k rfl rfl rfl ?_ ?_ <;> intro _) | (refine wp_cond_i rfl ?_ ?_ <;> intro _))
    · refine back_i [.keep [3, 6, 7, 8] []] (j + 1, _) rfl ?_ ⟨by simp; omega, hc⟩ (by simp; omega)
      simp only [w_succ hlt (by omega), Int.mul_comm 31]
      rfl
    · rename_i h; simp [hlt] at h
  · have hjl : j = l.length := by omega
    subst hjl
    simp [sumB] at hc
    repeat' (first
       | refine wp_seq_i ?_ | refine wp_region_t k_codeSum rfl ?_ | refine Run.done rfl ?_ | refine then_n ?_ | refine then_r ?_ | refine then_e ?_ | refine Run.go1 rfl ?_ | refine wp_skip_i ?_ | refine wp_ret_i ?_
       | refine wp_exit_i ?_ | refine wp_block_i ?_ | refine block_n ?_ | refine block_r ?_ | refine block_e ?_ | refine block_o rfl ?_ | refine wp_cond_t rfl ?_ | refine wp_cond_f rfl ?_
       | (refine wp_cond_k rfl rfl rfl ?_ ?_ <;> intro _) | (refine wp_cond_i rfl ?_ ?_ <;> intro _))
    · rename_i h; simp at h
    · refine ret_m [] rfl rfl ?_
      rw [sumBytes, ← hc]; rfl
end Go.Proofs

set_option linter.unusedVariables false
set_option linter.unusedSimpArgs false
set_option maxHeartbeats 4000000
namespace Go.Proofs
open Go Go.Ev
set_option maxRecDepth 100000
variable {X : Rel3}
def encIns (i : Ins) : List Int := encL [i.op, i.d, i.x, i.y, i.n, i.to_, i.l.length] ++ encL i.l
def encInsL (l : List Ins) : List Int := l.flatMap encIns
def encHead (p : Piece) : List Int := encL [p.lam, p.in_, p.regs, p.ins.length]
def encPiece (p : Piece) : List Int := encHead p ++ encInsL p.ins
/-- as much as may be put -/
def Ins.few (i : Ins) : Prop := i.l.length ≤ 200
def Piece.few (p : Piece) : Prop := p.ins.length ≤ 600 ∧ ∀ i ∈ p.ins, i.few
theorem encIns_len {i : Ins} (h : i.few) : (encIns i).length ≤ 1035 := by
  have h1 := encL_len [i.op, i.d, i.x, i.y, i.n, i.to_, i.l.length]
  have h2 := encL_len i.l
  unfold Ins.few at h
  simp only [encIns, List.length_append, List.length_cons, List.length_nil] at h1 ⊢
  omega
theorem encInsL_len {l : List Ins} (h : ∀ i ∈ l, i.few) : (encInsL l).length ≤ 1035 * l.length := by
  induction l with
  | nil => simp [encInsL]
  | cons i r ih =>
    have h1 := encIns_len (h i (List.mem_cons_self ..))
    have h2 := ih fun j hj => h j (List.mem_cons_of_mem _ hj)
    simp only [encInsL, List.flatMap_cons, List.length_append, List.length_cons] at h2 ⊢
    omega
theorem encHead_len (p : Piece) : (encHead p).length ≤ 20 := encL_len [p.lam, p.in_, p.regs, p.ins.length]
theorem encPiece_len {p : Piece} (h : p.few) : (encPiece p).length ≤ 621020 := by
  have h1 := encHead_len p
  have h2 := encInsL_len h.2
  have h3 := h.1
  simp only [encPiece, List.length_append]
  omega
theorem encInsL_step {l : List Ins} {k : Nat} (h : k < l.length) : encInsL (l.drop k) = encIns l[k] ++ encInsL (l.drop (k + 1)) := by
  rw [List.drop_eq_getElem_cons h, encInsL, List.flatMap_cons]; rfl
theorem list_I (l : List Int) (rows : List (List T)) (h : rows = l.map iR) : T.sl false (shrR rows) = T.sl false (l.map iR) := by rw [h, shr_I]
def k_l16Piece : List (Nat × List Nat) := [(0, [0, 3]), (1, [0, 3]), (2, [0, 3, 5]), (3, [0, 3, 5, 23]), (4, [0, 3, 5]), (5, [0, 3, 5, 6]), (6, [0, 3, 5]), (7, [4])]
theorem l16Piece_t (b : List Int) (p : Piece) (hp : p.few) (hb : b.length ≤ 1000000000) : Tells Try.prog E0 X 34 [.t (.sl true (b.map uR)), p.a false] (.t (.sl true ((b ++ encPiece p).map uR))) := by
  have hp1 := hp.1
  have hh := encHead_len p
  have hA : Tells Try.prog E0 X 65 [.t (.sl true ((b).map uR)), .t (.sl false [[iT (p.lam)], [iT (p.in_)], [iT (p.regs)], [iT (((p.ins.map (Ins.c false)).length : Int))]])] (.t (.sl true ((b ++ encHead p).map uR))) := by
    have := l16Add_t (X := X) b [p.lam, p.in_, p.regs, p.ins.length] (by simp; omega)
    simpa [encHead, encIns] using this
  refine Tells.by Try.func34 (by simp [Try.f34]) (Body.i rfl rfl rfl (fun _ => rfl) fun f => ?_)
  repeat' (first
     | refine wp_seq_i ?_ | refine wp_region_t k_l16Piece rfl ?_ | refine Run.done rfl ?_ | refine then_n ?_ | refine then_r ?_ | refine then_e ?_ | refine Run.go1 rfl ?_ | refine wp_skip_i ?_ | refine wp_ret_i ?_
     | refine wp_exit_i ?_ | refine wp_block_i ?_ | refine block_n ?_ | refine block_r ?_ | refine block_e ?_ | refine block_o rfl ?_ | refine wp_cond_t rfl ?_ | refine wp_cond_f rfl ?_ | refine Run.one rfl rfl rfl ?_
     | refine Run.callB rfl rfl rfl (hA) (own_B _) rfl ?_ | (refine wp_cond_k rfl rfl rfl ?_ ?_ <;> intro _) | (refine wp_cond_i rfl ?_ ?_ <;> intro _))
  refine wp_loop_k (α := Nat × List Int) [.keep [0, 3, 5] [3, 18]] (fun p => [(5, iA p.1)]) (fun _ => []) (fun p => [(18, 0, p.2.map uR)]) (fun q => q.1 ≤ p.ins.length ∧ q.2 ++ encInsL (p.ins.drop q.1) = b ++ encPiece p) (fun q => p.ins.length - q.1) (0, b ++ encHead p) rfl (fun _ => rfl) rfl ⟨by simp, by simp [encPiece]⟩ ?_
  rintro ⟨k, c⟩ ⟨hk, h3⟩
  simp only at hk h3
  have hcl : c.length ≤ 2000000000 := by
    have h4 := congrArg List.length h3
    have h5 := encPiece_len hp
    simp only [List.length_append] at h4
    omega
  by_cases hlt : k < p.ins.length
  · have hx : (p.ins.map (Ins.c false))[k]? = some (Ins.c false p.ins[k]) := map_at hlt
    have hf := hp.2 _ (List.getElem_mem hlt)
    rw [encInsL_step hlt] at h3
    generalize hi : p.ins[k] = i at hx hf h3
    have hil : i.l.length ≤ 200 := hf
    have hel := encL_len [i.op, i.d, i.x, i.y, i.n, i.to_, i.l.length]
    have hB : Tells Try.prog E0 X 65 [.t (.sl true ((c).map uR)), .t (.sl false [[iT (i.op)], [iT (i.d)], [iT (i.x)], [iT (i.y)], [iT (i.n)], [iT (i.to_)], [iT (((i.l.map iR).length : Int))]])] (.t (.sl true ((c ++ encL [i.op, i.d, i.x, i.y, i.n, i.to_, i.l.length]).map uR))) := by
      have := l16Add_t (X := X) c [i.op, i.d, i.x, i.y, i.n, i.to_, i.l.length] (by simp; omega)
      simpa [encHead, encIns] using this
    have hC : Tells Try.prog E0 X 65 [.t (.sl true ((c ++ encL [i.op, i.d, i.x, i.y, i.n, i.to_, i.l.length]).map uR)), .t (.sl false (i.l.map iR))] (.t (.sl true ((c ++ encIns i).map uR))) := by
      have := l16Add_t (X := X) (c ++ encL [i.op, i.d, i.x, i.y, i.n, i.to_, i.l.length]) i.l (by simp only [List.length_append, List.length_cons, List.length_nil] at hel ⊢; omega)
      rw [List.append_assoc] at this; exact this
    repeat' (first
       | refine wp_seq_i ?_ | refine wp_region_t k_l16Piece rfl ?_ | refine Run.done rfl ?_ | refine then_n ?_ | refine then_r ?_ | refine then_e ?_ | refine Run.go1 rfl ?_ | refine wp_skip_i ?_ | refine wp_ret_i ?_
       | refine wp_exit_i ?_ | refine wp_block_i ?_ | refine block_n ?_ | refine block_r ?_ | refine block_e ?_ | refine block_o rfl ?_ | refine wp_cond_t rfl ?_ | refine wp_cond_f rfl ?_ | refine RunQ.go1 rfl ?_
       | refine RunQ.done rfl ?_ | refine Run.ix rfl rfl rfl rfl rfl rfl rfl hx rfl rfl rfl ?_
       | refine wp_region_l k_l16Piece [0, 1, 2, 3, 4, 5, 6, 7, 8, 9, 10, 11, 12, 13, 14, 15, 18, 19] [16, 17, 20] [0, 0, 2, 0, 8, 0, 32, 0, 128, 0, 512, 0, 2048, 0, 8192, 24576, 65534, 131071, 0, 262144, 1048575, 2097151] rfl (by decide +kernel) (by decide +kernel) rfl rfl ?_
       | refine RunL.one rfl rfl rfl rfl rfl ?_ | refine RunL.call rfl rfl rfl rfl (hB) (.inr (own_B _)) rfl rfl ?_ | refine RunL.call rfl rfl rfl rfl (hC) (.inr (own_B _)) rfl rfl ?_ | refine RunL.done ?_
       | (refine wp_cond_k rfl rfl rfl ?_ ?_ <;> intro _) | (refine wp_cond_i rfl ?_ ?_ <;> intro _))
    · refine back_i [.keep [0, 3, 5] [3, 51], .ren 51 18] (k + 1, c ++ encIns i) rfl ?_ ⟨by simp; omega, by simpa using h3⟩ (by simp; omega)
      simp only [w_succ hlt (by omega)]
    · rename_i h; simp [hlt] at h
  · have hk : k = p.ins.length := by omega
    subst hk
    simp [encInsL] at h3
    repeat' (first
       | refine wp_seq_i ?_ | refine wp_region_t k_l16Piece rfl ?_ | refine Run.done rfl ?_ | refine then_n ?_ | refine then_r ?_ | refine then_e ?_ | refine Run.go1 rfl ?_ | refine wp_skip_i ?_ | refine wp_ret_i ?_
       | refine wp_exit_i ?_ | refine wp_block_i ?_ | refine block_n ?_ | refine block_r ?_ | refine block_e ?_ | refine block_o rfl ?_ | refine wp_cond_t rfl ?_ | refine wp_cond_f rfl ?_
       | (refine wp_cond_k rfl rfl rfl ?_ ?_ <;> intro _) | (refine wp_cond_i rfl ?_ ?_ <;> intro _))
    · rename_i h; simp at h
    · refine ret_m [] rfl rfl ?_; rw [h3]
end Go.Proofs

set_option linter.unusedVariables false
set_option linter.unusedSimpArgs false
set_option maxHeartbeats 4000000
namespace Go.Proofs
open Go Go.Ev
set_option maxRecDepth 100000
variable {X : Rel3}
abbrev inN (n : Int) : Prop := -1000000000 ≤ n ∧ n ≤ 1000000000
theorem drop_add {l s t : List Int} {a : Nat} (h : l.drop a = s ++ t) : l.drop (a + s.length) = t := by
  rw [← List.drop_drop, h, List.drop_left]
theorem nxt_put {l t : List Int} {a : Nat} {n : Int} (hn : inN n) (hd : l.drop a = encN n ++ t) : nxt l a false = (n, ((a + (encN n).length : Nat) : Int), false) := by
  unfold nxt; rw [gNum_put l t a n hn hd]; rfl
theorem encL_cons (x : Int) (r : List Int) : encL (x :: r) = encN x ++ encL r := by simp [encL]
theorem rdLS_put {l : List Int} {n : Int} : ∀ (xs : List Int) (d k a : Nat) (t : List Int), (∀ x ∈ xs, inN x) → xs.length ≤ d → ((k + xs.length : Nat) : Int) = n → l.drop a = encL xs ++ t →
    rdLS l n d k a false = (xs, ((a + (encL xs).length : Nat) : Int), false)
  | [], d, k, a, t, _, _, hk, _ => by
    cases d with
    | zero => simp [rdLS, encL]
    | succ d => rw [rdLS, if_neg (fun h => by have := of_decide_eq_true h.1; simp at hk; omega)]; simp [encL]
  | x :: r, d, k, a, t, hx, hd, hk, h => by
    cases d with
    | zero => simp at hd
    | succ d =>
      rw [encL_cons, List.append_assoc] at h
      have h1 := nxt_put (hx x (List.mem_cons_self ..)) h
      have h2 := rdLS_put (n := n) r d (k + 1) (a + (encN x).length) t (fun y hy => hx y (List.mem_cons_of_mem _ hy)) (by simpa using hd) (by rw [← hk]; simp; omega) (drop_add h)
      rw [rdLS, if_pos ⟨decide_eq_true (by rw [← hk]; simp; omega), rfl⟩, h1]
      simp only [h2, encL_cons, List.length_append, Nat.add_assoc]
theorem imLS_put {l : List Int} : ∀ (xs : List Int) (a : Nat) (t : List Int), (∀ x ∈ xs, inN x) → l.drop a = encL xs ++ t → imLS l xs.length a false = (xs, ((a + (encL xs).length : Nat) : Int), false)
  | [], a, t, _, _ => by simp [imLS, encL]
  | x :: r, a, t, hx, h => by
    rw [encL_cons, List.append_assoc] at h
    have h1 := nxt_put (hx x (List.mem_cons_self ..)) h
    have h2 := imLS_put r (a + (encN x).length) t (fun y hy => hx y (List.mem_cons_of_mem _ hy)) (drop_add h)
    rw [List.length_cons, imLS, if_pos rfl, h1]
    simp only [h2, encL_cons, List.length_append, Nat.add_assoc]
/-- numbers that may be put -/
def Ins.nums (i : Ins) : Prop := inN i.op ∧ inN i.d ∧ inN i.x ∧ inN i.y ∧ inN i.n ∧ inN i.to_ ∧ i.l.length ≤ 200 ∧ ∀ x ∈ i.l, inN x
theorem rdIns_put {l t : List Int} {a : Nat} {i : Ins} (hi : i.nums) (hd : l.drop a = encIns i ++ t) : rdIns l a false = (i, ((a + (encIns i).length : Nat) : Int), false) := by
  obtain ⟨o, d, x, y, n, L, to⟩ := i
  obtain ⟨h1, h2, h3, h4, h5, h6, h7, h8⟩ := hi
  simp only at h1 h2 h3 h4 h5 h6 h7 h8
  simp only [encIns, encL_cons, List.append_assoc] at hd
  rw [show encL [] = [] from rfl, List.nil_append] at hd
  have g1 := nxt_put h1 hd
  have d1 := drop_add hd
  have g2 := nxt_put h2 d1
  have d2 := drop_add d1
  have g3 := nxt_put h3 d2
  have d3 := drop_add d2
  have g4 := nxt_put h4 d3
  have d4 := drop_add d3
  have g5 := nxt_put h5 d4
  have d5 := drop_add d4
  have g6 := nxt_put h6 d5
  have d6 := drop_add d5
  have g7 := nxt_put (n := (L.length : Int)) ⟨by omega, by omega⟩ d6
  have d7 := drop_add d6
  have g8 := rdLS_put (n := (L.length : Int)) L 201 0 _ t h8 (by omega) (by simp) d7
  simp only [rdIns, g1, g2, g3, g4, g5, g6, g7, g8, encIns, encL_cons, List.length_append, show encL [] = [] from rfl, List.length_nil]
  simp only [Prod.mk.injEq, true_and, and_true]
  omega
end Go.Proofs

set_option linter.unusedVariables false
set_option linter.unusedSimpArgs false
set_option maxHeartbeats 4000000
namespace Go.Proofs
open Go Go.Ev
set_option maxRecDepth 100000
variable {X : Rel3}
theorem putL_pos : ∀ (f : Nat) (m : Int), 1 ≤ (putL f m).length
  | 0, m => by simp [putL]
  | f + 1, m => by rw [putL]; split <;> simp
theorem encN_pos (n : Int) : 1 ≤ (encN n).length := putL_pos 4 _
theorem encL_ge (l : List Int) : l.length ≤ (encL l).length := by
  induction l with
  | nil => simp
  | cons x r ih =>
    have := encN_pos x
    rw [encL_cons, List.length_append, List.length_cons]; omega
theorem mny_put {l t : List Int} {a c : Nat} (hc : c ≤ t.length) (h9 : c ≤ 1000000000) (hd : l.drop a = encN (c : Int) ++ t) : mny l a false = ((c : Int), ((a + (encN (c : Int)).length : Nat) : Int), false) := by
  have h1 := nxt_put (n := (c : Int)) ⟨by omega, by omega⟩ hd
  have hl : t.length ≤ l.length := by
    have := congrArg List.length hd
    simp only [List.length_drop, List.length_append] at this; omega
  unfold mny
  rw [h1, if_pos (rng_iff.2 ⟨by simp, by simp; omega⟩)]
theorem imIns_put {l t : List Int} {a : Nat} {i : Ins} (hi : i.nums) (hd : l.drop a = encIns i ++ t) : imIns l a false = (i, ((a + (encIns i).length : Nat) : Int), false) := by
  obtain ⟨o, d, x, y, n, L, to⟩ := i
  obtain ⟨h1, h2, h3, h4, h5, h6, h7, h8⟩ := hi
  simp only at h1 h2 h3 h4 h5 h6 h7 h8
  simp only [encIns, encL_cons, List.append_assoc] at hd
  rw [show encL [] = [] from rfl, List.nil_append] at hd
  have g1 := nxt_put h1 hd
  have d1 := drop_add hd
  have g2 := nxt_put h2 d1
  have d2 := drop_add d1
  have g3 := nxt_put h3 d2
  have d3 := drop_add d2
  have g4 := nxt_put h4 d3
  have d4 := drop_add d3
  have g5 := nxt_put h5 d4
  have d5 := drop_add d4
  have g6 := nxt_put h6 d5
  have d6 := drop_add d5
  have hg := encL_ge L
  have g7 := mny_put (c := L.length) (by simp only [List.length_append]; omega) (by omega) d6
  have d7 := drop_add d6
  have g8 := imLS_put L _ t h8 d7
  simp only [imIns, g1, g2, g3, g4, g5, g6, g7, Int.toNat_natCast, g8, encIns, encL_cons, List.length_append, show encL [] = [] from rfl, List.length_nil]
  simp only [Prod.mk.injEq, true_and, and_true]
  omega
theorem encIL_cons (x : Ins) (r : List Ins) : encInsL (x :: r) = encIns x ++ encInsL r := by simp [encInsL]
theorem rdLI_put {l : List Int} {n : Int} : ∀ (xs : List Ins) (d k a : Nat) (t : List Int), (∀ x ∈ xs, x.nums) → xs.length ≤ d → ((k + xs.length : Nat) : Int) = n → l.drop a = encInsL xs ++ t →
    rdLI l n d k a false = (xs, ((a + (encInsL xs).length : Nat) : Int), false)
  | [], d, k, a, t, _, _, hk, _ => by
    cases d with
    | zero => simp [rdLI, encInsL]
    | succ d => rw [rdLI, if_neg (fun h => by have := of_decide_eq_true h.1; simp at hk; omega)]; simp [encInsL]
  | x :: r, d, k, a, t, hx, hd, hk, h => by
    cases d with
    | zero => simp at hd
    | succ d =>
      rw [encIL_cons, List.append_assoc] at h
      have h1 := rdIns_put (hx x (List.mem_cons_self ..)) h
      have h2 := rdLI_put (n := n) r d (k + 1) (a + (encIns x).length) t (fun y hy => hx y (List.mem_cons_of_mem _ hy)) (by simpa using hd) (by rw [← hk]; simp; omega) (drop_add h)
      rw [rdLI, if_pos ⟨decide_eq_true (by rw [← hk]; simp; omega), rfl⟩, h1]
      simp only [h2, encIL_cons, List.length_append, Nat.add_assoc]
theorem imLI_put {l : List Int} : ∀ (xs : List Ins) (a : Nat) (t : List Int), (∀ x ∈ xs, x.nums) → l.drop a = encInsL xs ++ t → imLI l xs.length a false = (xs, ((a + (encInsL xs).length : Nat) : Int), false)
  | [], a, t, _, _ => by simp [imLI, encInsL]
  | x :: r, a, t, hx, h => by
    rw [encIL_cons, List.append_assoc] at h
    have h1 := imIns_put (hx x (List.mem_cons_self ..)) h
    have h2 := imLI_put r (a + (encIns x).length) t (fun y hy => hx y (List.mem_cons_of_mem _ hy)) (drop_add h)
    rw [List.length_cons, imLI, if_pos rfl, h1]
    simp only [h2, encIL_cons, List.length_append, Nat.add_assoc]
theorem encIns_pos (i : Ins) : 1 ≤ (encIns i).length := by
  have := encN_pos i.op
  simp only [encIns, encL_cons, List.length_append]; omega
theorem encIL_ge (l : List Ins) : l.length ≤ (encInsL l).length := by
  induction l with
  | nil => simp
  | cons x r ih =>
    have := encIns_pos x
    rw [encIL_cons, List.length_append, List.length_cons]; omega
def Piece.nums (p : Piece) : Prop := inN p.lam ∧ inN p.in_ ∧ inN p.regs ∧ p.ins.length ≤ 600 ∧ ∀ i ∈ p.ins, i.nums
theorem rdPc_put {l t : List Int} {a : Nat} {p : Piece} (hp : p.nums) (hd : l.drop a = encPiece p ++ t) : rdPc l a false = (p, ((a + (encPiece p).length : Nat) : Int), false) := by
  obtain ⟨o, d, x, L⟩ := p
  obtain ⟨h1, h2, h3, h7, h8⟩ := hp
  simp only at h1 h2 h3 h7 h8
  simp only [encPiece, encHead, encL_cons, List.append_assoc] at hd
  rw [show encL [] = [] from rfl, List.nil_append] at hd
  have g1 := nxt_put h1 hd
  have d1 := drop_add hd
  have g2 := nxt_put h2 d1
  have d2 := drop_add d1
  have g3 := nxt_put h3 d2
  have d3 := drop_add d2
  have g7 := nxt_put (n := (L.length : Int)) ⟨by omega, by omega⟩ d3
  have d7 := drop_add d3
  have g8 := rdLI_put (n := (L.length : Int)) L 601 0 _ t h8 (by omega) (by simp) d7
  simp only [rdPc, g1, g2, g3, g7, g8, encPiece, encHead, encL_cons, List.length_append, show encL [] = [] from rfl, List.length_nil]
  simp only [Prod.mk.injEq, true_and, and_true]
  omega
theorem imPc_put {l t : List Int} {a : Nat} {p : Piece} (hp : p.nums) (hd : l.drop a = encPiece p ++ t) : imPc l a false = (p, ((a + (encPiece p).length : Nat) : Int), false) := by
  obtain ⟨o, d, x, L⟩ := p
  obtain ⟨h1, h2, h3, h7, h8⟩ := hp
  simp only at h1 h2 h3 h7 h8
  simp only [encPiece, encHead, encL_cons, List.append_assoc] at hd
  rw [show encL [] = [] from rfl, List.nil_append] at hd
  have g1 := nxt_put h1 hd
  have d1 := drop_add hd
  have g2 := nxt_put h2 d1
  have d2 := drop_add d1
  have g3 := nxt_put h3 d2
  have d3 := drop_add d2
  have hg := encIL_ge L
  have g7 := mny_put (c := L.length) (by simp only [List.length_append]; omega) (by omega) d3
  have d7 := drop_add d3
  have g8 := imLI_put L _ t h8 d7
  simp only [imPc, g1, g2, g3, g7, Int.toNat_natCast, g8, encPiece, encHead, encL_cons, List.length_append, show encL [] = [] from rfl, List.length_nil]
  simp only [Prod.mk.injEq, true_and, and_true]
  omega
end Go.Proofs

set_option linter.unusedVariables false
set_option linter.unusedSimpArgs false
set_option maxHeartbeats 4000000
namespace Go.Proofs
open Go Go.Ev
set_option maxRecDepth 100000
variable {X : Rel3}
theorem encM_dec {m : Int} (h0 : 0 ≤ m) (h : inN (decN m)) : encM (decN m) = m := by
  have hc : clampN (decN m) = decN m := by unfold clampN; rw [if_neg (by omega), if_neg (by omega)]
  unfold encM; rw [hc]
  unfold decN
  split <;> split <;> omega
theorem gNum_can {l : List Int} (hb : ∀ c ∈ l, 0 ≤ c ∧ c < 256) {a : Nat} {n e : Int} (h : gNum l a = some (n, e)) : inN n ∧ l.drop a = encN n ++ l.drop (a + (encN n).length) ∧ e = ((a + (encN n).length : Nat) : Int) := by
  rw [gNum, if_neg (by omega), Int.toNat_natCast] at h
  obtain ⟨m, m0, m1, m2, m3, m4, m5, m6, m7⟩ := gLp_can l hb a 5 0 0 n e rfl h
  have e0 : (0 : Int) + m * 2 ^ (7 * 0) = m := by simp
  rw [e0] at m3
  have hin : inN n := rng_iff.1 m4
  have hm : encM n = m := by rw [m3]; exact encM_dec m0 (by rw [← m3]; exact hin)
  have hp : encN n = putL (5 - 1) m := by rw [encN, hm]
  rw [hp]
  exact ⟨hin, m6, m7⟩
theorem nxt_can {l : List Int} (hb : ∀ c ∈ l, 0 ≤ c ∧ c < 256) {a : Nat} {bad : Bool} {n e : Int} (h : nxt l a bad = (n, e, false)) : inN n ∧ l.drop a = encN n ++ l.drop (a + (encN n).length) ∧ e = ((a + (encN n).length : Nat) : Int) ∧ bad = false := by
  unfold nxt at h
  cases hg : gNum l a with
  | none => rw [hg] at h; cases h
  | some r =>
    obtain ⟨n', e'⟩ := r
    rw [hg] at h
    cases bad with
    | true => cases h
    | false =>
      simp only [Bool.false_eq_true, if_false, Prod.mk.injEq, and_true] at h
      obtain ⟨rfl, rfl⟩ := h
      obtain ⟨h1, h2, h3⟩ := gNum_can hb hg
      exact ⟨h1, h2, h3, rfl⟩
theorem mny_can {l : List Int} (hb : ∀ c ∈ l, 0 ≤ c ∧ c < 256) {a : Nat} {bad : Bool} {n e : Int} (h : mny l a bad = (n, e, false)) : inN n ∧ l.drop a = encN n ++ l.drop (a + (encN n).length) ∧ e = ((a + (encN n).length : Nat) : Int) ∧ bad = false := by
  unfold mny at h
  split at h
  · exact nxt_can hb h
  · cases h
theorem imLS_can {l : List Int} (hb : ∀ c ∈ l, 0 ≤ c ∧ c < 256) : ∀ (k a : Nat) {bad : Bool} {xs : List Int} {e : Int}, imLS l k a bad = (xs, e, false) →
    bad = false ∧ xs.length = k ∧ (∀ x ∈ xs, inN x) ∧ l.drop a = encL xs ++ l.drop (a + (encL xs).length) ∧ e = ((a + (encL xs).length : Nat) : Int)
  | 0, a, bad, xs, e, h => by
    rw [imLS] at h
    cases h
    exact ⟨rfl, rfl, by simp, by simp [encL], by simp [encL]⟩
  | k + 1, a, bad, xs, e, h => by
    rw [imLS] at h
    split at h
    · rename_i hbad
      rcases g : nxt l a bad with ⟨v, e1, b1⟩
      rw [g] at h
      simp only at h
      rcases g2 : imLS l k e1 b1 with ⟨r, e2, b2⟩
      rw [g2] at h
      simp only [Prod.mk.injEq] at h
      obtain ⟨rfl, rfl, rfl⟩ := h
      cases b1 with
      | true => rw [imLS_stop (.inr rfl)] at g2; cases g2
      | false =>
        obtain ⟨h1, h2, h3, _⟩ := nxt_can hb g
        subst h3
        obtain ⟨_, i1, i2, i3, i4⟩ := imLS_can hb k (a + (encN v).length) g2
        refine ⟨hbad, by simp [i1], fun x hx => ?_, ?_, ?_⟩
        · rcases List.mem_cons.1 hx with rfl | hx
          · exact h1
          · exact i2 x hx
        · rw [encL_cons, List.append_assoc, List.length_append, ← Nat.add_assoc, ← i3]; exact h2
        · rw [i4, encL_cons, List.length_append, Nat.add_assoc]
    · rename_i hbad; simp only [Prod.mk.injEq] at h; exact absurd h.2.2 hbad
end Go.Proofs

set_option linter.unusedVariables false
set_option linter.unusedSimpArgs false
set_option maxHeartbeats 4000000
namespace Go.Proofs
open Go Go.Ev
set_option maxRecDepth 100000
variable {X : Rel3}
theorem Same_t (a b : List Int) (hl : a.length ≤ 9223372036854775807) : Tells Try.prog E0 X 45 [.t (.sl false (a.map (uR))), .t (.sl false (b.map (uR)))] (bA (decide (a = b))) := by
  refine Tells.by Try.func45 (by simp [Try.f45]) (Body.i rfl rfl rfl (fun _ => rfl) fun f => ?_)
  repeat' (first
     | refine wp_seq_i ?_ | refine wp_region_i ?_ | refine Run.done rfl ?_ | refine then_n ?_ | refine then_r ?_ | refine then_e ?_ | refine Run.go1 rfl ?_ | refine wp_skip_i ?_ | refine wp_ret_i ?_ | refine wp_exit_i ?_
     | refine wp_block_i ?_ | refine block_n ?_ | refine block_r ?_ | refine block_e ?_ | refine block_o rfl ?_ | refine wp_cond_t rfl ?_ | refine wp_cond_f rfl ?_ | (refine wp_cond_k rfl rfl rfl ?_ ?_ <;> intro _)
     | (refine wp_cond_i rfl ?_ ?_ <;> intro _))
  · rename_i h
    refine ret_m [] rfl rfl ?_
    simp at h
    simp; intro e; exact h (by rw [e])
  rename_i h
  have hab : a.length = b.length := by
    have : (a.length : Int) = b.length := by simpa using h
    omega
  refine wp_loop_k (α := Nat) [.keep [0, 1, 4, 5] []] (fun p => [(5, iA p)]) (fun _ => []) (fun _ => []) (fun p => p ≤ a.length ∧ a.take p = b.take p) (fun p => a.length - p) 0 rfl (fun _ => rfl) rfl ⟨by simp, by simp⟩ ?_
  rintro j ⟨hj, he⟩
  by_cases hlt : j < a.length
  · have hx : (a.map (uR))[j]? = some ((uR) a[j]) := by simp [hlt]
    have hy : (b.map (uR))[j]? = some ((uR) (b[j]'(by omega))) := by simp [← hab, hlt]
    have ta : a.take (j + 1) = a.take j ++ [a[j]] := by simp
    have tb : b.take (j + 1) = b.take j ++ [b[j]'(by omega)] := by simp
    repeat' (first
       | refine wp_seq_i ?_ | refine wp_region_i ?_ | refine Run.done rfl ?_ | refine then_n ?_ | refine then_r ?_ | refine then_e ?_ | refine Run.go1 rfl ?_ | refine wp_skip_i ?_ | refine wp_ret_i ?_ | refine wp_exit_i ?_
       | refine wp_block_i ?_ | refine block_n ?_ | refine block_r ?_ | refine block_e ?_ | refine block_o rfl ?_ | refine wp_cond_t rfl ?_ | refine wp_cond_f rfl ?_ | refine wp_region_q 9 rfl rfl rfl ?_ | refine RunQ.go1 rfl ?_
       | refine RunQ.done rfl ?_ | refine RunQ.ix rfl rfl rfl rfl rfl rfl rfl hx rfl rfl rfl ?_ | refine RunQ.ix rfl rfl rfl rfl rfl rfl rfl hy rfl rfl rfl ?_ | refine Run.ix rfl rfl rfl rfl rfl rfl rfl hx rfl rfl rfl ?_
       | refine Run.ix rfl rfl rfl rfl rfl rfl rfl hy rfl rfl rfl ?_ | (refine wp_cond_k rfl rfl rfl ?_ ?_ <;> intro _) | (refine wp_cond_i rfl ?_ ?_ <;> intro _))
    · rename_i h2
      refine ret_m [] rfl rfl ?_
      simp at h2
      simp; intro e; subst e; exact h2 rfl
    · rename_i h2
      simp at h2
      refine back_i [.keep [0, 1, 4, 5] []] (j + 1) rfl ?_ ⟨by omega, ?_⟩ (by omega)
      · simp only [w_succ hlt (show a.length ≤ 9223372036854775807 by omega)]
      · rw [ta, tb, he, h2]
    · rename_i h2; simp [hlt] at h2
  · have hjl : j = a.length := by omega
    repeat' (first
       | refine wp_seq_i ?_ | refine wp_region_i ?_ | refine Run.done rfl ?_ | refine then_n ?_ | refine then_r ?_ | refine then_e ?_ | refine Run.go1 rfl ?_ | refine wp_skip_i ?_ | refine wp_ret_i ?_ | refine wp_exit_i ?_
       | refine wp_block_i ?_ | refine block_n ?_ | refine block_r ?_ | refine block_e ?_ | refine block_o rfl ?_ | refine wp_cond_t rfl ?_ | refine wp_cond_f rfl ?_ | (refine wp_cond_k rfl rfl rfl ?_ ?_ <;> intro _)
       | (refine wp_cond_i rfl ?_ ?_ <;> intro _))
    · rename_i h2; simp [hjl] at h2
    · refine ret_m [] rfl rfl ?_
      rw [hjl] at he
      have : a = b := by rw [List.take_length, hab, List.take_length] at he; exact he
      simp [this]
theorem rdLS_len {b : List Int} {n : Int} : ∀ (d k : Nat) (at_ : Int) (bad : Bool), (rdLS b n d k at_ bad).1.length ≤ d
  | 0, k, at_, bad => by simp [rdLS]
  | d + 1, k, at_, bad => by
    rw [rdLS]; split
    · simp only [List.length_cons]
      have := rdLS_len (b := b) (n := n) d (k + 1) (nxt b at_ bad).2.1 (nxt b at_ bad).2.2
      omega
    · simp
theorem rdIns_len (b : List Int) (at_ : Int) (bad : Bool) : (rdIns b at_ bad).1.l.length ≤ 201 := by
  simp only [rdIns]; exact rdLS_len _ _ _ _
theorem rdLI_len {b : List Int} {n : Int} : ∀ (d k : Nat) (at_ : Int) (bad : Bool), (rdLI b n d k at_ bad).1.length ≤ d ∧ ∀ i ∈ (rdLI b n d k at_ bad).1, i.l.length ≤ 201
  | 0, k, at_, bad => by simp [rdLI]
  | d + 1, k, at_, bad => by
    rw [rdLI]; split
    · obtain ⟨h1, h2⟩ := rdLI_len (b := b) (n := n) d (k + 1) (rdIns b at_ bad).2.1 (rdIns b at_ bad).2.2
      refine ⟨by simp only [List.length_cons]; omega, fun i hi => ?_⟩
      rcases List.mem_cons.1 hi with rfl | hi
      · exact rdIns_len b at_ bad
      · exact h2 i hi
    · simp
theorem rdPc_ok (b : List Int) (at_ : Int) (bad : Bool) : (rdPc b at_ bad).1.ok := by
  simp only [rdPc]
  obtain ⟨h1, h2⟩ := rdLI_len (b := b) (n := (nxt b (nxt b (nxt b (nxt b at_ bad).2.1 (nxt b at_ bad).2.2).2.1 (nxt b (nxt b at_ bad).2.1 (nxt b at_ bad).2.2).2.2).2.1 (nxt b (nxt b (nxt b at_ bad).2.1 (nxt b at_ bad).2.2).2.1 (nxt b (nxt b at_ bad).2.1 (nxt b at_ bad).2.2).2.2).2.2).1) 601 0 _ _
  exact ⟨Nat.le_trans h1 (by omega), fun i hi => Nat.le_trans (h2 i hi) (by omega)⟩
theorem rdLI_le {b : List Int} {n : Int} (hl : b.length ≤ 1000000000000) : ∀ (d k : Nat) {at_ : Int} {bad : Bool}, at_ ≤ 9223372036854775807 → (rdLI b n d k at_ bad).2.1 ≤ 9223372036854775807
  | 0, k, at_, bad, ha => ha
  | d + 1, k, at_, bad, ha => by
    rw [rdLI]
    split
    · exact rdLI_le hl d (k + 1) (rdIns_le hl ha)
    · exact ha
theorem rdPc_le {b : List Int} {at_ : Int} {bad : Bool} (hl : b.length ≤ 1000000000000) (ha : at_ ≤ 9223372036854775807) : (rdPc b at_ bad).2.1 ≤ 9223372036854775807 := by
  simp only [rdPc]
  exact rdLI_le hl _ _ (nxt_le hl (nxt_le hl (nxt_le hl (nxt_le hl ha))))
theorem rdPc_e {b : List Int} {at_ : Int} {bad : Bool} {o : Piece} {a1 : Int} {b1 : Bool} (h : rdPc b at_ bad = (o, a1, b1)) (hl : b.length ≤ 1000000000000) (ha : at_ ≤ 9223372036854775807) : a1 ≤ 9223372036854775807 ∧ o.ok := by
  have h1 := rdPc_le (bad := bad) hl ha
  have h2 := rdPc_ok b at_ bad
  rw [h] at h1 h2; exact ⟨h1, h2⟩
theorem Piece_e {b : List Int} {at_ : Int} {bad : Bool} {o : Piece} {a1 : Int} {b1 : Bool} (h : rdPc b at_ bad = (o, a1, b1)) (hl : b.length ≤ 1000000000000) (hb : ∀ c ∈ b, 0 ≤ c ∧ c < 256) (ha : at_ ≤ 9223372036854775807) : Tells Try.prog E0 X 44 [rdA b at_ bad] (.io [o.a true, rdA b a1 b1]) := by
  have := GetPiece_t (X := X) b at_ bad hl hb ha
  rw [h] at this; exact this
/-- the functions read: so many at most -/
def rdLP (b : List Int) (n : Int) : Nat → Nat → Int → Bool → List Piece × Int × Bool
  | 0, _, at_, bad => ([], at_, bad)
  | d + 1, k, at_, bad => if decide ((k : Int) < n) = true ∧ bad = false then ((rdPc b at_ bad).1 :: (rdLP b n d (k + 1) (rdPc b at_ bad).2.1 (rdPc b at_ bad).2.2).1, (rdLP b n d (k + 1) (rdPc b at_ bad).2.1 (rdPc b at_ bad).2.2).2) else ([], at_, bad)
theorem rdLP_go {b : List Int} {n : Int} {k : Nat} {at_ : Int} {bad : Bool} {v : Piece} {a1 : Int} {b1 : Bool} (hk : k < 201) (hn : (k : Int) < n) (hb : bad = false) (h : rdPc b at_ bad = (v, a1, b1)) :
    rdLP b n (201 - k) k at_ bad = (v :: (rdLP b n (201 - (k + 1)) (k + 1) a1 b1).1, (rdLP b n (201 - (k + 1)) (k + 1) a1 b1).2) := by
  rw [show 201 - k = (201 - (k + 1)) + 1 by omega, rdLP, if_pos ⟨decide_eq_true hn, hb⟩, h]
theorem rdLP_stop {b : List Int} {n : Int} {k : Nat} {at_ : Int} {bad : Bool} (hk : k ≤ 201) (h : ¬ ((k : Int) < n ∧ (k : Int) < 201 ∧ bad = false)) : rdLP b n (201 - k) k at_ bad = ([], at_, bad) := by
  rcases Nat.lt_or_ge k 201 with h1 | h1
  · rw [show 201 - k = (201 - (k + 1)) + 1 by omega, rdLP, if_neg (fun hh => h ⟨of_decide_eq_true hh.1, by omega, hh.2⟩)]
  · rw [show 201 - k = 0 by omega, rdLP]
/-- a whole code read, by the reference's way -/
def rdCd (b : List Int) : Code × Int × Bool :=
  let m := nxt b 2 false
  let l := rdLP b m.1 201 0 m.2.1 m.2.2
  let p := rdPc b l.2.1 l.2.2
  (⟨l.1, p.1⟩, p.2)
end Go.Proofs

set_option linter.unusedVariables false
set_option linter.unusedSimpArgs false
set_option maxHeartbeats 4000000
namespace Go.Proofs
open Go Go.Ev
set_option maxRecDepth 100000
variable {X : Rel3}
theorem insB_few {regs n : Int} {i : Ins} (h : insB regs n i = true) : i.few := by
  unfold Ins.few
  simp only [insB, Bool.and_eq_true] at h
  obtain ⟨⟨_, h1⟩, h2⟩ := h
  by_cases h8 : i.op = 8
  · simp [numB, h8] at h2; omega
  · by_cases h14 : i.op = 14
    · simp [numB, h14] at h2; omega
    · simp [h8, h14] at h1; simp [h1]
theorem pieceB_few {p : Piece} (h : pieceB p = true) : p.few := by
  simp only [pieceB, Bool.and_eq_true] at h
  have := headB_iff.1 h.1
  refine ⟨by omega, fun i hi => ?_⟩
  have h2 := h.2.1
  simp only [allI, List.all_eq_true] at h2
  exact insB_few (h2 i hi)
theorem codeB_few {c : Code} (h : codeB c = true) : c.funs.length ≤ 200 ∧ (∀ p ∈ c.funs, p.few) ∧ c.main.few := by
  simp only [codeB, Bool.and_eq_true, decide_eq_true_eq] at h
  refine ⟨by omega, fun p hp => ?_, pieceB_few h.2.1.1⟩
  have h2 := h.2.2.2
  simp only [allP, List.all_eq_true] at h2
  have := h2 p hp
  simp only [fB, Bool.and_eq_true] at this
  exact pieceB_few this.2.1
def encFuns (l : List Piece) : List Int := l.flatMap encPiece
theorem encFuns_len {l : List Piece} (h : ∀ p ∈ l, p.few) : (encFuns l).length ≤ 621020 * l.length := by
  induction l with
  | nil => simp [encFuns]
  | cons i r ih =>
    have h1 := encPiece_len (h i (List.mem_cons_self ..))
    have h2 := ih fun j hj => h j (List.mem_cons_of_mem _ hj)
    simp only [encFuns, List.flatMap_cons, List.length_append, List.length_cons] at h2 ⊢
    omega
theorem encFuns_step {l : List Piece} {k : Nat} (h : k < l.length) : encFuns (l.drop k) = encPiece l[k] ++ encFuns (l.drop (k + 1)) := by
  rw [List.drop_eq_getElem_cons h, encFuns, List.flatMap_cons]; rfl
theorem len_uR (l : List Int) : ∀ r ∈ l.map uR, r.length = 1 := by simp
def putB (c : Code) : List Int := [71, 87] ++ encN c.funs.length ++ encFuns c.funs ++ encPiece c.main
def codeBytes (c : Code) : List Int := if codeB c then putB c ++ sumBytes (putB c) else []
theorem l16Sum_s (l : List Int) (hl : l.length ≤ 9223372036854775807) : Tells Try.prog E0 X 35 [.t (.sl false (shrR (l.map uR)))] (iA (sumB l 0)) := by rw [shr_U]; exact l16Sum_t l hl
theorem codeSum_s (l : List Int) (hl : l.length ≤ 1000000000000) : Tells Try.prog E0 X 40 [.t (.sl false (shrR (l.map uR)))] (.t (.sl true ((sumBytes l).map uR))) := by rw [shr_U]; exact codeSum_t l hl
theorem putB_len {c : Code} (h : codeB c = true) : (putB c).length ≤ 200000000 := by
  obtain ⟨h1, h2, h3⟩ := codeB_few h
  have h4 := encFuns_len h2
  have h5 := encPiece_len h3
  have h6 := encN_len c.funs.length
  simp only [putB, List.length_append, List.length_cons, List.length_nil]
  omega
def k_PutCodeS : List (Nat × List Nat) := [(0, [1]), (1, [1, 8]), (2, [2]), (3, [1, 3]), (4, [1, 3, 4]), (5, [1, 3, 4, 20]), (6, [1, 3, 4]), (7, [1, 3, 4]), (8, [3]), (9, [3, 5]), (10, [2])]
theorem PutCodeS_t (c : Code) (hc : c.ok) : Tells Try.prog E0 X 8 [c.a false] (.t (.sl true ((codeBytes c).map uR))) := by
  have hN : Tells Try.prog E0 X 33 [.t (.sl false (shrR [[.sc (.int .u8 71)], [.sc (.int .u8 87)]])), iA ((c.funs.map (Piece.c false)).length : Int)] (.t (.sl true (([71, 87] ++ encN ((c.funs.map (Piece.c false)).length : Int)).map uR))) := PutNumS_s [71, 87] _ (by simp)
  refine Tells.by Try.func8 (by simp [Try.f8]) (Body.i rfl rfl rfl (fun _ => rfl) fun f => ?_)
  repeat' (first
     | refine wp_seq_i ?_ | refine wp_region_t k_PutCodeS rfl ?_ | refine Run.done rfl ?_ | refine then_n ?_ | refine then_r ?_ | refine then_e ?_ | refine Run.go1 rfl ?_ | refine wp_skip_i ?_ | refine wp_ret_i ?_
     | refine wp_exit_i ?_ | refine wp_block_i ?_ | refine block_n ?_ | refine block_r ?_ | refine block_e ?_ | refine block_o rfl ?_ | refine wp_cond_t rfl ?_ | refine wp_cond_f rfl ?_ | refine Run.one rfl rfl rfl ?_
     | refine Run.cnd4 rfl rfl rfl (by simp) ?_ | refine Run.call rfl rfl rfl (CodeOkS_t c hc) rfl rfl ?_ | refine Run.callB rfl rfl rfl (hN) (own_B _) rfl ?_ | (refine wp_cond_k rfl rfl rfl ?_ ?_ <;> intro _)
     | (refine wp_cond_i rfl ?_ ?_ <;> intro _))
  · rename_i h
    have h : codeB c = false := by simpa using h
    refine ret_m [] rfl rfl ?_; simp [codeBytes, h]
  rename_i h
  have h : codeB c = true := by simpa using h
  obtain ⟨hf1, hf2, hf3⟩ := codeB_few h
  have hpl := putB_len h
  refine wp_loop_k (α := Nat × List Int) [.keep [1, 3, 4] [1, 15]] (fun p => [(4, iA p.1)]) (fun _ => []) (fun p => [(15, 0, p.2.map uR)]) (fun q => q.1 ≤ c.funs.length ∧ q.2 ++ encFuns (c.funs.drop q.1) ++ encPiece c.main = putB c) (fun q => c.funs.length - q.1) (0, [71, 87] ++ encN ((c.funs.map (Piece.c false)).length : Int)) rfl (fun _ => rfl) rfl ⟨by simp, by simp [putB]⟩ ?_
  rintro ⟨k, d⟩ ⟨hk, h3⟩
  simp only at hk h3
  have hcl : d.length ≤ 1000000000 := by
    have h4 := congrArg List.length h3
    simp only [List.length_append] at h4
    omega
  by_cases hlt : k < c.funs.length
  · have hx : (c.funs.map (Piece.c false))[k]? = some (Piece.c false c.funs[k]) := map_at hlt
    have hf := hf2 _ (List.getElem_mem hlt)
    rw [encFuns_step hlt] at h3
    repeat' (first
       | refine wp_seq_i ?_ | refine wp_region_t k_PutCodeS rfl ?_ | refine Run.done rfl ?_ | refine then_n ?_ | refine then_r ?_ | refine then_e ?_ | refine Run.go1 rfl ?_ | refine wp_skip_i ?_ | refine wp_ret_i ?_
       | refine wp_exit_i ?_ | refine wp_block_i ?_ | refine block_n ?_ | refine block_r ?_ | refine block_e ?_ | refine block_o rfl ?_ | refine wp_cond_t rfl ?_ | refine wp_cond_f rfl ?_
       | refine Run.ix rfl rfl rfl rfl rfl rfl rfl hx rfl rfl rfl ?_ | refine Run.callB rfl rfl rfl (l16Piece_t d c.funs[k] hf hcl) (own_B _) rfl ?_ | (refine wp_cond_k rfl rfl rfl ?_ ?_ <;> intro _)
       | (refine wp_cond_i rfl ?_ ?_ <;> intro _))
    · refine back_i [.keep [1, 3, 4] [1, 29], .ren 29 15] (k + 1, d ++ encPiece c.funs[k]) rfl ?_ ⟨by simp; omega, by simpa using h3⟩ (by simp; omega)
      simp only [w_succ hlt (by omega)]
    · rename_i h; simp [hlt] at h
  · have hk : k = c.funs.length := by omega
    subst hk
    simp [encFuns] at h3
    have hdl : (d ++ encPiece c.main).length ≤ 200000000 := by rw [h3]; exact hpl
    repeat' (first
       | refine wp_seq_i ?_ | refine wp_region_t k_PutCodeS rfl ?_ | refine Run.done rfl ?_ | refine then_n ?_ | refine then_r ?_ | refine then_e ?_ | refine Run.go1 rfl ?_ | refine wp_skip_i ?_ | refine wp_ret_i ?_
       | refine wp_exit_i ?_ | refine wp_block_i ?_ | refine block_n ?_ | refine block_r ?_ | refine block_e ?_ | refine block_o rfl ?_ | refine wp_cond_t rfl ?_ | refine wp_cond_f rfl ?_
       | refine Run.callB rfl rfl rfl (l16Piece_t d c.main hf3 hcl) (own_B _) rfl ?_ | refine Run.callB rfl rfl rfl (l16Sum_s (d ++ encPiece c.main) (by omega)) (by simp [AV.own, T.own]) rfl ?_ | refine Run.one rfl rfl rfl ?_
       | refine Run.cnd rfl rfl rfl ⟨by simp at hdl ⊢; omega, len_uR _, by simp, .inl rfl, by simp [flatT]⟩ ?_ | (refine wp_cond_k rfl rfl rfl ?_ ?_ <;> intro _) | (refine wp_cond_i rfl ?_ ?_ <;> intro _))
    · rename_i h; simp at h
    · refine ret_m [] rfl rfl ?_
      rw [codeBytes, if_pos h, ← h3, sumBytes]
      simp [hiB]
end Go.Proofs

set_option linter.unusedVariables false
set_option linter.unusedSimpArgs false
set_option maxHeartbeats 4000000
namespace Go.Proofs
open Go Go.Ev
set_option maxRecDepth 100000
variable {X : Rel3}
theorem encFuns_cons (x : Piece) (r : List Piece) : encFuns (x :: r) = encPiece x ++ encFuns r := by simp [encFuns]
theorem rdLP_put {l : List Int} {n : Int} : ∀ (xs : List Piece) (d k a : Nat) (t : List Int), (∀ x ∈ xs, x.nums) → xs.length ≤ d → ((k + xs.length : Nat) : Int) = n → l.drop a = encFuns xs ++ t →
    rdLP l n d k a false = (xs, ((a + (encFuns xs).length : Nat) : Int), false)
  | [], d, k, a, t, _, _, hk, _ => by
    cases d with
    | zero => simp [rdLP, encFuns]
    | succ d => rw [rdLP, if_neg (fun h => by have := of_decide_eq_true h.1; simp at hk; omega)]; simp [encFuns]
  | x :: r, d, k, a, t, hx, hd, hk, h => by
    cases d with
    | zero => simp at hd
    | succ d =>
      rw [encFuns_cons, List.append_assoc] at h
      have h1 := rdPc_put (hx x (List.mem_cons_self ..)) h
      have h2 := rdLP_put (n := n) r d (k + 1) (a + (encPiece x).length) t (fun y hy => hx y (List.mem_cons_of_mem _ hy)) (by simpa using hd) (by rw [← hk]; simp; omega) (drop_add h)
      rw [rdLP, if_pos ⟨decide_eq_true (by rw [← hk]; simp; omega), rfl⟩, h1]
      simp only [h2, encFuns_cons, List.length_append, Nat.add_assoc]
def Code.nums (c : Code) : Prop := c.funs.length ≤ 200 ∧ (∀ p ∈ c.funs, p.nums) ∧ c.main.nums
theorem rdCd_put {c : Code} (hc : c.nums) : rdCd (putB c) = (c, ((putB c).length : Int), false) := by
  obtain ⟨h1, h2, h3⟩ := hc
  have hd : (putB c).drop 2 = encN (c.funs.length : Int) ++ (encFuns c.funs ++ (encPiece c.main ++ [])) := by simp [putB]
  have g1 := nxt_put (n := (c.funs.length : Int)) ⟨by omega, by omega⟩ hd
  have d1 := drop_add hd
  have g2 := rdLP_put (n := (c.funs.length : Int)) c.funs 201 0 _ _ h2 (by omega) (by simp) d1
  have d2 := drop_add d1
  have g3 := rdPc_put h3 d2
  have g0 : nxt (putB c) 2 false = ((c.funs.length : Int), ((2 + (encN (c.funs.length : Int)).length : Nat) : Int), false) := g1
  simp only [rdCd, g0, g2, g3]
  simp only [Prod.mk.injEq, and_true, true_and]
  simp [putB]; omega
end Go.Proofs

set_option linter.unusedVariables false
set_option linter.unusedSimpArgs false
set_option maxHeartbeats 4000000
namespace Go.Proofs
open Go Go.Ev
set_option maxRecDepth 100000
variable {X : Rel3}
theorem nxt_bad {l : List Int} {a : Int} {bad : Bool} {n e : Int} (h : nxt l a bad = (n, e, false)) : bad = false := by
  cases bad with
  | false => rfl
  | true =>
    unfold nxt at h
    cases hg : gNum l a with
    | none => rw [hg] at h; cases h
    | some r => rw [hg] at h; cases h
theorem mny_bad {l : List Int} {a : Int} {bad : Bool} {n e : Int} (h : mny l a bad = (n, e, false)) : bad = false := by
  unfold mny at h
  split at h
  · exact nxt_bad h
  · cases h
theorem imLS_bad {l : List Int} {k : Nat} {a : Int} {bad : Bool} {n : List Int} {e : Int} (h : imLS l k a bad = (n, e, false)) : bad = false := by
  cases bad with
  | false => rfl
  | true => rw [imLS_stop (.inr rfl)] at h; cases h
theorem imLI_bad {l : List Int} {k : Nat} {a : Int} {bad : Bool} {n : List Ins} {e : Int} (h : imLI l k a bad = (n, e, false)) : bad = false := by
  cases bad with
  | false => rfl
  | true => rw [imLI_stop (.inr rfl)] at h; cases h
theorem imIns_can {l : List Int} (hb : ∀ c ∈ l, 0 ≤ c ∧ c < 256) {a : Nat} {bad : Bool} {i : Ins} {e : Int} (h : imIns l a bad = (i, e, false)) :
    bad = false ∧ l.drop a = encIns i ++ l.drop (a + (encIns i).length) ∧ e = ((a + (encIns i).length : Nat) : Int) := by
  rcases g1 : nxt l a bad with ⟨p1, e1, f1⟩
  rcases g2 : nxt l e1 f1 with ⟨p2, e2, f2⟩
  rcases g3 : nxt l e2 f2 with ⟨p3, e3, f3⟩
  rcases g4 : nxt l e3 f3 with ⟨p4, e4, f4⟩
  rcases g5 : nxt l e4 f4 with ⟨p5, e5, f5⟩
  rcases g6 : nxt l e5 f5 with ⟨p6, e6, f6⟩
  rcases g7 : mny l e6 f6 with ⟨p7, e7, f7⟩
  have hq := mny_rng g7
  obtain ⟨q, rfl⟩ := Int.eq_ofNat_of_zero_le hq.1
  rcases g8 : imLS l q e7 f7 with ⟨L, e8, f8⟩
  simp only [imIns, g1, g2, g3, g4, g5, g6, g7, Int.toNat_natCast, g8, Prod.mk.injEq] at h
  obtain ⟨rfl, rfl, rfl⟩ := h
  obtain rfl := imLS_bad g8
  obtain rfl := mny_bad g7
  obtain rfl := nxt_bad g6
  obtain rfl := nxt_bad g5
  obtain rfl := nxt_bad g4
  obtain rfl := nxt_bad g3
  obtain rfl := nxt_bad g2
  obtain rfl := nxt_bad g1
  obtain ⟨_, k1, rfl, _⟩ := nxt_can hb g1
  obtain ⟨_, k2, rfl, _⟩ := nxt_can hb g2
  obtain ⟨_, k3, rfl, _⟩ := nxt_can hb g3
  obtain ⟨_, k4, rfl, _⟩ := nxt_can hb g4
  obtain ⟨_, k5, rfl, _⟩ := nxt_can hb g5
  obtain ⟨_, k6, rfl, _⟩ := nxt_can hb g6
  obtain ⟨_, k7, rfl, _⟩ := mny_can hb g7
  obtain ⟨_, hL, _, k8, rfl⟩ := imLS_can hb q _ g8
  subst hL
  refine ⟨rfl, ?_, ?_⟩
  · simp only [encIns, encL_cons, show encL [] = [] from rfl, List.append_nil, List.append_assoc, List.length_append, List.length_nil]
    simp only [Nat.add_assoc] at k1 k2 k3 k4 k5 k6 k7 k8 ⊢
    rw [k1, k2, k3, k4, k5, k6, k7, k8]
  · simp only [encIns, encL_cons, show encL [] = [] from rfl, List.append_nil, List.append_assoc, List.length_append, List.length_nil]
    omega
theorem imLI_can {l : List Int} (hb : ∀ c ∈ l, 0 ≤ c ∧ c < 256) : ∀ (k a : Nat) {bad : Bool} {xs : List Ins} {e : Int}, imLI l k a bad = (xs, e, false) →
    bad = false ∧ xs.length = k ∧ l.drop a = encInsL xs ++ l.drop (a + (encInsL xs).length) ∧ e = ((a + (encInsL xs).length : Nat) : Int)
  | 0, a, bad, xs, e, h => by
    rw [imLI] at h
    cases h
    exact ⟨rfl, rfl, by simp [encInsL], by simp [encInsL]⟩
  | k + 1, a, bad, xs, e, h => by
    rw [imLI] at h
    split at h
    · rename_i hbad
      rcases g : imIns l a bad with ⟨v, e1, b1⟩
      rw [g] at h
      simp only at h
      rcases g2 : imLI l k e1 b1 with ⟨r, e2, b2⟩
      rw [g2] at h
      simp only [Prod.mk.injEq] at h
      obtain ⟨rfl, rfl, rfl⟩ := h
      obtain rfl := imLI_bad g2
      obtain ⟨_, h2, rfl⟩ := imIns_can hb g
      obtain ⟨_, i1, i3, i4⟩ := imLI_can hb k (a + (encIns v).length) g2
      refine ⟨hbad, by simp [i1], ?_, ?_⟩
      · rw [encIL_cons, List.append_assoc, List.length_append, ← Nat.add_assoc, ← i3]; exact h2
      · rw [i4, encIL_cons, List.length_append, Nat.add_assoc]
    · rename_i hbad; simp only [Prod.mk.injEq] at h; exact absurd h.2.2 hbad
theorem imPc_can {l : List Int} (hb : ∀ c ∈ l, 0 ≤ c ∧ c < 256) {a : Nat} {bad : Bool} {i : Piece} {e : Int} (h : imPc l a bad = (i, e, false)) :
    bad = false ∧ l.drop a = encPiece i ++ l.drop (a + (encPiece i).length) ∧ e = ((a + (encPiece i).length : Nat) : Int) := by
  rcases g1 : nxt l a bad with ⟨p1, e1, f1⟩
  rcases g2 : nxt l e1 f1 with ⟨p2, e2, f2⟩
  rcases g3 : nxt l e2 f2 with ⟨p3, e3, f3⟩
  rcases g7 : mny l e3 f3 with ⟨p7, e7, f7⟩
  have hq := mny_rng g7
  obtain ⟨q, rfl⟩ := Int.eq_ofNat_of_zero_le hq.1
  rcases g8 : imLI l q e7 f7 with ⟨L, e8, f8⟩
  simp only [imPc, g1, g2, g3, g7, Int.toNat_natCast, g8, Prod.mk.injEq] at h
  obtain ⟨rfl, rfl, rfl⟩ := h
  obtain rfl := imLI_bad g8
  obtain rfl := mny_bad g7
  obtain rfl := nxt_bad g3
  obtain rfl := nxt_bad g2
  obtain rfl := nxt_bad g1
  obtain ⟨_, k1, rfl, _⟩ := nxt_can hb g1
  obtain ⟨_, k2, rfl, _⟩ := nxt_can hb g2
  obtain ⟨_, k3, rfl, _⟩ := nxt_can hb g3
  obtain ⟨_, k7, rfl, _⟩ := mny_can hb g7
  obtain ⟨_, hL, k8, rfl⟩ := imLI_can hb q _ g8
  subst hL
  refine ⟨rfl, ?_, ?_⟩
  · simp only [encPiece, encHead, encL_cons, show encL [] = [] from rfl, List.append_nil, List.append_assoc, List.length_append, List.length_nil]
    simp only [Nat.add_assoc] at k1 k2 k3 k7 k8 ⊢
    rw [k1, k2, k3, k7, k8]
  · simp only [encPiece, encHead, encL_cons, show encL [] = [] from rfl, List.append_nil, List.append_assoc, List.length_append, List.length_nil]
    omega
def imLP (b : List Int) : Nat → Int → Bool → List Piece × Int × Bool
  | 0, at_, bad => ([], at_, bad)
  | n + 1, at_, bad => if bad = false then ((imPc b at_ bad).1 :: (imLP b n (imPc b at_ bad).2.1 (imPc b at_ bad).2.2).1, (imLP b n (imPc b at_ bad).2.1 (imPc b at_ bad).2.2).2) else ([], at_, bad)
theorem imLP_go {b : List Int} {k : Nat} {at_ : Int} {bad : Bool} {v : Piece} {a1 : Int} {b1 : Bool} (hb : bad = false) (h : imPc b at_ bad = (v, a1, b1)) : imLP b (k + 1) at_ bad = (v :: (imLP b k a1 b1).1, (imLP b k a1 b1).2) := by rw [imLP, if_pos hb, h]
theorem imLP_stop {b : List Int} {k : Nat} {at_ : Int} {bad : Bool} (h : k = 0 ∨ bad = true) : imLP b k at_ bad = ([], at_, bad) := by
  cases k with
  | zero => rfl
  | succ k => rw [imLP, if_neg (by rcases h with h | h <;> simp_all)]
theorem imLP_bad {l : List Int} {k : Nat} {a : Int} {bad : Bool} {n : List Piece} {e : Int} (h : imLP l k a bad = (n, e, false)) : bad = false := by
  cases bad with
  | false => rfl
  | true => rw [imLP_stop (.inr rfl)] at h; cases h
theorem imLP_can {l : List Int} (hb : ∀ c ∈ l, 0 ≤ c ∧ c < 256) : ∀ (k a : Nat) {bad : Bool} {xs : List Piece} {e : Int}, imLP l k a bad = (xs, e, false) →
    bad = false ∧ xs.length = k ∧ l.drop a = encFuns xs ++ l.drop (a + (encFuns xs).length) ∧ e = ((a + (encFuns xs).length : Nat) : Int)
  | 0, a, bad, xs, e, h => by
    rw [imLP] at h
    cases h
    exact ⟨rfl, rfl, by simp [encFuns], by simp [encFuns]⟩
  | k + 1, a, bad, xs, e, h => by
    rw [imLP] at h
    split at h
    · rename_i hbad
      rcases g : imPc l a bad with ⟨v, e1, b1⟩
      rw [g] at h
      simp only at h
      rcases g2 : imLP l k e1 b1 with ⟨r, e2, b2⟩
      rw [g2] at h
      simp only [Prod.mk.injEq] at h
      obtain ⟨rfl, rfl, rfl⟩ := h
      obtain rfl := imLP_bad g2
      obtain ⟨_, h2, rfl⟩ := imPc_can hb g
      obtain ⟨_, i1, i3, i4⟩ := imLP_can hb k (a + (encPiece v).length) g2
      refine ⟨hbad, by simp [i1], ?_, ?_⟩
      · rw [encFuns_cons, List.append_assoc, List.length_append, ← Nat.add_assoc, ← i3]; exact h2
      · rw [i4, encFuns_cons, List.length_append, Nat.add_assoc]
    · rename_i hbad; simp only [Prod.mk.injEq] at h; exact absurd h.2.2 hbad
theorem imLP_put {l : List Int} : ∀ (xs : List Piece) (a : Nat) (t : List Int), (∀ x ∈ xs, x.nums) → l.drop a = encFuns xs ++ t → imLP l xs.length a false = (xs, ((a + (encFuns xs).length : Nat) : Int), false)
  | [], a, t, _, _ => by simp [imLP, encFuns]
  | x :: r, a, t, hx, h => by
    rw [encFuns_cons, List.append_assoc] at h
    have h1 := imPc_put (hx x (List.mem_cons_self ..)) h
    have h2 := imLP_put r (a + (encPiece x).length) t (fun y hy => hx y (List.mem_cons_of_mem _ hy)) (drop_add h)
    rw [List.length_cons, imLP, if_pos rfl, h1]
    simp only [h2, encFuns_cons, List.length_append, Nat.add_assoc]
theorem encPiece_pos (p : Piece) : 1 ≤ (encPiece p).length := by
  have := encN_pos p.lam
  simp only [encPiece, encHead, encL_cons, List.length_append]; omega
theorem encFuns_ge (l : List Piece) : l.length ≤ (encFuns l).length := by
  induction l with
  | nil => simp
  | cons x r ih =>
    have := encPiece_pos x
    rw [encFuns_cons, List.length_append, List.length_cons]; omega
/-- a whole code read, by the program's way -/
def imCd (b : List Int) : Code × Int × Bool :=
  let m := mny b 2 false
  let l := imLP b m.1.toNat m.2.1 m.2.2
  let p := imPc b l.2.1 l.2.2
  (⟨l.1, p.1⟩, p.2)
theorem imCd_put {c : Code} (hc : c.nums) : imCd (putB c) = (c, ((putB c).length : Int), false) := by
  obtain ⟨h1, h2, h3⟩ := hc
  have hd : (putB c).drop 2 = encN (c.funs.length : Int) ++ (encFuns c.funs ++ (encPiece c.main ++ [])) := by simp [putB]
  have hg := encFuns_ge c.funs
  have g1 := mny_put (c := c.funs.length) (by simp only [List.length_append]; omega) (by omega) hd
  have d1 := drop_add hd
  have g2 := imLP_put c.funs _ _ h2 d1
  have d2 := drop_add d1
  have g3 := imPc_put h3 d2
  have g0 : mny (putB c) 2 false = ((c.funs.length : Int), ((2 + (encN (c.funs.length : Int)).length : Nat) : Int), false) := g1
  simp only [imCd, g0, Int.toNat_natCast, g2, g3]
  simp only [Prod.mk.injEq, and_true, true_and]
  simp [putB]; omega
theorem imCd_can {l : List Int} (hb : ∀ c ∈ l, 0 ≤ c ∧ c < 256) (h0 : l.take 2 = [71, 87]) {c : Code} (h : imCd l = (c, (l.length : Int), false)) : l = putB c := by
  rcases g1 : mny l 2 false with ⟨p1, e1, f1⟩
  have hq := mny_rng g1
  obtain ⟨q, rfl⟩ := Int.eq_ofNat_of_zero_le hq.1
  rcases g2 : imLP l q e1 f1 with ⟨L, e2, f2⟩
  rcases g3 : imPc l e2 f2 with ⟨p, e3, f3⟩
  simp only [imCd, g1, Int.toNat_natCast, g2, g3, Prod.mk.injEq] at h
  obtain ⟨rfl, he, rfl⟩ := h
  have hf2 : f2 = false := by
    cases f2 with
    | false => rfl
    | true =>
      exfalso
      rcases q1 : nxt l e2 true with ⟨x1, y1, z1⟩
      have b1 : z1 = true := by cases z1 with | true => rfl | false => exact absurd (nxt_bad q1) (by simp)
      subst b1
      rcases q2 : nxt l y1 true with ⟨x2, y2, z2⟩
      have b2 : z2 = true := by cases z2 with | true => rfl | false => exact absurd (nxt_bad q2) (by simp)
      subst b2
      rcases q3 : nxt l y2 true with ⟨x3, y3, z3⟩
      have b3 : z3 = true := by cases z3 with | true => rfl | false => exact absurd (nxt_bad q3) (by simp)
      subst b3
      rcases q4 : mny l y3 true with ⟨x4, y4, z4⟩
      have b4 : z4 = true := by cases z4 with | true => rfl | false => exact absurd (mny_bad q4) (by simp)
      subst b4
      simp only [imPc, q1, q2, q3, q4, imLI_stop (.inr rfl), Prod.mk.injEq] at g3
      exact absurd g3.2.2 (by simp)
  subst hf2
  obtain rfl := imLP_bad g2
  have g1' : mny l ((2 : Nat) : Int) false = ((q : Int), e1, false) := g1
  obtain ⟨_, k1, rfl, _⟩ := mny_can hb g1'
  obtain ⟨_, hL, k2, rfl⟩ := imLP_can hb q _ g2
  obtain ⟨_, k3, rfl⟩ := imPc_can hb g3
  subst hL
  have h2 : l = l.take 2 ++ l.drop 2 := (List.take_append_drop 2 l).symm
  rw [h2, h0, k1, k2, k3]
  have hz : ∀ n, n = l.length → l.drop n = [] := fun n hn => by rw [hn]; simp
  rw [hz _ (by omega)]
  simp [putB]
end Go.Proofs

set_option linter.unusedVariables false
set_option linter.unusedSimpArgs false
set_option maxHeartbeats 4000000
namespace Go.Proofs
open Go Go.Ev
set_option maxRecDepth 100000
variable {X : Rel3}
theorem in_of {n lo hi : Int} (h : rng n lo hi = true) (h1 : -1000000000 ≤ lo) (h2 : hi ≤ 1000000000) : inN n := by
  have := rng_iff.1 h; exact ⟨by omega, by omega⟩
theorem regB_in {has : Bool} {r regs : Int} (h0 : regs ≤ 400) (h : regB has r regs = true) : inN r := by
  unfold regB at h
  split at h
  · exact in_of h (by omega) (by omega)
  · have : r = 0 := by simpa using h
    subst this; exact ⟨by omega, by omega⟩
theorem insB_nums {regs n : Int} {i : Ins} (h0 : regs ≤ 400) (hn : n ≤ 600) (h : insB regs n i = true) (hl : i.op = 14 → ∀ x ∈ i.l, inN x) : i.nums := by
  have hf := insB_few h
  simp only [insB, Bool.and_eq_true] at h
  obtain ⟨⟨⟨⟨⟨⟨a1, a2⟩, a3⟩, a4⟩, a5⟩, a6⟩, a7⟩ := h
  refine ⟨in_of a1 (by omega) (by omega), regB_in h0 a2, regB_in h0 a3, regB_in h0 a4, ?_, ?_, hf, ?_⟩
  · unfold numB at a7
    repeat' split at a7
    · exact in_of a7 (by omega) (by omega)
    · exact in_of a7 (by omega) (by omega)
    · exact in_of a7 (by omega) (by omega)
    · simp only [Bool.and_eq_true] at a7; exact in_of a7.2.1 (by omega) (by omega)
    · simp only [Bool.and_eq_true, beq_iff_eq] at a7; rw [a7.2.1]; exact ⟨by omega, by omega⟩
    · have : i.n = 0 := by simpa using a7
      rw [this]; exact ⟨by omega, by omega⟩
  · split at a5
    · exact in_of a5 (by omega) (by omega)
    · have : i.to_ = 0 := by simpa using a5
      rw [this]; exact ⟨by omega, by omega⟩
  · by_cases h8 : i.op = 8
    · unfold numB at a7
      rw [if_neg (by omega), if_neg (by omega), if_neg (by omega), if_pos h8] at a7
      simp only [Bool.and_eq_true] at a7
      have h1 := a7.1
      simp only [allR, List.all_eq_true] at h1
      exact fun x hx => in_of (h1 x hx) (by omega) (by omega)
    · by_cases h14 : i.op = 14
      · exact hl h14
      · have : i.l = [] := by simpa [h8, h14] using a6
        rw [this]; simp
theorem pieceB_lam {p : Piece} (h : pieceB p = true) : p.lam ≤ 149 ∧ -1 ≤ p.lam := by
  simp only [pieceB, Bool.and_eq_true] at h
  have := headB_iff.1 h.1
  omega
theorem idx_has {α : Type} {f : α → Bool} {l : List α} {k : Nat} (h : ¬ idx f l k < 0) : ∃ x ∈ l, f x = true := by
  have : l.any f = true := by rw [← idx_any (k := k)]; simpa using h
  simpa using this
theorem pieceB_nums {funs : List Piece} {p : Piece} (hfu : ∀ q ∈ funs, pieceB q = true) (h : pieceB p = true) (hl : lamsB funs p.ins = true) : p.nums := by
  have hf := pieceB_few h
  simp only [pieceB, Bool.and_eq_true] at h
  have hh := headB_iff.1 h.1
  have h2 := h.2.1
  simp only [allI, List.all_eq_true] at h2
  simp only [lamsB, List.all_eq_true] at hl
  refine ⟨⟨by omega, by omega⟩, ⟨by omega, by omega⟩, ⟨by omega, by omega⟩, hf.1, fun i hi => ?_⟩
  refine insB_nums (by omega) (by omega) (h2 i hi) (fun h14 x hx => ?_)
  have h3 := hl i hi
  unfold lamI at h3
  rw [if_neg (by omega), if_pos h14] at h3
  simp only [allF, List.all_eq_true] at h3
  have h4 := h3 x hx
  have h5 : ¬ funAt funs x < 0 := by simpa using h4
  obtain ⟨q, hq, he⟩ := idx_has h5
  have he : q.lam = x := by simpa using he
  have := pieceB_lam (hfu q hq)
  exact ⟨by omega, by omega⟩
theorem codeB_nums {c : Code} (h : codeB c = true) : c.nums := by
  have hf := codeB_few h
  simp only [codeB, Bool.and_eq_true, decide_eq_true_eq] at h
  obtain ⟨_, ⟨h1, h2⟩, h3, h4⟩ := h
  simp only [allP, List.all_eq_true] at h4
  have hfu : ∀ q ∈ c.funs, pieceB q = true := fun q hq => by
    have := h4 q hq
    simp only [fB, Bool.and_eq_true] at this
    exact this.2.1
  refine ⟨hf.1, fun p hp => ?_, pieceB_nums hfu h1 h2⟩
  have := h4 p hp
  simp only [fB, Bool.and_eq_true] at this
  exact pieceB_nums hfu this.2.1 this.2.2
end Go.Proofs

set_option linter.unusedVariables false
set_option linter.unusedSimpArgs false
set_option maxHeartbeats 4000000
namespace Go.Proofs
open Go Go.Ev
set_option maxRecDepth 100000
variable {X : Rel3}
theorem mny_rng' (b : List Int) (at_ : Int) (bad : Bool) : (mny b at_ bad).1.toNat ≤ b.length := by
  rcases h : mny b at_ bad with ⟨o, a1, b1⟩
  have := mny_rng h
  simp only
  omega
theorem imLS_len {b : List Int} : ∀ (k : Nat) (at_ : Int) (bad : Bool), (imLS b k at_ bad).1.length ≤ k
  | 0, at_, bad => by simp [imLS]
  | k + 1, at_, bad => by
    rw [imLS]; split
    · simp only [List.length_cons]
      have := imLS_len (b := b) k (nxt b at_ bad).2.1 (nxt b at_ bad).2.2
      omega
    · simp
theorem imLS_le {b : List Int} (hl : b.length ≤ 1000000000000) : ∀ (k : Nat) {at_ : Int} {bad : Bool}, at_ ≤ 9223372036854775807 → (imLS b k at_ bad).2.1 ≤ 9223372036854775807
  | 0, at_, bad, ha => ha
  | k + 1, at_, bad, ha => by
    rw [imLS]; split
    · exact imLS_le hl k (nxt_le hl ha)
    · exact ha
theorem imIns_le {b : List Int} {at_ : Int} {bad : Bool} (hl : b.length ≤ 1000000000000) (ha : at_ ≤ 9223372036854775807) : (imIns b at_ bad).2.1 ≤ 9223372036854775807 := by
  simp only [imIns]
  exact imLS_le hl _ (mny_le hl (nxt_le hl (nxt_le hl (nxt_le hl (nxt_le hl (nxt_le hl (nxt_le hl ha)))))))
theorem imIns_len {b : List Int} {at_ : Int} {bad : Bool} : (imIns b at_ bad).1.l.length ≤ b.length := by
  simp only [imIns]
  exact Nat.le_trans (imLS_len _ _ _) (mny_rng' _ _ _)
theorem imLI_len {b : List Int} : ∀ (k : Nat) (at_ : Int) (bad : Bool), (imLI b k at_ bad).1.length ≤ k ∧ ∀ i ∈ (imLI b k at_ bad).1, i.l.length ≤ b.length
  | 0, at_, bad => by simp [imLI]
  | k + 1, at_, bad => by
    rw [imLI]; split
    · obtain ⟨h1, h2⟩ := imLI_len (b := b) k (imIns b at_ bad).2.1 (imIns b at_ bad).2.2
      refine ⟨by simp only [List.length_cons]; omega, fun i hi => ?_⟩
      rcases List.mem_cons.1 hi with rfl | hi
      · exact imIns_len
      · exact h2 i hi
    · simp
theorem imLI_le {b : List Int} (hl : b.length ≤ 1000000000000) : ∀ (k : Nat) {at_ : Int} {bad : Bool}, at_ ≤ 9223372036854775807 → (imLI b k at_ bad).2.1 ≤ 9223372036854775807
  | 0, at_, bad, ha => ha
  | k + 1, at_, bad, ha => by
    rw [imLI]; split
    · exact imLI_le hl k (imIns_le hl ha)
    · exact ha
theorem imPc_le {b : List Int} {at_ : Int} {bad : Bool} (hl : b.length ≤ 1000000000000) (ha : at_ ≤ 9223372036854775807) : (imPc b at_ bad).2.1 ≤ 9223372036854775807 := by
  simp only [imPc]
  exact imLI_le hl _ (mny_le hl (nxt_le hl (nxt_le hl (nxt_le hl ha))))
theorem imPc_e {b : List Int} {at_ : Int} {bad : Bool} {o : Piece} {a1 : Int} {b1 : Bool} (h : imPc b at_ bad = (o, a1, b1)) (hl : b.length ≤ 1048576) (ha : at_ ≤ 9223372036854775807) : a1 ≤ 9223372036854775807 ∧ o.ok := by
  have h1 := imPc_le (b := b) (bad := bad) (by omega) ha
  have h2 : (imPc b at_ bad).1.ok := by
    simp only [imPc]
    refine ⟨Nat.le_trans (imLI_len _ _ _).1 (Nat.le_trans (mny_rng' _ _ _) hl), fun i hi => Nat.le_trans ((imLI_len _ _ _).2 i hi) hl⟩
  rw [h] at h1 h2; exact ⟨h1, h2⟩
theorem piece_e {b : List Int} {at_ : Int} {bad : Bool} {o : Piece} {a1 : Int} {b1 : Bool} (h : imPc b at_ bad = (o, a1, b1)) (hl : b.length ≤ 1048576) (hb : ∀ c ∈ b, 0 ≤ c ∧ c < 256) (ha : at_ ≤ 9223372036854775807) : Tells Try.prog E0 X 48 [rdA b at_ bad] (.io [o.a true, rdA b a1 b1]) := by
  have := piece_t (X := X) b at_ bad (by omega) hb ha
  rw [h] at this; exact this
theorem strR_U (l : List Int) : strR (l.map uR) = ⟨(l.map fun n => UInt8.ofNat n.toNat).toArray⟩ := by
  unfold strR; rw [List.map_map]; rfl
theorem u8_inj {x y : Int} (hx : 0 ≤ x ∧ x < 256) (hy : 0 ≤ y ∧ y < 256) (h : UInt8.ofNat x.toNat = UInt8.ofNat y.toNat) : x = y := by
  have h := congrArg UInt8.toNat h
  simp only [UInt8.toNat_ofNat'] at h
  omega
theorem map_inj8 : ∀ {l m : List Int}, (∀ c ∈ l, 0 ≤ c ∧ c < 256) → (∀ c ∈ m, 0 ≤ c ∧ c < 256) → (l.map fun n => UInt8.ofNat n.toNat) = (m.map fun n => UInt8.ofNat n.toNat) → l = m
  | [], [], _, _, _ => rfl
  | [], y :: m, _, _, h => by simp at h
  | x :: l, [], _, _, h => by simp at h
  | x :: l, y :: m, hl, hm, h => by
    simp only [List.map_cons, List.cons.injEq] at h
    have h1 := u8_inj (hl x (List.mem_cons_self ..)) (hm y (List.mem_cons_self ..)) h.1
    have h2 := map_inj8 (fun c hc => hl c (List.mem_cons_of_mem _ hc)) (fun c hc => hm c (List.mem_cons_of_mem _ hc)) h.2
    rw [h1, h2]
theorem strR_eq {l m : List Int} (hl : ∀ c ∈ l, 0 ≤ c ∧ c < 256) (hm : ∀ c ∈ m, 0 ≤ c ∧ c < 256) : ((strR (l.map uR)).toList == (strR (m.map uR)).toList) = decide (l = m) := by
  rw [strR_U, strR_U, ByteArray.toList_mk, ByteArray.toList_mk]
  by_cases h : l = m
  · subst h; simp
  · rw [decide_eq_false h]
    exact beq_eq_false_iff_ne.2 fun e => h (map_inj8 hl hm e)
theorem isU (l : List Int) : ∀ r ∈ l.map uR, r = [.sc (.int .u8 (numR r))] := by
  intro r hr; obtain ⟨a, _, rfl⟩ := List.mem_map.1 hr; rfl
theorem Equal_t (a b : List Int) (ha : ∀ c ∈ a, 0 ≤ c ∧ c < 256) (hb : ∀ c ∈ b, 0 ≤ c ∧ c < 256) : Tells Try.prog E0 X 46 [.t (.sl false (a.map uR)), .t (.sl false (b.map uR))] (bA (decide (a = b))) := by
  refine Tells.by Try.func46 (by simp [Try.f46]) (Body.i rfl rfl rfl (fun _ => rfl) fun f => ?_)
  repeat' (first
     | refine wp_seq_i ?_ | refine wp_region_i ?_ | refine Run.done rfl ?_ | refine then_n ?_ | refine then_r ?_ | refine then_e ?_ | refine Run.go1 rfl ?_ | refine wp_skip_i ?_ | refine wp_ret_i ?_ | refine wp_exit_i ?_
     | refine wp_block_i ?_ | refine block_n ?_ | refine block_r ?_ | refine block_e ?_ | refine block_o rfl ?_ | refine wp_cond_t rfl ?_ | refine wp_cond_f rfl ?_ | refine Run.cnd4 rfl rfl rfl (isU _) ?_
     | (refine wp_cond_k rfl rfl rfl ?_ ?_ <;> intro _) | (refine wp_cond_i rfl ?_ ?_ <;> intro _))
  refine ret_m [] rfl rfl ?_
  rw [← strR_eq ha hb]
end Go.Proofs

set_option linter.unusedVariables false
set_option linter.unusedSimpArgs false
set_option maxHeartbeats 4000000
namespace Go.Proofs
open Go Go.Ev
set_option maxRecDepth 100000
variable {X : Rel3}
def k_PutCodeI : List (Nat × List Nat) := [(0, [1]), (1, [1, 10]), (2, [2]), (3, [1, 3]), (4, [3, 24, 25, 26]), (5, [3, 24, 25, 26, 27]), (6, [3, 5, 24, 25, 26]), (7, [3, 5, 24, 25, 26]), (8, [3, 24, 25, 26, 43, 44, 45]), (9, [3, 24, 25, 26, 43, 44, 45, 46]), (10, [3, 7, 24, 25, 26, 43, 44, 45]), (11, [3, 7, 24, 25, 26, 43, 44, 45]), (12, [3, 24, 25, 26, 43, 44, 45]), (13, [3, 24, 25, 26, 43, 44, 45]), (14, [3, 24, 25, 26]), (15, [2])]
theorem PutCodeI_t (c : Code) (hc : c.ok) : Tells Try.prog E0 X 10 [c.a false] (.t (.sl true ((codeBytes c).map uR))) := by
  have hN : Tells Try.prog E0 X 38 [.t (.sl false (shrR [[.sc (.int .u8 71)], [.sc (.int .u8 87)]])), .t (.sl false [[iT ((c.funs.map (Piece.c false)).length : Int)]])] (.t (.sl true (([71, 87] ++ encN ((c.funs.map (Piece.c false)).length : Int)).map uR))) := putAll1_t [71, 87] _ (by simp)
  generalize hfl : c.funs ++ [c.main] = fl
  have hrows : c.funs.map (Piece.c false) ++ [Piece.c false c.main] = fl.map (Piece.c false) := by rw [← hfl]; simp
  refine Tells.by Try.func10 (by simp [Try.f10]) (Body.i rfl rfl rfl (fun _ => rfl) fun f => ?_)
  repeat' (first
     | refine wp_seq_i ?_ | refine wp_region_t k_PutCodeI rfl ?_ | refine Run.done rfl ?_ | refine then_n ?_ | refine then_r ?_ | refine then_e ?_ | refine Run.go1 rfl ?_ | refine wp_skip_i ?_ | refine wp_ret_i ?_
     | refine wp_exit_i ?_ | refine wp_block_i ?_ | refine block_n ?_ | refine block_r ?_ | refine block_e ?_ | refine block_o rfl ?_ | refine wp_cond_t rfl ?_ | refine wp_cond_f rfl ?_ | refine RunQ.go1 rfl ?_
     | refine RunQ.done rfl ?_ | refine Run.one rfl rfl rfl ?_ | refine Run.cnd4 rfl rfl rfl (by simp) ?_ | refine Run.call rfl rfl rfl (CodeOkI_t c hc) rfl rfl ?_ | refine Run.callB rfl rfl rfl (hN) (own_B _) rfl ?_
     | refine wp_region_l k_PutCodeI [0, 1, 2, 3, 4, 5, 8] [6, 7] [0, 1, 3, 0, 8, 24, 63, 127, 0] rfl (by decide +kernel) (by decide +kernel) rfl rfl ?_
     | refine RunQ.callO rfl rfl rfl rfl rfl rfl (cloneP_t _ hc.1) (.inl rfl) rfl rfl rfl ?_ | refine RunQ.build rfl rfl rfl rfl rfl rfl ?_
     | refine RunL.cnd rfl rfl rfl rfl ⟨by have := hc.1; simp; omega, by simp, by simp, .inl rfl, trivial⟩ rfl ?_ | refine RunL.one rfl rfl rfl rfl rfl ?_ | refine RunL.done ?_ | (refine wp_cond_k rfl rfl rfl ?_ ?_ <;> intro _)
     | (refine wp_cond_i rfl ?_ ?_ <;> intro _))
  · rename_i h
    have h : codeB c = false := by simpa using h
    refine ret_m [] rfl rfl ?_; simp [codeBytes, h]
  rename_i h
  have h : codeB c = true := by simpa using h
  obtain ⟨hf1, hf2, hf3⟩ := codeB_few h
  have hpl := putB_len h
  have hflen : fl.length = c.funs.length + 1 := by rw [← hfl]; simp
  have hff : ∀ p ∈ fl, p.few := by
    intro p hp
    rw [← hfl] at hp
    rcases List.mem_append.1 hp with hp | hp
    · exact hf2 p hp
    · simp at hp; subst hp; exact hf3
  have hput : putB c = [71, 87] ++ encN ((c.funs.map (Piece.c false)).length : Int) ++ encFuns fl := by rw [← hfl]; simp [putB, encFuns]
  refine wp_loop_k (α := Nat × List Int) [.keep [3, 24, 25, 26] [17, 24]] (fun p => [(26, iA p.1)]) (fun _ => []) (fun p => [(17, 0, p.2.map uR)]) (fun q => q.1 ≤ fl.length ∧ q.2 ++ encFuns (fl.drop q.1) = putB c) (fun q => fl.length - q.1) (0, [71, 87] ++ encN ((c.funs.map (Piece.c false)).length : Int)) rfl (fun _ => rfl) rfl ⟨by simp, by simp [hput]⟩ ?_
  rintro ⟨k, d⟩ ⟨hk, h3⟩
  simp only at hk h3
  have hcl : d.length ≤ 1000000000 := by
    have h4 := congrArg List.length h3
    simp only [List.length_append] at h4
    omega
  by_cases hlt : k < fl.length
  · have hx : (c.funs.map (Piece.c false) ++ [Piece.c false c.main])[k]? = some (Piece.c false fl[k]) := by rw [hrows]; exact map_at hlt
    have hf := hff _ (List.getElem_mem hlt)
    have hkn : (c.funs.map (Piece.c false) ++ [Piece.c false c.main]).length = fl.length := by rw [hrows]; simp
    rw [encFuns_step hlt] at h3
    generalize hp : fl[k] = p at hx hf h3
    have hpn := hf.1
    have hh := encHead_len p
    have hA : Tells Try.prog E0 X 38 [.t (.sl true ((d).map uR)), .t (.sl false [[iT (p.lam)], [iT (p.in_)], [iT (p.regs)], [iT (((p.ins.map (Ins.c false)).length : Int))]])] (.t (.sl true ((d ++ encHead p).map uR))) := by
      have := putAll_t (X := X) d [p.lam, p.in_, p.regs, p.ins.length] (by simp; omega)
      simpa [encHead, encIns] using this
    repeat' (first
       | refine wp_seq_i ?_ | refine wp_region_t k_PutCodeI rfl ?_ | refine Run.done rfl ?_ | refine then_n ?_ | refine then_r ?_ | refine then_e ?_ | refine Run.go1 rfl ?_ | refine wp_skip_i ?_ | refine wp_ret_i ?_
       | refine wp_exit_i ?_ | refine wp_block_i ?_ | refine block_n ?_ | refine block_r ?_ | refine block_e ?_ | refine block_o rfl ?_ | refine wp_cond_t rfl ?_ | refine wp_cond_f rfl ?_
       | refine Run.ix rfl rfl rfl rfl rfl rfl rfl hx rfl rfl rfl ?_ | refine Run.ldr rfl rfl rfl hx rfl rfl ?_ | refine Run.one rfl rfl rfl ?_ | refine Run.callB rfl rfl rfl (hA) (own_B _) rfl ?_
       | (refine wp_cond_k rfl rfl rfl ?_ ?_ <;> intro _) | (refine wp_cond_i rfl ?_ ?_ <;> intro _))
    · refine wp_loop_k (α := Nat × List Int) [.keep [3, 24, 25, 26, 43, 44, 45] [24, 41]] (fun p => [(45, iA p.1)]) (fun _ => []) (fun p => [(41, 0, p.2.map uR)]) (fun q => q.1 ≤ p.ins.length ∧ q.2 ++ encInsL (p.ins.drop q.1) = d ++ encPiece p) (fun q => p.ins.length - q.1) (0, d ++ encHead p) rfl (fun _ => rfl) rfl ⟨by simp, by simp [encPiece]⟩ ?_
      rintro ⟨j, e⟩ ⟨hj, h5⟩
      simp only at hj h5
      have hel0 : e.length ≤ 2000000000 := by
        have h6 := congrArg List.length h5
        have h7 := encPiece_len hf
        simp only [List.length_append] at h6
        omega
      by_cases hlt2 : j < p.ins.length
      · have hx2 : (p.ins.map (Ins.c false))[j]? = some (Ins.c false p.ins[j]) := map_at hlt2
        have hfi := hf.2 _ (List.getElem_mem hlt2)
        rw [encInsL_step hlt2] at h5
        generalize hi : p.ins[j] = i at hx2 hfi h5
        have hil : i.l.length ≤ 200 := hfi
        have hel := encL_len [i.op, i.d, i.x, i.y, i.n, i.to_, i.l.length]
        have hB : Tells Try.prog E0 X 38 [.t (.sl true ((e).map uR)), .t (.sl false [[iT (i.op)], [iT (i.d)], [iT (i.x)], [iT (i.y)], [iT (i.n)], [iT (i.to_)], [iT (((i.l.map iR).length : Int))]])] (.t (.sl true ((e ++ encL [i.op, i.d, i.x, i.y, i.n, i.to_, i.l.length]).map uR))) := by
          have := putAll_t (X := X) e [i.op, i.d, i.x, i.y, i.n, i.to_, i.l.length] (by simp; omega)
          simpa [encHead, encIns] using this
        have hC : Tells Try.prog E0 X 38 [.t (.sl true ((e ++ encL [i.op, i.d, i.x, i.y, i.n, i.to_, i.l.length]).map uR)), .t (.sl false (i.l.map iR))] (.t (.sl true ((e ++ encIns i).map uR))) := by
          have := putAll_t (X := X) (e ++ encL [i.op, i.d, i.x, i.y, i.n, i.to_, i.l.length]) i.l (by simp only [List.length_append, List.length_cons, List.length_nil] at hel ⊢; omega)
          rw [List.append_assoc] at this; exact this
        repeat' (first
           | refine wp_seq_i ?_ | refine wp_region_t k_PutCodeI rfl ?_ | refine Run.done rfl ?_ | refine then_n ?_ | refine then_r ?_ | refine then_e ?_ | refine Run.go1 rfl ?_ | refine wp_skip_i ?_ | refine wp_ret_i ?_
           | refine wp_exit_i ?_ | refine wp_block_i ?_ | refine block_n ?_ | refine block_r ?_ | refine block_e ?_ | refine block_o rfl ?_ | refine wp_cond_t rfl ?_ | refine wp_cond_f rfl ?_
           | refine Run.ix rfl rfl rfl rfl rfl rfl rfl hx2 rfl rfl rfl ?_ | refine Run.one rfl rfl rfl ?_ | refine Run.callB rfl rfl rfl (hB) (own_B _) rfl ?_ | refine Run.callB rfl rfl rfl (hC) (own_B _) rfl ?_
           | (refine wp_cond_k rfl rfl rfl ?_ ?_ <;> intro _) | (refine wp_cond_i rfl ?_ ?_ <;> intro _))
        · refine back_i [.keep [3, 24, 25, 26, 43, 44, 45] [24, 70], .ren 70 41] (j + 1, e ++ encIns i) rfl ?_ ⟨by simp; omega, by simpa using h5⟩ (by simp; omega)
          simp only [w_succ hlt2 (by omega)]
        · rename_i h; simp [hlt2] at h
      · have hj : j = p.ins.length := by omega
        subst hj
        simp [encInsL] at h5
        repeat' (first
           | refine wp_seq_i ?_ | refine wp_region_t k_PutCodeI rfl ?_ | refine Run.done rfl ?_ | refine then_n ?_ | refine then_r ?_ | refine then_e ?_ | refine Run.go1 rfl ?_ | refine wp_skip_i ?_ | refine wp_ret_i ?_
           | refine wp_exit_i ?_ | refine wp_block_i ?_ | refine block_n ?_ | refine block_r ?_ | refine block_e ?_ | refine block_o rfl ?_ | refine wp_cond_t rfl ?_ | refine wp_cond_f rfl ?_
           | (refine wp_cond_k rfl rfl rfl ?_ ?_ <;> intro _) | (refine wp_cond_i rfl ?_ ?_ <;> intro _))
        · rename_i h; simp at h
        · refine back_i [.keep [3, 24, 25, 26] [24, 41], .ren 41 17, .ren 24 99, .ren 99 24] (k + 1, d ++ encPiece p) rfl ?_ ⟨by simp; omega, by simpa using h3⟩ (by simp; omega)
          simp only [w_succ hlt (by omega), h5]
          try rfl
    · rename_i h; simp only [hkn] at h; simp [hlt] at h
  · have hk : k = fl.length := by omega
    subst hk
    have hkn : (c.funs.map (Piece.c false) ++ [Piece.c false c.main]).length = fl.length := by rw [hrows]; simp
    simp [encFuns] at h3
    repeat' (first
       | refine wp_seq_i ?_ | refine wp_region_t k_PutCodeI rfl ?_ | refine Run.done rfl ?_ | refine then_n ?_ | refine then_r ?_ | refine then_e ?_ | refine Run.go1 rfl ?_ | refine wp_skip_i ?_ | refine wp_ret_i ?_
       | refine wp_exit_i ?_ | refine wp_block_i ?_ | refine block_n ?_ | refine block_r ?_ | refine block_e ?_ | refine block_o rfl ?_ | refine wp_cond_t rfl ?_ | refine wp_cond_f rfl ?_
       | refine Run.callB rfl rfl rfl (codeSum_s d (by omega)) (own_B _) rfl ?_ | refine Run.cnd rfl rfl rfl ⟨by simp [sumBytes]; omega, len_uR _, len_uR _, .inl rfl, by simp [flatT, sumBytes]⟩ ?_
       | (refine wp_cond_k rfl rfl rfl ?_ ?_ <;> intro _) | (refine wp_cond_i rfl ?_ ?_ <;> intro _))
    · rename_i h; simp only [hkn] at h; simp at h
    · refine ret_m [] rfl rfl ?_
      rw [codeBytes, if_pos h, ← h3]
      simp
end Go.Proofs

set_option linter.unusedVariables false
set_option linter.unusedSimpArgs false
set_option maxHeartbeats 4000000
namespace Go.Proofs
open Go Go.Ev
set_option maxRecDepth 100000
variable {X : Rel3}
theorem shr_It (l : List Int) : shrR (l.map iR) = l.map iR := by
  induction l with
  | nil => rfl
  | cons x r ih => simp [shrR, shrL, T.shr, ih]
theorem shr_Inst (l : List Ins) : shrR (l.map (Ins.c true)) = l.map (Ins.c false) := by
  induction l with
  | nil => rfl
  | cons x r ih => simp [shrR, shrL, T.shr, ih, shr_It]
theorem shr_Pt (l : List Piece) : shrR (l.map (Piece.c true)) = l.map (Piece.c false) := by
  induction l with
  | nil => rfl
  | cons x r ih => simp [shrR, shrL, T.shr, ih, shr_Inst]
/-- code whose memory is its own, to be read -/
abbrev Code.s (c : Code) : AV := .ag [.t (.sl false (shrR (c.funs.map (Piece.c true)))), iA c.main.lam, iA c.main.in_, iA c.main.regs, .t (.sl false (shrR (c.main.ins.map (Ins.c true))))]
theorem Code.s_eq (c : Code) : c.s = c.a false := by simp only [Code.s, Code.a, shr_Pt, shr_Inst]
theorem own_I (l : List Int) : ownR (l.map iR) := by
  induction l with
  | nil => simp [ownR]
  | cons x r ih => simp [ownR, ownL, T.own, ih]
theorem own_Ins (l : List Ins) : ownR (l.map (Ins.c true)) := by
  induction l with
  | nil => simp [ownR]
  | cons x r ih => simp [ownR, ownL, T.own, ih, own_I]
theorem own_P (l : List Piece) : ownR (l.map (Piece.c true)) := by
  induction l with
  | nil => simp [ownR]
  | cons x r ih => simp [ownR, ownL, T.own, ih, own_Ins]
theorem szIntS_ok {l : List Int} {left : Int} (hl : l.length ≤ 9223372036854775807) (h0 : 0 ≤ left ∧ left ≤ 1048576) (h : ¬ szIntS l left < 0) : l.length ≤ 1048576 ∧ 0 ≤ szIntS l left ∧ szIntS l left ≤ 1048576 := by
  unfold szIntS at h ⊢
  rw [w64 (by omega) (by omega)] at h ⊢
  split at h
  · omega
  · rename_i h1; rw [if_neg h1]; omega
theorem szIns_ok {i : Ins} {left : Int} (hl : i.l.length ≤ 9223372036854775807) (h0 : 0 ≤ left ∧ left ≤ 1048576) (h : ¬ szIns i left < 0) : i.l.length ≤ 1048576 ∧ 0 ≤ szIns i left ∧ szIns i left ≤ 1048576 := by
  unfold szIns at h ⊢
  split at h
  · omega
  · rename_i h1; rw [if_neg h1]; exact szIntS_ok hl h0 h1
theorem szL_ok {α : Type} {f : α → Int → Int} {ok : α → Prop} {pre : α → Prop} (hf : ∀ x left, pre x → 0 ≤ left ∧ left ≤ 1048576 → ¬ f x left < 0 → ok x ∧ 0 ≤ f x left ∧ f x left ≤ 1048576) :
    ∀ {l : List α} {left : Int}, (∀ x ∈ l, pre x) → 0 ≤ left ∧ left ≤ 1048576 → ¬ szL f l left < 0 → (∀ x ∈ l, ok x) ∧ 0 ≤ szL f l left ∧ szL f l left ≤ 1048576 := by
  intro l
  induction l with
  | nil => intro left _ h0 h; exact ⟨by simp, h0⟩
  | cons x r ih =>
    intro left hp h0 h
    rw [szL] at h ⊢
    split at h
    · omega
    · rename_i h1
      rw [if_neg h1]
      obtain ⟨a1, a2⟩ := hf x left (hp x (List.mem_cons_self ..)) h0 h1
      obtain ⟨b1, b2⟩ := ih (fun y hy => hp y (List.mem_cons_of_mem _ hy)) a2 h
      refine ⟨fun y hy => ?_, b2⟩
      rcases List.mem_cons.1 hy with rfl | hy
      · exact a1
      · exact b1 y hy
def Ins.len (i : Ins) : Prop := i.l.length ≤ 9223372036854775807
def Piece.len (p : Piece) : Prop := p.ins.length ≤ 9223372036854775807 ∧ ∀ i ∈ p.ins, i.len
def Code.len (c : Code) : Prop := c.funs.length ≤ 9223372036854775807 ∧ (∀ p ∈ c.funs, p.len) ∧ c.main.len
theorem szInsS_ok {l : List Ins} {left : Int} (hl : l.length ≤ 9223372036854775807) (hll : ∀ i ∈ l, i.len) (h0 : 0 ≤ left ∧ left ≤ 1048576) (h : ¬ szInsS l left < 0) : (l.length ≤ 1048576 ∧ ∀ i ∈ l, i.l.length ≤ 1048576) ∧ 0 ≤ szInsS l left ∧ szInsS l left ≤ 1048576 := by
  unfold szInsS at h ⊢
  rw [w64 (by omega) (by omega)] at h ⊢
  split at h
  · omega
  · rename_i h1
    rw [if_neg h1]
    obtain ⟨a, b⟩ := szL_ok (pre := Ins.len) (ok := fun i => i.l.length ≤ 1048576) (fun x left hp h0 h => szIns_ok hp h0 h) hll (by omega) h
    exact ⟨⟨by omega, a⟩, b⟩
theorem szPiece_ok {p : Piece} {left : Int} (hl : p.len) (h0 : 0 ≤ left ∧ left ≤ 1048576) (h : ¬ szPiece p left < 0) : p.ok ∧ 0 ≤ szPiece p left ∧ szPiece p left ≤ 1048576 := by
  unfold szPiece at h ⊢
  split at h
  · omega
  · rename_i h1; rw [if_neg h1]; exact szInsS_ok hl.1 hl.2 h0 h1
theorem szPieceS_ok {l : List Piece} {left : Int} (hl : l.length ≤ 9223372036854775807) (hll : ∀ i ∈ l, i.len) (h0 : 0 ≤ left ∧ left ≤ 1048576) (h : ¬ szPieceS l left < 0) : (l.length ≤ 1048576 ∧ ∀ p ∈ l, p.ok) ∧ 0 ≤ szPieceS l left ∧ szPieceS l left ≤ 1048576 := by
  unfold szPieceS at h ⊢
  rw [w64 (by omega) (by omega)] at h ⊢
  split at h
  · omega
  · rename_i h1
    rw [if_neg h1]
    obtain ⟨a, b⟩ := szL_ok (pre := Piece.len) (ok := Piece.ok) (fun x left hp h0 h => szPiece_ok hp h0 h) hll (by omega) h
    exact ⟨⟨by omega, a⟩, b⟩
theorem szCode_ok {c : Code} (hl : c.len) (h : ¬ szCode c 1048576 < 0) : c.ok := by
  unfold szCode at h
  split at h
  · omega
  · rename_i h1
    obtain ⟨⟨a1, a2⟩, a3⟩ := szPieceS_ok hl.1 hl.2.1 (by omega) h1
    split at h
    · omega
    · rename_i h2
      exact ⟨a1, a2, (szPiece_ok hl.2.2 a3 h2).1⟩
theorem nx_up {k : Int} (h0 : 0 ≤ k) (h : k ≤ 9223372036854775806) : nx k = k + 1 := by unfold nx; rw [w64] <;> omega
theorem mk_up : ∀ (l : List Int) (k : Int), 0 ≤ k → k + l.length ≤ 9223372036854775807 → (mk l k).2 = k + l.length
  | [], k, _, _ => by simp [mk]
  | x :: r, k, h0, h => by
    simp only [List.length_cons] at h ⊢
    have e : IntKind.i64.wrap (k + 1) = k + 1 := by rw [w64] <;> omega
    rw [mk, e]
    have := mk_up r (k + 1) (by omega) (by omega)
    simp only; omega
theorem mkB_up : ∀ (l : List Int) (k : Int), 0 ≤ k → k + l.length ≤ 9223372036854775806 → (mkB l k).2 = k + l.length
  | [], k, _, _ => by simp [mkB]
  | x :: r, k, h0, h => by
    simp only [List.length_cons] at h ⊢
    rw [mkB, nx_up h0 (by omega)]
    have := mkB_up r (k + 1) (by omega) (by omega)
    simp only; omega
theorem heB_mkB : ∀ (l : List Int) (k : Int), heB (mkB l k).1 k = (mkB l k).2
  | [], k => rfl
  | x :: r, k => by rw [mkB, heB, if_pos rfl]; exact heB_mkB r (nx k)
theorem mkB_len' (l : List Int) (k : Int) : (mkB l k).1.length = l.length := mkB_len l k
theorem mkIns_up {i : Ins} {k : Int} (hi : i.l.length ≤ 1048576) (h0 : 0 ≤ k) (h : k ≤ 9223372036850000000) : 0 ≤ (mkIns i k).2 ∧ (mkIns i k).2 ≤ k + 1048583 := by
  unfold mkIns
  simp only
  rw [nx_up h0 (by omega), nx_up (k := k + 1) (by omega) (by omega), nx_up (k := k + 1 + 1) (by omega) (by omega), nx_up (k := k + 1 + 1 + 1) (by omega) (by omega), nx_up (k := k + 1 + 1 + 1 + 1) (by omega) (by omega)]
  have h2 := mk_up i.l (k + 1 + 1 + 1 + 1 + 1) (by omega) (by omega)
  rw [h2, nx_up (by omega) (by omega)]
  omega
theorem mkInsS_up : ∀ {l : List Ins} {k : Int}, (∀ i ∈ l, i.l.length ≤ 1048576) → 0 ≤ k → k + 1048583 * l.length ≤ 9223372036850000000 → 0 ≤ (mkInsS l k).2 ∧ (mkInsS l k).2 ≤ k + 1048583 * l.length
  | [], k, _, h0, _ => by simp [mkInsS]; exact h0
  | i :: r, k, hl, h0, h => by
    simp only [List.length_cons] at h ⊢
    obtain ⟨a, b⟩ := mkIns_up (hl i (List.mem_cons_self ..)) h0 (by omega)
    obtain ⟨c, d⟩ := mkInsS_up (fun j hj => hl j (List.mem_cons_of_mem _ hj)) a (by omega)
    rw [mkInsS]
    simp only; omega
theorem mkPiece_up {p : Piece} {k : Int} (hp : p.ok) (h0 : 0 ≤ k) (h : k ≤ 9222000000000000000) : 0 ≤ (mkPiece p k).2 ∧ (mkPiece p k).2 ≤ k + 1099518968000 := by
  unfold mkPiece
  simp only
  have h1 := hp.1
  rw [nx_up h0 (by omega), nx_up (k := k + 1) (by omega) (by omega), nx_up (k := k + 1 + 1) (by omega) (by omega)]
  have := mkInsS_up (k := k + 1 + 1 + 1) hp.2 (by omega) (by omega)
  omega
theorem mkPieceS_up : ∀ {l : List Piece} {k : Int}, (∀ p ∈ l, p.ok) → 0 ≤ k → k + 1099518968000 * l.length ≤ 9222000000000000000 → 0 ≤ (mkPieceS l k).2 ∧ (mkPieceS l k).2 ≤ k + 1099518968000 * l.length
  | [], k, _, h0, _ => by simp [mkPieceS]; exact h0
  | i :: r, k, hl, h0, h => by
    simp only [List.length_cons] at h ⊢
    obtain ⟨a, b⟩ := mkPiece_up (hl i (List.mem_cons_self ..)) h0 (by omega)
    obtain ⟨c, d⟩ := mkPieceS_up (fun j hj => hl j (List.mem_cons_of_mem _ hj)) a (by omega)
    rw [mkPieceS]
    simp only; omega
theorem mkCode_up {c : Code} (hc : c.ok) : ¬ (mkInsS c.main.ins (mkPieceS c.funs 1).2).2 < 0 := by
  have h1 := hc.1
  have h2 := hc.2.2.1
  obtain ⟨a, b⟩ := mkPieceS_up (k := 1) hc.2.1 (by omega) (by omega)
  have := (mkInsS_up (k := (mkPieceS c.funs 1).2) hc.2.2.2 a (by omega)).1
  omega
end Go.Proofs

set_option linter.unusedVariables false
set_option linter.unusedSimpArgs false
set_option maxHeartbeats 4000000
namespace Go.Proofs
open Go Go.Ev
set_option maxRecDepth 100000
variable {X : Rel3}
theorem codeBytes_len {c : Code} : (codeBytes c).length ≤ 300000000 := by
  unfold codeBytes
  split
  · rename_i h
    have := putB_len h
    simp [sumBytes]; omega
  · simp
end Go.Proofs

set_option linter.unusedVariables false
set_option linter.unusedSimpArgs false
set_option maxHeartbeats 4000000
namespace Go.Proofs
open Go Go.Ev
set_option maxRecDepth 100000
variable {X : Rel3}
theorem map_getD {l : List Int} {j : Nat} (h : j < l.length) : (l.map uR)[j]? = some (uR (l.getD j 0)) := by
  rw [List.getElem?_map, List.getD_eq_getElem?_getD, List.getElem?_eq_getElem h]; rfl
def sumHi (n : Int) : Int := n.fdiv (2 ^ min (Int.toNat 8) IntKind.i64.bits)
def sumLo (n : Int) : Int := IntKind.i64.wrap (BitVec.ofInt IntKind.i64.bits n &&& BitVec.ofInt IntKind.i64.bits 255).toNat
def Code.z : Code := ⟨[], Piece.z⟩
noncomputable def getS (b : List Int) : Code × Int :=
  if b.length < 4 then (Code.z, 1)
  else if ¬ (b.getD 0 0 = 71 ∧ b.getD 1 0 = 87) then (Code.z, 1)
  else if ¬ (IntKind.i64.wrap (b.getD (b.length - 2) 0) = sumHi (sumB (b.take (b.length - 2)) 0) ∧ IntKind.i64.wrap (b.getD (b.length - 1) 0) = sumLo (sumB (b.take (b.length - 2)) 0)) then (Code.z, 2)
  else if (rdCd (b.take (b.length - 2))).2.2 = true ∨ codeB (rdCd (b.take (b.length - 2))).1 = false ∨ codeBytes (rdCd (b.take (b.length - 2))).1 ≠ b then (Code.z, 3)
  else ((rdCd (b.take (b.length - 2))).1, 0)
def k_GetCodeS : List (Nat × List Nat) := [(0, [0, 2]), (1, [0, 2, 4]), (2, [0, 2, 4, 25]), (3, [2, 3]), (4, [0, 2, 4, 5]), (5, [0, 2, 4, 51]), (6, [2, 3]), (7, [0, 2, 6]), (8, [0, 2, 6, 7]), (9, [0, 2, 6, 7, 8]), (10, [0, 2, 6, 7, 8, 9]), (11, [0, 2, 6, 7, 8, 9, 75]), (12, [0, 2, 6, 7, 8, 9]), (13, [0, 2, 6, 7, 8, 9]), (14, [0, 2, 6, 7]), (15, [2, 7, 103]), (16, [2, 3]), (17, [2, 3])]
theorem GetCodeS_t (b : List Int) (hl : b.length ≤ 1048576) (hb : ∀ c ∈ b, 0 ≤ c ∧ c < 256) : Tells Try.prog E0 X 16 [.t (.sl false (b.map uR))] (.tp [(getS b).1.a true, iA (getS b).2]) := by
  by_cases h4 : b.length < 4
  · have hg : getS b = (Code.z, 1) := if_pos h4
    rw [hg]
    refine Tells.by Try.func16 (by simp [Try.f16]) (Body.i rfl rfl rfl (fun _ => rfl) fun f => ?_)
    repeat' (first
       | refine wp_seq_i ?_ | refine wp_region_t k_GetCodeS rfl ?_ | refine Run.done rfl ?_ | refine then_n ?_ | refine then_r ?_ | refine then_e ?_ | refine Run.go1 rfl ?_ | refine wp_skip_i ?_ | refine wp_ret_i ?_
       | refine wp_exit_i ?_ | refine wp_block_i ?_ | refine block_n ?_ | refine block_r ?_ | refine block_e ?_ | refine block_o rfl ?_ | refine wp_cond_t rfl ?_ | refine wp_cond_f rfl ?_ | refine Run.gT rfl rfl rfl rfl ?_
       | refine Run.pT rfl rfl ?_ | (refine Run.splitG rfl rfl rfl rfl rfl rfl ?_ ?_ <;> intro _) | (refine Run.splitP rfl rfl rfl rfl ?_ ?_ <;> intro _) | (refine wp_cond_k rfl rfl rfl ?_ ?_ <;> intro _)
       | (refine wp_cond_i rfl ?_ ?_ <;> intro _))
    all_goals first
    | (refine ret_m [] rfl rfl rfl; done)
    | (exfalso; rename_i h; have h := of_decide_eq_false h; simp at h; omega)
    | trace_state
  have hx0 : (b.map uR)[0]? = some (uR (b.getD 0 0)) := map_getD (by omega)
  have hx1 : (b.map uR)[1]? = some (uR (b.getD 1 0)) := map_getD (by omega)
  have hx2 : (b.map uR)[b.length - 2]? = some (uR (b.getD (b.length - 2) 0)) := map_getD (by omega)
  have hx3 : (b.map uR)[b.length - 1]? = some (uR (b.getD (b.length - 1) 0)) := map_getD (by omega)
  have hi2 : IntKind.i64.wrap (((b.map uR).length : Int) - 2) = ((b.length - 2 : Nat) : Int) := by rw [List.length_map, w64] <;> omega
  have hi1 : IntKind.i64.wrap (((b.map uR).length : Int) - 1) = ((b.length - 1 : Nat) : Int) := by rw [List.length_map, w64] <;> omega
  have hraw : ((b.map uR).take (IntKind.i64.wrap (((b.map uR).length : Int) - 2)).toNat).drop (Int.toNat 0) = (b.take (b.length - 2)).map uR := by
    rw [hi2]; simp [List.map_take]
  have hSum : Tells Try.prog E0 X 35 [.t (.sl false (((b.map uR).take (IntKind.i64.wrap (((b.map uR).length : Int) - 2)).toNat).drop (Int.toNat 0)))] (iA (sumB (b.take (b.length - 2)) 0)) := by rw [hraw]; exact l16Sum_t _ (by simp; omega)
  rcases h1 : nxt (b.take (b.length - 2)) 2 false with ⟨m, a1, b1⟩
  have hl' : (b.take (b.length - 2)).length ≤ 1000000000000 := by simp; omega
  have hb' : ∀ c ∈ b.take (b.length - 2), 0 ≤ c ∧ c < 256 := fun c hc => hb c (List.mem_of_mem_take hc)
  have ha1 := nxt_e h1 hl' (by omega)
  have hN : Tells Try.prog E0 X 43 [.io [.t (.sl false (((b.map uR).take (IntKind.i64.wrap (((b.map uR).length : Int) - 2)).toNat).drop (Int.toNat 0))), iA 2, bA false]] (.io [iA m, rdA (b.take (b.length - 2)) a1 b1]) := by rw [hraw]; exact Next_e h1 hl' hb' (by omega)
  refine Tells.by Try.func16 (by simp [Try.f16]) (Body.i rfl rfl rfl (fun _ => rfl) fun f => ?_)
  repeat' (first
     | refine wp_seq_i ?_ | refine wp_region_t k_GetCodeS rfl ?_ | refine Run.done rfl ?_ | refine then_n ?_ | refine then_r ?_ | refine then_e ?_ | refine Run.go1 rfl ?_ | refine wp_skip_i ?_ | refine wp_ret_i ?_
     | refine wp_exit_i ?_ | refine wp_block_i ?_ | refine block_n ?_ | refine block_r ?_ | refine block_e ?_ | refine block_o rfl ?_ | refine wp_cond_t rfl ?_ | refine wp_cond_f rfl ?_ | refine Run.gT rfl rfl rfl rfl ?_
     | refine Run.pT rfl rfl ?_ | (refine Run.splitG rfl rfl rfl rfl rfl rfl ?_ ?_ <;> intro _) | (refine Run.splitP rfl rfl rfl rfl ?_ ?_ <;> intro _) | refine Run.ix rfl rfl rfl rfl rfl rfl rfl hx0 rfl rfl rfl ?_
     | refine Run.ix rfl rfl rfl rfl rfl rfl rfl hx1 rfl rfl rfl ?_ | refine Run.ix rfl rfl rfl rfl rfl rfl hi2 hx2 rfl rfl rfl ?_ | refine Run.ix rfl rfl rfl rfl rfl rfl hi1 hx3 rfl rfl rfl ?_
     | refine Run.csl rfl rfl rfl ⟨by decide, (by show (0 : Int) ≤ IntKind.i64.wrap (((b.map uR).length : Int) - 2); rw [hi2]; omega), (by show IntKind.i64.wrap (((b.map uR).length : Int) - 2) ≤ ((b.map uR).length : Int); rw [hi2, List.length_map]; omega), by simp⟩ rfl ?_
     | refine Run.call rfl rfl rfl (hSum) rfl rfl ?_ | refine Run.call rfl rfl rfl (hN) rfl rfl ?_ | (refine wp_cond_k rfl rfl rfl ?_ ?_ <;> intro _) | (refine wp_cond_i rfl ?_ ?_ <;> intro _))
  · exfalso; rename_i h; have h := of_decide_eq_true h; simp only [List.length_map] at h; omega
  · rename_i q; refine ret_m [] rfl rfl ?_; rw [getS, if_neg h4, if_pos (fun h => by rw [h.1] at q; exact absurd q (by decide))]; rfl
  · rename_i q; refine ret_m [] rfl rfl ?_; rw [getS, if_neg h4, if_pos (fun h => by rw [h.2] at q; exact absurd q (by decide))]; rfl
  · rename_i p1 p2 q
    refine ret_m [] rfl rfl ?_
    rw [getS, if_neg h4, if_neg (fun h => h ⟨by simpa only [bne_eq_false_iff_eq] using p1, by simpa only [bne_eq_false_iff_eq] using p2⟩), if_pos (fun h => (bne_iff_ne.1 q) h.1)]; rfl
  · rename_i p1 p2 p3 q
    refine ret_m [] rfl rfl ?_
    rw [getS, if_neg h4, if_neg (fun h => h ⟨by simpa only [bne_eq_false_iff_eq] using p1, by simpa only [bne_eq_false_iff_eq] using p2⟩), if_pos (fun h => (bne_iff_ne.1 q) h.2)]; rfl
  rename_i p1 p2 p3 p4
  have hg3 : getS b = if (rdCd (b.take (b.length - 2))).2.2 = true ∨ codeB (rdCd (b.take (b.length - 2))).1 = false ∨ codeBytes (rdCd (b.take (b.length - 2))).1 ≠ b then (Code.z, 3) else ((rdCd (b.take (b.length - 2))).1, 0) := by
    rw [getS, if_neg h4, if_neg (fun h => h ⟨by simpa only [bne_eq_false_iff_eq] using p1, by simpa only [bne_eq_false_iff_eq] using p2⟩), if_neg (fun h => h ⟨bne_eq_false_iff_eq.1 p3, bne_eq_false_iff_eq.1 p4⟩)]
  rw [hg3]
  clear hg3 p3 p4 hSum hN hraw
  generalize b.take (b.length - 2) = e at *
  refine wp_loop_k (α := Nat × List Piece × Int × Bool) [.nilH 7 0 77, .keep [0, 2, 6, 7, 8, 9] [2, 7, 58, 77]] (fun z => [(9, iA z.1)]) (fun z => [(58, [.t (.sl false (e.map uR)), iA z.2.2.1, bA z.2.2.2])]) (fun z => [(77, 0, z.2.1.map (Piece.c true))]) (fun z => ((z.1 ≤ 201 ∧ z.2.1.length = z.1 ∧ z.2.2.1 ≤ 9223372036854775807) ∧ ∀ p ∈ z.2.1, p.ok) ∧ rdLP e m 201 0 a1 b1 = (z.2.1 ++ (rdLP e m (201 - z.1) z.1 z.2.2.1 z.2.2.2).1, (rdLP e m (201 - z.1) z.1 z.2.2.1 z.2.2.2).2)) (fun z => 201 - z.1) (0, [], a1, b1) rfl (fun _ => rfl) rfl ⟨⟨⟨by simp, rfl, ha1⟩, by simp⟩, rfl⟩ ?_
  rintro ⟨k, acc, a, bd⟩ ⟨⟨⟨hk, hacc, haa⟩, hao⟩, hr⟩
  simp only at hk hacc haa hao hr
  rcases h8 : rdPc e a bd with ⟨v, a', b'⟩
  obtain ⟨ha8, hv⟩ := rdPc_e h8 hl' haa
  have hgo := @rdLP_go e m k a bd v a' b'
  have hstop := @rdLP_stop e m k a bd hk
  have hco : (⟨acc, v⟩ : Code).ok := ⟨by simp; omega, hao, hv⟩
  have hCk : Tells Try.prog E0 X 32 [(⟨acc, v⟩ : Code).s] (bA (codeB ⟨acc, v⟩)) := by rw [Code.s_eq]; exact CodeOkS_t _ hco
  have hPc : Tells Try.prog E0 X 8 [(⟨acc, v⟩ : Code).s] (.t (.sl true ((codeBytes ⟨acc, v⟩).map uR))) := by rw [Code.s_eq]; exact PutCodeS_t _ hco
  have hSm : (codeBytes ⟨acc, v⟩).length ≤ 9223372036854775807 → Tells Try.prog E0 X 45 [.t (.sl false (shrR ((codeBytes ⟨acc, v⟩).map uR))), .t (.sl false (b.map uR))] (bA (decide (codeBytes ⟨acc, v⟩ = b))) := fun h => by rw [shr_U]; exact Same_t _ _ h
  repeat' (first
     | refine wp_seq_i ?_ | refine wp_region_t k_GetCodeS rfl ?_ | refine Run.done rfl ?_ | refine then_n ?_ | refine then_r ?_ | refine then_e ?_ | refine Run.go1 rfl ?_ | refine wp_skip_i ?_ | refine wp_ret_i ?_
     | refine wp_exit_i ?_ | refine wp_block_i ?_ | refine block_n ?_ | refine block_r ?_ | refine block_e ?_ | refine block_o rfl ?_ | refine wp_cond_t rfl ?_ | refine wp_cond_f rfl ?_ | refine RunQ.go1 rfl ?_
     | refine RunQ.done rfl ?_ | refine Run.gT rfl rfl rfl rfl ?_ | refine Run.pT rfl rfl ?_ | (refine Run.splitG rfl rfl rfl rfl rfl rfl ?_ ?_ <;> intro _) | (refine Run.splitP rfl rfl rfl rfl ?_ ?_ <;> intro _)
     | refine RunQ.gT rfl rfl rfl rfl ?_ | refine RunQ.pT rfl rfl ?_ | (refine RunQ.splitG rfl rfl rfl rfl rfl rfl ?_ ?_ <;> intro _) | (refine RunQ.splitP rfl rfl rfl rfl ?_ ?_ <;> intro _)
     | refine wp_region_l k_GetCodeS [0, 1, 2] [3, 4] [0, 1, 0, 4, 12, 31, 63, 127] rfl (by decide +kernel) (by decide +kernel) rfl rfl ?_ | refine RunL.call rfl rfl rfl rfl (Piece_e h8 hl' hb' haa) (.inl rfl) rfl rfl ?_
     | refine RunL.one rfl rfl rfl rfl rfl ?_ | refine RunL.done ?_ | refine Run.call rfl rfl rfl (Piece_e h8 hl' hb' haa) rfl rfl ?_ | refine Run.callB rfl rfl rfl (hCk) (by simp [AV.own, T.own]) rfl ?_
     | refine Run.callB rfl rfl rfl (hPc) (own_B _) rfl ?_ | refine Run.callB rfl rfl rfl (hSm (Nat.le_trans codeBytes_len (by decide))) (by simp [AV.own, T.own]) rfl ?_
     | refine Run.cnd rfl rfl rfl ⟨by simp; omega, (by intro r hr; obtain ⟨a, _, rfl⟩ := List.mem_map.1 hr; rfl), by simp, .inl rfl, by trivial⟩ ?_ | (refine wp_cond_k rfl rfl rfl ?_ ?_ <;> intro _)
     | (refine wp_cond_i rfl ?_ ?_ <;> intro _))
  · rename_i c1 c2 c3
    have c1 : (k : Int) < m := of_decide_eq_true c1
    have c2 : (k : Int) < 201 := of_decide_eq_true c2
    have hk1 : k < 201 := by omega
    have c4 : bd = false := by simpa using c3
    have hg := hgo hk1 c1 c4 h8
    refine back_i [.keep [0, 2, 6, 7, 8, 9] [2, 7, 58, 83], .ren 83 77] (k + 1, acc ++ [v], a', b') rfl ?_ ⟨⟨⟨by simp; omega, by simp [hacc], ha8⟩, ?_⟩, ?_⟩ (by simp; omega)
    · simp only [w_succ hk1 (by omega), List.map_append, List.map_cons, List.map_nil]; first | done | rfl
    · intro p hp
      rcases List.mem_append.1 hp with hp | hp
      · exact hao p hp
      · rw [List.mem_singleton.1 hp]; exact hv
    · rw [hr, hg]; simp
  all_goals (
    have hs := hstop (by
      rintro ⟨q1, q2, q3⟩
      first
      | exact absurd q1 (of_decide_eq_false (by assumption : decide ((k : Int) < m) = false))
      | exact absurd q2 (of_decide_eq_false (by assumption : decide ((k : Int) < 201) = false))
      | (have h : (!bd) = false := by assumption
         rw [q3] at h; cases h))
    rw [hs, List.append_nil] at hr
    have hcd : rdCd e = (⟨acc, v⟩, a', b') := by simp only [rdCd, h1, hr, h8]
    refine ret_m [] rfl rfl ?_
    rw [hcd]
    first
    | (have z1 : b' = true := by assumption
       rw [if_pos (Or.inl z1)] <;> rfl)
    | (have z2 : (!codeB ⟨acc, v⟩) = true := by assumption
       have z3 : codeB ⟨acc, v⟩ = false := by simpa using z2
       rw [if_pos (Or.inr (Or.inl z3))] <;> rfl)
    | (have z2 : (!decide (codeBytes ⟨acc, v⟩ = b)) = true := by assumption
       have z3 : codeBytes ⟨acc, v⟩ ≠ b := by simpa using z2
       rw [if_pos (Or.inr (Or.inr z3))] <;> rfl)
    | (have z1 : b' = false := by assumption
       have z2 : (!codeB ⟨acc, v⟩) = false := by assumption
       have z3 : (!decide (codeBytes ⟨acc, v⟩ = b)) = false := by assumption
       rw [if_neg (fun h => by
         rcases h with h | h | h
         · rw [z1] at h; cases h
         · rw [h] at z2; cases z2
         · simp at z3; exact h z3)] <;> rfl))
end Go.Proofs

set_option linter.unusedVariables false
set_option linter.unusedSimpArgs false
set_option maxHeartbeats 4000000
namespace Go.Proofs
open Go Go.Ev
set_option maxRecDepth 100000
variable {X : Rel3}
theorem u8_rng (n : Int) : 0 ≤ IntKind.u8.wrap n ∧ IntKind.u8.wrap n < 256 := by
  simp [IntKind.wrap, IntKind.bits, IntKind.signed]; omega
theorem sumBytes_rng (l : List Int) : ∀ c ∈ sumBytes l, 0 ≤ c ∧ c < 256 := by
  intro c hc
  simp only [sumBytes, List.mem_cons, List.not_mem_nil, or_false] at hc
  rcases hc with rfl | rfl
  · exact u8_rng _
  · exact u8_rng _
theorem strGW {b : List Int} (h4 : 2 ≤ b.length) (hb : ∀ c ∈ b, 0 ≤ c ∧ c < 256) : ((strR (((b.map uR).take (Int.toNat 2)).drop (Int.toNat 0))).toList == (⟨#[71, 87]⟩ : ByteArray).toList) = decide (b.getD 0 0 = 71 ∧ b.getD 1 0 = 87) := by
  match b, h4 with
  | x :: y :: r, _ =>
    have e : ((((x :: y :: r).map uR).take (Int.toNat 2)).drop (Int.toNat 0)) = [x, y].map uR := rfl
    have e2 : (⟨#[71, 87]⟩ : ByteArray) = strR ([71, 87].map uR) := rfl
    rw [e, e2, strR_eq (l := [x, y]) (m := [71, 87]) (fun c hc => hb c (by
      rcases List.mem_cons.1 hc with rfl | hc
      · exact List.mem_cons_self ..
      · rw [List.mem_singleton.1 hc]; exact List.mem_cons_of_mem _ (List.mem_cons_self ..))) (by decide)]
    simp
noncomputable def getI (b : List Int) : Code × Int :=
  if b.length < 4 then (Code.z, 1)
  else if ¬ (b.getD 0 0 = 71 ∧ b.getD 1 0 = 87) then (Code.z, 1)
  else if sumBytes (b.take (b.length - 2)) ≠ b.drop (b.length - 2) then (Code.z, 2)
  else if (imCd (b.take (b.length - 2))).2.2 = true ∨ (imCd (b.take (b.length - 2))).2.1 ≠ ((b.length - 2 : Nat) : Int) ∨ codeB (imCd (b.take (b.length - 2))).1 = false then (Code.z, 3)
  else ((imCd (b.take (b.length - 2))).1, 0)
def k_GetCodeI : List (Nat × List Nat) := [(0, [0, 2]), (1, [0, 2, 4]), (2, [0, 2, 4, 11]), (3, [2, 3]), (4, [0, 2, 4, 21]), (5, [2, 3]), (6, [2, 4, 5]), (7, [2, 4, 5, 6]), (8, [2, 4, 5, 6, 7]), (9, [2, 4, 5, 6, 7, 48]), (10, [2, 4, 5, 6, 7]), (11, [2, 4, 5, 6, 7]), (12, [2, 4, 5, 6]), (13, [2, 6, 77]), (14, [2, 3]), (15, [2, 3])]
theorem GetCodeI_t (b : List Int) (hl : b.length ≤ 1048576) (hb : ∀ c ∈ b, 0 ≤ c ∧ c < 256) : Tells Try.prog E0 X 18 [.t (.sl false (b.map uR))] (.tp [(getI b).1.a true, iA (getI b).2]) := by
  by_cases h4 : b.length < 4
  · have hg : getI b = (Code.z, 1) := if_pos h4
    rw [hg]
    refine Tells.by Try.func18 (by simp [Try.f18]) (Body.i rfl rfl rfl (fun _ => rfl) fun f => ?_)
    repeat' (first
       | refine wp_seq_i ?_ | refine wp_region_t k_GetCodeI rfl ?_ | refine Run.done rfl ?_ | refine then_n ?_ | refine then_r ?_ | refine then_e ?_ | refine Run.go1 rfl ?_ | refine wp_skip_i ?_ | refine wp_ret_i ?_
       | refine wp_exit_i ?_ | refine wp_block_i ?_ | refine block_n ?_ | refine block_r ?_ | refine block_e ?_ | refine block_o rfl ?_ | refine wp_cond_t rfl ?_ | refine wp_cond_f rfl ?_ | refine Run.gT rfl rfl rfl rfl ?_
       | refine Run.pT rfl rfl ?_ | (refine Run.splitG rfl rfl rfl rfl rfl rfl ?_ ?_ <;> intro _) | (refine Run.splitP rfl rfl rfl rfl ?_ ?_ <;> intro _) | (refine wp_cond_k rfl rfl rfl ?_ ?_ <;> intro _)
       | (refine wp_cond_i rfl ?_ ?_ <;> intro _))
    all_goals first
    | (refine ret_m [] rfl rfl rfl; done)
    | (exfalso; rename_i h; have h := of_decide_eq_false h; rw [List.length_map, w64 (by omega) (by omega)] at h; omega)
    | trace_state
  have hi2 : IntKind.i64.wrap (((b.map uR).length : Int) - 2) = ((b.length - 2 : Nat) : Int) := by rw [List.length_map, w64] <;> omega
  have hraw : ((b.map uR).take (IntKind.i64.wrap (((b.map uR).length : Int) - 2)).toNat).drop (Int.toNat 0) = (b.take (b.length - 2)).map uR := by
    rw [hi2]; simp [List.map_take]
  have hraw2 : ((b.map uR).drop (IntKind.i64.wrap (((b.map uR).length : Int) - 2)).toNat) = (b.drop (b.length - 2)).map uR := by
    rw [hi2]; simp [List.map_drop]
  have hGW := strGW (b := b) (by omega) hb
  have hl' : (b.take (b.length - 2)).length ≤ 1048576 := by simp; omega
  have hl2 : (b.take (b.length - 2)).length ≤ 1000000000000 := by omega
  have hb' : ∀ c ∈ b.take (b.length - 2), 0 ≤ c ∧ c < 256 := fun c hc => hb c (List.mem_of_mem_take hc)
  have hCS : Tells Try.prog E0 X 40 [.t (.sl false (((b.map uR).take (IntKind.i64.wrap (((b.map uR).length : Int) - 2)).toNat).drop (Int.toNat 0)))] (.t (.sl true ((sumBytes (b.take (b.length - 2))).map uR))) := by rw [hraw]; exact codeSum_t _ (by omega)
  have hEq : Tells Try.prog E0 X 46 [.t (.sl false (shrR ((sumBytes (b.take (b.length - 2))).map uR))), .t (.sl false ((b.map uR).drop (IntKind.i64.wrap (((b.map uR).length : Int) - 2)).toNat))] (bA (decide (sumBytes (b.take (b.length - 2)) = b.drop (b.length - 2)))) := by rw [shr_U, hraw2]; exact Equal_t _ _ (sumBytes_rng _) (fun c hc => hb c (List.mem_of_mem_drop hc))
  rcases h1 : mny (b.take (b.length - 2)) 2 false with ⟨m, a1, b1⟩
  have ha1 := mny_e h1 hl2 (by omega)
  have hm := mny_rng h1
  have hN : Tells Try.prog E0 X 47 [.io [.t (.sl false (((b.map uR).take (IntKind.i64.wrap (((b.map uR).length : Int) - 2)).toNat).drop (Int.toNat 0))), iA 2, bA false]] (.io [iA m, rdA (b.take (b.length - 2)) a1 b1]) := by rw [hraw]; exact many_e h1 hl2 hb' (by omega)
  refine Tells.by Try.func18 (by simp [Try.f18]) (Body.i rfl rfl rfl (fun _ => rfl) fun f => ?_)
  repeat' (first
     | refine wp_seq_i ?_ | refine wp_region_t k_GetCodeI rfl ?_ | refine Run.done rfl ?_ | refine then_n ?_ | refine then_r ?_ | refine then_e ?_ | refine Run.go1 rfl ?_ | refine wp_skip_i ?_ | refine wp_ret_i ?_
     | refine wp_exit_i ?_ | refine wp_block_i ?_ | refine block_n ?_ | refine block_r ?_ | refine block_e ?_ | refine block_o rfl ?_ | refine wp_cond_t rfl ?_ | refine wp_cond_f rfl ?_
     | refine wp_region_qt k_GetCodeI rfl 7 (by decide +kernel) rfl rfl ?_ | refine RunQ.go1 rfl ?_ | refine RunQ.done rfl ?_ | refine Run.gT rfl rfl rfl rfl ?_ | refine Run.pT rfl rfl ?_
     | (refine Run.splitG rfl rfl rfl rfl rfl rfl ?_ ?_ <;> intro _) | (refine Run.splitP rfl rfl rfl rfl ?_ ?_ <;> intro _) | refine RunQ.gT rfl rfl rfl rfl ?_ | refine RunQ.pT rfl rfl ?_
     | (refine RunQ.splitG rfl rfl rfl rfl rfl rfl ?_ ?_ <;> intro _) | (refine RunQ.splitP rfl rfl rfl rfl ?_ ?_ <;> intro _)
     | refine Run.csl rfl rfl rfl ⟨by decide, by decide, (by show (2 : Int) ≤ ((b.map uR).length : Int); rw [List.length_map]; omega), by simp⟩ rfl ?_
     | refine Run.csl rfl rfl rfl ⟨by decide, (by show (0 : Int) ≤ IntKind.i64.wrap (((b.map uR).length : Int) - 2); rw [hi2]; omega), (by show IntKind.i64.wrap (((b.map uR).length : Int) - 2) ≤ ((b.map uR).length : Int); rw [hi2, List.length_map]; omega), by simp⟩ rfl ?_
     | refine Run.csl rfl rfl rfl ⟨(by show (0 : Int) ≤ IntKind.i64.wrap (((b.map uR).length : Int) - 2); rw [hi2]; omega), (by show IntKind.i64.wrap (((b.map uR).length : Int) - 2) ≤ ((b.map uR).length : Int); rw [hi2, List.length_map]; omega), by simp⟩ rfl ?_
     | refine RunQ.csl rfl rfl rfl rfl ⟨by decide, (by show (0 : Int) ≤ IntKind.i64.wrap (((b.map uR).length : Int) - 2); rw [hi2]; omega), (by show IntKind.i64.wrap (((b.map uR).length : Int) - 2) ≤ ((b.map uR).length : Int); rw [hi2, List.length_map]; omega), by simp⟩ rfl ?_
     | refine RunQ.csl rfl rfl rfl rfl ⟨(by show (0 : Int) ≤ IntKind.i64.wrap (((b.map uR).length : Int) - 2); rw [hi2]; omega), (by show IntKind.i64.wrap (((b.map uR).length : Int) - 2) ≤ ((b.map uR).length : Int); rw [hi2, List.length_map]; omega), by simp⟩ rfl ?_
     | refine Run.cnd4 rfl rfl rfl (fun r hr => isU b r (List.mem_of_mem_take (List.mem_of_mem_drop hr))) ?_ | refine RunQ.callO rfl rfl rfl rfl rfl rfl (hCS) (.inl rfl) rfl rfl rfl ?_
     | refine Run.callB rfl rfl rfl (hEq) (by simp [AV.own, T.own]) rfl ?_ | refine Run.call rfl rfl rfl (hN) rfl rfl ?_ | (refine wp_cond_k rfl rfl rfl ?_ ?_ <;> intro _) | (refine wp_cond_i rfl ?_ ?_ <;> intro _))
  · exfalso; rename_i h; have h := of_decide_eq_true h; rw [hi2] at h; omega
  · rename_i q
    refine ret_m [] rfl rfl ?_
    rw [hGW] at q
    rw [getI, if_neg h4, if_pos (fun h => by rw [decide_eq_true h] at q; cases q)]; rfl
  · rename_i p q
    refine ret_m [] rfl rfl ?_
    rw [hGW] at p
    rw [getI, if_neg h4, if_neg (fun h => h (by simpa using p)), if_pos (by simpa using q)]; rfl
  rename_i p q
  rw [hGW] at p
  have hg3 : getI b = if (imCd (b.take (b.length - 2))).2.2 = true ∨ (imCd (b.take (b.length - 2))).2.1 ≠ ((b.length - 2 : Nat) : Int) ∨ codeB (imCd (b.take (b.length - 2))).1 = false then (Code.z, 3) else ((imCd (b.take (b.length - 2))).1, 0) := by
    rw [getI, if_neg h4, if_neg (fun h => h (by simpa using p)), if_neg (fun h => h (by simpa using q))]
  rw [hg3]
  clear hg3 p q hGW hCS hEq hN hraw hraw2
  generalize b.take (b.length - 2) = e at *
  obtain ⟨m, rfl⟩ := Int.eq_ofNat_of_zero_le hm.1
  refine wp_loop_k (α := Nat × List Piece × Int × Bool) [.nilH 6 0 77, .keep [0, 2, 4, 5, 6, 7] [2, 6, 36, 77]] (fun z => [(7, iA z.1)]) (fun z => [(36, [.t (.sl false (e.map uR)), iA z.2.2.1, bA z.2.2.2])]) (fun z => [(77, 0, z.2.1.map (Piece.c true))]) (fun z => ((z.2.1.length + z.1 ≤ e.length ∧ z.2.2.1 ≤ 9223372036854775807) ∧ ∀ p ∈ z.2.1, p.ok) ∧ imLP e m a1 b1 = (z.2.1 ++ (imLP e z.1 z.2.2.1 z.2.2.2).1, (imLP e z.1 z.2.2.1 z.2.2.2).2)) (fun z => z.1) (m, [], a1, b1) rfl (fun _ => rfl) rfl ⟨⟨⟨by simp; omega, ha1⟩, by simp⟩, rfl⟩ ?_
  rintro ⟨n, acc, a, bd⟩ ⟨⟨⟨hn, haa⟩, hao⟩, hr⟩
  simp only at hn haa hao hr
  rcases h8 : imPc e a bd with ⟨v, a', b'⟩
  obtain ⟨ha8, hv⟩ := imPc_e h8 hl' haa
  have hco : (⟨acc, v⟩ : Code).ok := ⟨by simp; omega, hao, hv⟩
  have hCk : Tells Try.prog E0 X 37 [(⟨acc, v⟩ : Code).s] (bA (codeB ⟨acc, v⟩)) := by rw [Code.s_eq]; exact CodeOkI_t _ hco
  repeat' (first
     | refine wp_seq_i ?_ | refine wp_region_t k_GetCodeI rfl ?_ | refine Run.done rfl ?_ | refine then_n ?_ | refine then_r ?_ | refine then_e ?_ | refine Run.go1 rfl ?_ | refine wp_skip_i ?_ | refine wp_ret_i ?_
     | refine wp_exit_i ?_ | refine wp_block_i ?_ | refine block_n ?_ | refine block_r ?_ | refine block_e ?_ | refine block_o rfl ?_ | refine wp_cond_t rfl ?_ | refine wp_cond_f rfl ?_ | refine RunQ.go1 rfl ?_
     | refine RunQ.done rfl ?_ | refine Run.gT rfl rfl rfl rfl ?_ | refine Run.pT rfl rfl ?_ | (refine Run.splitG rfl rfl rfl rfl rfl rfl ?_ ?_ <;> intro _) | (refine Run.splitP rfl rfl rfl rfl ?_ ?_ <;> intro _)
     | refine RunQ.gT rfl rfl rfl rfl ?_ | refine RunQ.pT rfl rfl ?_ | (refine RunQ.splitG rfl rfl rfl rfl rfl rfl ?_ ?_ <;> intro _) | (refine RunQ.splitP rfl rfl rfl rfl ?_ ?_ <;> intro _)
     | refine wp_region_l k_GetCodeI [0, 1, 2] [3, 4] [0, 1, 0, 4, 12, 31, 63, 127] rfl (by decide +kernel) (by decide +kernel) rfl rfl ?_ | refine RunL.call rfl rfl rfl rfl (piece_e h8 hl' hb' haa) (.inl rfl) rfl rfl ?_
     | refine RunL.one rfl rfl rfl rfl rfl ?_ | refine RunL.done ?_ | refine Run.call rfl rfl rfl (piece_e h8 hl' hb' haa) rfl rfl ?_ | refine Run.callB rfl rfl rfl (hCk) (by simp [AV.own, T.own]) rfl ?_
     | refine Run.cnd rfl rfl rfl ⟨by simp; omega, (by intro r hr; obtain ⟨a, _, rfl⟩ := List.mem_map.1 hr; rfl), by simp, .inl rfl, by trivial⟩ ?_ | (refine wp_cond_k rfl rfl rfl ?_ ?_ <;> intro _)
     | (refine wp_cond_i rfl ?_ ?_ <;> intro _))
  · rename_i c1 c2
    have c1 : (n : Int) > 0 := of_decide_eq_true c1
    have c3 : bd = false := by simpa using c2
    obtain ⟨n', rfl⟩ : ∃ n', n = n' + 1 := ⟨n - 1, by omega⟩
    have hg := @imLP_go e n' a bd v a' b' c3 h8
    refine back_i [.keep [0, 2, 4, 5, 6, 7] [2, 6, 36, 56], .ren 56 77] (n', acc ++ [v], a', b') rfl ?_ ⟨⟨⟨by simp; omega, ha8⟩, ?_⟩, ?_⟩ (by simp)
    · simp only [w_pred1 (k := n') (by omega), List.map_append, List.map_cons, List.map_nil]; first | done | rfl
    · intro p hp
      rcases List.mem_append.1 hp with hp | hp
      · exact hao p hp
      · rw [List.mem_singleton.1 hp]; exact hv
    · rw [hr, hg]; simp
  all_goals (
    have hs : imLP e n a bd = ([], a, bd) := imLP_stop (by
      first
      | (have h : decide ((n : Int) > 0) = false := by assumption
         have h := of_decide_eq_false h
         left; omega)
      | (have h : (!bd) = false := by assumption
         right; simpa using h))
    rw [hs, List.append_nil] at hr
    have hcd : imCd e = (⟨acc, v⟩, a', b') := by simp only [imCd, h1, Int.toNat_natCast, hr, h8]
    refine ret_m [] rfl rfl ?_
    rw [hcd]
    first
    | (have z1 : b' = true := by assumption
       rw [if_pos (Or.inl z1)] <;> rfl)
    | (have z2 : (a' != IntKind.i64.wrap (((b.map uR).length : Int) - 2)) = true := by assumption
       rw [hi2] at z2
       rw [if_pos (Or.inr (Or.inl (bne_iff_ne.1 z2)))] <;> rfl)
    | (have z2 : (!codeB ⟨acc, v⟩) = true := by assumption
       have z3 : codeB ⟨acc, v⟩ = false := by simpa using z2
       rw [if_pos (Or.inr (Or.inr z3))] <;> rfl)
    | (have z1 : b' = false := by assumption
       have z2 : (!codeB ⟨acc, v⟩) = false := by assumption
       have z3 : (a' != IntKind.i64.wrap (((b.map uR).length : Int) - 2)) = false := by assumption
       rw [hi2] at z3
       have z3 := bne_eq_false_iff_eq.1 z3
       rw [if_neg (fun h => by
         rcases h with h | h | h
         · rw [z1] at h; cases h
         · exact h z3
         · rw [h] at z2; cases z2)] <;> rfl)
    | trace_state)
end Go.Proofs

set_option linter.unusedVariables false
set_option linter.unusedSimpArgs false
set_option maxHeartbeats 4000000
namespace Go.Proofs
open Go Go.Ev
set_option maxRecDepth 100000
variable {X : Rel3}
theorem sumB_rng : ∀ (l : List Int) (n : Int), (∀ c ∈ l, 0 ≤ c ∧ c < 256) → 0 ≤ n → n < 65521 → 0 ≤ sumB l n ∧ sumB l n < 65521
  | [], n, _, h0, h1 => ⟨h0, h1⟩
  | x :: r, n, hl, h0, h1 => by
    have hx := hl x (List.mem_cons_self ..)
    rw [sumB]
    have e1 : IntKind.i64.wrap (n * 31) = n * 31 := by rw [w64] <;> omega
    have e2 : IntKind.i64.wrap x = x := by rw [w64] <;> omega
    have e3 : IntKind.i64.wrap (n * 31 + x) = n * 31 + x := by rw [w64] <;> omega
    rw [e1, e2, e3, Int.tmod_eq_emod_of_nonneg (by omega)]
    exact sumB_rng r _ (fun c hc => hl c (List.mem_cons_of_mem _ hc)) (Int.emod_nonneg _ (by omega)) (Int.emod_lt_of_pos _ (by omega))
theorem sumHi_eq {n : Int} (h0 : 0 ≤ n) (h1 : n < 65521) : sumHi n = n / 256 := by
  unfold sumHi
  rw [show (2 : Int) ^ min (Int.toNat 8) IntKind.i64.bits = 256 by decide, Int.fdiv_eq_ediv_of_nonneg _ (by omega)]
theorem hiB_eq {n : Int} (h0 : 0 ≤ n) (h1 : n < 65521) : hiB n = n / 256 := by
  have := sumHi_eq h0 h1
  unfold sumHi at this
  unfold hiB
  rw [this]
  simp [IntKind.wrap, IntKind.bits, IntKind.signed]; omega
theorem u8_eq (n : Int) : IntKind.u8.wrap n = n % 256 := by
  simp [IntKind.wrap, IntKind.bits, IntKind.signed]
theorem sumLo_eq {n : Int} (h0 : 0 ≤ n) (h1 : n < 65521) : sumLo n = n % 256 := by
  obtain ⟨k, rfl⟩ := Int.eq_ofNat_of_zero_le h0
  unfold sumLo
  have e : (BitVec.ofInt IntKind.i64.bits (k : Int) &&& BitVec.ofInt IntKind.i64.bits 255).toNat = k % 256 := by
    show (BitVec.ofInt 64 (k : Int) &&& BitVec.ofInt 64 255).toNat = k % 256
    rw [BitVec.toNat_and]
    have e1 : (BitVec.ofInt 64 (k : Int)).toNat = k := by simp; omega
    have e2 : (BitVec.ofInt 64 255).toNat = 2 ^ 8 - 1 := by decide
    rw [e1, e2, Nat.and_two_pow_sub_one_eq_mod]
  rw [e, w64 (by omega) (by omega)]
  omega
theorem drop2 {b : List Int} (h : 2 ≤ b.length) : b.drop (b.length - 2) = [b.getD (b.length - 2) 0, b.getD (b.length - 1) 0] := by
  rw [List.drop_eq_getElem_cons (show b.length - 2 < b.length by omega), show b.length - 2 + 1 = b.length - 1 by omega, List.drop_eq_getElem_cons (show b.length - 1 < b.length by omega),
    show b.length - 1 + 1 = b.length by omega, List.drop_length]
  simp only [List.getD_eq_getElem?_getD, List.getElem?_eq_getElem (show b.length - 2 < b.length by omega), List.getElem?_eq_getElem (show b.length - 1 < b.length by omega), Option.getD_some]
theorem getD_rng {b : List Int} (hb : ∀ c ∈ b, 0 ≤ c ∧ c < 256) (j : Nat) : 0 ≤ b.getD j 0 ∧ b.getD j 0 < 256 := by
  rw [List.getD_eq_getElem?_getD]
  cases h : b[j]? with
  | none => simp
  | some c => exact hb c (List.mem_of_getElem? h)
theorem take2 {b : List Int} (h : 2 ≤ b.length) : b.take 2 = [b.getD 0 0, b.getD 1 0] := by
  match b, h with
  | x :: y :: r, _ => rfl
theorem sums_iff {b : List Int} (h : 2 ≤ b.length) (hb : ∀ c ∈ b, 0 ≤ c ∧ c < 256) : (IntKind.i64.wrap (b.getD (b.length - 2) 0) = sumHi (sumB (b.take (b.length - 2)) 0) ∧ IntKind.i64.wrap (b.getD (b.length - 1) 0) = sumLo (sumB (b.take (b.length - 2)) 0)) ↔ sumBytes (b.take (b.length - 2)) = b.drop (b.length - 2) := by
  obtain ⟨s0, s1⟩ := sumB_rng (b.take (b.length - 2)) 0 (fun c hc => hb c (List.mem_of_mem_take hc)) (by omega) (by omega)
  have g0 := getD_rng hb (b.length - 2)
  have g1 := getD_rng hb (b.length - 1)
  rw [drop2 h, sumBytes, sumHi_eq s0 s1, sumLo_eq s0 s1, hiB_eq s0 s1, u8_eq, w64 (by omega) (by omega), w64 (by omega) (by omega)]
  simp only [List.cons.injEq, and_true]
  exact ⟨fun h => ⟨h.1.symm, h.2.symm⟩, fun h => ⟨h.1.symm, h.2.symm⟩⟩
theorem getS_eq {b : List Int} (hb : ∀ c ∈ b, 0 ≤ c ∧ c < 256) : getS b = getI b := by
  unfold getS getI
  by_cases h4 : b.length < 4
  · rw [if_pos h4, if_pos h4]
  rw [if_neg h4, if_neg h4]
  by_cases hm : b.getD 0 0 = 71 ∧ b.getD 1 0 = 87
  case neg => rw [if_pos hm, if_pos hm]
  rw [if_neg (not_not_intro hm), if_neg (not_not_intro hm)]
  have hs := sums_iff (b := b) (by omega) hb
  by_cases hq : sumBytes (b.take (b.length - 2)) = b.drop (b.length - 2)
  case neg =>
    have hn1 := fun h => hq (hs.1 h)
    rw [if_pos hn1, if_pos hq]
  rw [if_neg (not_not_intro (hs.2 hq)), if_neg (not_not_intro hq)]
  have hbe : b = b.take (b.length - 2) ++ sumBytes (b.take (b.length - 2)) := by rw [hq, List.take_append_drop]
  have hl : (b.take (b.length - 2)).length = b.length - 2 := by simp
  have h2 : (b.take (b.length - 2)).take 2 = [71, 87] := by
    rw [List.take_take, show min 2 (b.length - 2) = 2 by omega, take2 (by omega), hm.1, hm.2]
  have hb' : ∀ c ∈ b.take (b.length - 2), 0 ≤ c ∧ c < 256 := fun c hc => hb c (List.mem_of_mem_take hc)
  clear hs hq
  generalize he : b.take (b.length - 2) = e at *
  rcases hI : imCd e with ⟨c, a, bd⟩
  by_cases hg : bd = true ∨ a ≠ ((b.length - 2 : Nat) : Int) ∨ codeB c = false
  · simp only
    rw [if_pos hg, if_pos]
    rcases hS : rdCd e with ⟨c2, a2, bd2⟩
    refine Classical.byContradiction fun hn => ?_
    have n1 : bd2 = false := by
      cases bd2 with
      | false => rfl
      | true => exact (hn (.inl rfl)).elim
    have n2 : codeB c2 = true := by
      cases h : codeB c2 with
      | true => rfl
      | false => exact (hn (.inr (.inl h))).elim
    have n3 : codeBytes c2 = b := Classical.byContradiction fun h => hn (.inr (.inr h))
    rw [codeBytes, if_pos n2] at n3
    have hlen : (putB c2).length = b.length - 2 := by
      have := congrArg List.length n3
      simp only [List.length_append, sumBytes, List.length_cons, List.length_nil] at this
      omega
    have hep : e = putB c2 := by rw [← he, ← hlen, ← n3, List.take_left]
    have := imCd_put (codeB_nums n2)
    rw [← hep, hI, Prod.mk.injEq, Prod.mk.injEq] at this
    obtain ⟨rfl, rfl, rfl⟩ := this
    rcases hg with hg | hg | hg
    · cases hg
    · exact hg (by rw [hl])
    · rw [n2] at hg; cases hg
  · have n1 : bd = false := by
      cases bd with
      | false => rfl
      | true => exact (hg (.inl rfl)).elim
    have n2 : codeB c = true := by
      cases h : codeB c with
      | true => rfl
      | false => exact (hg (.inr (.inr h))).elim
    have n3 : a = ((b.length - 2 : Nat) : Int) := Classical.byContradiction fun h => hg (.inr (.inl h))
    subst n1
    have hep : e = putB c := imCd_can hb' h2 (by rw [hI, n3, hl])
    have hr := rdCd_put (codeB_nums n2)
    rw [← hep] at hr
    simp only
    rw [if_neg hg, hr]
    have hcb : codeBytes c = b := by rw [codeBytes, if_pos n2, ← hep]; exact hbe.symm
    rw [if_neg (fun h => by
      rcases h with h | h | h
      · cases h
      · rw [n2] at h; cases h
      · exact h hcb)]
theorem getI_ok {b : List Int} (hl : b.length ≤ 1048576) (hb : ∀ c ∈ b, 0 ≤ c ∧ c < 256) : (getI b).1.ok := by
  have hz : Code.z.ok := ⟨by simp [Code.z], by simp [Code.z], by simp [Code.z, Piece.z, Piece.ok]⟩
  unfold getI
  repeat' split
  · exact hz
  · exact hz
  · exact hz
  · exact hz
  · rename_i h
    have hc : codeB (imCd (b.take (b.length - 2))).1 = true := by
      cases h2 : codeB (imCd (b.take (b.length - 2))).1 with
      | true => rfl
      | false => exact (h (.inr (.inr h2))).elim
    obtain ⟨h1, h2, h3⟩ := codeB_few hc
    have hok : (imCd (b.take (b.length - 2))).1.ok := ⟨by omega, fun p hp => ⟨Nat.le_trans (h2 p hp).1 (by omega), fun i hi => Nat.le_trans ((h2 p hp).2 i hi) (by omega)⟩, ⟨Nat.le_trans h3.1 (by omega), fun i hi => Nat.le_trans (h3.2 i hi) (by omega)⟩⟩
    exact hok
end Go.Proofs

set_option linter.unusedVariables false
set_option linter.unusedSimpArgs false
set_option maxHeartbeats 4000000
namespace Go.Proofs
open Go Go.Ev
set_option maxRecDepth 100000
variable {X : Rel3}
/-- what is marked is held -/
def heI : List Int → Int → Int
  | [], k => k
  | x :: r, k => if x = k then heI r (IntKind.i64.wrap (k + 1)) else -1
theorem heI_mk : ∀ (l : List Int) (k : Int), heI (mk l k).1 k = (mk l k).2
  | [], k => rfl
  | x :: r, k => by rw [mk, heI, if_pos rfl]; exact heI_mk r _
theorem heldIntS_t (l : List Int) (k : Int) (hl : l.length ≤ 9223372036854775807) : Tells Try.prog E0 X 30 [.t (.sl false (l.map iR)), iA k] (iA (heI l k)) := by
  refine Tells.by Try.func30 (by simp [Try.f30]) (Body.i rfl rfl rfl (fun _ => rfl) fun f => ?_)
  repeat' (first
     | refine wp_seq_i ?_ | refine wp_region_i ?_ | refine Run.done rfl ?_ | refine then_n ?_ | refine then_r ?_ | refine then_e ?_ | refine Run.go1 rfl ?_ | refine wp_skip_i ?_ | refine wp_ret_i ?_ | refine wp_exit_i ?_
     | refine wp_block_i ?_ | refine block_n ?_ | refine block_r ?_ | refine block_e ?_ | refine block_o rfl ?_ | refine wp_cond_t rfl ?_ | refine wp_cond_f rfl ?_ | (refine wp_cond_k rfl rfl rfl ?_ ?_ <;> intro _)
     | (refine wp_cond_i rfl ?_ ?_ <;> intro _))
  refine wp_loop_k (α := Nat × Int) [.keep [0, 1, 4, 5] []] (fun p => [(1, iA p.2), (5, iA p.1)]) (fun _ => []) (fun _ => []) (fun p => p.1 ≤ l.length ∧ heI (l.drop p.1) p.2 = heI l k) (fun p => l.length - p.1) (0, k) rfl (fun _ => rfl) rfl ⟨by simp, by simp⟩ ?_
  rintro ⟨j, c⟩ ⟨hj, hc⟩
  simp only at hj hc
  by_cases hlt : j < l.length
  · have hx : (l.map iR)[j]? = some (iR l[j]) := by simp [hlt]
    rw [List.drop_eq_getElem_cons hlt, heI] at hc
    repeat' (first
       | refine wp_seq_i ?_ | refine wp_region_i ?_ | refine Run.done rfl ?_ | refine then_n ?_ | refine then_r ?_ | refine then_e ?_ | refine Run.go1 rfl ?_ | refine wp_skip_i ?_ | refine wp_ret_i ?_ | refine wp_exit_i ?_
       | refine wp_block_i ?_ | refine block_n ?_ | refine block_r ?_ | refine block_e ?_ | refine block_o rfl ?_ | refine wp_cond_t rfl ?_ | refine wp_cond_f rfl ?_ | refine Run.ix rfl rfl rfl rfl rfl rfl rfl hx rfl rfl rfl ?_
       | (refine wp_cond_k rfl rfl rfl ?_ ?_ <;> intro _) | (refine wp_cond_i rfl ?_ ?_ <;> intro _))
    · rename_i h
      rw [if_neg (by simpa using h)] at hc
      refine ret_m [] rfl rfl ?_
      rw [← hc]
    · rename_i h
      rw [if_pos (by simpa using h)] at hc
      refine back_i [.keep [0, 1, 4, 5] []] (j + 1, IntKind.i64.wrap (c + 1)) rfl ?_ ⟨by simp; omega, hc⟩ (by simp; omega)
      simp only [w_succ hlt hl]
    · rename_i h; simp [hlt] at h
  · have hjl : j = l.length := by omega
    repeat' (first
       | refine wp_seq_i ?_ | refine wp_region_i ?_ | refine Run.done rfl ?_ | refine then_n ?_ | refine then_r ?_ | refine then_e ?_ | refine Run.go1 rfl ?_ | refine wp_skip_i ?_ | refine wp_ret_i ?_ | refine wp_exit_i ?_
       | refine wp_block_i ?_ | refine block_n ?_ | refine block_r ?_ | refine block_e ?_ | refine block_o rfl ?_ | refine wp_cond_t rfl ?_ | refine wp_cond_f rfl ?_ | (refine wp_cond_k rfl rfl rfl ?_ ?_ <;> intro _)
       | (refine wp_cond_i rfl ?_ ?_ <;> intro _))
    · rename_i h; simp [hjl] at h
    · refine ret_m [] rfl rfl ?_
      rw [← hc, hjl, List.drop_length]; rfl
abbrev Piece.s (p : Piece) : AV := .ag [iA p.lam, iA p.in_, iA p.regs, .t (.sl false (shrR (p.ins.map (Ins.c true))))]
theorem Piece.s_eq (p : Piece) : p.s = p.a false := by simp only [Piece.s, Piece.a, shr_Inst]
theorem mkP_up {p : Piece} (hp : p.ok) : ¬ (mkInsS p.ins 1).2 < 0 := by
  have h2 := hp.1
  have := (mkInsS_up (k := 1) hp.2 (by omega) (by omega)).1
  omega
end Go.Proofs

set_option linter.unusedVariables false
set_option linter.unusedSimpArgs false
set_option maxHeartbeats 4000000
namespace Go.Proofs
open Go Go.Ev
set_option maxRecDepth 100000
variable {X : Rel3}
theorem mkInsS_len2 (l : List Ins) (k : Int) : (mkInsS l k).1.length = l.length := mkInsS_len l k
theorem mkInsS_at : ∀ (l : List Ins) (k : Int) (j : Nat) (x : Ins), l[j]? = some x → (mkInsS l k).1[j]? = some (mkIns x (mkInsS (l.take j) k).2).1
  | [], k, j, x, h => by simp at h
  | i :: r, k, 0, x, h => by simp at h; subst h; simp [mkInsS]
  | i :: r, k, j + 1, x, h => by
    have := mkInsS_at r (mkIns i k).2 j x (by simpa using h)
    simp only [mkInsS, List.getElem?_cons_succ, List.take_succ_cons]
    exact this
theorem mkIns_up5 {i : Ins} {k : Int} (hi : i.l.length ≤ 1048576) (h0 : 0 ≤ k) (h : k ≤ 9223372036850000000) : ¬ (mk i.l (nx (nx (nx (nx (nx k)))))).2 < 0 := by
  rw [nx_up h0 (by omega), nx_up (k := k + 1) (by omega) (by omega), nx_up (k := k + 1 + 1) (by omega) (by omega), nx_up (k := k + 1 + 1 + 1) (by omega) (by omega), nx_up (k := k + 1 + 1 + 1 + 1) (by omega) (by omega)]
  rw [mk_up i.l (k + 1 + 1 + 1 + 1 + 1) (by omega) (by omega)]
  omega
def k_heldInsS : List (Nat × List Nat) := [(0, [0, 1]), (1, [0, 1, 5]), (2, [0, 1, 5, 9]), (3, [0, 1, 5]), (4, [0, 1, 5, 18]), (5, [4]), (6, [0, 1, 5]), (7, [0, 1, 5, 27]), (8, [4]), (9, [0, 1, 5]), (10, [0, 1, 5, 36]), (11, [4]), (12, [0, 1, 5]), (13, [0, 1, 5, 45]), (14, [4]), (15, [0, 1, 5]), (16, [0, 1, 5, 54]), (17, [4]), (18, [0, 1, 5]), (19, [0, 1, 5]), (20, [0, 1, 5, 65]), (21, [4]), (22, [0, 1, 5, 72]), (23, [4]), (24, [0, 1, 5]), (25, [4])]
theorem heldInsS_t (l : List Ins) (k : Int) (hl : l.length ≤ 1048576) (hll : ∀ i ∈ l, i.l.length ≤ 1048576) (h0 : 0 ≤ k) (hk : k + 1048583 * l.length ≤ 9223372036850000000) : Tells Try.prog E0 X 71 [.t (.sl false ((mkInsS l k).1.map (Ins.c false))), iA k] (iA (mkInsS l k).2) := by
  have hml := mkInsS_len l k
  refine Tells.by Try.func71 (by simp [Try.f71]) (Body.i rfl rfl rfl (fun _ => rfl) fun f => ?_)
  repeat' (first
     | refine wp_seq_i ?_ | refine wp_region_t k_heldInsS rfl ?_ | refine Run.done rfl ?_ | refine then_n ?_ | refine then_r ?_ | refine then_e ?_ | refine Run.go1 rfl ?_ | refine wp_skip_i ?_ | refine wp_ret_i ?_
     | refine wp_exit_i ?_ | refine wp_block_i ?_ | refine block_n ?_ | refine block_r ?_ | refine block_e ?_ | refine block_o rfl ?_ | refine wp_cond_t rfl ?_ | refine wp_cond_f rfl ?_
     | (refine wp_cond_k rfl rfl rfl ?_ ?_ <;> intro _) | (refine wp_cond_i rfl ?_ ?_ <;> intro _))
  refine wp_loop_k (α := Nat) [.keep [0, 1, 4, 5] []] (fun j => [(1, iA (mkInsS (l.take j) k).2), (5, iA j)]) (fun _ => []) (fun _ => []) (fun j => j ≤ l.length) (fun j => l.length - j) 0 rfl (fun _ => rfl) rfl (by simp) ?_
  rintro j hj
  by_cases hlt : j < l.length
  · obtain ⟨x, hxx⟩ : ∃ x, l[j]? = some x := ⟨_, List.getElem?_eq_getElem hlt⟩
    have hat := mkInsS_at l k j x hxx
    have hil := hll x (List.mem_of_getElem? hxx)
    have hup := mkInsS_up (l := l.take j) (k := k) (fun i hi => hll i (List.mem_of_mem_take hi)) h0 (by simp; omega)
    have hsn : (mkInsS (l.take (j + 1)) k).2 = (mkIns x (mkInsS (l.take j) k).2).2 := by
      have e : l.take (j + 1) = l.take j ++ [x] := by
        rw [List.getElem?_eq_getElem hlt] at hxx
        rw [List.take_succ_eq_append_getElem hlt, Option.some.inj hxx]
      rw [e, mkInsS_snoc]
    have hln : (l.take j).length ≤ 1048576 := by simp; omega
    generalize (mkInsS (l.take j) k).2 = c at hat hup hsn
    have hc0 : 0 ≤ c ∧ c ≤ 9223372036850000000 := by simp at hup; omega
    have hneg := mkIns_up5 hil hc0.1 hc0.2
    have hx : ((mkInsS l k).1.map (Ins.c false))[j]? = some (Ins.c false ⟨c, nx c, nx (nx c), nx (nx (nx c)), nx (nx (nx (nx c))), (mk x.l (nx (nx (nx (nx (nx c)))))).1, (mk x.l (nx (nx (nx (nx (nx c)))))).2⟩) := by rw [List.getElem?_map, hat]; rfl
    have hH : Tells Try.prog E0 X 30 [.t (.sl false ((mk x.l (nx (nx (nx (nx (nx c)))))).1.map iR)), iA (nx (nx (nx (nx (nx c)))))] (iA (mk x.l (nx (nx (nx (nx (nx c)))))).2) := by
      have := heldIntS_t (X := X) (mk x.l (nx (nx (nx (nx (nx c)))))).1 (nx (nx (nx (nx (nx c))))) (by rw [mk_len]; omega)
      rw [heI_mk] at this; exact this
    repeat' (first
       | refine wp_seq_i ?_ | refine wp_region_t k_heldInsS rfl ?_ | refine Run.done rfl ?_ | refine then_n ?_ | refine then_r ?_ | refine then_e ?_ | refine Run.go1 rfl ?_ | refine wp_skip_i ?_ | refine wp_ret_i ?_
       | refine wp_exit_i ?_ | refine wp_block_i ?_ | refine block_n ?_ | refine block_r ?_ | refine block_e ?_ | refine block_o rfl ?_ | refine wp_cond_t rfl ?_ | refine wp_cond_f rfl ?_
       | refine Run.ix rfl rfl rfl rfl rfl rfl rfl hx rfl rfl rfl ?_ | refine Run.call rfl rfl rfl (hH) rfl rfl ?_ | (refine wp_cond_k rfl rfl rfl ?_ ?_ <;> intro _) | (refine wp_cond_i rfl ?_ ?_ <;> intro _))
    all_goals first
    | (exfalso; rename_i h; exact hneg (of_decide_eq_true h); done)
    | (exfalso; rename_i h; simp [nx] at h; done)
    | (exfalso; rename_i h; simp [hml, hlt] at h; done)
    | (refine back_i [.keep [0, 1, 4, 5] []] (j + 1) rfl ?_ (by omega) (by omega)
       simp only [w_succ hlt (by omega), hsn]; first | done | rfl)
    | trace_state
  · have hjl : j = l.length := by omega
    subst hjl
    rw [List.take_length]
    repeat' (first
       | refine wp_seq_i ?_ | refine wp_region_t k_heldInsS rfl ?_ | refine Run.done rfl ?_ | refine then_n ?_ | refine then_r ?_ | refine then_e ?_ | refine Run.go1 rfl ?_ | refine wp_skip_i ?_ | refine wp_ret_i ?_
       | refine wp_exit_i ?_ | refine wp_block_i ?_ | refine block_n ?_ | refine block_r ?_ | refine block_e ?_ | refine block_o rfl ?_ | refine wp_cond_t rfl ?_ | refine wp_cond_f rfl ?_
       | (refine wp_cond_k rfl rfl rfl ?_ ?_ <;> intro _) | (refine wp_cond_i rfl ?_ ?_ <;> intro _))
    all_goals first
    | (exfalso; rename_i h; simp [hml] at h; done)
    | (refine ret_m [] rfl rfl rfl; done)
    | trace_state
theorem heldPiece_t (p : Piece) (k : Int) (hp : p.ok) (h0 : 0 ≤ k) (hk : k + 1048583 * p.ins.length ≤ 9223372036850000000) : Tells Try.prog E0 X 50 [({ p with ins := (mkInsS p.ins k).1 } : Piece).a false, iA k] (iA (mkInsS p.ins k).2) := by
  have hpl := hp.1
  have hup := mkInsS_up (l := p.ins) (k := k) hp.2 h0 (by omega)
  refine Tells.by Try.func50 (by simp [Try.f50]) (Body.i rfl rfl rfl (fun _ => rfl) fun f => ?_)
  repeat' (first
     | refine wp_seq_i ?_ | refine wp_region_i ?_ | refine Run.done rfl ?_ | refine then_n ?_ | refine then_r ?_ | refine then_e ?_ | refine Run.go1 rfl ?_ | refine wp_skip_i ?_ | refine wp_ret_i ?_ | refine wp_exit_i ?_
     | refine wp_block_i ?_ | refine block_n ?_ | refine block_r ?_ | refine block_e ?_ | refine block_o rfl ?_ | refine wp_cond_t rfl ?_ | refine wp_cond_f rfl ?_
     | refine Run.call rfl rfl rfl (heldInsS_t p.ins k hpl hp.2 h0 hk) rfl rfl ?_ | (refine wp_cond_k rfl rfl rfl ?_ ?_ <;> intro _) | (refine wp_cond_i rfl ?_ ?_ <;> intro _))
  all_goals first
  | (exfalso; rename_i h; simp at h; omega)
  | (refine ret_m [] rfl rfl rfl; done)
  | trace_state
theorem mkPieceS_at : ∀ (l : List Piece) (k : Int) (j : Nat) (x : Piece), l[j]? = some x → (mkPieceS l k).1[j]? = some (mkPiece x (mkPieceS (l.take j) k).2).1
  | [], k, j, x, h => by simp at h
  | i :: r, k, 0, x, h => by simp at h; subst h; simp [mkPieceS]
  | i :: r, k, j + 1, x, h => by
    have := mkPieceS_at r (mkPiece i k).2 j x (by simpa using h)
    simp only [mkPieceS, List.getElem?_cons_succ, List.take_succ_cons]
    exact this
theorem nx3_up {k : Int} (h0 : 0 ≤ k) (h : k ≤ 9222000000000000000) : nx (nx (nx k)) = k + 1 + 1 + 1 := by
  rw [nx_up h0 (by omega), nx_up (k := k + 1) (by omega) (by omega), nx_up (k := k + 1 + 1) (by omega) (by omega)]
def k_heldPieceS : List (Nat × List Nat) := [(0, [0, 1]), (1, [0, 1, 5]), (2, [0, 1, 5, 9]), (3, [0, 1, 5]), (4, [0, 1, 5, 18]), (5, [4]), (6, [0, 1, 5]), (7, [0, 1, 5, 27]), (8, [4]), (9, [0, 1, 5]), (10, [0, 1, 5, 36]), (11, [4]), (12, [0, 1, 5]), (13, [0, 1, 5]), (14, [0, 1, 5, 47]), (15, [4]), (16, [4])]
theorem heldPieceS_t (l : List Piece) (k : Int) (hl : l.length ≤ 1048576) (hll : ∀ p ∈ l, p.ok) (h0 : 0 ≤ k) (hk : k + 1099518968000 * l.length ≤ 9222000000000000000) : Tells Try.prog E0 X 49 [.t (.sl false ((mkPieceS l k).1.map (Piece.c false))), iA k] (iA (mkPieceS l k).2) := by
  have hml := mkPieceS_len l k
  refine Tells.by Try.func49 (by simp [Try.f49]) (Body.i rfl rfl rfl (fun _ => rfl) fun f => ?_)
  repeat' (first
     | refine wp_seq_i ?_ | refine wp_region_t k_heldPieceS rfl ?_ | refine Run.done rfl ?_ | refine then_n ?_ | refine then_r ?_ | refine then_e ?_ | refine Run.go1 rfl ?_ | refine wp_skip_i ?_ | refine wp_ret_i ?_
     | refine wp_exit_i ?_ | refine wp_block_i ?_ | refine block_n ?_ | refine block_r ?_ | refine block_e ?_ | refine block_o rfl ?_ | refine wp_cond_t rfl ?_ | refine wp_cond_f rfl ?_
     | (refine wp_cond_k rfl rfl rfl ?_ ?_ <;> intro _) | (refine wp_cond_i rfl ?_ ?_ <;> intro _))
  refine wp_loop_k (α := Nat) [.keep [0, 1, 4, 5] []] (fun j => [(1, iA (mkPieceS (l.take j) k).2), (5, iA j)]) (fun _ => []) (fun _ => []) (fun j => j ≤ l.length) (fun j => l.length - j) 0 rfl (fun _ => rfl) rfl (by simp) ?_
  rintro j hj
  by_cases hlt : j < l.length
  · obtain ⟨x, hxx⟩ : ∃ x, l[j]? = some x := ⟨_, List.getElem?_eq_getElem hlt⟩
    have hat := mkPieceS_at l k j x hxx
    have hpx := hll x (List.mem_of_getElem? hxx)
    have hpl := hpx.1
    have hup := mkPieceS_up (l := l.take j) (k := k) (fun i hi => hll i (List.mem_of_mem_take hi)) h0 (by simp; omega)
    have hsn : (mkPieceS (l.take (j + 1)) k).2 = (mkPiece x (mkPieceS (l.take j) k).2).2 := by
      have e : l.take (j + 1) = l.take j ++ [x] := by
        rw [List.getElem?_eq_getElem hlt] at hxx
        rw [List.take_succ_eq_append_getElem hlt, Option.some.inj hxx]
      rw [e, mkPieceS_snoc]
    generalize (mkPieceS (l.take j) k).2 = c at hat hup hsn
    have hc0 : 0 ≤ c ∧ c ≤ 9222000000000000000 := by simp at hup; omega
    have hn3 := nx3_up hc0.1 hc0.2
    have hneg : ¬ (mkInsS x.ins (nx (nx (nx c)))).2 < 0 := by
      have := (mkInsS_up (l := x.ins) (k := nx (nx (nx c))) hpx.2 (by rw [hn3]; omega) (by rw [hn3]; omega)).1
      omega
    have hx : ((mkPieceS l k).1.map (Piece.c false))[j]? = some (Piece.c false ⟨c, nx c, nx (nx c), (mkInsS x.ins (nx (nx (nx c)))).1⟩) := by rw [List.getElem?_map, hat]; rfl
    have hH : Tells Try.prog E0 X 71 [.t (.sl false ((mkInsS x.ins (nx (nx (nx c)))).1.map (Ins.c false))), iA (nx (nx (nx c)))] (iA (mkInsS x.ins (nx (nx (nx c)))).2) := heldInsS_t x.ins (nx (nx (nx c))) hpl hpx.2 (by rw [hn3]; omega) (by rw [hn3]; omega)
    repeat' (first
       | refine wp_seq_i ?_ | refine wp_region_t k_heldPieceS rfl ?_ | refine Run.done rfl ?_ | refine then_n ?_ | refine then_r ?_ | refine then_e ?_ | refine Run.go1 rfl ?_ | refine wp_skip_i ?_ | refine wp_ret_i ?_
       | refine wp_exit_i ?_ | refine wp_block_i ?_ | refine block_n ?_ | refine block_r ?_ | refine block_e ?_ | refine block_o rfl ?_ | refine wp_cond_t rfl ?_ | refine wp_cond_f rfl ?_
       | refine Run.ix rfl rfl rfl rfl rfl rfl rfl hx rfl rfl rfl ?_ | refine Run.call rfl rfl rfl (hH) rfl rfl ?_ | (refine wp_cond_k rfl rfl rfl ?_ ?_ <;> intro _) | (refine wp_cond_i rfl ?_ ?_ <;> intro _))
    all_goals first
    | (exfalso; rename_i h; exact hneg (of_decide_eq_true h); done)
    | (exfalso; rename_i h; simp [nx] at h; done)
    | (exfalso; rename_i h; simp [hml, hlt] at h; done)
    | (refine back_i [.keep [0, 1, 4, 5] []] (j + 1) rfl ?_ (by omega) (by omega)
       simp only [w_succ hlt (by omega), hsn]; first | done | rfl)
    | trace_state
  · have hjl : j = l.length := by omega
    subst hjl
    rw [List.take_length]
    repeat' (first
       | refine wp_seq_i ?_ | refine wp_region_t k_heldPieceS rfl ?_ | refine Run.done rfl ?_ | refine then_n ?_ | refine then_r ?_ | refine then_e ?_ | refine Run.go1 rfl ?_ | refine wp_skip_i ?_ | refine wp_ret_i ?_
       | refine wp_exit_i ?_ | refine wp_block_i ?_ | refine block_n ?_ | refine block_r ?_ | refine block_e ?_ | refine block_o rfl ?_ | refine wp_cond_t rfl ?_ | refine wp_cond_f rfl ?_
       | (refine wp_cond_k rfl rfl rfl ?_ ?_ <;> intro _) | (refine wp_cond_i rfl ?_ ?_ <;> intro _))
    all_goals first
    | (exfalso; rename_i h; simp [hml] at h; done)
    | (refine ret_m [] rfl rfl rfl; done)
    | trace_state
def mkC (c : Code) (k : Int) : Code := ⟨(mkPieceS c.funs k).1, { c.main with ins := (mkInsS c.main.ins (mkPieceS c.funs k).2).1 }⟩
theorem heldCode_t (c : Code) (hc : c.ok) : Tells Try.prog E0 X 19 [(mkC c 1).a false, iA 1] (iA (mkInsS c.main.ins (mkPieceS c.funs 1).2).2) := by
  have hcl := hc.1
  have hup := mkPieceS_up (l := c.funs) (k := 1) hc.2.1 (by omega) (by omega)
  have hml := hc.2.2.1
  have hn : ¬ (mkPieceS c.funs 1).2 < 0 := by omega
  have hn2 := mkCode_up hc
  have hP : Tells Try.prog E0 X 50 [({ c.main with ins := (mkInsS c.main.ins (mkPieceS c.funs 1).2).1 } : Piece).a false, iA (mkPieceS c.funs 1).2] (iA (mkInsS c.main.ins (mkPieceS c.funs 1).2).2) := heldPiece_t c.main (mkPieceS c.funs 1).2 hc.2.2 (by omega) (by omega)
  refine Tells.by Try.func19 (by simp [Try.f19]) (Body.i rfl rfl rfl (fun _ => rfl) fun f => ?_)
  repeat' (first
     | refine wp_seq_i ?_ | refine wp_region_i ?_ | refine Run.done rfl ?_ | refine then_n ?_ | refine then_r ?_ | refine then_e ?_ | refine Run.go1 rfl ?_ | refine wp_skip_i ?_ | refine wp_ret_i ?_ | refine wp_exit_i ?_
     | refine wp_block_i ?_ | refine block_n ?_ | refine block_r ?_ | refine block_e ?_ | refine block_o rfl ?_ | refine wp_cond_t rfl ?_ | refine wp_cond_f rfl ?_
     | refine Run.call rfl rfl rfl (heldPieceS_t c.funs 1 hcl hc.2.1 (by omega) (by omega)) rfl rfl ?_ | refine Run.call rfl rfl rfl (hP) rfl rfl ?_ | (refine wp_cond_k rfl rfl rfl ?_ ?_ <;> intro _)
     | (refine wp_cond_i rfl ?_ ?_ <;> intro _))
  all_goals first
  | (exfalso; rename_i h; exact hn (of_decide_eq_true h); done)
  | (exfalso; rename_i h; exact hn2 (of_decide_eq_true h); done)
  | (refine ret_m [] rfl rfl rfl; done)
  | trace_state
end Go.Proofs

set_option linter.unusedVariables false
set_option linter.unusedSimpArgs false
set_option maxHeartbeats 4000000
namespace Go.Proofs
open Go Go.Ev
set_option maxRecDepth 100000
variable {X : Rel3}
theorem toByteS_t (l : List Int) (hl : l.length ≤ 1048576) : Tells Try.prog E0 X 17 [.t (.sl false (l.map uR))] (.t (.sl true (l.map uR))) := by
  refine Tells.by Try.func17 (by simp [Try.f17]) (Body.i rfl rfl rfl (fun _ => rfl) fun f => ?_)
  repeat' (first
     | refine wp_seq_i ?_ | refine wp_region_i ?_ | refine Run.done rfl ?_ | refine then_n ?_ | refine then_r ?_ | refine then_e ?_ | refine Run.go1 rfl ?_ | refine wp_skip_i ?_ | refine wp_ret_i ?_ | refine wp_exit_i ?_
     | refine wp_block_i ?_ | refine block_n ?_ | refine block_r ?_ | refine block_e ?_ | refine block_o rfl ?_ | refine wp_cond_t rfl ?_ | refine wp_cond_f rfl ?_
     | refine Run.cnd2 rfl rfl rfl ⟨by simp, rfl, by simp; omega, by simp; omega⟩ ?_ | (refine wp_cond_i rfl ?_ ?_ <;> intro _))
  refine wp_loop_k (α := Nat × List Int) [.keep [0, 2, 3, 4] [7]] (fun p => [(4, iA p.1)]) (fun _ => []) (fun p => [(7, 0, p.2.map uR)]) (fun p => p.1 ≤ l.length ∧ p.2 = l.take p.1 ++ List.replicate (l.length - p.1) 0) (fun p => l.length - p.1) (0, List.replicate l.length 0) rfl (fun _ => rfl) (by simp) ⟨by simp, by simp⟩ ?_
  rintro ⟨j, m⟩ ⟨hj, hm⟩
  simp only at hj hm
  have hml : m.length = l.length := by rw [hm]; simp; omega
  by_cases hlt : j < l.length
  · have hx : (l.map uR)[j]? = some (uR l[j]) := by simp [hlt]
    have hy : (m.map uR)[j]? = some (uR (m[j]'(by omega))) := by simp [hml, hlt]
    repeat' (first
       | refine wp_seq_i ?_ | refine wp_region_i ?_ | refine Run.done rfl ?_ | refine then_n ?_ | refine then_r ?_ | refine then_e ?_ | refine Run.go1 rfl ?_ | refine wp_skip_i ?_ | refine wp_ret_i ?_ | refine wp_exit_i ?_
       | refine wp_block_i ?_ | refine block_n ?_ | refine block_r ?_ | refine block_e ?_ | refine block_o rfl ?_ | refine wp_cond_t rfl ?_ | refine wp_cond_f rfl ?_ | refine Run.ix rfl rfl rfl rfl rfl rfl rfl hx rfl rfl rfl ?_
       | refine Run.ix rfl rfl rfl rfl rfl rfl rfl hy rfl rfl rfl ?_ | refine Run.str rfl rfl rfl rfl rfl rfl hy rfl rfl ?_ | (refine wp_cond_i rfl ?_ ?_ <;> intro _))
    · refine back_i [.keep [0, 2, 3, 4] [7]] (j + 1, m.set j l[j]) rfl ?_ ⟨by simp; omega, ?_⟩ (by simp; omega)
      · simp only [List.map_set, w_succ hlt (by omega)]
      · simp only; rw [hm, fill_step l 0 hlt]
    · rename_i h; simp [hlt] at h
  · have hjl : j = l.length := by omega
    repeat' (first
       | refine wp_seq_i ?_ | refine wp_region_i ?_ | refine Run.done rfl ?_ | refine then_n ?_ | refine then_r ?_ | refine then_e ?_ | refine Run.go1 rfl ?_ | refine wp_skip_i ?_ | refine wp_ret_i ?_ | refine wp_exit_i ?_
       | refine wp_block_i ?_ | refine block_n ?_ | refine block_r ?_ | refine block_e ?_ | refine block_o rfl ?_ | refine wp_cond_t rfl ?_ | refine wp_cond_f rfl ?_ | (refine wp_cond_i rfl ?_ ?_ <;> intro _))
    · rename_i h; simp [hjl] at h
    · refine ret_m [] rfl rfl ?_
      subst hjl; simp [hm]
theorem Run.adjwAt {Φ : Rel3} {E : Env} {all : List Oper} {D : List Nat} {lo : Option (List Nat)} {rest : List Oper} {s : St} {K : St → Prop} (d : Nat) {op : Op} {ty : Nat} {pos : String} {after : Array Edge} {g : Option (Nat × Bool)}
  (h : AdjW (fun s1 => Run Φ E all D lo (⟨some d, op, ty, pos, after, g⟩ :: rest) s1 K) s) : Run Φ E all D lo (⟨some d, op, ty, pos, after, g⟩ :: rest) s K := Run.adjw h
def k_lawGc : List (Nat × List Nat) := [(0, [0]), (1, [0, 15]), (2, [2]), (3, [0, 3, 4]), (4, [0, 3, 4, 5]), (5, [0, 3, 4, 5, 6, 7]), (6, [0, 3, 4, 5, 6, 7, 37]), (7, [2]), (8, [0, 3, 4, 5, 6, 7, 42]), (9, [2]), (10, [0, 3, 4, 5, 6, 7, 8]), (11, [0, 3, 4, 6, 7, 8]), (12, [0, 3, 4, 6, 58]), (13, [2]), (14, [0, 3, 4, 6, 9]), (15, [0, 3, 4, 6, 9]), (16, [0, 3, 4, 6, 9, 10]), (17, [0, 3, 4, 6, 9, 10]), (18, [0, 3, 4, 6, 9, 10, 66]), (19, [2]), (20, [0, 3, 4, 6, 9, 69]), (21, [2]), (22, [3, 4, 6, 9, 11, 12]), (23, [6, 9, 84]), (24, [2]), (25, [6, 9, 10]), (26, [9, 10]), (27, [9, 10, 89]), (28, [2]), (29, [92]), (30, [2]), (31, [2])]
theorem lawGc_t (b : List Int) (hb : ∀ c ∈ b, 0 ≤ c ∧ c < 256) (hlb : b.length ≤ 9223372036854775807) : Tells Try.prog E0 X 4 [.t (.sl false (b.map uR))] (bA true) := by
  refine Tells.by Try.func4 (by simp [Try.f4]) (Body.i rfl rfl rfl (fun _ => rfl) fun f => ?_)
  repeat' (first
     | refine wp_seq_i ?_ | refine wp_region_t k_lawGc rfl ?_ | refine Run.done rfl ?_ | refine then_n ?_ | refine then_r ?_ | refine then_e ?_ | refine Run.go1 rfl ?_ | refine wp_skip_i ?_ | refine wp_ret_i ?_
     | refine wp_exit_i ?_ | refine wp_block_i ?_ | refine block_n ?_ | refine block_r ?_ | refine block_e ?_ | refine block_o rfl ?_ | refine wp_cond_t rfl ?_ | refine wp_cond_f rfl ?_
     | (refine wp_cond_k rfl rfl rfl ?_ ?_ <;> intro _) | (refine wp_cond_i rfl ?_ ?_ <;> intro _))
  · refine ret_m [] rfl rfl rfl
  rename_i h
  have hl : b.length ≤ 1048576 := by have h := of_decide_eq_false h; simp only [List.length_map] at h; omega
  have hS : Tells Try.prog E0 X 16 [.t (.sl false (shrR (b.map uR)))] (.tp [(getS b).1.a true, iA (getS b).2]) := by rw [shr_U]; exact GetCodeS_t b hl hb
  have hI : Tells Try.prog E0 X 18 [.t (.sl false (shrR (b.map uR)))] (.tp [(getS b).1.a true, iA (getS b).2]) := by rw [shr_U, getS_eq hb]; exact GetCodeI_t b hl hb
  have hE : ∀ a b : List Int, a.length ≤ 300000000 → Tells Try.prog E0 X 11 [.t (.sl false (shrR (a.map uR))), .t (.sl false (shrR (b.map uR)))] (bA (decide (a = b))) := fun a b ha => by rw [shr_U, shr_U]; exact eqByteS_t a b (by omega)
  have ht : (getS b).1.ok := by rw [getS_eq hb]; exact getI_ok hl hb
  generalize (getS b).1 = q at hS hI ht
  generalize (getS b).2 = n at hS hI
  have hEt : Tells Try.prog E0 X 12 [q.s, q.s] (bA (decide (q = q))) := by rw [Code.s_eq]; exact eqCode_t q q ht
  have hHe : Tells Try.prog E0 X 19 [(mkC q 1).s, iA 1] (iA (mkInsS q.main.ins (mkPieceS q.funs 1).2).2) := by rw [Code.s_eq]; exact heldCode_t q ht
  have hM := mkCode_up ht
  have hK : ¬ (mkB b 1).2 < 0 := by rw [mkB_up _ _ (by omega) (by omega)]; omega
  repeat' (first
    
     | refine Run.adjwAt 59 (.ask 26 _ _ _ _ rfl (fun _ => rfl) fun u => .holdB 6 0 26 _ _ _ _ _ _ _ rfl rfl rfl rfl rfl rfl (.ask 4026 _ _ _ _ rfl (fun _ => rfl) fun u => .holdB 6 4 4026 _ _ _ _ _ _ _ rfl rfl rfl rfl rfl rfl (.done _ (Run.go1 rfl (Run.adjw (.tellC 59 0 26 _ _ _ _ _ _ _ rfl rfl rfl rfl rfl rfl (.tellC 59 4 4026 _ _ _ _ _ _ _ rfl rfl rfl rfl rfl rfl (.done _ ?_))))))))
     | refine Run.adjwAt 9 (.tellB 6 0 26 _ _ _ _ _ _ _ rfl rfl rfl rfl rfl rfl (.tellB 6 4 4026 _ _ _ _ _ _ _ rfl rfl rfl rfl rfl rfl (.done _ ?_))) | refine wp_seq_i ?_ | refine wp_region_t k_lawGc rfl ?_
     | refine Run.done rfl ?_ | refine then_n ?_ | refine then_r ?_ | refine then_e ?_ | refine Run.go1 rfl ?_ | refine wp_skip_i ?_ | refine wp_ret_i ?_ | refine wp_exit_i ?_ | refine wp_block_i ?_ | refine block_n ?_
     | refine block_r ?_ | refine block_e ?_ | refine block_o rfl ?_ | refine wp_cond_t rfl ?_ | refine wp_cond_f rfl ?_ | refine RunQ.go1 rfl ?_ | refine RunQ.done rfl ?_ | refine Run.gT rfl rfl rfl rfl ?_
     | refine Run.pT rfl rfl ?_ | (refine Run.splitG rfl rfl rfl rfl rfl rfl ?_ ?_ <;> intro _) | (refine Run.splitP rfl rfl rfl rfl ?_ ?_ <;> intro _) | refine RunQ.gT rfl rfl rfl rfl ?_ | refine RunQ.pT rfl rfl ?_
     | (refine RunQ.splitG rfl rfl rfl rfl rfl rfl ?_ ?_ <;> intro _) | (refine RunQ.splitP rfl rfl rfl rfl ?_ ?_ <;> intro _) | refine Run.call rfl rfl rfl (toByteS_t b hl) rfl rfl ?_
     | refine Run.callB rfl rfl rfl (hS) (by simp [AV.own, AV.own.ownTL, T.own, ownCL, ownC, own_Ins, own_P]) rfl ?_ | refine Run.callB rfl rfl rfl (hI) (by simp [AV.own, AV.own.ownTL, T.own, ownCL, ownC, own_Ins, own_P]) rfl ?_
     | refine Run.callB rfl rfl rfl (hE b b (by omega)) (by simp [AV.own, T.own]) rfl ?_ | refine Run.callB rfl rfl rfl (hEt) (by simp [AV.own, T.own]) rfl ?_ | refine Run.call rfl rfl rfl (markByteS_t _ _ (by omega)) rfl rfl ?_
     | refine Run.call rfl rfl rfl (markCode_t q 1 ht) rfl rfl ?_ | refine Run.callB rfl rfl rfl (hHe) (by simp [AV.own, T.own]) rfl ?_ | (refine wp_cond_k rfl rfl rfl ?_ ?_ <;> intro _) | (refine wp_cond_i rfl ?_ ?_ <;> intro _))
  all_goals first
    | (refine ret_m [] rfl rfl rfl; done)
    | (rename_i hx; exfalso; simp [hK, hM] at hx; done)
    | (rename_i hx; exfalso; simp at hx; omega)
    | trace_state
end Go.Proofs

set_option linter.unusedSimpArgs false
set_option linter.unusedVariables false
namespace Go.Ev
open Go
theorem vs_of {w : World} {B : Nat → Prop} {ts : List T} {vs : List Value} (hl : vs.length = ts.length) (h : ∀ (k : Nat) (y : T) (v : Value), ts[k]? = some y → vs[k]? = some v → Rep w B y v)
    (hs : ∀ y ∈ ts, (∃ v, y = .sc v) ∨ ∃ rows, y = .sl false rows) : VS w B (.ag (ts.map AV.t)) (.agg vs.toArray) (fun _ => False) := by
  refine .inr (.inl ⟨_, _, rfl, rfl, Fam.of (by simp [hl]) fun k x v h1 h2 => ?_⟩)
  rw [List.getElem?_map, Option.map_eq_some_iff] at h1
  obtain ⟨y, hy, rfl⟩ := h1
  have hr := h k y v hy h2
  rcases hs y (List.mem_of_getElem? hy) with ⟨u, rfl⟩ | ⟨rows, rfl⟩
  · cases hr; exact ⟨_, rfl, .sc _ _⟩
  · exact ⟨_, rfl, .sh _ _ _ hr⟩
theorem OpensAt.imp {P : Program} {N : Nat} {t : TypeId} {α : Type} {d : Kt α} {ok ok' : α → Prop} (h : OpensAt P N t d ok) (hok : ∀ x, ok x → ok' x) : OpensAt P N t d ok' := by
  constructor
  intro H enc W base held fuel cs y hf ht
  obtain ⟨x, hk, hx⟩ := h.get enc W base held fuel cs y hf ht
  exact ⟨x, hk, hok x hx⟩
theorem vx_bool {w : World} {B : Nat → Prop} {vs : List Value} {b : Bool} {v : Value} {F : Nat → Prop} (h : VX w B vs (.t (.sc (.bool b))) v F) : v = .bool b := by
  rcases h with ⟨_, (⟨y, hy, ho⟩ | ⟨cs, us, h, _⟩ | ⟨_, _, _, _, _, h, _⟩) | ⟨cs, us, h, _⟩⟩ | ⟨r0, outs, F1, F2, h, _⟩
  · cases hy; cases ho; rfl
  · cases h
  · cases h
  · cases h
  · cases h
theorem vs_int {w : World} {B : Nat → Prop} {k : IntKind} {n : Int} : VS w B (.t (.sc (.int k n))) (.int k n) (fun _ => False) := .inl ⟨_, rfl, .sc _ _⟩
end Go.Ev
namespace Go.Proofs.Ytejioaahmgljgaa.fnExactGetCode
open Go Go.Ev Go.Proofs
open Go.ChangeShapes Go.WideShapes Go.ChangeAt Go.RowKit
theorem own : ownKnob Try.prog.godebug = none := by kernel_rfl
theorem laidOut : laidOutB Try.prog = true := by kernel_rfl
abbrev kI : Kt Int := Kt.int .i64
abbrev kL : Kt (List Int) := Kt.slice kI
abbrev kIns : Kt Ins := Kt.iso (Kt.pair kI (Kt.pair kI (Kt.pair kI (Kt.pair kI (Kt.pair kI (Kt.pair kL kI)))))) fun i => (i.op, i.d, i.x, i.y, i.n, i.l, i.to_)
abbrev kPiece : Kt Piece := Kt.iso (Kt.pair kI (Kt.pair kI (Kt.pair kI (Kt.slice kIns)))) fun p => (p.lam, p.in_, p.regs, p.ins)
theorem max_le : maxLen ≤ 9223372036854775807 := by decide
theorem oInt (n : Nat) : OpensAt Try.prog n 3 kI (fun _ => True) := (opens_int Try.underlying3).imp fun _ _ => trivial
theorem oL (n : Nat) : OpensAt Try.prog (n + 1) 52 kL (fun l => l.length ≤ 9223372036854775807) := (opens_slice Try.underlying52 (by kernel_rfl) (by decide) (oInt n)).imp fun _ h => Nat.le_trans h.1 max_le
theorem oIns (n : Nat) : OpensAt Try.prog (n + 2) 94 kIns Ins.len :=
  (opens_iso (fun x => (⟨x.1, x.2.1, x.2.2.1, x.2.2.2.1, x.2.2.2.2.1, x.2.2.2.2.2.1, x.2.2.2.2.2.2⟩ : Ins)) (fun _ => rfl)
    (opens_struct Try.underlying94 (by kernel_rfl) (from_cons rfl (by kernel_rfl) (oInt _) (from_cons rfl (by kernel_rfl) (oInt _) (from_cons rfl (by kernel_rfl) (oInt _) (from_cons rfl (by kernel_rfl) (oInt _) (from_cons rfl (by kernel_rfl) (oInt _)
      (from_cons rfl (by kernel_rfl) (oL n) (from_one rfl (by kernel_rfl) (oInt _)))))))))).imp fun x h => h.2.2.2.2.2.1
theorem oInsS (n : Nat) : OpensAt Try.prog (n + 3) 23 (Kt.slice kIns) (fun l => l.length ≤ 9223372036854775807 ∧ ∀ i ∈ l, i.len) := (opens_slice Try.underlying23 (by kernel_rfl) (by decide) (oIns n)).imp fun _ h => ⟨Nat.le_trans h.1 max_le, h.2⟩
theorem oPiece (n : Nat) : OpensAt Try.prog (n + 4) 25 kPiece Piece.len :=
  (opens_iso (fun x => (⟨x.1, x.2.1, x.2.2.1, x.2.2.2⟩ : Piece)) (fun _ => rfl)
    (opens_struct Try.underlying25 (by kernel_rfl) (from_cons rfl (by kernel_rfl) (oInt _) (from_cons rfl (by kernel_rfl) (oInt _) (from_cons rfl (by kernel_rfl) (oInt _) (from_one rfl (by kernel_rfl) (oInsS n))))))).imp fun x h => h.2.2.2
abbrev kB : Kt (List Int) := Kt.slice (Kt.int .u8)
theorem oByte (n : Nat) : OpensAt Try.prog n 5 (Kt.int .u8) (fun x => 0 ≤ x ∧ x < 256) := (opens_int Try.underlying5).imp fun x h => by
  simp only [Lit.wf, Bool.and_eq_true, decide_eq_true_eq] at h
  have h1 : IntKind.u8.min = 0 := by decide
  have h2 : IntKind.u8.max = 255 := by decide
  omega
theorem oBytes (n : Nat) : OpensAt Try.prog (n + 1) 29 kB (fun l => (∀ x ∈ l, 0 ≤ x ∧ x < 256) ∧ l.length ≤ 9223372036854775807) := (opens_slice Try.underlying29 (by kernel_rfl) (by decide) (oByte n)).imp fun _ h => ⟨h.2, Nat.le_trans h.1 max_le⟩
theorem vs_bytes {w : World} {B : Nat → Prop} {x : List Int} {v : Value} (h : Rep w B (.sl false (x.map uR)) v) : VS w B (.t (.sl false (x.map uR))) v (fun _ => False) := .inl ⟨_, rfl, .sh _ _ _ h⟩
theorem calls {W : World} {x0 : List Int} {v0 : Value} (hk0 : kB.K W x0 [v0]) (hl0 : (∀ c ∈ x0, 0 ≤ c ∧ c < 256) ∧ x0.length ≤ 9223372036854775807) : Calls Try.prog 4 #[v0] W fun e W' => e = .returned (.bool true) ∧ Below W.heap.size W W' := by
  have h := (Tells.sound (X := fun _ _ _ => False) tab_ok (fun _ _ _ h => h.elim) (lawGc_t x0 hl0.1 hl0.2)).2 W [v0] (fun b => b < W.heap.size) (fun _ => False) (fun b hb => ⟨hb, fun h => h⟩) (fun _ h => h.elim)
    (.cons _ _ _ _ (fun _ => False) (fun _ => False) _ (vs_bytes (hk0.2 0 _ _ rfl rfl)) (.nil _) (fun _ h => h.elim) (fun _ h => h) (fun _ h => h))
  refine h.mono fun e W' ⟨v, B', F', he, hv, _, _, hkeep⟩ => ?_
  rw [he, vx_bool hv]
  exact ⟨rfl, hkeep.os, hkeep.tape, hkeep.output, hkeep.size, fun k hk => hkeep.block k hk fun h => h⟩
set_option maxRecDepth 100000 in
theorem lifted (os : Os) (started : os.Started) (H : Type) (enc : TypeId × Value → H) :
    ReturnsInHanded {} Try.checked os 4 .any (Rows.fnExactGetCodeSpec.pre6 enc Try.prog Try.f4 Rows.fnExactGetCodeRow.domain false) (Rows.fnExactGetCodeSpec.post enc Try.prog Try.f4 false true false false) := by
  refine returnsInHanded_of_change_sized (C := Try.checked) own started (by kernel_rfl) Try.func4
    (ChangeSpec.witness6 (enc := enc) (C := Try.checked) false ⟨#[], #[.slice none 0 0], []⟩ 8 (by kernel_rfl) (by kernel_rfl) (by kernel_rfl) (by kernel_rfl)) ?_
  intro W base args ds gs before hval0 hW hcnd hsz0 _
  have hval : ∀ (j : Nat) t v, Try.f4.params[j]? = some t → args[j]? = some v → Value.okWide Try.prog W .any base t v := hval0
  have hW' := hW
  obtain ⟨p, q, hA0, hV, rfl, hfz, hnd⟩ := hW
  have hA : DataW.TrodAll enc Try.prog W 0 (fun _ => true) true Try.f4.params.toList args.toList ds p := hA0
  rw [Try.params4] at hA hval
  obtain ⟨v0, vs0, d0, ds0, p0, q0, hargs, rfl, rfl, h0, r0⟩ := trodAll_cons hA
  obtain ⟨rfl, rfl, rfl⟩ := trodAll_nil r0
  obtain rfl : args = #[v0] := by cases args; simp_all
  obtain ⟨rfl, rfl⟩ := trodVars_none hV
  obtain ⟨sa0, sl0, sc0, rfl⟩ := okWide_slice Try.underlying29 (hval 0 29 v0 rfl rfl)
  have k0 := h0
  have lt0 : ∀ x ∈ p0, x.block < W.heap.size := by obtain ⟨m, hm⟩ := k0; exact DataW.trod_lt m _ _ _ hm
  obtain ⟨x0, hk0, ok0⟩ : ∃ x, kB.K W x [.slice sa0 sl0 sc0] ∧ ((∀ c ∈ x, 0 ≤ c ∧ c < 256) ∧ x.length ≤ 9223372036854775807) := by
    obtain ⟨m, hm⟩ := h0
    exact (oBytes m).get enc W _ _ m _ _ (by omega) hm
  refine (calls hk0 ok0).mono fun e W' ⟨he, bel0⟩ => ?_
  have bel : Below W.heap.size W W' := bel0
  subst he
  exact ⟨_, rfl, _, _, _, [], _, [], hW', trodAll_mk1 (shut_bool Try.underlying4 _), (trodAll_cons_mk (Below.trod laidOut (by kernel_rfl) (of_decide_eq_true (by kernel_rfl)) k0 bel lt0) trodAll_mk0), rfl, bel.frame _, fun h => by cases h⟩
theorem over : Rows.fnExactGetCodeRow.holds Try.pinned (OpenSpec.ofChange Rows.fnExactGetCodeSpec) :=
  OpenClaim.holds_of_wide 4 Try.f4 rfl rfl rfl rfl rfl rfl rfl ⟨rfl, rfl, rfl, rfl, rfl⟩ rfl rfl rfl rfl rfl (by kernel_rfl) Try.func4 (by kernel_rfl)
    (of_decide_eq_true (by kernel_rfl)) (by unfold Func.isWrapper; first | (rw [if_pos (by decide +kernel)]; kernel_rfl) | (rw [if_neg (by decide +kernel)]; exact ⟨rfl, rfl⟩))
    (fun os started H enc _ => lifted os started H enc)
theorem proved : Rows.FnExactGetCodeSaid := over
#print axioms proved
end Go.Proofs.Ytejioaahmgljgaa.fnExactGetCode
namespace Go.Proofs.Ytejioaahmgljgaa
/-- The row, under a short name, for the claim. -/
theorem fnExactGetCode_holds : Rows.FnExactGetCodeSaid := fnExactGetCode.proved
end Go.Proofs.Ytejioaahmgljgaa

