import Derived.Test.YtamcbocdcnndfaaFA5
import Derived.Test.YtamcbocdcnndfaaRows
import Derived.WalkKit
import Derived.ProofKit
import Derived.OpenShut
import Derived.ShutString
import Derived.ChangeOld
import Derived.Below
import Derived.SizedLaws
set_option linter.unusedVariables false
set_option linter.unusedSimpArgs false
set_option maxHeartbeats 4000000
namespace Go.Proofs
open Go Go.Ev
set_option maxRecDepth 100000
variable {X : Rel3}
def k_l14Fold : List (Nat × List Nat) := [(0, [1, 2]), (1, [1, 2, 3]), (2, [1, 2, 3, 4]), (3, [1, 2, 3, 4, 12]), (4, [1, 2, 3, 4]), (5, [1, 2, 3, 4]), (6, [1, 2, 3, 26]), (7, [1, 2, 3, 26, 27]), (8, [2]), (9, [1, 2, 3, 26, 31]), (10, [2, 3, 38]), (11, [2]), (12, [1, 2, 3, 26, 49]), (13, [1, 2, 3, 26, 49]), (14, [2, 3, 5]), (15, [2, 3, 5, 72]), (16, [2]), (17, [1, 2, 3, 26, 81]), (18, [2, 3, 88]), (19, [2]), (20, [1, 2, 3, 26, 93]), (21, [2, 3, 117]), (22, [2]), (23, [2, 3, 122]), (24, [2, 3, 128]), (25, [2]), (26, [2])]
theorem l14Fold_t : ∀ (t : Tm), tmH t = true → t.ok → tmD t ≤ 24 → tmN t ≤ 150 → Tells Try.prog E0 X 22 [t.a false] ((foldT t).a true)
  | .mk kk nn ss zz (.mk tk tn ta) ts aa, hH, hok, hd, hn => by
    have hH' := hH
    have hok' := hok
    rw [tmH, Bool.and_eq_true_iff] at hH'
    rw [Tm.ok] at hok'
    obtain ⟨g1, g2, g3, g4, g5, g6, g7⟩ := foldL_gd aa hH'.2 hok'.2.2.2.2.2
    have hmm := fun x hx => Gd.mem (x := x) hH hok hx
    have hd' := hd
    have hn' := hn
    rw [tmD] at hd'
    rw [tmN] at hn'
    have cC := l2Copy_t (X := X) (.mk kk nn ss zz (.mk tk tn ta) ts aa) hok
    have mH : tmH (.mk kk nn ss zz (.mk tk tn ta) ts (foldL aa)) = true := by rw [tmH, Bool.and_eq_true_iff]; exact ⟨tmHd_like g3 g7 hH'.1, g1⟩
    have mO : (Tm.mk kk nn ss zz (.mk tk tn ta) ts (foldL aa)).ok := by rw [Tm.ok]; exact ⟨hok'.1, hok'.2.1, hok'.2.2.1, hok'.2.2.2.1, by rw [g3]; exact hok'.2.2.2.2.1, g2⟩
    have mD : tmD (.mk kk nn ss zz (.mk tk tn ta) ts (foldL aa)) ≤ 24 := by rw [tmD]; omega
    have mN : tmN (.mk kk nn ss zz (.mk tk tn ta) ts (foldL aa)) ≤ 150 := by rw [tmN]; omega
    have hop : kk = 15 → nn ≤ 5 := fun e => by
      have h2 := hH'.1
      unfold tmHd at h2
      simp only [Bool.and_eq_true] at h2
      have h3 := h2.1.1.1.1.1.1.2
      rw [e] at h3
      have h4 : rng nn 1 5 = true := h3
      exact (rng_iff.1 h4).2
    have hfe : foldT (.mk kk nn ss zz (.mk tk tn ta) ts aa) = fold1 kk nn ss zz (.mk tk tn ta) ts (foldL aa) := by rw [foldT]
    rw [hfe]
    have hl5 := hok'.2.2.2.2.1
    clear g1 g2 g4 g5 g6 g7 hH' hok' hfe
    refine Tells.by Try.func22 (by simp [Try.f22]) (Body.i rfl rfl rfl (fun _ => rfl) fun f => ?_)
    repeat' (first
       | refine wp_seq_i ?_ | refine wp_region_t k_l14Fold rfl ?_ | refine Run.done rfl ?_ | refine then_n ?_ | refine then_r ?_ | refine then_e ?_ | refine Run.go1 rfl ?_ | refine wp_skip_i ?_ | refine wp_ret_i ?_
       | refine wp_exit_i ?_ | refine wp_block_i ?_ | refine block_n ?_ | refine block_r ?_ | refine block_e ?_ | refine block_o rfl ?_ | refine wp_cond_t rfl ?_ | refine wp_cond_f rfl ?_
       | refine Run.call rfl rfl rfl (cC) rfl rfl ?_ | refine Run.one rfl rfl rfl ?_ | (refine wp_cond_k rfl rfl rfl ?_ ?_ <;> intro _) | (refine wp_cond_i rfl ?_ ?_ <;> intro _))
    clear cC
    refine wp_loop_k (α := Nat × List Tm) [.keep [1, 2, 3, 4] [1, 2, 3, 6007, 7007, 8007]] (fun p => [(4, iA p.1)]) (fun _ => []) (fun p => [(8007, 0, (p.2 ++ aa.drop p.1).map (Tm.c true))]) (fun p => p.1 ≤ aa.length ∧ p.2 = foldL (aa.take p.1)) (fun p => aa.length - p.1) (0, []) rfl (fun _ => rfl) rfl ⟨Nat.zero_le _, by rw [List.take_zero, foldL]⟩ ?_
    rintro ⟨j, m⟩ ⟨hj, hm⟩
    simp only at hj hm
    have hml : m.length = j := by rw [hm, foldL_len, List.length_take]; omega
    by_cases hlt : j < aa.length
    · obtain ⟨t, ht⟩ : ∃ t, aa[j]? = some t := ⟨_, List.getElem?_eq_getElem hlt⟩
      have hmem := List.mem_of_getElem? ht
      have hjd : decide ((j : Int) < (((m ++ aa.drop j).map (Tm.c true)).length : Int)) = true := by rw [List.length_map, List.length_append, List.length_drop, hml]; simp; omega
      have hgt := hmm t hmem
      have hT0 := l14Fold_t t hgt.h hgt.ok (Nat.le_trans hgt.d hd) (Nat.le_trans hgt.n hn)
      have htk : foldL (aa.take (j + 1)) = m ++ [foldT t] := by rw [List.take_succ_eq_append_getElem hlt, (List.getElem?_eq_some_iff.1 ht).2, foldL_snoc, hm]
      have hx := row_at m aa j t hml ht
      have hset := fun t' => row_set m aa j t t' hml ht
      generalize foldT t = r at hT0 htk
      obtain ⟨k2, n2, y2, z2, ⟨tk2, tn2, ta2⟩, ts2, a2⟩ := t
      obtain ⟨k3, n3, y3, z3, ⟨tk3, tn3, ta3⟩, ts3, a3⟩ := r
      have hT : Tells Try.prog E0 X 22 [tmS k2 n2 y2 z2 tk2 tn2 ta2 ts2 a2] (Tm.a true (Tm.mk k3 n3 y3 z3 (.mk tk3 tn3 ta3) ts3 a3)) := by rw [tmS_eq]; exact hT0
      rw [Tm.c_mk] at hx
      have hown : (Tm.a true (Tm.mk k3 n3 y3 z3 (.mk tk3 tn3 ta3) ts3 a3)).own := by simp [Tm.a, AV.own, T.own, ownCL, ownC, own_Ty, own_Tm]
      repeat' (first
         | refine wp_cond_t rfl ?_ | refine wp_cond_f rfl ?_
         | (refine wp_cond_k rfl rfl rfl ?_ ?_ <;> intro hcnd <;> (try (exfalso; first | (rw [hjd] at hcnd; cases hcnd; done) | (simp only at hcnd; rw [hjd] at hcnd; cases hcnd; done)))) | refine wp_seq_i ?_
         | refine wp_region_t k_l14Fold rfl ?_ | refine Run.done rfl ?_ | refine then_n ?_ | refine then_r ?_ | refine then_e ?_ | refine Run.go1 rfl ?_ | refine wp_skip_i ?_ | refine wp_ret_i ?_ | refine wp_exit_i ?_
         | refine wp_block_i ?_ | refine block_n ?_ | refine block_r ?_ | refine block_e ?_ | refine block_o rfl ?_ | refine wp_cond_t rfl ?_ | refine wp_cond_f rfl ?_ | refine RunQ.go1 rfl ?_ | refine RunQ.done rfl ?_
         | refine wp_region_l k_l14Fold [0, 1, 2, 3, 4, 5, 6, 7] [8] [0, 1, 0, 0, 8, 0, 56, 120, 248, 511, 1023] rfl (by decide +kernel) (by decide +kernel) rfl rfl ?_ | refine RunL.call rfl rfl rfl rfl (hT) (.inr hown) rfl rfl ?_
         | refine RunL.one rfl rfl rfl rfl rfl ?_ | refine RunL.done ?_ | refine RunQ.ix rfl rfl rfl rfl rfl rfl rfl hx rfl rfl rfl ?_ | refine RunQ.ldr rfl rfl rfl hx rfl rfl ?_
         | refine Run.ix rfl rfl rfl rfl rfl rfl rfl hx rfl rfl rfl ?_ | refine Run.str rfl rfl rfl rfl rfl rfl hx rfl rfl ?_ | refine Run.one rfl rfl rfl ?_ | (refine wp_cond_k rfl rfl rfl ?_ ?_ <;> intro _)
         | (refine wp_cond_i rfl ?_ ?_ <;> intro _))
      all_goals first
      | (exfalso; rename_i h; simp only at h; rw [hjd] at h; cases h; done)
      | (refine back_i [.keep [1, 2, 3, 4] [1, 2, 3, 6007, 7007, 8007]] (j + 1, m ++ [(Tm.mk k3 n3 y3 z3 (.mk tk3 tn3 ta3) ts3 a3)]) rfl ?_ ⟨by simp; omega, htk.symm⟩ (by simp; omega)
         simp only [w_succ hlt (show aa.length ≤ 9223372036854775807 by omega), ← hset, Tm.c_mk]; first | done | rfl)
      | trace_state
    · have hjl : j = aa.length := by omega
      subst hjl
      rw [List.take_length] at hm
      have hrows : (m ++ aa.drop aa.length).map (Tm.c true) = (foldL aa).map (Tm.c true) := by rw [hm, List.drop_length, List.append_nil]
      have hjd : decide ((aa.length : Int) < (((foldL aa).map (Tm.c true)).length : Int)) = false := by rw [List.length_map, foldL_len]; simp
      simp only [hrows]
      clear hrows hm hml hj hlt hmm hH hok hd hn hd' hn'
      have hlen : ((foldL aa).length : Int) = tmPt kk := by
        have h' := mH
        rw [tmH] at h'
        have h2 := (Bool.and_eq_true_iff.1 h').1
        unfold tmHd at h2
        simp only [Bool.and_eq_true, decide_eq_true_eq] at h2
        exact h2.1.1.1.1.1.1.1
      have hm := fun x hx => Gd.mem (x := x) mH mO hx
      generalize foldL aa = la at *
      clear mH mO
      by_cases h15 : kk = 15
      · subst h15
        rcases la with _ | ⟨e0, _ | ⟨e1, _ | ⟨w, r⟩⟩⟩
        all_goals try (exfalso; simp [tmPt] at hlen; done)
        all_goals try (exfalso; simp [tmPt] at hlen; omega)
        obtain ⟨k3, n3, y3, z3, ⟨tk3, tn3, ta3⟩, ts3, a3⟩ := e0
        obtain ⟨k4, n4, y4, z4, ⟨tk4, tn4, ta4⟩, ts4, a4⟩ := e1
        rw [fold1_15, a_ite]
        have hx0 : (([(Tm.mk k3 n3 y3 z3 (.mk tk3 tn3 ta3) ts3 a3), (Tm.mk k4 n4 y4 z4 (.mk tk4 tn4 ta4) ts4 a4)] : List Tm).map (Tm.c true))[0]? = some [iT k3, iT n3, sT y3, sT z3, iT tk3, iT tn3, .sl true (ta3.map (Ty.c true)), .sl true (ts3.map (Ty.c true)), .sl true (a3.map (Tm.c true))] := by rw [List.map_cons, Tm.c_mk]; rfl
        have hx1 : (([(Tm.mk k3 n3 y3 z3 (.mk tk3 tn3 ta3) ts3 a3), (Tm.mk k4 n4 y4 z4 (.mk tk4 tn4 ta4) ts4 a4)] : List Tm).map (Tm.c true))[1]? = some [iT k4, iT n4, sT y4, sT z4, iT tk4, iT tn4, .sl true (ta4.map (Ty.c true)), .sl true (ts4.map (Ty.c true)), .sl true (a4.map (Tm.c true))] := by rw [List.map_cons, List.map_cons, Tm.c_mk, Tm.c_mk]; rfl
        have cO := l14Op_t (X := X) nn ss zz tk tn ta ts _ k3 n3 y3 z3 tk3 tn3 ta3 ts3 a3 k4 n4 y4 z4 tk4 tn4 ta4 ts4 a4 (hop rfl) hx0 hx1
        have hjd' := hjd
        by_cases h34 : k3 = 1 ∧ k4 = 1
        · rw [if_pos h34] at cO ⊢
          generalize opR nn n3 n4 = rr at cO ⊢
          rcases rr with _ | ⟨k, n⟩
          all_goals (
            repeat' (first
               | refine wp_cond_t rfl ?_ | refine wp_cond_f rfl ?_
               | (refine wp_cond_k rfl rfl rfl ?_ ?_ <;> intro hcnd <;> (try (exfalso; first | (rw [hjd] at hcnd; cases hcnd; done) | (simp only at hcnd; rw [hjd] at hcnd; cases hcnd; done)))) | refine wp_seq_i ?_
               | refine wp_region_t k_l14Fold rfl ?_ | refine Run.done rfl ?_ | refine then_n ?_ | refine then_r ?_ | refine then_e ?_ | refine Run.go1 rfl ?_ | refine wp_skip_i ?_ | refine wp_ret_i ?_ | refine wp_exit_i ?_
               | refine wp_block_i ?_ | refine block_n ?_ | refine block_r ?_ | refine block_e ?_ | refine block_o rfl ?_ | refine wp_cond_t rfl ?_ | refine wp_cond_f rfl ?_ | refine RunQ.go1 rfl ?_ | refine RunQ.done rfl ?_
               | refine Run.gT rfl rfl rfl rfl ?_ | refine Run.pT rfl rfl ?_ | (refine Run.splitG rfl rfl rfl rfl rfl rfl ?_ ?_ <;> intro _) | (refine Run.splitP rfl rfl rfl rfl ?_ ?_ <;> intro _)
               | refine RunQ.gT rfl rfl rfl rfl ?_ | refine RunQ.pT rfl rfl ?_ | (refine RunQ.splitG rfl rfl rfl rfl rfl rfl ?_ ?_ <;> intro _) | (refine RunQ.splitP rfl rfl rfl rfl ?_ ?_ <;> intro _)
               | refine Run.call rfl rfl rfl (cO) rfl rfl ?_ | refine RunQ.ix rfl rfl rfl rfl rfl rfl rfl hx0 rfl rfl rfl ?_ | refine RunQ.ix rfl rfl rfl rfl rfl rfl rfl hx1 rfl rfl rfl ?_
               | refine RunQ.ldr rfl rfl rfl hx0 rfl rfl ?_ | refine RunQ.ldr rfl rfl rfl hx1 rfl rfl ?_ | refine Run.ix rfl rfl rfl rfl rfl rfl rfl hx0 rfl rfl rfl ?_ | refine Run.ix rfl rfl rfl rfl rfl rfl rfl hx1 rfl rfl rfl ?_
               | refine Run.ldr rfl rfl rfl hx0 rfl rfl ?_ | refine Run.ldr rfl rfl rfl hx1 rfl rfl ?_ | refine Run.one rfl rfl rfl ?_ | (refine wp_cond_k rfl rfl rfl ?_ ?_ <;> intro _) | (refine wp_cond_i rfl ?_ ?_ <;> intro _))
            all_goals first
            | (exact ret_m (E := E0) [] rfl rfl rfl)
            | (refine ret_m (E := E0) [] rfl rfl ?_; rw [← hR]; rfl)
            | (exfalso; rename_i h; first | (rw [hjd] at h; cases h; done) | (simp only at h; rw [hjd] at h; cases h; done))
            | (refine ⟨?_⟩; clear  hjd; simp_all; done)
            | (exfalso; clear  hjd; simp_all; done)
            | trace_state)
        · rw [if_neg h34] at cO ⊢
          repeat' (first
             | refine wp_cond_t rfl ?_ | refine wp_cond_f rfl ?_
             | (refine wp_cond_k rfl rfl rfl ?_ ?_ <;> intro hcnd <;> (try (exfalso; first | (rw [hjd] at hcnd; cases hcnd; done) | (simp only at hcnd; rw [hjd] at hcnd; cases hcnd; done)))) | refine wp_seq_i ?_
             | refine wp_region_t k_l14Fold rfl ?_ | refine Run.done rfl ?_ | refine then_n ?_ | refine then_r ?_ | refine then_e ?_ | refine Run.go1 rfl ?_ | refine wp_skip_i ?_ | refine wp_ret_i ?_ | refine wp_exit_i ?_
             | refine wp_block_i ?_ | refine block_n ?_ | refine block_r ?_ | refine block_e ?_ | refine block_o rfl ?_ | refine wp_cond_t rfl ?_ | refine wp_cond_f rfl ?_ | refine RunQ.go1 rfl ?_ | refine RunQ.done rfl ?_
             | refine Run.gT rfl rfl rfl rfl ?_ | refine Run.pT rfl rfl ?_ | (refine Run.splitG rfl rfl rfl rfl rfl rfl ?_ ?_ <;> intro _) | (refine Run.splitP rfl rfl rfl rfl ?_ ?_ <;> intro _) | refine RunQ.gT rfl rfl rfl rfl ?_
             | refine RunQ.pT rfl rfl ?_ | (refine RunQ.splitG rfl rfl rfl rfl rfl rfl ?_ ?_ <;> intro _) | (refine RunQ.splitP rfl rfl rfl rfl ?_ ?_ <;> intro _) | refine Run.call rfl rfl rfl (cO) rfl rfl ?_
             | refine RunQ.ix rfl rfl rfl rfl rfl rfl rfl hx0 rfl rfl rfl ?_ | refine RunQ.ix rfl rfl rfl rfl rfl rfl rfl hx1 rfl rfl rfl ?_ | refine RunQ.ldr rfl rfl rfl hx0 rfl rfl ?_ | refine RunQ.ldr rfl rfl rfl hx1 rfl rfl ?_
             | refine Run.ix rfl rfl rfl rfl rfl rfl rfl hx0 rfl rfl rfl ?_ | refine Run.ix rfl rfl rfl rfl rfl rfl rfl hx1 rfl rfl rfl ?_ | refine Run.ldr rfl rfl rfl hx0 rfl rfl ?_ | refine Run.ldr rfl rfl rfl hx1 rfl rfl ?_
             | refine Run.one rfl rfl rfl ?_ | (refine wp_cond_k rfl rfl rfl ?_ ?_ <;> intro _) | (refine wp_cond_i rfl ?_ ?_ <;> intro _))
          all_goals first
          | (exact ret_m (E := E0) [] rfl rfl rfl)
          | (refine ret_m (E := E0) [] rfl rfl ?_; rw [← hR]; rfl)
          | (exfalso; rename_i h; first | (rw [hjd] at h; cases h; done) | (simp only at h; rw [hjd] at h; cases h; done))
          | (refine ⟨?_⟩; clear  hjd; simp_all; done)
          | (exfalso; clear  hjd; simp_all; done)
          | trace_state
      by_cases h8 : kk = 8
      · subst h8
        rcases la with _ | ⟨e0, _ | ⟨e1, _ | ⟨e2, _ | ⟨w, r⟩⟩⟩⟩
        all_goals try (exfalso; simp [tmPt] at hlen; done)
        all_goals try (exfalso; simp [tmPt] at hlen; omega)
        have hn3 : ∀ k3 n3 y3 z3 t3 ts3 a3, e0 = Tm.mk k3 n3 y3 z3 t3 ts3 a3 → k3 = 2 → n3 = 1 ∨ n3 = 0 := fun k3 n3 y3 z3 t3 ts3 a3 he hk => by
          have g := (hm e0 (by simp)).h
          rw [he, tmH] at g
          have h2 := (Bool.and_eq_true_iff.1 g).1
          unfold tmHd at h2
          simp only [Bool.and_eq_true] at h2
          have h3 := h2.1.1.1.1.1.1.2
          rw [hk] at h3
          have h4 := rng_iff.1 (show rng n3 0 1 = true from h3)
          omega
        obtain ⟨k3, n3, y3, z3, ⟨tk3, tn3, ta3⟩, ts3, a3⟩ := e0
        obtain ⟨k4, n4, y4, z4, ⟨tk4, tn4, ta4⟩, ts4, a4⟩ := e1
        obtain ⟨k5, n5, y5, z5, ⟨tk5, tn5, ta5⟩, ts5, a5⟩ := e2
        have hn3 := hn3 _ _ _ _ _ _ _ rfl
        rw [fold1_8, a_ite, a_ite]
        have hx0 : (([(Tm.mk k3 n3 y3 z3 (.mk tk3 tn3 ta3) ts3 a3), (Tm.mk k4 n4 y4 z4 (.mk tk4 tn4 ta4) ts4 a4), (Tm.mk k5 n5 y5 z5 (.mk tk5 tn5 ta5) ts5 a5)] : List Tm).map (Tm.c true))[0]? = some [iT k3, iT n3, sT y3, sT z3, iT tk3, iT tn3, .sl true (ta3.map (Ty.c true)), .sl true (ts3.map (Ty.c true)), .sl true (a3.map (Tm.c true))] := by rw [List.map_cons, Tm.c_mk]; rfl
        have hx1 : (([(Tm.mk k3 n3 y3 z3 (.mk tk3 tn3 ta3) ts3 a3), (Tm.mk k4 n4 y4 z4 (.mk tk4 tn4 ta4) ts4 a4), (Tm.mk k5 n5 y5 z5 (.mk tk5 tn5 ta5) ts5 a5)] : List Tm).map (Tm.c true))[1]? = some [iT k4, iT n4, sT y4, sT z4, iT tk4, iT tn4, .sl true (ta4.map (Ty.c true)), .sl true (ts4.map (Ty.c true)), .sl true (a4.map (Tm.c true))] := by rw [List.map_cons, List.map_cons, Tm.c_mk, Tm.c_mk]; rfl
        have hx2 : (([(Tm.mk k3 n3 y3 z3 (.mk tk3 tn3 ta3) ts3 a3), (Tm.mk k4 n4 y4 z4 (.mk tk4 tn4 ta4) ts4 a4), (Tm.mk k5 n5 y5 z5 (.mk tk5 tn5 ta5) ts5 a5)] : List Tm).map (Tm.c true))[2]? = some [iT k5, iT n5, sT y5, sT z5, iT tk5, iT tn5, .sl true (ta5.map (Ty.c true)), .sl true (ts5.map (Ty.c true)), .sl true (a5.map (Tm.c true))] := by rw [List.map_cons, List.map_cons, List.map_cons, Tm.c_mk, Tm.c_mk, Tm.c_mk]; rfl
        clear hm
        generalize hR : ([(Tm.mk k3 n3 y3 z3 (.mk tk3 tn3 ta3) ts3 a3), (Tm.mk k4 n4 y4 z4 (.mk tk4 tn4 ta4) ts4 a4), (Tm.mk k5 n5 y5 z5 (.mk tk5 tn5 ta5) ts5 a5)] : List Tm).map (Tm.c true) = R at hx0 hx1 hx2 hjd ⊢
        have hl1 : 1 < R.length := (List.getElem?_eq_some_iff.1 hx1).1
        have hl2 : 2 < R.length := (List.getElem?_eq_some_iff.1 hx2).1
        by_cases hk : k3 = 2
        · rw [if_pos hk]
          rcases hn3 hk with rfl | rfl
          · subst hk
            rw [if_pos rfl]
            repeat' (first
               | refine wp_cond_t rfl ?_ | refine wp_cond_f rfl ?_
               | (refine wp_cond_k rfl rfl rfl ?_ ?_ <;> intro hcnd <;> (try (exfalso; first | (rw [hjd] at hcnd; cases hcnd; done) | (simp only at hcnd; rw [hjd] at hcnd; cases hcnd; done))))
               | refine Run.adjwOn 48 (.hole 8007 1 6 900001 _ _ _ _ _ _ rfl hx1 rfl (fun _ => rfl) fun u1 => .hole 8007 1 7 900002 _ _ _ _ _ _ rfl (set_hit (by simpa using hl1)) rfl (fun _ => rfl) fun u2 => .hole 8007 1 8 900003 _ _ _ _ _ _ rfl (set_hit (by simpa using hl1)) rfl (fun _ => rfl) fun u3 => .done _ (Run.ldr rfl rfl rfl (set_hit (by simpa using hl1)) rfl rfl (Run.adjw (.tellC 48 6 900001 _ _ _ _ _ _ _ rfl rfl rfl rfl rfl rfl (.tellC 48 7 900002 _ _ _ _ _ _ _ rfl rfl rfl rfl rfl rfl (.tellC 48 8 900003 _ _ _ _ _ _ _ rfl rfl rfl rfl rfl rfl (.done _ ?_)))))))
               | refine wp_seq_i ?_ | refine wp_region_t k_l14Fold rfl ?_ | refine Run.done rfl ?_ | refine then_n ?_ | refine then_r ?_ | refine then_e ?_ | refine Run.go1 rfl ?_ | refine wp_skip_i ?_ | refine wp_ret_i ?_
               | refine wp_exit_i ?_ | refine wp_block_i ?_ | refine block_n ?_ | refine block_r ?_ | refine block_e ?_ | refine block_o rfl ?_ | refine wp_cond_t rfl ?_ | refine wp_cond_f rfl ?_
               | refine wp_region_qt k_l14Fold rfl 8 (by decide +kernel) rfl rfl ?_ | refine RunQ.go1 rfl ?_ | refine RunQ.done rfl ?_ | refine Run.gT rfl rfl rfl rfl ?_ | refine Run.pT rfl rfl ?_
               | (refine Run.splitG rfl rfl rfl rfl rfl rfl ?_ ?_ <;> intro _) | (refine Run.splitP rfl rfl rfl rfl ?_ ?_ <;> intro _) | refine RunQ.gT rfl rfl rfl rfl ?_ | refine RunQ.pT rfl rfl ?_
               | (refine RunQ.splitG rfl rfl rfl rfl rfl rfl ?_ ?_ <;> intro _) | (refine RunQ.splitP rfl rfl rfl rfl ?_ ?_ <;> intro _) | refine RunQ.ix rfl rfl rfl rfl rfl rfl rfl hx0 rfl rfl rfl ?_
               | refine RunQ.ix rfl rfl rfl rfl rfl rfl rfl hx1 rfl rfl rfl ?_ | refine RunQ.ix rfl rfl rfl rfl rfl rfl rfl hx2 rfl rfl rfl ?_ | refine RunQ.ldr rfl rfl rfl hx0 rfl rfl ?_
               | refine RunQ.ldr rfl rfl rfl hx1 rfl rfl ?_ | refine RunQ.ldr rfl rfl rfl hx2 rfl rfl ?_ | refine Run.ix rfl rfl rfl rfl rfl rfl rfl hx0 rfl rfl rfl ?_ | refine Run.ix rfl rfl rfl rfl rfl rfl rfl hx1 rfl rfl rfl ?_
               | refine Run.ix rfl rfl rfl rfl rfl rfl rfl hx2 rfl rfl rfl ?_ | refine Run.ldr rfl rfl rfl hx0 rfl rfl ?_ | refine Run.ldr rfl rfl rfl hx1 rfl rfl ?_ | refine Run.ldr rfl rfl rfl hx2 rfl rfl ?_
               | refine Run.one rfl rfl rfl ?_ | (refine wp_cond_k rfl rfl rfl ?_ ?_ <;> intro _) | (refine wp_cond_i rfl ?_ ?_ <;> intro _))
            all_goals first
            | (exact ret_m (E := E0) [] rfl rfl rfl)
            | (refine ret_m (E := E0) [] rfl rfl ?_; rw [← hR]; rfl)
            | (exfalso; rename_i h; first | (rw [hjd] at h; cases h; done) | (simp only at h; rw [hjd] at h; cases h; done))
            | (refine ⟨?_⟩; clear  hjd; simp_all; done)
            | (exfalso; clear  hjd; simp_all; done)
            | trace_state
          · subst hk
            rw [if_neg (by decide)]
            repeat' (first
               | refine wp_cond_t rfl ?_ | refine wp_cond_f rfl ?_
               | (refine wp_cond_k rfl rfl rfl ?_ ?_ <;> intro hcnd <;> (try (exfalso; first | (rw [hjd] at hcnd; cases hcnd; done) | (simp only at hcnd; rw [hjd] at hcnd; cases hcnd; done))))
               | refine Run.adjwOn 48 (.hole 8007 2 6 900001 _ _ _ _ _ _ rfl hx2 rfl (fun _ => rfl) fun u1 => .hole 8007 2 7 900002 _ _ _ _ _ _ rfl (set_hit (by simpa using hl2)) rfl (fun _ => rfl) fun u2 => .hole 8007 2 8 900003 _ _ _ _ _ _ rfl (set_hit (by simpa using hl2)) rfl (fun _ => rfl) fun u3 => .done _ (Run.ldr rfl rfl rfl (set_hit (by simpa using hl2)) rfl rfl (Run.adjw (.tellC 48 6 900001 _ _ _ _ _ _ _ rfl rfl rfl rfl rfl rfl (.tellC 48 7 900002 _ _ _ _ _ _ _ rfl rfl rfl rfl rfl rfl (.tellC 48 8 900003 _ _ _ _ _ _ _ rfl rfl rfl rfl rfl rfl (.done _ ?_)))))))
               | refine wp_seq_i ?_ | refine wp_region_t k_l14Fold rfl ?_ | refine Run.done rfl ?_ | refine then_n ?_ | refine then_r ?_ | refine then_e ?_ | refine Run.go1 rfl ?_ | refine wp_skip_i ?_ | refine wp_ret_i ?_
               | refine wp_exit_i ?_ | refine wp_block_i ?_ | refine block_n ?_ | refine block_r ?_ | refine block_e ?_ | refine block_o rfl ?_ | refine wp_cond_t rfl ?_ | refine wp_cond_f rfl ?_
               | refine wp_region_qt k_l14Fold rfl 8 (by decide +kernel) rfl rfl ?_ | refine RunQ.go1 rfl ?_ | refine RunQ.done rfl ?_ | refine Run.gT rfl rfl rfl rfl ?_ | refine Run.pT rfl rfl ?_
               | (refine Run.splitG rfl rfl rfl rfl rfl rfl ?_ ?_ <;> intro _) | (refine Run.splitP rfl rfl rfl rfl ?_ ?_ <;> intro _) | refine RunQ.gT rfl rfl rfl rfl ?_ | refine RunQ.pT rfl rfl ?_
               | (refine RunQ.splitG rfl rfl rfl rfl rfl rfl ?_ ?_ <;> intro _) | (refine RunQ.splitP rfl rfl rfl rfl ?_ ?_ <;> intro _) | refine RunQ.ix rfl rfl rfl rfl rfl rfl rfl hx0 rfl rfl rfl ?_
               | refine RunQ.ix rfl rfl rfl rfl rfl rfl rfl hx1 rfl rfl rfl ?_ | refine RunQ.ix rfl rfl rfl rfl rfl rfl rfl hx2 rfl rfl rfl ?_ | refine RunQ.ldr rfl rfl rfl hx0 rfl rfl ?_
               | refine RunQ.ldr rfl rfl rfl hx1 rfl rfl ?_ | refine RunQ.ldr rfl rfl rfl hx2 rfl rfl ?_ | refine Run.ix rfl rfl rfl rfl rfl rfl rfl hx0 rfl rfl rfl ?_ | refine Run.ix rfl rfl rfl rfl rfl rfl rfl hx1 rfl rfl rfl ?_
               | refine Run.ix rfl rfl rfl rfl rfl rfl rfl hx2 rfl rfl rfl ?_ | refine Run.ldr rfl rfl rfl hx0 rfl rfl ?_ | refine Run.ldr rfl rfl rfl hx1 rfl rfl ?_ | refine Run.ldr rfl rfl rfl hx2 rfl rfl ?_
               | refine Run.one rfl rfl rfl ?_ | (refine wp_cond_k rfl rfl rfl ?_ ?_ <;> intro _) | (refine wp_cond_i rfl ?_ ?_ <;> intro _))
            all_goals first
            | (exact ret_m (E := E0) [] rfl rfl rfl)
            | (refine ret_m (E := E0) [] rfl rfl ?_; rw [← hR]; rfl)
            | (exfalso; rename_i h; first | (rw [hjd] at h; cases h; done) | (simp only at h; rw [hjd] at h; cases h; done))
            | (refine ⟨?_⟩; clear  hjd; simp_all; done)
            | (exfalso; clear  hjd; simp_all; done)
            | trace_state
        · rw [if_neg hk]
          repeat' (first
             | refine wp_cond_t rfl ?_ | refine wp_cond_f rfl ?_
             | (refine wp_cond_k rfl rfl rfl ?_ ?_ <;> intro hcnd <;> (try (exfalso; first | (rw [hjd] at hcnd; cases hcnd; done) | (simp only at hcnd; rw [hjd] at hcnd; cases hcnd; done)))) | refine wp_seq_i ?_
             | refine wp_region_t k_l14Fold rfl ?_ | refine Run.done rfl ?_ | refine then_n ?_ | refine then_r ?_ | refine then_e ?_ | refine Run.go1 rfl ?_ | refine wp_skip_i ?_ | refine wp_ret_i ?_ | refine wp_exit_i ?_
             | refine wp_block_i ?_ | refine block_n ?_ | refine block_r ?_ | refine block_e ?_ | refine block_o rfl ?_ | refine wp_cond_t rfl ?_ | refine wp_cond_f rfl ?_
             | refine wp_region_qt k_l14Fold rfl 8 (by decide +kernel) rfl rfl ?_ | refine RunQ.go1 rfl ?_ | refine RunQ.done rfl ?_ | refine Run.gT rfl rfl rfl rfl ?_ | refine Run.pT rfl rfl ?_
             | (refine Run.splitG rfl rfl rfl rfl rfl rfl ?_ ?_ <;> intro _) | (refine Run.splitP rfl rfl rfl rfl ?_ ?_ <;> intro _) | refine RunQ.gT rfl rfl rfl rfl ?_ | refine RunQ.pT rfl rfl ?_
             | (refine RunQ.splitG rfl rfl rfl rfl rfl rfl ?_ ?_ <;> intro _) | (refine RunQ.splitP rfl rfl rfl rfl ?_ ?_ <;> intro _) | refine RunQ.ix rfl rfl rfl rfl rfl rfl rfl hx0 rfl rfl rfl ?_
             | refine RunQ.ix rfl rfl rfl rfl rfl rfl rfl hx1 rfl rfl rfl ?_ | refine RunQ.ix rfl rfl rfl rfl rfl rfl rfl hx2 rfl rfl rfl ?_ | refine RunQ.ldr rfl rfl rfl hx0 rfl rfl ?_ | refine RunQ.ldr rfl rfl rfl hx1 rfl rfl ?_
             | refine RunQ.ldr rfl rfl rfl hx2 rfl rfl ?_ | refine Run.ix rfl rfl rfl rfl rfl rfl rfl hx0 rfl rfl rfl ?_ | refine Run.ix rfl rfl rfl rfl rfl rfl rfl hx1 rfl rfl rfl ?_
             | refine Run.ix rfl rfl rfl rfl rfl rfl rfl hx2 rfl rfl rfl ?_ | refine Run.ldr rfl rfl rfl hx0 rfl rfl ?_ | refine Run.ldr rfl rfl rfl hx1 rfl rfl ?_ | refine Run.ldr rfl rfl rfl hx2 rfl rfl ?_
             | refine Run.one rfl rfl rfl ?_ | (refine wp_cond_k rfl rfl rfl ?_ ?_ <;> intro _) | (refine wp_cond_i rfl ?_ ?_ <;> intro _))
          all_goals first
          | (exact ret_m (E := E0) [] rfl rfl rfl)
          | (refine ret_m (E := E0) [] rfl rfl ?_; rw [← hR]; rfl)
          | (exfalso; rename_i h; first | (rw [hjd] at h; cases h; done) | (simp only at h; rw [hjd] at h; cases h; done))
          | (refine ⟨?_⟩; clear hx0 hx1 hx2 hjd; simp_all; done)
          | (exfalso; clear hx0 hx1 hx2 hjd; simp_all; done)
          | trace_state
      by_cases h10 : kk = 10
      · subst h10
        rcases la with _ | ⟨e0, _ | ⟨w, r⟩⟩
        all_goals try (exfalso; simp [tmPt] at hlen; done)
        all_goals try (exfalso; simp [tmPt] at hlen; omega)
        have g1 := hm e0 (by simp)
        obtain ⟨k3, n3, y3, z3, ⟨tk3, tn3, ta3⟩, ts3, a3⟩ := e0
        by_cases h9 : k3 = 9
        · have hl2 : (a3.length : Int) = 2 := by
            have h' := g1.h
            rw [tmH] at h'
            have h2 := (Bool.and_eq_true_iff.1 h').1
            unfold tmHd at h2
            simp only [Bool.and_eq_true, decide_eq_true_eq] at h2
            have h3 := h2.1.1.1.1.1.1.1
            rw [h9] at h3
            exact h3
          rcases a3 with _ | ⟨u, _ | ⟨v, _ | ⟨w, r⟩⟩⟩
          all_goals try (exfalso; simp at hl2; done)
          all_goals try (exfalso; simp at hl2; omega)
          have gu := Gd.mem (x := v) g1.h g1.ok (by simp)
          have cP0 := PureS_t (X := X) v gu.ok
          obtain ⟨k4, n4, y4, z4, ⟨tk4, tn4, ta4⟩, ts4, a4⟩ := u
          obtain ⟨k5, n5, y5, z5, ⟨tk5, tn5, ta5⟩, ts5, a5⟩ := v
          have cP : Tells Try.prog E0 X 48 [tmS k5 n5 y5 z5 tk5 tn5 ta5 ts5 a5] (bA (pur (Tm.mk k5 n5 y5 z5 (.mk tk5 tn5 ta5) ts5 a5))) := by rw [tmS_eq]; exact cP0
          subst h9
          rw [fold1_10, a_ite]
          have hx0 : (([Tm.mk 9 n3 y3 z3 (.mk tk3 tn3 ta3) ts3 [(Tm.mk k4 n4 y4 z4 (.mk tk4 tn4 ta4) ts4 a4), (Tm.mk k5 n5 y5 z5 (.mk tk5 tn5 ta5) ts5 a5)]] : List Tm).map (Tm.c true))[0]? = some [iT 9, iT n3, sT y3, sT z3, iT tk3, iT tn3, .sl true (ta3.map (Ty.c true)), .sl true (ts3.map (Ty.c true)), .sl true (([(Tm.mk k4 n4 y4 z4 (.mk tk4 tn4 ta4) ts4 a4), (Tm.mk k5 n5 y5 z5 (.mk tk5 tn5 ta5) ts5 a5)] : List Tm).map (Tm.c true))] := by rw [List.map_cons, Tm.c_mk]; rfl
          have hq0 : (([(Tm.mk k4 n4 y4 z4 (.mk tk4 tn4 ta4) ts4 a4), (Tm.mk k5 n5 y5 z5 (.mk tk5 tn5 ta5) ts5 a5)] : List Tm).map (Tm.c true))[0]? = some [iT k4, iT n4, sT y4, sT z4, iT tk4, iT tn4, .sl true (ta4.map (Ty.c true)), .sl true (ts4.map (Ty.c true)), .sl true (a4.map (Tm.c true))] := by rw [List.map_cons, Tm.c_mk]; rfl
          have hq1 : (([(Tm.mk k4 n4 y4 z4 (.mk tk4 tn4 ta4) ts4 a4), (Tm.mk k5 n5 y5 z5 (.mk tk5 tn5 ta5) ts5 a5)] : List Tm).map (Tm.c true))[1]? = some [iT k5, iT n5, sT y5, sT z5, iT tk5, iT tn5, .sl true (ta5.map (Ty.c true)), .sl true (ts5.map (Ty.c true)), .sl true (a5.map (Tm.c true))] := by rw [List.map_cons, List.map_cons, Tm.c_mk, Tm.c_mk]; rfl
          generalize pur (Tm.mk k5 n5 y5 z5 (.mk tk5 tn5 ta5) ts5 a5) = pb at cP ⊢
          clear hm g1 gu cP0 hl2
          generalize hR : ([Tm.mk 9 n3 y3 z3 (.mk tk3 tn3 ta3) ts3 [(Tm.mk k4 n4 y4 z4 (.mk tk4 tn4 ta4) ts4 a4), (Tm.mk k5 n5 y5 z5 (.mk tk5 tn5 ta5) ts5 a5)]] : List Tm).map (Tm.c true) = R at hx0 hjd ⊢
          generalize ([(Tm.mk k4 n4 y4 z4 (.mk tk4 tn4 ta4) ts4 a4), (Tm.mk k5 n5 y5 z5 (.mk tk5 tn5 ta5) ts5 a5)] : List Tm).map (Tm.c true) = Q at hx0 hq0 hq1
          have hl0 : 0 < R.length := (List.getElem?_eq_some_iff.1 hx0).1
          have hlq : 0 < Q.length := (List.getElem?_eq_some_iff.1 hq0).1
          cases pb
          · rw [if_neg (by decide)]
            repeat' (first
               | refine wp_cond_t rfl ?_ | refine wp_cond_f rfl ?_
               | (refine wp_cond_k rfl rfl rfl ?_ ?_ <;> intro hcnd <;> (try (exfalso; first | (rw [hjd] at hcnd; cases hcnd; done) | (simp only at hcnd; rw [hjd] at hcnd; cases hcnd; done)))) | refine wp_seq_i ?_
               | refine wp_region_t k_l14Fold rfl ?_ | refine Run.done rfl ?_ | refine then_n ?_ | refine then_r ?_ | refine then_e ?_ | refine Run.go1 rfl ?_ | refine wp_skip_i ?_ | refine wp_ret_i ?_ | refine wp_exit_i ?_
               | refine wp_block_i ?_ | refine block_n ?_ | refine block_r ?_ | refine block_e ?_ | refine block_o rfl ?_ | refine wp_cond_t rfl ?_ | refine wp_cond_f rfl ?_ | refine RunQ.go1 rfl ?_ | refine RunQ.done rfl ?_
               | refine Run.gT rfl rfl rfl rfl ?_ | refine Run.pT rfl rfl ?_ | (refine Run.splitG rfl rfl rfl rfl rfl rfl ?_ ?_ <;> intro _) | (refine Run.splitP rfl rfl rfl rfl ?_ ?_ <;> intro _)
               | refine RunQ.gT rfl rfl rfl rfl ?_ | refine RunQ.pT rfl rfl ?_ | (refine RunQ.splitG rfl rfl rfl rfl rfl rfl ?_ ?_ <;> intro _) | (refine RunQ.splitP rfl rfl rfl rfl ?_ ?_ <;> intro _)
               | refine RunQ.ix rfl rfl rfl rfl rfl rfl rfl hx0 rfl rfl rfl ?_ | refine RunQ.ldr rfl rfl rfl hx0 rfl rfl ?_ | refine Run.ix rfl rfl rfl rfl rfl rfl rfl hx0 rfl rfl rfl ?_ | refine Run.ldr rfl rfl rfl hx0 rfl rfl ?_
               | refine RunQ.ix rfl rfl rfl rfl rfl rfl rfl hq0 rfl rfl rfl ?_ | refine RunQ.ix rfl rfl rfl rfl rfl rfl rfl hq1 rfl rfl rfl ?_ | refine Run.ix rfl rfl rfl rfl rfl rfl rfl hq0 rfl rfl rfl ?_
               | refine Run.ix rfl rfl rfl rfl rfl rfl rfl hq1 rfl rfl rfl ?_ | refine Run.callB rfl rfl rfl (cP) (by simp [AV.own, T.own]) rfl ?_ | refine Run.one rfl rfl rfl ?_ | (refine wp_cond_k rfl rfl rfl ?_ ?_ <;> intro _)
               | (refine wp_cond_i rfl ?_ ?_ <;> intro _))
            all_goals first
            | (exact ret_m (E := E0) [] rfl rfl rfl)
            | (refine ret_m (E := E0) [] rfl rfl ?_; rw [← hR]; rfl)
            | (exfalso; rename_i h; first | (rw [hjd] at h; cases h; done) | (simp only at h; rw [hjd] at h; cases h; done))
            | (refine ⟨?_⟩; clear  hjd; simp_all; done)
            | (exfalso; clear  hjd; simp_all; done)
            | trace_state
          · rw [if_pos rfl]
            repeat' (first
               | refine wp_cond_t rfl ?_ | refine wp_cond_f rfl ?_
               | (refine wp_cond_k rfl rfl rfl ?_ ?_ <;> intro hcnd <;> (try (exfalso; first | (rw [hjd] at hcnd; cases hcnd; done) | (simp only at hcnd; rw [hjd] at hcnd; cases hcnd; done))))
               | refine Run.adjwOn 77 (.hole 8007 0 8 900004 _ _ _ _ _ _ rfl hx0 rfl (fun _ => rfl) fun u => .done _ (Run.ldr rfl rfl rfl (set_hit (by simpa using hl0)) rfl rfl (Run.adjw (.tell 77 900004 _ _ _ _ _ rfl rfl rfl rfl (.done _ ?_)))))
               | refine Run.adjwOn 80 (.hole 900004 0 6 900001 _ _ _ _ _ _ rfl hq0 rfl (fun _ => rfl) fun u1 => .hole 900004 0 7 900002 _ _ _ _ _ _ rfl (set_hit (by simpa using hlq)) rfl (fun _ => rfl) fun u2 => .hole 900004 0 8 900003 _ _ _ _ _ _ rfl (set_hit (by simpa using hlq)) rfl (fun _ => rfl) fun u3 => .done _ (Run.ldr rfl rfl rfl (set_hit (by simpa using hlq)) rfl rfl (Run.adjw (.tellC 80 6 900001 _ _ _ _ _ _ _ rfl rfl rfl rfl rfl rfl (.tellC 80 7 900002 _ _ _ _ _ _ _ rfl rfl rfl rfl rfl rfl (.tellC 80 8 900003 _ _ _ _ _ _ _ rfl rfl rfl rfl rfl rfl (.done _ ?_)))))))
               | refine wp_seq_i ?_ | refine wp_region_t k_l14Fold rfl ?_ | refine Run.done rfl ?_ | refine then_n ?_ | refine then_r ?_ | refine then_e ?_ | refine Run.go1 rfl ?_ | refine wp_skip_i ?_ | refine wp_ret_i ?_
               | refine wp_exit_i ?_ | refine wp_block_i ?_ | refine block_n ?_ | refine block_r ?_ | refine block_e ?_ | refine block_o rfl ?_ | refine wp_cond_t rfl ?_ | refine wp_cond_f rfl ?_ | refine RunQ.go1 rfl ?_
               | refine RunQ.done rfl ?_ | refine Run.gT rfl rfl rfl rfl ?_ | refine Run.pT rfl rfl ?_ | (refine Run.splitG rfl rfl rfl rfl rfl rfl ?_ ?_ <;> intro _) | (refine Run.splitP rfl rfl rfl rfl ?_ ?_ <;> intro _)
               | refine RunQ.gT rfl rfl rfl rfl ?_ | refine RunQ.pT rfl rfl ?_ | (refine RunQ.splitG rfl rfl rfl rfl rfl rfl ?_ ?_ <;> intro _) | (refine RunQ.splitP rfl rfl rfl rfl ?_ ?_ <;> intro _)
               | refine RunQ.ix rfl rfl rfl rfl rfl rfl rfl hx0 rfl rfl rfl ?_ | refine RunQ.ldr rfl rfl rfl hx0 rfl rfl ?_ | refine Run.ix rfl rfl rfl rfl rfl rfl rfl hx0 rfl rfl rfl ?_ | refine Run.ldr rfl rfl rfl hx0 rfl rfl ?_
               | refine RunQ.ix rfl rfl rfl rfl rfl rfl rfl hq0 rfl rfl rfl ?_ | refine RunQ.ix rfl rfl rfl rfl rfl rfl rfl hq1 rfl rfl rfl ?_ | refine Run.ix rfl rfl rfl rfl rfl rfl rfl hq0 rfl rfl rfl ?_
               | refine Run.ix rfl rfl rfl rfl rfl rfl rfl hq1 rfl rfl rfl ?_ | refine Run.callB rfl rfl rfl (cP) (by simp [AV.own, T.own]) rfl ?_ | refine Run.one rfl rfl rfl ?_ | (refine wp_cond_k rfl rfl rfl ?_ ?_ <;> intro _)
               | (refine wp_cond_i rfl ?_ ?_ <;> intro _))
            all_goals first
            | (exact ret_m (E := E0) [] rfl rfl rfl)
            | (refine ret_m (E := E0) [] rfl rfl ?_; rw [← hR]; rfl)
            | (exfalso; rename_i h; first | (rw [hjd] at h; cases h; done) | (simp only at h; rw [hjd] at h; cases h; done))
            | (refine ⟨?_⟩; clear  hjd; simp_all; done)
            | (exfalso; clear  hjd; simp_all; done)
            | trace_state
        · rw [fold1_10n _ _ _ _ _ _ _ _ _ _ _ _ h9]
          have hx0 : (([(Tm.mk k3 n3 y3 z3 (.mk tk3 tn3 ta3) ts3 a3)] : List Tm).map (Tm.c true))[0]? = some [iT k3, iT n3, sT y3, sT z3, iT tk3, iT tn3, .sl true (ta3.map (Ty.c true)), .sl true (ts3.map (Ty.c true)), .sl true (a3.map (Tm.c true))] := by rw [List.map_cons, Tm.c_mk]; rfl
          clear hm g1
          generalize hR : ([(Tm.mk k3 n3 y3 z3 (.mk tk3 tn3 ta3) ts3 a3)] : List Tm).map (Tm.c true) = R at hx0 hjd ⊢
          repeat' (first
             | refine wp_cond_t rfl ?_ | refine wp_cond_f rfl ?_
             | (refine wp_cond_k rfl rfl rfl ?_ ?_ <;> intro hcnd <;> (try (exfalso; first | (rw [hjd] at hcnd; cases hcnd; done) | (simp only at hcnd; rw [hjd] at hcnd; cases hcnd; done))))
             | refine wp_region_tB (id := 15) 72 (false) k_l14Fold rfl rfl rfl ?_ ?_ | refine wp_seq_i ?_ | refine wp_region_t k_l14Fold rfl ?_ | refine Run.done rfl ?_ | refine then_n ?_ | refine then_r ?_ | refine then_e ?_
             | refine Run.go1 rfl ?_ | refine wp_skip_i ?_ | refine wp_ret_i ?_ | refine wp_exit_i ?_ | refine wp_block_i ?_ | refine block_n ?_ | refine block_r ?_ | refine block_e ?_ | refine block_o rfl ?_
             | refine wp_cond_t rfl ?_ | refine wp_cond_f rfl ?_ | refine RunQ.go1 rfl ?_ | refine RunQ.done rfl ?_ | refine Run.gT rfl rfl rfl rfl ?_ | refine Run.pT rfl rfl ?_
             | (refine Run.splitG rfl rfl rfl rfl rfl rfl ?_ ?_ <;> intro _) | (refine Run.splitP rfl rfl rfl rfl ?_ ?_ <;> intro _) | refine RunQ.gT rfl rfl rfl rfl ?_ | refine RunQ.pT rfl rfl ?_
             | (refine RunQ.splitG rfl rfl rfl rfl rfl rfl ?_ ?_ <;> intro _) | (refine RunQ.splitP rfl rfl rfl rfl ?_ ?_ <;> intro _) | refine RunQ.ix rfl rfl rfl rfl rfl rfl rfl hx0 rfl rfl rfl ?_
             | refine RunQ.ldr rfl rfl rfl hx0 rfl rfl ?_ | refine Run.ix rfl rfl rfl rfl rfl rfl rfl hx0 rfl rfl rfl ?_ | refine Run.ldr rfl rfl rfl hx0 rfl rfl ?_ | refine Run.one rfl rfl rfl ?_
             | (refine wp_cond_k rfl rfl rfl ?_ ?_ <;> intro _) | (refine wp_cond_i rfl ?_ ?_ <;> intro _))
          all_goals first
          | (exact ret_m (E := E0) [] rfl rfl rfl)
          | (refine ret_m (E := E0) [] rfl rfl ?_; rw [← hR]; rfl)
          | (exfalso; rename_i h; first | (rw [hjd] at h; cases h; done) | (simp only at h; rw [hjd] at h; cases h; done))
          | (refine ⟨?_⟩; clear hx0 hjd; simp_all; done)
          | (exfalso; clear hx0 hjd; simp_all; done)
          | trace_state
      by_cases h11 : kk = 11
      · subst h11
        rcases la with _ | ⟨e0, _ | ⟨w, r⟩⟩
        all_goals try (exfalso; simp [tmPt] at hlen; done)
        all_goals try (exfalso; simp [tmPt] at hlen; omega)
        have g1 := hm e0 (by simp)
        obtain ⟨k3, n3, y3, z3, ⟨tk3, tn3, ta3⟩, ts3, a3⟩ := e0
        by_cases h9 : k3 = 9
        · have hl2 : (a3.length : Int) = 2 := by
            have h' := g1.h
            rw [tmH] at h'
            have h2 := (Bool.and_eq_true_iff.1 h').1
            unfold tmHd at h2
            simp only [Bool.and_eq_true, decide_eq_true_eq] at h2
            have h3 := h2.1.1.1.1.1.1.1
            rw [h9] at h3
            exact h3
          rcases a3 with _ | ⟨u, _ | ⟨v, _ | ⟨w, r⟩⟩⟩
          all_goals try (exfalso; simp at hl2; done)
          all_goals try (exfalso; simp at hl2; omega)
          have gu := Gd.mem (x := u) g1.h g1.ok (by simp)
          have cP0 := PureS_t (X := X) u gu.ok
          obtain ⟨k4, n4, y4, z4, ⟨tk4, tn4, ta4⟩, ts4, a4⟩ := u
          obtain ⟨k5, n5, y5, z5, ⟨tk5, tn5, ta5⟩, ts5, a5⟩ := v
          have cP : Tells Try.prog E0 X 48 [tmS k4 n4 y4 z4 tk4 tn4 ta4 ts4 a4] (bA (pur (Tm.mk k4 n4 y4 z4 (.mk tk4 tn4 ta4) ts4 a4))) := by rw [tmS_eq]; exact cP0
          subst h9
          rw [fold1_11, a_ite]
          have hx0 : (([Tm.mk 9 n3 y3 z3 (.mk tk3 tn3 ta3) ts3 [(Tm.mk k4 n4 y4 z4 (.mk tk4 tn4 ta4) ts4 a4), (Tm.mk k5 n5 y5 z5 (.mk tk5 tn5 ta5) ts5 a5)]] : List Tm).map (Tm.c true))[0]? = some [iT 9, iT n3, sT y3, sT z3, iT tk3, iT tn3, .sl true (ta3.map (Ty.c true)), .sl true (ts3.map (Ty.c true)), .sl true (([(Tm.mk k4 n4 y4 z4 (.mk tk4 tn4 ta4) ts4 a4), (Tm.mk k5 n5 y5 z5 (.mk tk5 tn5 ta5) ts5 a5)] : List Tm).map (Tm.c true))] := by rw [List.map_cons, Tm.c_mk]; rfl
          have hq0 : (([(Tm.mk k4 n4 y4 z4 (.mk tk4 tn4 ta4) ts4 a4), (Tm.mk k5 n5 y5 z5 (.mk tk5 tn5 ta5) ts5 a5)] : List Tm).map (Tm.c true))[0]? = some [iT k4, iT n4, sT y4, sT z4, iT tk4, iT tn4, .sl true (ta4.map (Ty.c true)), .sl true (ts4.map (Ty.c true)), .sl true (a4.map (Tm.c true))] := by rw [List.map_cons, Tm.c_mk]; rfl
          have hq1 : (([(Tm.mk k4 n4 y4 z4 (.mk tk4 tn4 ta4) ts4 a4), (Tm.mk k5 n5 y5 z5 (.mk tk5 tn5 ta5) ts5 a5)] : List Tm).map (Tm.c true))[1]? = some [iT k5, iT n5, sT y5, sT z5, iT tk5, iT tn5, .sl true (ta5.map (Ty.c true)), .sl true (ts5.map (Ty.c true)), .sl true (a5.map (Tm.c true))] := by rw [List.map_cons, List.map_cons, Tm.c_mk, Tm.c_mk]; rfl
          generalize pur (Tm.mk k4 n4 y4 z4 (.mk tk4 tn4 ta4) ts4 a4) = pb at cP ⊢
          clear hm g1 gu cP0 hl2
          generalize hR : ([Tm.mk 9 n3 y3 z3 (.mk tk3 tn3 ta3) ts3 [(Tm.mk k4 n4 y4 z4 (.mk tk4 tn4 ta4) ts4 a4), (Tm.mk k5 n5 y5 z5 (.mk tk5 tn5 ta5) ts5 a5)]] : List Tm).map (Tm.c true) = R at hx0 hjd ⊢
          generalize ([(Tm.mk k4 n4 y4 z4 (.mk tk4 tn4 ta4) ts4 a4), (Tm.mk k5 n5 y5 z5 (.mk tk5 tn5 ta5) ts5 a5)] : List Tm).map (Tm.c true) = Q at hx0 hq0 hq1
          have hl0 : 0 < R.length := (List.getElem?_eq_some_iff.1 hx0).1
          have hlq : 1 < Q.length := (List.getElem?_eq_some_iff.1 hq1).1
          cases pb
          · rw [if_neg (by decide)]
            repeat' (first
               | refine wp_cond_t rfl ?_ | refine wp_cond_f rfl ?_
               | (refine wp_cond_k rfl rfl rfl ?_ ?_ <;> intro hcnd <;> (try (exfalso; first | (rw [hjd] at hcnd; cases hcnd; done) | (simp only at hcnd; rw [hjd] at hcnd; cases hcnd; done)))) | refine wp_seq_i ?_
               | refine wp_region_t k_l14Fold rfl ?_ | refine Run.done rfl ?_ | refine then_n ?_ | refine then_r ?_ | refine then_e ?_ | refine Run.go1 rfl ?_ | refine wp_skip_i ?_ | refine wp_ret_i ?_ | refine wp_exit_i ?_
               | refine wp_block_i ?_ | refine block_n ?_ | refine block_r ?_ | refine block_e ?_ | refine block_o rfl ?_ | refine wp_cond_t rfl ?_ | refine wp_cond_f rfl ?_ | refine RunQ.go1 rfl ?_ | refine RunQ.done rfl ?_
               | refine Run.gT rfl rfl rfl rfl ?_ | refine Run.pT rfl rfl ?_ | (refine Run.splitG rfl rfl rfl rfl rfl rfl ?_ ?_ <;> intro _) | (refine Run.splitP rfl rfl rfl rfl ?_ ?_ <;> intro _)
               | refine RunQ.gT rfl rfl rfl rfl ?_ | refine RunQ.pT rfl rfl ?_ | (refine RunQ.splitG rfl rfl rfl rfl rfl rfl ?_ ?_ <;> intro _) | (refine RunQ.splitP rfl rfl rfl rfl ?_ ?_ <;> intro _)
               | refine RunQ.ix rfl rfl rfl rfl rfl rfl rfl hx0 rfl rfl rfl ?_ | refine RunQ.ldr rfl rfl rfl hx0 rfl rfl ?_ | refine Run.ix rfl rfl rfl rfl rfl rfl rfl hx0 rfl rfl rfl ?_ | refine Run.ldr rfl rfl rfl hx0 rfl rfl ?_
               | refine RunQ.ix rfl rfl rfl rfl rfl rfl rfl hq0 rfl rfl rfl ?_ | refine RunQ.ix rfl rfl rfl rfl rfl rfl rfl hq1 rfl rfl rfl ?_ | refine Run.ix rfl rfl rfl rfl rfl rfl rfl hq0 rfl rfl rfl ?_
               | refine Run.ix rfl rfl rfl rfl rfl rfl rfl hq1 rfl rfl rfl ?_ | refine Run.callB rfl rfl rfl (cP) (by simp [AV.own, T.own]) rfl ?_ | refine Run.one rfl rfl rfl ?_ | (refine wp_cond_k rfl rfl rfl ?_ ?_ <;> intro _)
               | (refine wp_cond_i rfl ?_ ?_ <;> intro _))
            all_goals first
            | (exact ret_m (E := E0) [] rfl rfl rfl)
            | (refine ret_m (E := E0) [] rfl rfl ?_; rw [← hR]; rfl)
            | (exfalso; rename_i h; first | (rw [hjd] at h; cases h; done) | (simp only at h; rw [hjd] at h; cases h; done))
            | (refine ⟨?_⟩; clear  hjd; simp_all; done)
            | (exfalso; clear  hjd; simp_all; done)
            | trace_state
          · rw [if_pos rfl]
            repeat' (first
               | refine wp_cond_t rfl ?_ | refine wp_cond_f rfl ?_
               | (refine wp_cond_k rfl rfl rfl ?_ ?_ <;> intro hcnd <;> (try (exfalso; first | (rw [hjd] at hcnd; cases hcnd; done) | (simp only at hcnd; rw [hjd] at hcnd; cases hcnd; done))))
               | refine Run.adjwOn 77 (.hole 8007 0 8 900004 _ _ _ _ _ _ rfl hx0 rfl (fun _ => rfl) fun u => .done _ (Run.ldr rfl rfl rfl (set_hit (by simpa using hl0)) rfl rfl (Run.adjw (.tell 77 900004 _ _ _ _ _ rfl rfl rfl rfl (.done _ ?_)))))
               | refine Run.adjwOn 80 (.hole 900004 1 6 900001 _ _ _ _ _ _ rfl hq1 rfl (fun _ => rfl) fun u1 => .hole 900004 1 7 900002 _ _ _ _ _ _ rfl (set_hit (by simpa using hlq)) rfl (fun _ => rfl) fun u2 => .hole 900004 1 8 900003 _ _ _ _ _ _ rfl (set_hit (by simpa using hlq)) rfl (fun _ => rfl) fun u3 => .done _ (Run.ldr rfl rfl rfl (set_hit (by simpa using hlq)) rfl rfl (Run.adjw (.tellC 80 6 900001 _ _ _ _ _ _ _ rfl rfl rfl rfl rfl rfl (.tellC 80 7 900002 _ _ _ _ _ _ _ rfl rfl rfl rfl rfl rfl (.tellC 80 8 900003 _ _ _ _ _ _ _ rfl rfl rfl rfl rfl rfl (.done _ ?_)))))))
               | refine wp_seq_i ?_ | refine wp_region_t k_l14Fold rfl ?_ | refine Run.done rfl ?_ | refine then_n ?_ | refine then_r ?_ | refine then_e ?_ | refine Run.go1 rfl ?_ | refine wp_skip_i ?_ | refine wp_ret_i ?_
               | refine wp_exit_i ?_ | refine wp_block_i ?_ | refine block_n ?_ | refine block_r ?_ | refine block_e ?_ | refine block_o rfl ?_ | refine wp_cond_t rfl ?_ | refine wp_cond_f rfl ?_ | refine RunQ.go1 rfl ?_
               | refine RunQ.done rfl ?_ | refine Run.gT rfl rfl rfl rfl ?_ | refine Run.pT rfl rfl ?_ | (refine Run.splitG rfl rfl rfl rfl rfl rfl ?_ ?_ <;> intro _) | (refine Run.splitP rfl rfl rfl rfl ?_ ?_ <;> intro _)
               | refine RunQ.gT rfl rfl rfl rfl ?_ | refine RunQ.pT rfl rfl ?_ | (refine RunQ.splitG rfl rfl rfl rfl rfl rfl ?_ ?_ <;> intro _) | (refine RunQ.splitP rfl rfl rfl rfl ?_ ?_ <;> intro _)
               | refine RunQ.ix rfl rfl rfl rfl rfl rfl rfl hx0 rfl rfl rfl ?_ | refine RunQ.ldr rfl rfl rfl hx0 rfl rfl ?_ | refine Run.ix rfl rfl rfl rfl rfl rfl rfl hx0 rfl rfl rfl ?_ | refine Run.ldr rfl rfl rfl hx0 rfl rfl ?_
               | refine RunQ.ix rfl rfl rfl rfl rfl rfl rfl hq0 rfl rfl rfl ?_ | refine RunQ.ix rfl rfl rfl rfl rfl rfl rfl hq1 rfl rfl rfl ?_ | refine Run.ix rfl rfl rfl rfl rfl rfl rfl hq0 rfl rfl rfl ?_
               | refine Run.ix rfl rfl rfl rfl rfl rfl rfl hq1 rfl rfl rfl ?_ | refine Run.callB rfl rfl rfl (cP) (by simp [AV.own, T.own]) rfl ?_ | refine Run.one rfl rfl rfl ?_ | (refine wp_cond_k rfl rfl rfl ?_ ?_ <;> intro _)
               | (refine wp_cond_i rfl ?_ ?_ <;> intro _))
            all_goals first
            | (exact ret_m (E := E0) [] rfl rfl rfl)
            | (refine ret_m (E := E0) [] rfl rfl ?_; rw [← hR]; rfl)
            | (exfalso; rename_i h; first | (rw [hjd] at h; cases h; done) | (simp only at h; rw [hjd] at h; cases h; done))
            | (refine ⟨?_⟩; clear  hjd; simp_all; done)
            | (exfalso; clear  hjd; simp_all; done)
            | trace_state
        · rw [fold1_11n _ _ _ _ _ _ _ _ _ _ _ _ h9]
          have hx0 : (([(Tm.mk k3 n3 y3 z3 (.mk tk3 tn3 ta3) ts3 a3)] : List Tm).map (Tm.c true))[0]? = some [iT k3, iT n3, sT y3, sT z3, iT tk3, iT tn3, .sl true (ta3.map (Ty.c true)), .sl true (ts3.map (Ty.c true)), .sl true (a3.map (Tm.c true))] := by rw [List.map_cons, Tm.c_mk]; rfl
          clear hm g1
          generalize hR : ([(Tm.mk k3 n3 y3 z3 (.mk tk3 tn3 ta3) ts3 a3)] : List Tm).map (Tm.c true) = R at hx0 hjd ⊢
          repeat' (first
             | refine wp_cond_t rfl ?_ | refine wp_cond_f rfl ?_
             | (refine wp_cond_k rfl rfl rfl ?_ ?_ <;> intro hcnd <;> (try (exfalso; first | (rw [hjd] at hcnd; cases hcnd; done) | (simp only at hcnd; rw [hjd] at hcnd; cases hcnd; done))))
             | refine wp_region_tB (id := 15) 72 (false) k_l14Fold rfl rfl rfl ?_ ?_ | refine wp_seq_i ?_ | refine wp_region_t k_l14Fold rfl ?_ | refine Run.done rfl ?_ | refine then_n ?_ | refine then_r ?_ | refine then_e ?_
             | refine Run.go1 rfl ?_ | refine wp_skip_i ?_ | refine wp_ret_i ?_ | refine wp_exit_i ?_ | refine wp_block_i ?_ | refine block_n ?_ | refine block_r ?_ | refine block_e ?_ | refine block_o rfl ?_
             | refine wp_cond_t rfl ?_ | refine wp_cond_f rfl ?_ | refine RunQ.go1 rfl ?_ | refine RunQ.done rfl ?_ | refine Run.gT rfl rfl rfl rfl ?_ | refine Run.pT rfl rfl ?_
             | (refine Run.splitG rfl rfl rfl rfl rfl rfl ?_ ?_ <;> intro _) | (refine Run.splitP rfl rfl rfl rfl ?_ ?_ <;> intro _) | refine RunQ.gT rfl rfl rfl rfl ?_ | refine RunQ.pT rfl rfl ?_
             | (refine RunQ.splitG rfl rfl rfl rfl rfl rfl ?_ ?_ <;> intro _) | (refine RunQ.splitP rfl rfl rfl rfl ?_ ?_ <;> intro _) | refine RunQ.ix rfl rfl rfl rfl rfl rfl rfl hx0 rfl rfl rfl ?_
             | refine RunQ.ldr rfl rfl rfl hx0 rfl rfl ?_ | refine Run.ix rfl rfl rfl rfl rfl rfl rfl hx0 rfl rfl rfl ?_ | refine Run.ldr rfl rfl rfl hx0 rfl rfl ?_ | refine Run.one rfl rfl rfl ?_
             | (refine wp_cond_k rfl rfl rfl ?_ ?_ <;> intro _) | (refine wp_cond_i rfl ?_ ?_ <;> intro _))
          all_goals first
          | (exact ret_m (E := E0) [] rfl rfl rfl)
          | (refine ret_m (E := E0) [] rfl rfl ?_; rw [← hR]; rfl)
          | (exfalso; rename_i h; first | (rw [hjd] at h; cases h; done) | (simp only at h; rw [hjd] at h; cases h; done))
          | (refine ⟨?_⟩; clear hx0 hjd; simp_all; done)
          | (exfalso; clear hx0 hjd; simp_all; done)
          | trace_state
      by_cases h14 : kk = 14
      · subst h14
        rcases la with _ | ⟨e0, _ | ⟨e1, _ | ⟨e2, _ | ⟨w, r⟩⟩⟩⟩
        all_goals try (exfalso; simp [tmPt] at hlen; done)
        all_goals try (exfalso; simp [tmPt] at hlen; omega)
        obtain ⟨k3, n3, y3, z3, ⟨tk3, tn3, ta3⟩, ts3, a3⟩ := e0
        obtain ⟨k4, n4, y4, z4, ⟨tk4, tn4, ta4⟩, ts4, a4⟩ := e1
        obtain ⟨k5, n5, y5, z5, ⟨tk5, tn5, ta5⟩, ts5, a5⟩ := e2
        rw [fold1_14, a_ite]
        have hx0 : (([(Tm.mk k3 n3 y3 z3 (.mk tk3 tn3 ta3) ts3 a3), (Tm.mk k4 n4 y4 z4 (.mk tk4 tn4 ta4) ts4 a4), (Tm.mk k5 n5 y5 z5 (.mk tk5 tn5 ta5) ts5 a5)] : List Tm).map (Tm.c true))[0]? = some [iT k3, iT n3, sT y3, sT z3, iT tk3, iT tn3, .sl true (ta3.map (Ty.c true)), .sl true (ts3.map (Ty.c true)), .sl true (a3.map (Tm.c true))] := by rw [List.map_cons, Tm.c_mk]; rfl
        have hx1 : (([(Tm.mk k3 n3 y3 z3 (.mk tk3 tn3 ta3) ts3 a3), (Tm.mk k4 n4 y4 z4 (.mk tk4 tn4 ta4) ts4 a4), (Tm.mk k5 n5 y5 z5 (.mk tk5 tn5 ta5) ts5 a5)] : List Tm).map (Tm.c true))[1]? = some [iT k4, iT n4, sT y4, sT z4, iT tk4, iT tn4, .sl true (ta4.map (Ty.c true)), .sl true (ts4.map (Ty.c true)), .sl true (a4.map (Tm.c true))] := by rw [List.map_cons, List.map_cons, Tm.c_mk, Tm.c_mk]; rfl
        have hx2 : (([(Tm.mk k3 n3 y3 z3 (.mk tk3 tn3 ta3) ts3 a3), (Tm.mk k4 n4 y4 z4 (.mk tk4 tn4 ta4) ts4 a4), (Tm.mk k5 n5 y5 z5 (.mk tk5 tn5 ta5) ts5 a5)] : List Tm).map (Tm.c true))[2]? = some [iT k5, iT n5, sT y5, sT z5, iT tk5, iT tn5, .sl true (ta5.map (Ty.c true)), .sl true (ts5.map (Ty.c true)), .sl true (a5.map (Tm.c true))] := by rw [List.map_cons, List.map_cons, List.map_cons, Tm.c_mk, Tm.c_mk, Tm.c_mk]; rfl
        clear hm
        generalize hR : ([(Tm.mk k3 n3 y3 z3 (.mk tk3 tn3 ta3) ts3 a3), (Tm.mk k4 n4 y4 z4 (.mk tk4 tn4 ta4) ts4 a4), (Tm.mk k5 n5 y5 z5 (.mk tk5 tn5 ta5) ts5 a5)] : List Tm).map (Tm.c true) = R at hx0 hx1 hx2 hjd ⊢
        have hl1 : 1 < R.length := (List.getElem?_eq_some_iff.1 hx1).1
        by_cases hk : k3 = 12
        · subst hk
          rw [if_pos rfl]
          repeat' (first
             | refine wp_cond_t rfl ?_ | refine wp_cond_f rfl ?_
             | (refine wp_cond_k rfl rfl rfl ?_ ?_ <;> intro hcnd <;> (try (exfalso; first | (rw [hjd] at hcnd; cases hcnd; done) | (simp only at hcnd; rw [hjd] at hcnd; cases hcnd; done))))
             | refine Run.adjwOn 92 (.hole 8007 1 6 900001 _ _ _ _ _ _ rfl hx1 rfl (fun _ => rfl) fun u1 => .hole 8007 1 7 900002 _ _ _ _ _ _ rfl (set_hit (by simpa using hl1)) rfl (fun _ => rfl) fun u2 => .hole 8007 1 8 900003 _ _ _ _ _ _ rfl (set_hit (by simpa using hl1)) rfl (fun _ => rfl) fun u3 => .done _ (Run.ldr rfl rfl rfl (set_hit (by simpa using hl1)) rfl rfl (Run.adjw (.tellC 92 6 900001 _ _ _ _ _ _ _ rfl rfl rfl rfl rfl rfl (.tellC 92 7 900002 _ _ _ _ _ _ _ rfl rfl rfl rfl rfl rfl (.tellC 92 8 900003 _ _ _ _ _ _ _ rfl rfl rfl rfl rfl rfl (.done _ ?_)))))))
             | refine wp_seq_i ?_ | refine wp_region_t k_l14Fold rfl ?_ | refine Run.done rfl ?_ | refine then_n ?_ | refine then_r ?_ | refine then_e ?_ | refine Run.go1 rfl ?_ | refine wp_skip_i ?_ | refine wp_ret_i ?_
             | refine wp_exit_i ?_ | refine wp_block_i ?_ | refine block_n ?_ | refine block_r ?_ | refine block_e ?_ | refine block_o rfl ?_ | refine wp_cond_t rfl ?_ | refine wp_cond_f rfl ?_ | refine RunQ.go1 rfl ?_
             | refine RunQ.done rfl ?_ | refine Run.gT rfl rfl rfl rfl ?_ | refine Run.pT rfl rfl ?_ | (refine Run.splitG rfl rfl rfl rfl rfl rfl ?_ ?_ <;> intro _) | (refine Run.splitP rfl rfl rfl rfl ?_ ?_ <;> intro _)
             | refine RunQ.gT rfl rfl rfl rfl ?_ | refine RunQ.pT rfl rfl ?_ | (refine RunQ.splitG rfl rfl rfl rfl rfl rfl ?_ ?_ <;> intro _) | (refine RunQ.splitP rfl rfl rfl rfl ?_ ?_ <;> intro _)
             | refine RunQ.ix rfl rfl rfl rfl rfl rfl rfl hx0 rfl rfl rfl ?_ | refine RunQ.ix rfl rfl rfl rfl rfl rfl rfl hx1 rfl rfl rfl ?_ | refine RunQ.ix rfl rfl rfl rfl rfl rfl rfl hx2 rfl rfl rfl ?_
             | refine RunQ.ldr rfl rfl rfl hx0 rfl rfl ?_ | refine RunQ.ldr rfl rfl rfl hx1 rfl rfl ?_ | refine RunQ.ldr rfl rfl rfl hx2 rfl rfl ?_ | refine Run.ix rfl rfl rfl rfl rfl rfl rfl hx0 rfl rfl rfl ?_
             | refine Run.ix rfl rfl rfl rfl rfl rfl rfl hx1 rfl rfl rfl ?_ | refine Run.ix rfl rfl rfl rfl rfl rfl rfl hx2 rfl rfl rfl ?_ | refine Run.ldr rfl rfl rfl hx0 rfl rfl ?_ | refine Run.ldr rfl rfl rfl hx1 rfl rfl ?_
             | refine Run.ldr rfl rfl rfl hx2 rfl rfl ?_ | refine Run.one rfl rfl rfl ?_ | (refine wp_cond_k rfl rfl rfl ?_ ?_ <;> intro _) | (refine wp_cond_i rfl ?_ ?_ <;> intro _))
          all_goals first
          | (exact ret_m (E := E0) [] rfl rfl rfl)
          | (refine ret_m (E := E0) [] rfl rfl ?_; rw [← hR]; rfl)
          | (exfalso; rename_i h; first | (rw [hjd] at h; cases h; done) | (simp only at h; rw [hjd] at h; cases h; done))
          | (refine ⟨?_⟩; clear  hjd; simp_all; done)
          | (exfalso; clear  hjd; simp_all; done)
          | trace_state
        · rw [if_neg hk]
          repeat' (first
             | refine wp_cond_t rfl ?_ | refine wp_cond_f rfl ?_
             | (refine wp_cond_k rfl rfl rfl ?_ ?_ <;> intro hcnd <;> (try (exfalso; first | (rw [hjd] at hcnd; cases hcnd; done) | (simp only at hcnd; rw [hjd] at hcnd; cases hcnd; done)))) | refine wp_seq_i ?_
             | refine wp_region_t k_l14Fold rfl ?_ | refine Run.done rfl ?_ | refine then_n ?_ | refine then_r ?_ | refine then_e ?_ | refine Run.go1 rfl ?_ | refine wp_skip_i ?_ | refine wp_ret_i ?_ | refine wp_exit_i ?_
             | refine wp_block_i ?_ | refine block_n ?_ | refine block_r ?_ | refine block_e ?_ | refine block_o rfl ?_ | refine wp_cond_t rfl ?_ | refine wp_cond_f rfl ?_ | refine RunQ.go1 rfl ?_ | refine RunQ.done rfl ?_
             | refine Run.gT rfl rfl rfl rfl ?_ | refine Run.pT rfl rfl ?_ | (refine Run.splitG rfl rfl rfl rfl rfl rfl ?_ ?_ <;> intro _) | (refine Run.splitP rfl rfl rfl rfl ?_ ?_ <;> intro _) | refine RunQ.gT rfl rfl rfl rfl ?_
             | refine RunQ.pT rfl rfl ?_ | (refine RunQ.splitG rfl rfl rfl rfl rfl rfl ?_ ?_ <;> intro _) | (refine RunQ.splitP rfl rfl rfl rfl ?_ ?_ <;> intro _) | refine RunQ.ix rfl rfl rfl rfl rfl rfl rfl hx0 rfl rfl rfl ?_
             | refine RunQ.ix rfl rfl rfl rfl rfl rfl rfl hx1 rfl rfl rfl ?_ | refine RunQ.ix rfl rfl rfl rfl rfl rfl rfl hx2 rfl rfl rfl ?_ | refine RunQ.ldr rfl rfl rfl hx0 rfl rfl ?_ | refine RunQ.ldr rfl rfl rfl hx1 rfl rfl ?_
             | refine RunQ.ldr rfl rfl rfl hx2 rfl rfl ?_ | refine Run.ix rfl rfl rfl rfl rfl rfl rfl hx0 rfl rfl rfl ?_ | refine Run.ix rfl rfl rfl rfl rfl rfl rfl hx1 rfl rfl rfl ?_
             | refine Run.ix rfl rfl rfl rfl rfl rfl rfl hx2 rfl rfl rfl ?_ | refine Run.ldr rfl rfl rfl hx0 rfl rfl ?_ | refine Run.ldr rfl rfl rfl hx1 rfl rfl ?_ | refine Run.ldr rfl rfl rfl hx2 rfl rfl ?_
             | refine Run.one rfl rfl rfl ?_ | (refine wp_cond_k rfl rfl rfl ?_ ?_ <;> intro _) | (refine wp_cond_i rfl ?_ ?_ <;> intro _))
          all_goals first
          | (exact ret_m (E := E0) [] rfl rfl rfl)
          | (refine ret_m (E := E0) [] rfl rfl ?_; rw [← hR]; rfl)
          | (exfalso; rename_i h; first | (rw [hjd] at h; cases h; done) | (simp only at h; rw [hjd] at h; cases h; done))
          | (refine ⟨?_⟩; clear hx0 hx1 hx2 hjd; simp_all; done)
          | (exfalso; clear hx0 hx1 hx2 hjd; simp_all; done)
          | trace_state
      by_cases h6 : kk = 6
      · subst h6
        rcases la with _ | ⟨e0, _ | ⟨e1, _ | ⟨w, r⟩⟩⟩
        all_goals try (exfalso; simp [tmPt] at hlen; done)
        all_goals try (exfalso; simp [tmPt] at hlen; omega)
        have gx := hm e0 (by simp)
        have gy := hm e1 (by simp)
        have e1n := gy.n
        have e1d := gy.d
        have hfl := frT_len e1 [] []
        have cF0 := l2Free_t (X := X) e1 [] [] gy.ok (by simp; omega) (by simp; omega)
        have cH : Tells Try.prog E0 X 49 [.t (.sl false (shrR ((frT e1 [] []).map sR))), sA ss] (bA (has (frT e1 [] []) ss)) := by rw [shr_S]; exact l2Has_t _ _ (by simp at hfl; omega)
        have cP0 := PureS_t (X := X) e0 gx.ok
        rw [fold1_6, a_ite]
        obtain ⟨k3, n3, y3, z3, ⟨tk3, tn3, ta3⟩, ts3, a3⟩ := e0
        obtain ⟨k4, n4, y4, z4, ⟨tk4, tn4, ta4⟩, ts4, a4⟩ := e1
        have cF : Tells Try.prog E0 X 41 [tmS k4 n4 y4 z4 tk4 tn4 ta4 ts4 a4, .t (.sl false (shrR [])), .t (.sl true [])] (.t (.sl true ((frT (Tm.mk k4 n4 y4 z4 (.mk tk4 tn4 ta4) ts4 a4) [] []).map sR))) := by rw [tmS_eq]; exact cF0
        have cP : Tells Try.prog E0 X 48 [tmS k3 n3 y3 z3 tk3 tn3 ta3 ts3 a3] (bA (pur (Tm.mk k3 n3 y3 z3 (.mk tk3 tn3 ta3) ts3 a3))) := by rw [tmS_eq]; exact cP0
        have hx0 : (([(Tm.mk k3 n3 y3 z3 (.mk tk3 tn3 ta3) ts3 a3), (Tm.mk k4 n4 y4 z4 (.mk tk4 tn4 ta4) ts4 a4)] : List Tm).map (Tm.c true))[0]? = some [iT k3, iT n3, sT y3, sT z3, iT tk3, iT tn3, .sl true (ta3.map (Ty.c true)), .sl true (ts3.map (Ty.c true)), .sl true (a3.map (Tm.c true))] := by rw [List.map_cons, Tm.c_mk]; rfl
        have hx1 : (([(Tm.mk k3 n3 y3 z3 (.mk tk3 tn3 ta3) ts3 a3), (Tm.mk k4 n4 y4 z4 (.mk tk4 tn4 ta4) ts4 a4)] : List Tm).map (Tm.c true))[1]? = some [iT k4, iT n4, sT y4, sT z4, iT tk4, iT tn4, .sl true (ta4.map (Ty.c true)), .sl true (ts4.map (Ty.c true)), .sl true (a4.map (Tm.c true))] := by rw [List.map_cons, List.map_cons, Tm.c_mk, Tm.c_mk]; rfl
        generalize pur (Tm.mk k3 n3 y3 z3 (.mk tk3 tn3 ta3) ts3 a3) = pb at cP ⊢
        generalize has (frT (Tm.mk k4 n4 y4 z4 (.mk tk4 tn4 ta4) ts4 a4) [] []) ss = hb at cH ⊢
        generalize frT (Tm.mk k4 n4 y4 z4 (.mk tk4 tn4 ta4) ts4 a4) [] [] = q at cF cH
        clear hm gx gy e1n e1d hfl cF0 cP0 mD mN
        generalize hR : ([(Tm.mk k3 n3 y3 z3 (.mk tk3 tn3 ta3) ts3 a3), (Tm.mk k4 n4 y4 z4 (.mk tk4 tn4 ta4) ts4 a4)] : List Tm).map (Tm.c true) = R at hx0 hx1 hjd ⊢
        have hl1 : 1 < R.length := (List.getElem?_eq_some_iff.1 hx1).1
        by_cases hn0 : nn = 0
        · subst hn0
          cases pb
          · rw [if_neg (fun h => by cases h.2.1)]
            repeat' (first
               | refine wp_cond_t rfl ?_ | refine wp_cond_f rfl ?_
               | (refine wp_cond_k rfl rfl rfl ?_ ?_ <;> intro hcnd <;> (try (exfalso; first | (rw [hjd] at hcnd; cases hcnd; done) | (simp only at hcnd; rw [hjd] at hcnd; cases hcnd; done)))) | refine wp_seq_i ?_
               | refine wp_region_t k_l14Fold rfl ?_ | refine Run.done rfl ?_ | refine then_n ?_ | refine then_r ?_ | refine then_e ?_ | refine Run.go1 rfl ?_ | refine wp_skip_i ?_ | refine wp_ret_i ?_ | refine wp_exit_i ?_
               | refine wp_block_i ?_ | refine block_n ?_ | refine block_r ?_ | refine block_e ?_ | refine block_o rfl ?_ | refine wp_cond_t rfl ?_ | refine wp_cond_f rfl ?_
               | refine wp_region_qt k_l14Fold rfl 20 (by decide +kernel) rfl rfl ?_ | refine RunQ.go1 rfl ?_ | refine RunQ.done rfl ?_ | refine Run.gT rfl rfl rfl rfl ?_ | refine Run.pT rfl rfl ?_
               | (refine Run.splitG rfl rfl rfl rfl rfl rfl ?_ ?_ <;> intro _) | (refine Run.splitP rfl rfl rfl rfl ?_ ?_ <;> intro _) | refine RunQ.gT rfl rfl rfl rfl ?_ | refine RunQ.pT rfl rfl ?_
               | (refine RunQ.splitG rfl rfl rfl rfl rfl rfl ?_ ?_ <;> intro _) | (refine RunQ.splitP rfl rfl rfl rfl ?_ ?_ <;> intro _) | refine RunQ.ix rfl rfl rfl rfl rfl rfl rfl hx0 rfl rfl rfl ?_
               | refine RunQ.ix rfl rfl rfl rfl rfl rfl rfl hx1 rfl rfl rfl ?_ | refine RunQ.ldr rfl rfl rfl hx0 rfl rfl ?_ | refine RunQ.ldr rfl rfl rfl hx1 rfl rfl ?_
               | refine Run.ix rfl rfl rfl rfl rfl rfl rfl hx0 rfl rfl rfl ?_ | refine Run.ix rfl rfl rfl rfl rfl rfl rfl hx1 rfl rfl rfl ?_ | refine Run.ldr rfl rfl rfl hx0 rfl rfl ?_ | refine Run.ldr rfl rfl rfl hx1 rfl rfl ?_
               | refine RunQ.call rfl rfl rfl rfl rfl rfl (cP) (.inr (by simp [AV.own, T.own])) rfl rfl ?_ | refine Run.one rfl rfl rfl ?_ | (refine wp_cond_k rfl rfl rfl ?_ ?_ <;> intro _)
               | (refine wp_cond_i rfl ?_ ?_ <;> intro _))
            all_goals first
            | (exact ret_m (E := E0) [] rfl rfl rfl)
            | (refine ret_m (E := E0) [] rfl rfl ?_; rw [← hR]; rfl)
            | (exfalso; rename_i h; first | (rw [hjd] at h; cases h; done) | (simp only at h; rw [hjd] at h; cases h; done))
            | (refine ⟨?_⟩; clear  hjd; simp_all; done)
            | (exfalso; clear  hjd; simp_all; done)
            | trace_state
          · cases hb
            · rw [if_pos ⟨rfl, rfl, rfl⟩]
              repeat' (first
                 | refine RepL.done rfl | refine RepL.skip rfl ?_ | refine RepL.ix rfl rfl rfl rfl rfl rfl rfl rfl rfl hx0 rfl rfl rfl ?_ | refine RepL.ix rfl rfl rfl rfl rfl rfl rfl rfl rfl hx1 rfl rfl rfl ?_
                 | refine RepL.ldr rfl rfl rfl rfl rfl hx0 rfl rfl ?_ | refine RepL.ldr rfl rfl rfl rfl rfl hx1 rfl rfl ?_ | refine RepL.one rfl rfl rfl rfl rfl rfl ?_ | refine RunMs.skip rfl ?_ | exact RunMs.nil
                 | exact RunM.done rfl | refine RunM.go ?_ | refine RunMs.one rfl rfl rfl rfl rfl ?_ ?_ ?_ | refine RunMs.call rfl rfl rfl rfl (cF) (.inr (ownA_S _)) rfl rfl ?_ ?_ ?_ | refine RunMs.off rfl rfl rfl rfl ?_ ?_ ?_
                 | refine RepL.off rfl rfl rfl rfl rfl ?_ | refine wp_cond_t rfl ?_ | refine wp_cond_f rfl ?_
                 | (refine wp_cond_k rfl rfl rfl ?_ ?_ <;> intro hcnd <;> (try (exfalso; first | (rw [hjd] at hcnd; cases hcnd; done) | (simp only at hcnd; rw [hjd] at hcnd; cases hcnd; done))))
                 | refine Run.adjwOn 121 (.hole 8007 1 6 900001 _ _ _ _ _ _ rfl hx1 rfl (fun _ => rfl) fun u1 => .hole 8007 1 7 900002 _ _ _ _ _ _ rfl (set_hit (by simpa using hl1)) rfl (fun _ => rfl) fun u2 => .hole 8007 1 8 900003 _ _ _ _ _ _ rfl (set_hit (by simpa using hl1)) rfl (fun _ => rfl) fun u3 => .done _ (Run.ldr rfl rfl rfl (set_hit (by simpa using hl1)) rfl rfl (Run.adjw (.tellC 121 6 900001 _ _ _ _ _ _ _ rfl rfl rfl rfl rfl rfl (.tellC 121 7 900002 _ _ _ _ _ _ _ rfl rfl rfl rfl rfl rfl (.tellC 121 8 900003 _ _ _ _ _ _ _ rfl rfl rfl rfl rfl rfl (.done _ ?_)))))))
                 | (refine wp_region_m (id := 21) k_l14Fold [0, 1, 2, 3, 4, 5, 6, 7, 8, 9, 10, 11, 12, 13, 14, 18, 19] [15, 16, 17] 3 [0, 1, 3, 7, 15, 31, 63, 127, 255, 511, 1023, 2047, 4095, 8191, 16383, 2047, 2047, 131071, 2047, 264191, 1048575, 2097151, 4194303] rfl (by decide +kernel) rfl rfl rfl ?_; apply Exists.intro; refine And.intro ?_ ?_)
                 | refine wp_seq_i ?_ | refine wp_region_t k_l14Fold rfl ?_ | refine Run.done rfl ?_ | refine then_n ?_ | refine then_r ?_ | refine then_e ?_ | refine Run.go1 rfl ?_ | refine wp_skip_i ?_ | refine wp_ret_i ?_
                 | refine wp_exit_i ?_ | refine wp_block_i ?_ | refine block_n ?_ | refine block_r ?_ | refine block_e ?_ | refine block_o rfl ?_ | refine wp_cond_t rfl ?_ | refine wp_cond_f rfl ?_ | refine RunQ.go1 rfl ?_
                 | refine RunQ.done rfl ?_ | refine Run.gT rfl rfl rfl rfl ?_ | refine Run.pT rfl rfl ?_ | (refine Run.splitG rfl rfl rfl rfl rfl rfl ?_ ?_ <;> intro _) | (refine Run.splitP rfl rfl rfl rfl ?_ ?_ <;> intro _)
                 | refine RunQ.gT rfl rfl rfl rfl ?_ | refine RunQ.pT rfl rfl ?_ | (refine RunQ.splitG rfl rfl rfl rfl rfl rfl ?_ ?_ <;> intro _) | (refine RunQ.splitP rfl rfl rfl rfl ?_ ?_ <;> intro _)
                 | refine RunQ.ix rfl rfl rfl rfl rfl rfl rfl hx0 rfl rfl rfl ?_ | refine RunQ.ix rfl rfl rfl rfl rfl rfl rfl hx1 rfl rfl rfl ?_ | refine RunQ.ldr rfl rfl rfl hx0 rfl rfl ?_
                 | refine RunQ.ldr rfl rfl rfl hx1 rfl rfl ?_ | refine Run.ix rfl rfl rfl rfl rfl rfl rfl hx0 rfl rfl rfl ?_ | refine Run.ix rfl rfl rfl rfl rfl rfl rfl hx1 rfl rfl rfl ?_
                 | refine Run.ldr rfl rfl rfl hx0 rfl rfl ?_ | refine Run.ldr rfl rfl rfl hx1 rfl rfl ?_ | refine RunQ.call rfl rfl rfl rfl rfl rfl (cP) (.inr (by simp [AV.own, T.own])) rfl rfl ?_
                 | refine Run.callB rfl rfl rfl (cH) (by simp [AV.own, T.own]) rfl ?_ | refine Run.one rfl rfl rfl ?_ | (refine wp_cond_k rfl rfl rfl ?_ ?_ <;> intro _) | (refine wp_cond_i rfl ?_ ?_ <;> intro _))
              all_goals first
              | (exact ret_m (E := E0) [] rfl rfl rfl)
              | (refine ret_m (E := E0) [] rfl rfl ?_; rw [← hR]; rfl)
              | (exfalso; rename_i h; first | (rw [hjd] at h; cases h; done) | (simp only at h; rw [hjd] at h; cases h; done))
              | (refine ⟨?_⟩; clear  hjd; simp_all; done)
              | (exfalso; clear  hjd; simp_all; done)
              | trace_state
            · rw [if_neg (fun h => by cases h.2.2)]
              repeat' (first
                 | refine RepL.done rfl | refine RepL.skip rfl ?_ | refine RepL.ix rfl rfl rfl rfl rfl rfl rfl rfl rfl hx0 rfl rfl rfl ?_ | refine RepL.ix rfl rfl rfl rfl rfl rfl rfl rfl rfl hx1 rfl rfl rfl ?_
                 | refine RepL.ldr rfl rfl rfl rfl rfl hx0 rfl rfl ?_ | refine RepL.ldr rfl rfl rfl rfl rfl hx1 rfl rfl ?_ | refine RepL.one rfl rfl rfl rfl rfl rfl ?_ | refine RunMs.skip rfl ?_ | exact RunMs.nil
                 | exact RunM.done rfl | refine RunM.go ?_ | refine RunMs.one rfl rfl rfl rfl rfl ?_ ?_ ?_ | refine RunMs.call rfl rfl rfl rfl (cF) (.inr (ownA_S _)) rfl rfl ?_ ?_ ?_ | refine RunMs.off rfl rfl rfl rfl ?_ ?_ ?_
                 | refine RepL.off rfl rfl rfl rfl rfl ?_ | refine wp_cond_t rfl ?_ | refine wp_cond_f rfl ?_
                 | (refine wp_cond_k rfl rfl rfl ?_ ?_ <;> intro hcnd <;> (try (exfalso; first | (rw [hjd] at hcnd; cases hcnd; done) | (simp only at hcnd; rw [hjd] at hcnd; cases hcnd; done))))
                 | (refine wp_region_m (id := 21) k_l14Fold [0, 1, 2, 3, 4, 5, 6, 7, 8, 9, 10, 11, 12, 13, 14, 18, 19] [15, 16, 17] 3 [0, 1, 3, 7, 15, 31, 63, 127, 255, 511, 1023, 2047, 4095, 8191, 16383, 2047, 2047, 131071, 2047, 264191, 1048575, 2097151, 4194303] rfl (by decide +kernel) rfl rfl rfl ?_; apply Exists.intro; refine And.intro ?_ ?_)
                 | refine wp_seq_i ?_ | refine wp_region_t k_l14Fold rfl ?_ | refine Run.done rfl ?_ | refine then_n ?_ | refine then_r ?_ | refine then_e ?_ | refine Run.go1 rfl ?_ | refine wp_skip_i ?_ | refine wp_ret_i ?_
                 | refine wp_exit_i ?_ | refine wp_block_i ?_ | refine block_n ?_ | refine block_r ?_ | refine block_e ?_ | refine block_o rfl ?_ | refine wp_cond_t rfl ?_ | refine wp_cond_f rfl ?_ | refine RunQ.go1 rfl ?_
                 | refine RunQ.done rfl ?_ | refine Run.gT rfl rfl rfl rfl ?_ | refine Run.pT rfl rfl ?_ | (refine Run.splitG rfl rfl rfl rfl rfl rfl ?_ ?_ <;> intro _) | (refine Run.splitP rfl rfl rfl rfl ?_ ?_ <;> intro _)
                 | refine RunQ.gT rfl rfl rfl rfl ?_ | refine RunQ.pT rfl rfl ?_ | (refine RunQ.splitG rfl rfl rfl rfl rfl rfl ?_ ?_ <;> intro _) | (refine RunQ.splitP rfl rfl rfl rfl ?_ ?_ <;> intro _)
                 | refine RunQ.ix rfl rfl rfl rfl rfl rfl rfl hx0 rfl rfl rfl ?_ | refine RunQ.ix rfl rfl rfl rfl rfl rfl rfl hx1 rfl rfl rfl ?_ | refine RunQ.ldr rfl rfl rfl hx0 rfl rfl ?_
                 | refine RunQ.ldr rfl rfl rfl hx1 rfl rfl ?_ | refine Run.ix rfl rfl rfl rfl rfl rfl rfl hx0 rfl rfl rfl ?_ | refine Run.ix rfl rfl rfl rfl rfl rfl rfl hx1 rfl rfl rfl ?_
                 | refine Run.ldr rfl rfl rfl hx0 rfl rfl ?_ | refine Run.ldr rfl rfl rfl hx1 rfl rfl ?_ | refine RunQ.call rfl rfl rfl rfl rfl rfl (cP) (.inr (by simp [AV.own, T.own])) rfl rfl ?_
                 | refine Run.callB rfl rfl rfl (cH) (by simp [AV.own, T.own]) rfl ?_ | refine Run.one rfl rfl rfl ?_ | (refine wp_cond_k rfl rfl rfl ?_ ?_ <;> intro _) | (refine wp_cond_i rfl ?_ ?_ <;> intro _))
              all_goals first
              | (exact ret_m (E := E0) [] rfl rfl rfl)
              | (refine ret_m (E := E0) [] rfl rfl ?_; rw [← hR]; rfl)
              | (exfalso; rename_i h; first | (rw [hjd] at h; cases h; done) | (simp only at h; rw [hjd] at h; cases h; done))
              | (refine ⟨?_⟩; clear  hjd; simp_all; done)
              | (exfalso; clear  hjd; simp_all; done)
              | trace_state
        · rw [if_neg (fun h => hn0 h.1)]
          repeat' (first
             | refine wp_cond_t rfl ?_ | refine wp_cond_f rfl ?_
             | (refine wp_cond_k rfl rfl rfl ?_ ?_ <;> intro hcnd <;> (try (exfalso; first | (rw [hjd] at hcnd; cases hcnd; done) | (simp only at hcnd; rw [hjd] at hcnd; cases hcnd; done)))) | refine wp_seq_i ?_
             | refine wp_region_t k_l14Fold rfl ?_ | refine Run.done rfl ?_ | refine then_n ?_ | refine then_r ?_ | refine then_e ?_ | refine Run.go1 rfl ?_ | refine wp_skip_i ?_ | refine wp_ret_i ?_ | refine wp_exit_i ?_
             | refine wp_block_i ?_ | refine block_n ?_ | refine block_r ?_ | refine block_e ?_ | refine block_o rfl ?_ | refine wp_cond_t rfl ?_ | refine wp_cond_f rfl ?_
             | refine wp_region_qt k_l14Fold rfl 20 (by decide +kernel) rfl rfl ?_ | refine RunQ.go1 rfl ?_ | refine RunQ.done rfl ?_ | refine Run.gT rfl rfl rfl rfl ?_ | refine Run.pT rfl rfl ?_
             | (refine Run.splitG rfl rfl rfl rfl rfl rfl ?_ ?_ <;> intro _) | (refine Run.splitP rfl rfl rfl rfl ?_ ?_ <;> intro _) | refine RunQ.gT rfl rfl rfl rfl ?_ | refine RunQ.pT rfl rfl ?_
             | (refine RunQ.splitG rfl rfl rfl rfl rfl rfl ?_ ?_ <;> intro _) | (refine RunQ.splitP rfl rfl rfl rfl ?_ ?_ <;> intro _) | refine RunQ.ix rfl rfl rfl rfl rfl rfl rfl hx0 rfl rfl rfl ?_
             | refine RunQ.ix rfl rfl rfl rfl rfl rfl rfl hx1 rfl rfl rfl ?_ | refine RunQ.ldr rfl rfl rfl hx0 rfl rfl ?_ | refine RunQ.ldr rfl rfl rfl hx1 rfl rfl ?_ | refine Run.ix rfl rfl rfl rfl rfl rfl rfl hx0 rfl rfl rfl ?_
             | refine Run.ix rfl rfl rfl rfl rfl rfl rfl hx1 rfl rfl rfl ?_ | refine Run.ldr rfl rfl rfl hx0 rfl rfl ?_ | refine Run.ldr rfl rfl rfl hx1 rfl rfl ?_
             | refine RunQ.call rfl rfl rfl rfl rfl rfl (cP) (.inr (by simp [AV.own, T.own])) rfl rfl ?_ | refine Run.one rfl rfl rfl ?_ | (refine wp_cond_k rfl rfl rfl ?_ ?_ <;> intro _) | (refine wp_cond_i rfl ?_ ?_ <;> intro _))
          all_goals first
          | (exact ret_m (E := E0) [] rfl rfl rfl)
          | (refine ret_m (E := E0) [] rfl rfl ?_; rw [← hR]; rfl)
          | (exfalso; rename_i h; first | (rw [hjd] at h; cases h; done) | (simp only at h; rw [hjd] at h; cases h; done))
          | (refine ⟨?_⟩; clear hx0 hx1 cP cF cH hjd; simp_all; done)
          | (exfalso; clear hx0 hx1 cP cF cH hjd; simp_all; done)
          | trace_state
      by_cases h17 : kk = 17
      · subst h17
        rcases la with _ | ⟨e0, _ | ⟨e1, _ | ⟨w, r⟩⟩⟩
        all_goals try (exfalso; simp [tmPt] at hlen; done)
        all_goals try (exfalso; simp [tmPt] at hlen; omega)
        obtain ⟨k3, n3, y3, z3, ⟨tk3, tn3, ta3⟩, ts3, a3⟩ := e0
        obtain ⟨k4, n4, y4, z4, ⟨tk4, tn4, ta4⟩, ts4, a4⟩ := e1
        have cP0 := PureS_t (X := X) _ (hm (Tm.mk k3 n3 y3 z3 (.mk tk3 tn3 ta3) ts3 a3) (by simp)).ok
        have cP : Tells Try.prog E0 X 48 [tmS k3 n3 y3 z3 tk3 tn3 ta3 ts3 a3] (bA (pur (Tm.mk k3 n3 y3 z3 (.mk tk3 tn3 ta3) ts3 a3))) := by rw [tmS_eq]; exact cP0
        rw [fold1_17, a_ite]
        have hx0 : (([(Tm.mk k3 n3 y3 z3 (.mk tk3 tn3 ta3) ts3 a3), (Tm.mk k4 n4 y4 z4 (.mk tk4 tn4 ta4) ts4 a4)] : List Tm).map (Tm.c true))[0]? = some [iT k3, iT n3, sT y3, sT z3, iT tk3, iT tn3, .sl true (ta3.map (Ty.c true)), .sl true (ts3.map (Ty.c true)), .sl true (a3.map (Tm.c true))] := by rw [List.map_cons, Tm.c_mk]; rfl
        have hx1 : (([(Tm.mk k3 n3 y3 z3 (.mk tk3 tn3 ta3) ts3 a3), (Tm.mk k4 n4 y4 z4 (.mk tk4 tn4 ta4) ts4 a4)] : List Tm).map (Tm.c true))[1]? = some [iT k4, iT n4, sT y4, sT z4, iT tk4, iT tn4, .sl true (ta4.map (Ty.c true)), .sl true (ts4.map (Ty.c true)), .sl true (a4.map (Tm.c true))] := by rw [List.map_cons, List.map_cons, Tm.c_mk, Tm.c_mk]; rfl
        generalize pur (Tm.mk k3 n3 y3 z3 (.mk tk3 tn3 ta3) ts3 a3) = pb at cP ⊢
        clear hm cP0
        generalize hR : ([(Tm.mk k3 n3 y3 z3 (.mk tk3 tn3 ta3) ts3 a3), (Tm.mk k4 n4 y4 z4 (.mk tk4 tn4 ta4) ts4 a4)] : List Tm).map (Tm.c true) = R at hx0 hx1 hjd ⊢
        have hl0 : 0 < R.length := (List.getElem?_eq_some_iff.1 hx0).1
        cases pb
        · rw [if_neg (by decide)]
          repeat' (first
             | refine wp_cond_t rfl ?_ | refine wp_cond_f rfl ?_
             | (refine wp_cond_k rfl rfl rfl ?_ ?_ <;> intro hcnd <;> (try (exfalso; first | (rw [hjd] at hcnd; cases hcnd; done) | (simp only at hcnd; rw [hjd] at hcnd; cases hcnd; done)))) | refine wp_seq_i ?_
             | refine wp_region_t k_l14Fold rfl ?_ | refine Run.done rfl ?_ | refine then_n ?_ | refine then_r ?_ | refine then_e ?_ | refine Run.go1 rfl ?_ | refine wp_skip_i ?_ | refine wp_ret_i ?_ | refine wp_exit_i ?_
             | refine wp_block_i ?_ | refine block_n ?_ | refine block_r ?_ | refine block_e ?_ | refine block_o rfl ?_ | refine wp_cond_t rfl ?_ | refine wp_cond_f rfl ?_ | refine RunQ.go1 rfl ?_ | refine RunQ.done rfl ?_
             | refine Run.gT rfl rfl rfl rfl ?_ | refine Run.pT rfl rfl ?_ | (refine Run.splitG rfl rfl rfl rfl rfl rfl ?_ ?_ <;> intro _) | (refine Run.splitP rfl rfl rfl rfl ?_ ?_ <;> intro _) | refine RunQ.gT rfl rfl rfl rfl ?_
             | refine RunQ.pT rfl rfl ?_ | (refine RunQ.splitG rfl rfl rfl rfl rfl rfl ?_ ?_ <;> intro _) | (refine RunQ.splitP rfl rfl rfl rfl ?_ ?_ <;> intro _) | refine RunQ.ix rfl rfl rfl rfl rfl rfl rfl hx0 rfl rfl rfl ?_
             | refine RunQ.ix rfl rfl rfl rfl rfl rfl rfl hx1 rfl rfl rfl ?_ | refine RunQ.ldr rfl rfl rfl hx0 rfl rfl ?_ | refine RunQ.ldr rfl rfl rfl hx1 rfl rfl ?_ | refine Run.ix rfl rfl rfl rfl rfl rfl rfl hx0 rfl rfl rfl ?_
             | refine Run.ix rfl rfl rfl rfl rfl rfl rfl hx1 rfl rfl rfl ?_ | refine Run.ldr rfl rfl rfl hx0 rfl rfl ?_ | refine Run.ldr rfl rfl rfl hx1 rfl rfl ?_
             | refine Run.callB rfl rfl rfl (cP) (by simp [AV.own, T.own]) rfl ?_ | refine Run.one rfl rfl rfl ?_ | (refine wp_cond_k rfl rfl rfl ?_ ?_ <;> intro _) | (refine wp_cond_i rfl ?_ ?_ <;> intro _))
          all_goals first
          | (exact ret_m (E := E0) [] rfl rfl rfl)
          | (refine ret_m (E := E0) [] rfl rfl ?_; rw [← hR]; rfl)
          | (exfalso; rename_i h; first | (rw [hjd] at h; cases h; done) | (simp only at h; rw [hjd] at h; cases h; done))
          | (refine ⟨?_⟩; clear  hjd; simp_all; done)
          | (exfalso; clear  hjd; simp_all; done)
          | trace_state
        · rw [if_pos rfl]
          repeat' (first
             | refine wp_cond_t rfl ?_ | refine wp_cond_f rfl ?_
             | (refine wp_cond_k rfl rfl rfl ?_ ?_ <;> intro hcnd <;> (try (exfalso; first | (rw [hjd] at hcnd; cases hcnd; done) | (simp only at hcnd; rw [hjd] at hcnd; cases hcnd; done))))
             | refine Run.adjwOn 132 (.hole 8007 0 6 900001 _ _ _ _ _ _ rfl hx0 rfl (fun _ => rfl) fun u1 => .hole 8007 0 7 900002 _ _ _ _ _ _ rfl (set_hit (by simpa using hl0)) rfl (fun _ => rfl) fun u2 => .hole 8007 0 8 900003 _ _ _ _ _ _ rfl (set_hit (by simpa using hl0)) rfl (fun _ => rfl) fun u3 => .done _ (Run.ldr rfl rfl rfl (set_hit (by simpa using hl0)) rfl rfl (Run.adjw (.tellC 132 6 900001 _ _ _ _ _ _ _ rfl rfl rfl rfl rfl rfl (.tellC 132 7 900002 _ _ _ _ _ _ _ rfl rfl rfl rfl rfl rfl (.tellC 132 8 900003 _ _ _ _ _ _ _ rfl rfl rfl rfl rfl rfl (.done _ ?_)))))))
             | refine wp_seq_i ?_ | refine wp_region_t k_l14Fold rfl ?_ | refine Run.done rfl ?_ | refine then_n ?_ | refine then_r ?_ | refine then_e ?_ | refine Run.go1 rfl ?_ | refine wp_skip_i ?_ | refine wp_ret_i ?_
             | refine wp_exit_i ?_ | refine wp_block_i ?_ | refine block_n ?_ | refine block_r ?_ | refine block_e ?_ | refine block_o rfl ?_ | refine wp_cond_t rfl ?_ | refine wp_cond_f rfl ?_ | refine RunQ.go1 rfl ?_
             | refine RunQ.done rfl ?_ | refine Run.gT rfl rfl rfl rfl ?_ | refine Run.pT rfl rfl ?_ | (refine Run.splitG rfl rfl rfl rfl rfl rfl ?_ ?_ <;> intro _) | (refine Run.splitP rfl rfl rfl rfl ?_ ?_ <;> intro _)
             | refine RunQ.gT rfl rfl rfl rfl ?_ | refine RunQ.pT rfl rfl ?_ | (refine RunQ.splitG rfl rfl rfl rfl rfl rfl ?_ ?_ <;> intro _) | (refine RunQ.splitP rfl rfl rfl rfl ?_ ?_ <;> intro _)
             | refine RunQ.ix rfl rfl rfl rfl rfl rfl rfl hx0 rfl rfl rfl ?_ | refine RunQ.ix rfl rfl rfl rfl rfl rfl rfl hx1 rfl rfl rfl ?_ | refine RunQ.ldr rfl rfl rfl hx0 rfl rfl ?_ | refine RunQ.ldr rfl rfl rfl hx1 rfl rfl ?_
             | refine Run.ix rfl rfl rfl rfl rfl rfl rfl hx0 rfl rfl rfl ?_ | refine Run.ix rfl rfl rfl rfl rfl rfl rfl hx1 rfl rfl rfl ?_ | refine Run.ldr rfl rfl rfl hx0 rfl rfl ?_ | refine Run.ldr rfl rfl rfl hx1 rfl rfl ?_
             | refine Run.callB rfl rfl rfl (cP) (by simp [AV.own, T.own]) rfl ?_ | refine Run.one rfl rfl rfl ?_ | (refine wp_cond_k rfl rfl rfl ?_ ?_ <;> intro _) | (refine wp_cond_i rfl ?_ ?_ <;> intro _))
          all_goals first
          | (exact ret_m (E := E0) [] rfl rfl rfl)
          | (refine ret_m (E := E0) [] rfl rfl ?_; rw [← hR]; rfl)
          | (exfalso; rename_i h; first | (rw [hjd] at h; cases h; done) | (simp only at h; rw [hjd] at h; cases h; done))
          | (refine ⟨?_⟩; clear  hjd; simp_all; done)
          | (exfalso; clear  hjd; simp_all; done)
          | trace_state
      rw [fold1_o kk nn ss zz _ _ _ h15 h8 h10 h11 h14 h6 h17]
      clear hm
      repeat' (first
         | refine wp_cond_t rfl ?_ | refine wp_cond_f rfl ?_
         | (refine wp_cond_k rfl rfl rfl ?_ ?_ <;> intro hcnd <;> (try (exfalso; first | (rw [hjd] at hcnd; cases hcnd; done) | (simp only at hcnd; rw [hjd] at hcnd; cases hcnd; done)))) | refine wp_seq_i ?_
         | refine wp_region_t k_l14Fold rfl ?_ | refine Run.done rfl ?_ | refine then_n ?_ | refine then_r ?_ | refine then_e ?_ | refine Run.go1 rfl ?_ | refine wp_skip_i ?_ | refine wp_ret_i ?_ | refine wp_exit_i ?_
         | refine wp_block_i ?_ | refine block_n ?_ | refine block_r ?_ | refine block_e ?_ | refine block_o rfl ?_ | refine wp_cond_t rfl ?_ | refine wp_cond_f rfl ?_ | refine RunQ.go1 rfl ?_ | refine RunQ.done rfl ?_
         | refine Run.gT rfl rfl rfl rfl ?_ | refine Run.pT rfl rfl ?_ | (refine Run.splitG rfl rfl rfl rfl rfl rfl ?_ ?_ <;> intro _) | (refine Run.splitP rfl rfl rfl rfl ?_ ?_ <;> intro _) | refine RunQ.gT rfl rfl rfl rfl ?_
         | refine RunQ.pT rfl rfl ?_ | (refine RunQ.splitG rfl rfl rfl rfl rfl rfl ?_ ?_ <;> intro _) | (refine RunQ.splitP rfl rfl rfl rfl ?_ ?_ <;> intro _) | refine Run.one rfl rfl rfl ?_
         | (refine wp_cond_k rfl rfl rfl ?_ ?_ <;> intro _) | (refine wp_cond_i rfl ?_ ?_ <;> intro _))
      all_goals first
      | (exact ret_m (E := E0) [] rfl rfl rfl)
      | (refine ret_m (E := E0) [] rfl rfl ?_; rw [← hR]; rfl)
      | (exfalso; rename_i h; first | (rw [hjd] at h; cases h; done) | (simp only at h; rw [hjd] at h; cases h; done))
      | (refine ⟨?_⟩; clear  hjd; simp_all; done)
      | (exfalso; clear  hjd; simp_all; done)
      | trace_state
  termination_by t => SizeOf.sizeOf t
  decreasing_by
    all_goals (have hsz := List.sizeOf_lt_of_mem (List.mem_of_getElem? ht); simp; omega)
end Go.Proofs

set_option linter.unusedVariables false
set_option linter.unusedSimpArgs false
set_option maxHeartbeats 4000000
namespace Go.Proofs
open Go Go.Ev
set_option maxRecDepth 100000
variable {X : Rel3}
def k_FoldS : List (Nat × List Nat) := [(0, [1, 2]), (1, [1, 2, 5]), (2, [2]), (3, [2])]
theorem FoldS_t (t : Tm) (hok : t.ok) : Tells Try.prog E0 X 7 [t.a false] ((FoldB t).a true) := by
  have c1 := TermOkS_t (X := X) t hok
  have c2 := l2Copy_t (X := X) t hok
  unfold FoldB
  by_cases hB : tmB t = true
  · obtain ⟨h1, h2, h3⟩ := tmB_H hB
    have c3 := l14Fold_t (X := X) t h1 hok h2 h3
    rw [if_pos hB]
    rw [hB] at c1
    generalize foldT t = r at c3 ⊢
    obtain ⟨kk, nn, ss, zz, ⟨tk, tn, ta⟩, ts, aa⟩ := t
    obtain ⟨k3, n3, y3, z3, ⟨tk3, tn3, ta3⟩, ts3, a3⟩ := r
    refine Tells.by Try.func7 (by simp [Try.f7]) (Body.i rfl rfl rfl (fun _ => rfl) fun f => ?_)
    repeat' (first
       | refine wp_seq_i ?_ | refine wp_region_t k_FoldS rfl ?_ | refine Run.done rfl ?_ | refine then_n ?_ | refine then_r ?_ | refine then_e ?_ | refine Run.go1 rfl ?_ | refine wp_skip_i ?_ | refine wp_ret_i ?_
       | refine wp_exit_i ?_ | refine wp_block_i ?_ | refine block_n ?_ | refine block_r ?_ | refine block_e ?_ | refine block_o rfl ?_ | refine wp_cond_t rfl ?_ | refine wp_cond_f rfl ?_
       | refine Run.call rfl rfl rfl (c1) rfl rfl ?_ | refine Run.call rfl rfl rfl (c2) rfl rfl ?_ | refine Run.call rfl rfl rfl (c3) rfl rfl ?_ | refine Run.one rfl rfl rfl ?_ | (refine wp_cond_k rfl rfl rfl ?_ ?_ <;> intro _)
       | (refine wp_cond_i rfl ?_ ?_ <;> intro _))
    all_goals exact ret_m [] rfl rfl rfl
  · rw [if_neg hB]
    rw [Bool.eq_false_iff.2 hB] at c1
    obtain ⟨kk, nn, ss, zz, ⟨tk, tn, ta⟩, ts, aa⟩ := t
    refine Tells.by Try.func7 (by simp [Try.f7]) (Body.i rfl rfl rfl (fun _ => rfl) fun f => ?_)
    repeat' (first
       | refine wp_seq_i ?_ | refine wp_region_t k_FoldS rfl ?_ | refine Run.done rfl ?_ | refine then_n ?_ | refine then_r ?_ | refine then_e ?_ | refine Run.go1 rfl ?_ | refine wp_skip_i ?_ | refine wp_ret_i ?_
       | refine wp_exit_i ?_ | refine wp_block_i ?_ | refine block_n ?_ | refine block_r ?_ | refine block_e ?_ | refine block_o rfl ?_ | refine wp_cond_t rfl ?_ | refine wp_cond_f rfl ?_
       | refine Run.call rfl rfl rfl (c1) rfl rfl ?_ | refine Run.call rfl rfl rfl (c2) rfl rfl ?_ | refine Run.one rfl rfl rfl ?_ | (refine wp_cond_k rfl rfl rfl ?_ ?_ <;> intro _) | (refine wp_cond_i rfl ?_ ?_ <;> intro _))
    all_goals exact ret_m [] rfl rfl rfl
def k_FoldAllS : List (Nat × List Nat) := [(0, [1, 2]), (1, [1, 2, 3]), (2, [2, 3, 10]), (3, [2]), (4, [2, 3, 4]), (5, [2, 3, 4, 13]), (6, [2, 3, 4]), (7, [2, 3, 4, 5]), (8, [2, 3, 4, 5, 20]), (9, [2]), (10, [2, 3, 4]), (11, [2])]
theorem FoldAllS_t (t : Tm) (hok : t.ok) : Tells Try.prog E0 X 13 [t.a false] ((FoldAllB t).a true) := by
  have c1 := TermOkS_t (X := X) t hok
  have c2 := l2Copy_t (X := X) t hok
  unfold FoldAllB
  by_cases hB : tmB t = true
  · rw [if_pos hB]
    rw [hB] at c1
    generalize hres : foldN 150 t = res
    obtain ⟨kk, nn, ss, zz, ⟨tk, tn, ta⟩, ts, aa⟩ := t
    refine Tells.by Try.func13 (by simp [Try.f13]) (Body.i rfl rfl rfl (fun _ => rfl) fun f => ?_)
    repeat' (first
       | refine wp_seq_i ?_ | refine wp_region_t k_FoldAllS rfl ?_ | refine Run.done rfl ?_ | refine then_n ?_ | refine then_r ?_ | refine then_e ?_ | refine Run.go1 rfl ?_ | refine wp_skip_i ?_ | refine wp_ret_i ?_
       | refine wp_exit_i ?_ | refine wp_block_i ?_ | refine block_n ?_ | refine block_r ?_ | refine block_e ?_ | refine block_o rfl ?_ | refine wp_cond_t rfl ?_ | refine wp_cond_f rfl ?_
       | refine Run.call rfl rfl rfl (c1) rfl rfl ?_ | refine Run.call rfl rfl rfl (c2) rfl rfl ?_ | refine Run.one rfl rfl rfl ?_ | (refine wp_cond_k rfl rfl rfl ?_ ?_ <;> intro _) | (refine wp_cond_i rfl ?_ ?_ <;> intro _))
    refine wp_loop_k (α := Nat × Tm) [.ren 6007 71, .ren 7007 72, .ren 8007 73, .keep [2, 3, 4] [2, 3, 71, 72, 73]] (fun p => [(4, iA p.1)]) (fun p => [(3, tmCells 71 72 73 p.2)]) (fun p => [(71, 0, tmTa p.2), (72, 0, tmTs p.2), (73, 0, tmAa p.2)]) (fun p => (p.1 ≤ 150 ∧ p.2.ok ∧ tmB p.2 = true) ∧ foldN (150 - p.1) p.2 = res) (fun p => 150 - p.1) (0, .mk kk nn ss zz (.mk tk tn ta) ts aa) rfl (fun _ => rfl) rfl ⟨⟨Nat.zero_le _, hok, hB⟩, hres⟩ ?_
    rintro ⟨j, cur⟩ ⟨⟨hj, hko, hkB⟩, hI⟩
    simp only at hj hko hkB hI
    obtain ⟨hnB, hno, -⟩ := tmB_fold hkB hko
    obtain ⟨h1, h2, h3⟩ := tmB_H hkB
    by_cases hlt : j < 150
    · have hjd : decide ((j : Int) < 150) = true := decide_eq_true (by omega)
      have e : 150 - j = (149 - j) + 1 := by omega
      rw [e, foldN] at hI
      have cF0 := l14Fold_t (X := X) cur h1 hko h2 h3
      have cS0 := SameTermS_t (X := X) (foldT cur) cur hno
      generalize foldT cur = nx at cF0 cS0 hI hno hnB
      clear h1 h2 h3
      obtain ⟨k4, n4, y4, z4, ⟨tk4, tn4, ta4⟩, ts4, a4⟩ := cur
      obtain ⟨k3, n3, y3, z3, ⟨tk3, tn3, ta3⟩, ts3, a3⟩ := nx
      have cF : Tells Try.prog E0 X 22 [tmS k4 n4 y4 z4 tk4 tn4 ta4 ts4 a4] (tmA true k3 n3 y3 z3 tk3 tn3 ta3 ts3 a3) := by rw [tmS_eq]; exact cF0
      have cS : Tells Try.prog E0 X 38 [tmS k3 n3 y3 z3 tk3 tn3 ta3 ts3 a3, tmS k4 n4 y4 z4 tk4 tn4 ta4 ts4 a4] (bA (decide ((Tm.mk k3 n3 y3 z3 (.mk tk3 tn3 ta3) ts3 a3) = (Tm.mk k4 n4 y4 z4 (.mk tk4 tn4 ta4) ts4 a4)))) := by rw [tmS_eq, tmS_eq]; exact cS0
      by_cases hsame : (Tm.mk k3 n3 y3 z3 (.mk tk3 tn3 ta3) ts3 a3) = (Tm.mk k4 n4 y4 z4 (.mk tk4 tn4 ta4) ts4 a4)
      · rw [if_pos hsame] at hI
        rw [decide_eq_true hsame] at cS
        subst hI
        repeat' (first
           | refine wp_seq_i ?_ | refine wp_region_t k_FoldAllS rfl ?_ | refine Run.done rfl ?_ | refine then_n ?_ | refine then_r ?_ | refine then_e ?_ | refine Run.go1 rfl ?_ | refine wp_skip_i ?_ | refine wp_ret_i ?_
           | refine wp_exit_i ?_ | refine wp_block_i ?_ | refine block_n ?_ | refine block_r ?_ | refine block_e ?_ | refine block_o rfl ?_ | refine wp_cond_t rfl ?_ | refine wp_cond_f rfl ?_
           | refine Run.callB rfl rfl rfl (cF) (by simp [tmA, AV.own, T.own, ownCL, ownC, own_Ty, own_Tm]) rfl ?_ | refine Run.callB rfl rfl rfl (cS) (by simp [AV.own, T.own]) rfl ?_ | refine Run.one rfl rfl rfl ?_
           | (refine wp_cond_k rfl rfl rfl ?_ ?_ <;> intro _) | (refine wp_cond_i rfl ?_ ?_ <;> intro _))
        all_goals first
        | (exact ret_m (E := E0) [] rfl rfl rfl)
        | (exfalso; rename_i h; simp only at h; rw [hjd] at h; cases h; done)
        | trace_state
      · rw [if_neg hsame] at hI
        rw [decide_eq_false hsame] at cS
        repeat' (first
           | refine wp_seq_i ?_ | refine wp_region_t k_FoldAllS rfl ?_ | refine Run.done rfl ?_ | refine then_n ?_ | refine then_r ?_ | refine then_e ?_ | refine Run.go1 rfl ?_ | refine wp_skip_i ?_ | refine wp_ret_i ?_
           | refine wp_exit_i ?_ | refine wp_block_i ?_ | refine block_n ?_ | refine block_r ?_ | refine block_e ?_ | refine block_o rfl ?_ | refine wp_cond_t rfl ?_ | refine wp_cond_f rfl ?_
           | refine Run.callB rfl rfl rfl (cF) (by simp [tmA, AV.own, T.own, ownCL, ownC, own_Ty, own_Tm]) rfl ?_ | refine Run.callB rfl rfl rfl (cS) (by simp [AV.own, T.own]) rfl ?_ | refine Run.one rfl rfl rfl ?_
           | (refine wp_cond_k rfl rfl rfl ?_ ?_ <;> intro _) | (refine wp_cond_i rfl ?_ ?_ <;> intro _))
        all_goals first
        | (exfalso; rename_i h; simp only at h; rw [hjd] at h; cases h; done)
        | (refine back_i [.ren 6017 71, .ren 7017 72, .ren 8017 73, .keep [2, 3, 4] [2, 3, 71, 72, 73]] (j + 1, (Tm.mk k3 n3 y3 z3 (.mk tk3 tn3 ta3) ts3 a3)) rfl ?_ ⟨⟨by simp; omega, hno, hnB⟩, by simp only; rw [show 150 - (j + 1) = 149 - j by omega]; exact hI⟩ (by simp; omega)
           simp only [w_succ hlt (show 150 ≤ 9223372036854775807 by omega)]; first | done | rfl)
        | trace_state
    · have hj2 : j = 150 := by omega
      subst hj2
      rw [Nat.sub_self, foldN] at hI
      subst hI
      obtain ⟨k4, n4, y4, z4, ⟨tk4, tn4, ta4⟩, ts4, a4⟩ := cur
      repeat' (first
         | refine wp_seq_i ?_ | refine wp_region_t k_FoldAllS rfl ?_ | refine Run.done rfl ?_ | refine then_n ?_ | refine then_r ?_ | refine then_e ?_ | refine Run.go1 rfl ?_ | refine wp_skip_i ?_ | refine wp_ret_i ?_
         | refine wp_exit_i ?_ | refine wp_block_i ?_ | refine block_n ?_ | refine block_r ?_ | refine block_e ?_ | refine block_o rfl ?_ | refine wp_cond_t rfl ?_ | refine wp_cond_f rfl ?_ | refine Run.one rfl rfl rfl ?_
         | (refine wp_cond_k rfl rfl rfl ?_ ?_ <;> intro _) | (refine wp_cond_i rfl ?_ ?_ <;> intro _))
      all_goals first
      | (exact ret_m (E := E0) [] rfl rfl rfl)
      | (exfalso; rename_i h; simp at h; done)
      | trace_state
  · rw [if_neg hB]
    rw [Bool.eq_false_iff.2 hB] at c1
    obtain ⟨kk, nn, ss, zz, ⟨tk, tn, ta⟩, ts, aa⟩ := t
    refine Tells.by Try.func13 (by simp [Try.f13]) (Body.i rfl rfl rfl (fun _ => rfl) fun f => ?_)
    repeat' (first
       | refine wp_seq_i ?_ | refine wp_region_t k_FoldAllS rfl ?_ | refine Run.done rfl ?_ | refine then_n ?_ | refine then_r ?_ | refine then_e ?_ | refine Run.go1 rfl ?_ | refine wp_skip_i ?_ | refine wp_ret_i ?_
       | refine wp_exit_i ?_ | refine wp_block_i ?_ | refine block_n ?_ | refine block_r ?_ | refine block_e ?_ | refine block_o rfl ?_ | refine wp_cond_t rfl ?_ | refine wp_cond_f rfl ?_
       | refine Run.call rfl rfl rfl (c1) rfl rfl ?_ | refine Run.call rfl rfl rfl (c2) rfl rfl ?_ | refine Run.one rfl rfl rfl ?_ | (refine wp_cond_k rfl rfl rfl ?_ ?_ <;> intro _) | (refine wp_cond_i rfl ?_ ?_ <;> intro _))
    all_goals exact ret_m [] rfl rfl rfl
end Go.Proofs

set_option linter.unusedVariables false
set_option linter.unusedSimpArgs false
set_option maxHeartbeats 4000000
namespace Go.Proofs
open Go Go.Ev
set_option maxRecDepth 100000
mutual
theorem szTy_c : ∀ {t : Ty} {n : Int}, Ty.len t → 0 ≤ n → n ≤ 1048576 → 0 ≤ szTy t n → (cTy t : Int) + 2 * szTy t n ≤ 2 * n + 2
  | .mk k m a, n, hl, h0, h1, h => by
    rw [Ty.len] at hl
    rw [szTy, lw_eq h0 (by omega) hl.1] at h ⊢
    split at h
    · omega
    · rename_i hn
      rw [if_neg hn]
      have h2 := szTyL_c hl.2 (by omega) (by omega) h
      rw [cTy]
      omega
theorem szTyL_c : ∀ {l : List Ty} {n : Int}, Ty.lenL l → 0 ≤ n → n ≤ 1048576 → 0 ≤ szTyL l n → (cTyL l : Int) + 2 * szTyL l n ≤ 2 * n + 2 * l.length
  | [], n, _, h0, h1, h => by rw [cTyL, szTyL]; simp
  | t :: r, n, hl, h0, h1, h => by
    rw [Ty.lenL] at hl
    rw [szTyL] at h ⊢
    split at h
    · omega
    · rename_i hn
      rw [if_neg hn]
      have h2 := szTy_c (t := t) hl.1 h0 h1 (by omega)
      have h3 := (szTy_ok (t := t) hl.1 h0 h1 (by omega)).2
      have h4 := szTyL_c (l := r) hl.2 (by omega) (by omega) h
      rw [cTyL]
      simp only [List.length_cons]
      omega
end
theorem szTyS_c {l : List Ty} {n : Int} (hl : l.length ≤ 9223372036854775807 ∧ Ty.lenL l) (h0 : 0 ≤ n) (h1 : n ≤ 1048576) (h : 0 ≤ szTyS l n) : (cTyL l : Int) + 2 * szTyS l n ≤ 2 * n := by
  unfold szTyS at h ⊢
  rw [lw_eq h0 (by omega) hl.1] at h ⊢
  split at h
  · omega
  · rename_i hn
    rw [if_neg hn]
    have h2 := szTyL_c hl.2 (by omega) (by omega) h
    omega
mutual
theorem szTm_c : ∀ {t : Tm} {n : Int}, Tm.len t → 0 ≤ n → n ≤ 1048576 → 0 ≤ szTm t n → (cTm t : Int) + 6 * szTm t n ≤ 6 * n + 6
  | .mk k m s z t ts a, n, hl, h0, h1, h => by
    rw [Tm.len] at hl
    obtain ⟨l1, l2, l3, l4, l5, l6⟩ := hl
    rw [szTm] at h ⊢
    try simp only at h ⊢
    rw [lw_eq h0 (by omega) l1] at h ⊢
    split at h
    · omega
    rename_i e1
    rw [if_neg e1]
    rw [lw_eq (n := n - s.size) (by omega) (by omega) l2] at h ⊢
    split at h
    · omega
    rename_i e2
    rw [if_neg e2]
    split at h
    · omega
    rename_i e3
    rw [if_neg e3]
    have b2 := (szTy_ok (t := t) l3 (by omega) (by omega) (by omega : 0 ≤ szTy t (n - s.size - z.size))).2
    have d2 := szTy_c (t := t) l3 (by omega) (by omega) (by omega : 0 ≤ szTy t (n - s.size - z.size))
    split at h
    · omega
    rename_i e4
    rw [if_neg e4]
    have b4 := (szTyS_ok (l := ts) l4 (by omega) (by omega) (by omega : 0 ≤ szTyS ts (szTy t (n - s.size - z.size)))).2
    have d4 := szTyS_c (l := ts) l4 (by omega) (by omega) (by omega : 0 ≤ szTyS ts (szTy t (n - s.size - z.size)))
    rw [lw_eq (n := szTyS ts (szTy t (n - s.size - z.size))) (by omega) (by omega) l5] at h ⊢
    split at h
    · omega
    rename_i e5
    rw [if_neg e5]
    have d6 := szTmL_c l6 (by omega) (by omega) h
    rw [cTm]
    omega
theorem szTmL_c : ∀ {l : List Tm} {n : Int}, Tm.lenL l → 0 ≤ n → n ≤ 1048576 → 0 ≤ szTmL l n → (cTmL l : Int) + 6 * szTmL l n ≤ 6 * n + 6 * l.length
  | [], n, _, h0, h1, h => by rw [cTmL, szTmL]; simp
  | t :: r, n, hl, h0, h1, h => by
    rw [Tm.lenL] at hl
    rw [szTmL] at h ⊢
    split at h
    · omega
    · rename_i hn
      rw [if_neg hn]
      have h2 := szTm_c (t := t) hl.1 h0 h1 (by omega)
      have h3 := (szTm_ok (t := t) hl.1 h0 h1 (by omega)).2
      have h4 := szTmL_c (l := r) hl.2 (by omega) (by omega) h
      rw [cTmL]
      simp only [List.length_cons]
      omega
end
end Go.Proofs

set_option linter.unusedVariables false
set_option linter.unusedSimpArgs false
set_option maxHeartbeats 4000000
namespace Go.Proofs
open Go Go.Ev
set_option maxRecDepth 100000
variable {X : Rel3}
theorem Run.adjwAt {Φ : Rel3} {E : Env} {all : List Oper} {D : List Nat} {lo : Option (List Nat)} {rest : List Oper} {s : St} {K : St → Prop} (d : Nat) {op : Op} {ty : Nat} {pos : String} {after : Array Edge} {g : Option (Nat × Bool)}
  (h : AdjW (fun s1 => Run Φ E all D lo (⟨some d, op, ty, pos, after, g⟩ :: rest) s1 K) s) : Run Φ E all D lo (⟨some d, op, ty, pos, after, g⟩ :: rest) s K := Run.adjw h
def k_lawFa : List (Nat × List Nat) := [(0, [1]), (1, [1, 3]), (2, [1, 3]), (3, [1, 15]), (4, [2]), (5, [1, 4]), (6, [1, 4, 5]), (7, [1, 4, 5, 6]), (8, [1, 4, 5, 6, 26]), (9, [2]), (10, [1, 4, 5, 6, 31]), (11, [2]), (12, [1, 4, 5, 6, 7]), (13, [1, 4, 6, 7]), (14, [1, 4, 6, 42]), (15, [2]), (16, [1, 4, 6, 8]), (17, [1, 4, 6, 8]), (18, [1, 4, 6, 8, 9]), (19, [1, 4, 6, 8, 9]), (20, [1, 4, 6, 8, 9, 50]), (21, [2]), (22, [1, 4, 6, 8, 53]), (23, [2]), (24, [4, 6, 8, 10]), (25, [6, 8, 60]), (26, [2]), (27, [6, 8, 9]), (28, [8, 9]), (29, [8, 9, 65]), (30, [2]), (31, [68]), (32, [2]), (33, [2])]
theorem lawFa_t (t : Tm) (hl : t.len) : Tells Try.prog E0 XK 4 [t.a false] (bA true) := by
  have cZ := szTm_t (X := XK) t 1048576 hl
  have hcc := szTm_c (t := t) (n := 1048576) hl (by omega) (by omega)
  have hkk := szTm_ok (t := t) (n := 1048576) hl (by omega) (by omega)
  generalize szTm t 1048576 = left at cZ hcc hkk
  by_cases hneg : left < 0
  · have hnd : decide (left < 0) = true := decide_eq_true hneg
    obtain ⟨kk, nn, ss, zz, ⟨tk, tn, ta⟩, ts, aa⟩ := t
    refine Tells.by Try.func4 (by simp [Try.f4]) (Body.i rfl rfl rfl (fun _ => rfl) fun f => ?_)
    repeat' (first
       | refine wp_seq_i ?_ | refine wp_region_t k_lawFa rfl ?_ | refine Run.done rfl ?_ | refine then_n ?_ | refine then_r ?_ | refine then_e ?_ | refine Run.go1 rfl ?_ | refine wp_skip_i ?_ | refine wp_ret_i ?_
       | refine wp_exit_i ?_ | refine wp_block_i ?_ | refine block_n ?_ | refine block_r ?_ | refine block_e ?_ | refine block_o rfl ?_ | refine wp_cond_t rfl ?_ | refine wp_cond_f rfl ?_
       | refine Run.call rfl rfl rfl (cZ) rfl rfl ?_ | refine Run.one rfl rfl rfl ?_ | (refine wp_cond_k rfl rfl rfl ?_ ?_ <;> intro _) | (refine wp_cond_i rfl ?_ ?_ <;> intro _))
    all_goals first
    | (exact ret_m [] rfl rfl rfl)
    | (exfalso; rename_i h; rw [hnd] at h; cases h; done)
    | trace_state
  have hok := (hkk (by omega)).1
  have hc : cTm t ≤ 6291462 := by have := hcc (by omega); omega
  obtain ⟨hqo, hqc⟩ := FoldAllB_ok hok
  have cT := toTm_t (X := XK) t hok
  have cS0 := FoldAllS_t (X := XK) t hok
  have cI0 := FoldAllI_t t hok (by omega)
  have cEt0 := eqTm_t (X := XK) t t hok
  have cE0 := eqTm_t (X := XK) (FoldAllB t) (FoldAllB t) hqo
  have cM := markTerm_t (X := XK) t 1 hok (by omega) (by omega)
  have hM := mkTm0_up t 1 (by omega) (by omega)
  have cM2 := markTerm_t (X := XK) (FoldAllB t) 1 hqo (by omega) (by omega)
  have hM2 := mkTm0_up (FoldAllB t) 1 (by omega) (by omega)
  have cH0 := heldTerm_t (X := XK) (FoldAllB t) 1 hqo (by omega) (by omega)
  generalize FoldAllB t = q at cS0 cI0 cE0 cM2 hM2 cH0
  clear hkk hcc hqo hqc hc hok hl
  obtain ⟨kk, nn, ss, zz, ⟨tk, tn, ta⟩, ts, aa⟩ := t
  obtain ⟨k3, n3, y3, z3, ⟨tk3, tn3, ta3⟩, ts3, a3⟩ := q
  have cS : Tells Try.prog E0 XK 13 [tmS kk nn ss zz tk tn ta ts aa] (tmA true k3 n3 y3 z3 tk3 tn3 ta3 ts3 a3) := by rw [tmS_eq]; exact cS0
  have cI : Tells Try.prog E0 XK 14 [tmS kk nn ss zz tk tn ta ts aa] (tmA true k3 n3 y3 z3 tk3 tn3 ta3 ts3 a3) := by rw [tmS_eq]; exact cI0
  have cEt : Tells Try.prog E0 XK 10 [tmS kk nn ss zz tk tn ta ts aa, tmS kk nn ss zz tk tn ta ts aa] (bA (decide (Tm.mk kk nn ss zz (.mk tk tn ta) ts aa = Tm.mk kk nn ss zz (.mk tk tn ta) ts aa))) := by rw [tmS_eq]; exact cEt0
  have cE : Tells Try.prog E0 XK 10 [tmS k3 n3 y3 z3 tk3 tn3 ta3 ts3 a3, tmS k3 n3 y3 z3 tk3 tn3 ta3 ts3 a3] (bA (decide ((Tm.mk k3 n3 y3 z3 (.mk tk3 tn3 ta3) ts3 a3) = (Tm.mk k3 n3 y3 z3 (.mk tk3 tn3 ta3) ts3 a3)))) := by rw [tmS_eq]; exact cE0
  have cH : Tells Try.prog E0 XK 12 [tmS k3 n3 y3 z3 tk3 tn3 (mkTyL ta3 1).1 (mkTyL ts3 (mkTyL ta3 1).2).1 (mkTmL a3 (mkTyL ts3 (mkTyL ta3 1).2).2).1, iA 1] (iA (mkTm0 (Tm.mk k3 n3 y3 z3 (.mk tk3 tn3 ta3) ts3 a3) 1).2) := by rw [tmS_eq]; exact cH0
  have hnn : decide (left < 0) = false := decide_eq_false hneg
  have dE : decide ((Tm.mk k3 n3 y3 z3 (.mk tk3 tn3 ta3) ts3 a3) = (Tm.mk k3 n3 y3 z3 (.mk tk3 tn3 ta3) ts3 a3)) = true := by simp
  have dEt : decide (Tm.mk kk nn ss zz (.mk tk tn ta) ts aa = Tm.mk kk nn ss zz (.mk tk tn ta) ts aa) = true := by simp
  rw [dE] at cE
  rw [dEt] at cEt
  have hK : decide ((mkTm0 (Tm.mk kk nn ss zz (.mk tk tn ta) ts aa) 1).2 < 0) = false := decide_eq_false (by omega)
  have hK2 : decide ((mkTm0 (Tm.mk k3 n3 y3 z3 (.mk tk3 tn3 ta3) ts3 a3) 1).2 < 0) = false := decide_eq_false (by omega)
  clear cS0 cI0 cEt0 cE0 cH0 dE dEt hM hM2
  refine Tells.by Try.func4 (by simp [Try.f4]) (Body.i rfl rfl rfl (fun _ => rfl) fun f => ?_)
  repeat' (first
    
     | refine Run.adjwAt 43 (.ask 6022 _ _ _ _ rfl (fun _ => rfl) fun u => .holdB 6 6 6022 _ _ _ _ _ _ _ rfl rfl rfl rfl rfl rfl (.ask 7022 _ _ _ _ rfl (fun _ => rfl) fun u => .holdB 6 7 7022 _ _ _ _ _ _ _ rfl rfl rfl rfl rfl rfl (.ask 8022 _ _ _ _ rfl (fun _ => rfl) fun u => .holdB 6 8 8022 _ _ _ _ _ _ _ rfl rfl rfl rfl rfl rfl (.done _ (Run.go1 rfl (Run.adjw (.tellC 43 6 6022 _ _ _ _ _ _ _ rfl rfl rfl rfl rfl rfl (.tellC 43 7 7022 _ _ _ _ _ _ _ rfl rfl rfl rfl rfl rfl (.tellC 43 8 8022 _ _ _ _ _ _ _ rfl rfl rfl rfl rfl rfl (.done _ ?_))))))))))
     | refine Run.adjwAt 8 (.tellB 6 6 6022 _ _ _ _ _ _ _ rfl rfl rfl rfl rfl rfl (.tellB 6 7 7022 _ _ _ _ _ _ _ rfl rfl rfl rfl rfl rfl (.tellB 6 8 8022 _ _ _ _ _ _ _ rfl rfl rfl rfl rfl rfl (.done _ ?_)))) | refine wp_seq_i ?_
     | refine wp_region_t k_lawFa rfl ?_ | refine Run.done rfl ?_ | refine then_n ?_ | refine then_r ?_ | refine then_e ?_ | refine Run.go1 rfl ?_ | refine wp_skip_i ?_ | refine wp_ret_i ?_ | refine wp_exit_i ?_
     | refine wp_block_i ?_ | refine block_n ?_ | refine block_r ?_ | refine block_e ?_ | refine block_o rfl ?_ | refine wp_cond_t rfl ?_ | refine wp_cond_f rfl ?_ | refine RunQ.go1 rfl ?_ | refine RunQ.done rfl ?_
     | refine Run.gT rfl rfl rfl rfl ?_ | refine Run.pT rfl rfl ?_ | (refine Run.splitG rfl rfl rfl rfl rfl rfl ?_ ?_ <;> intro _) | (refine Run.splitP rfl rfl rfl rfl ?_ ?_ <;> intro _) | refine RunQ.gT rfl rfl rfl rfl ?_
     | refine RunQ.pT rfl rfl ?_ | (refine RunQ.splitG rfl rfl rfl rfl rfl rfl ?_ ?_ <;> intro _) | (refine RunQ.splitP rfl rfl rfl rfl ?_ ?_ <;> intro _) | refine Run.call rfl rfl rfl (cZ) rfl rfl ?_
     | refine Run.call rfl rfl rfl (cT) rfl rfl ?_ | refine Run.callB rfl rfl rfl (cS) (by simp [tmA, AV.own, T.own, ownCL, ownC, own_Ty, own_Tm]) rfl ?_
     | refine Run.callB rfl rfl rfl (cI) (by simp [tmA, AV.own, T.own, ownCL, ownC, own_Ty, own_Tm]) rfl ?_ | refine Run.callB rfl rfl rfl (cE) (by simp [AV.own, T.own]) rfl ?_
     | refine Run.callB rfl rfl rfl (cEt) (by simp [AV.own, T.own]) rfl ?_ | refine wp_region_l k_lawFa [0, 1] [2, 3] [0, 0, 2, 7, 15] rfl (by decide +kernel) (by decide +kernel) rfl rfl ?_
     | refine RunL.call rfl rfl rfl rfl (cT) (.inl rfl) rfl rfl ?_ | refine RunL.call rfl rfl rfl rfl (cEt) (.inr (by simp [AV.own, T.own])) rfl rfl ?_ | refine RunL.done ?_ | refine Run.call rfl rfl rfl (cM) rfl rfl ?_
     | refine Run.call rfl rfl rfl (cM2) rfl rfl ?_ | refine Run.callB rfl rfl rfl (cH) (by simp [AV.own, T.own]) rfl ?_ | refine Run.one rfl rfl rfl ?_ | (refine wp_cond_k rfl rfl rfl ?_ ?_ <;> intro _)
     | (refine wp_cond_i rfl ?_ ?_ <;> intro _))
  all_goals first
  | (exact ret_m [] rfl rfl rfl)
  | (exfalso; rename_i h; rw [hnn] at h; cases h; done)
  | (exfalso; rename_i h; rw [hK] at h; cases h; done)
  | (exfalso; rename_i h; rw [hK2] at h; cases h; done)
  | (exfalso; rename_i h; simp at h; done)
  | (exfalso; rename_i h; clear cZ cT cM cM2 cS cI cEt cE cH; simp_all; done)
  | trace_state
end Go.Proofs

set_option linter.unusedSimpArgs false
set_option linter.unusedVariables false
namespace Go.Ev
open Go
theorem vs_of {w : World} {B : Nat → Prop} {ts : List T} {vs : List Value} (hl : vs.length = ts.length) (h : ∀ (k : Nat) (y : T) (v : Value), ts[k]? = some y → vs[k]? = some v → Rep w B y v)
    (hs : ∀ y ∈ ts, (∃ v, y = .sc v) ∨ ∃ rows, y = .sl false rows) : VS w B (.ag (ts.map AV.t)) (.agg vs.toArray) (fun _ => False) := by
  refine .inr (.inl ⟨_, _, rfl, rfl, Fam.of (by simp [hl]) fun k x v h1 h2 => ?_⟩)
  rw [List.getElem?_map, Option.map_eq_some_iff] at h1
  obtain ⟨y, hy, rfl⟩ := h1
  have hr := h k y v hy h2
  rcases hs y (List.mem_of_getElem? hy) with ⟨u, rfl⟩ | ⟨rows, rfl⟩
  · cases hr; exact ⟨_, rfl, .sc _ _⟩
  · exact ⟨_, rfl, .sh _ _ _ hr⟩
theorem OpensAt.imp {P : Program} {N : Nat} {t : TypeId} {α : Type} {d : Kt α} {ok ok' : α → Prop} (h : OpensAt P N t d ok) (hok : ∀ x, ok x → ok' x) : OpensAt P N t d ok' := by
  constructor
  intro H enc W base held fuel cs y hf ht
  obtain ⟨x, hk, hx⟩ := h.get enc W base held fuel cs y hf ht
  exact ⟨x, hk, hok x hx⟩
theorem vx_bool {w : World} {B : Nat → Prop} {vs : List Value} {b : Bool} {v : Value} {F : Nat → Prop} (h : VX w B vs (.t (.sc (.bool b))) v F) : v = .bool b := by
  rcases h with ⟨_, (⟨y, hy, ho⟩ | ⟨cs, us, h, _⟩ | ⟨_, _, _, _, _, h, _⟩) | ⟨cs, us, h, _⟩⟩ | ⟨r0, outs, F1, F2, h, _⟩
  · cases hy; cases ho; rfl
  · cases h
  · cases h
  · cases h
  · cases h
theorem vs_int {w : World} {B : Nat → Prop} {k : IntKind} {n : Int} : VS w B (.t (.sc (.int k n))) (.int k n) (fun _ => False) := .inl ⟨_, rfl, .sc _ _⟩
end Go.Ev
namespace Go.Proofs.Ytamcbocdcnndfaa.fnExactFoldAll
open Go Go.Ev Go.Proofs
open Go.ChangeShapes Go.WideShapes Go.ChangeAt Go.RowKit
theorem own : ownKnob Try.prog.godebug = none := by kernel_rfl
theorem laidOut : laidOutB Try.prog = true := by kernel_rfl
abbrev kI : Kt Int := Kt.int .i64
theorem max_le : maxLen ≤ 9223372036854775807 := by decide
theorem oInt (n : Nat) : OpensAt Try.prog n 3 kI (fun _ => True) := (opens_int Try.underlying3).imp fun _ _ => trivial
theorem opens_zero {t : TypeId} {α : Type} (d : Kt α) (ok : α → Prop) : OpensAt Try.prog 0 t d ok := by
  constructor
  intro H enc W base held fuel cs y hf ht
  have : fuel = 0 := by omega
  subst this
  simp [DataW.trod] at ht
theorem opens_like {N : Nat} {t : TypeId} {α : Type} {d d' : Kt α} {ok : α → Prop} (hs : d.sz = d'.sz) (hc : ∀ x, d.cells x = d'.cells x) (h : OpensAt Try.prog N t d ok) : OpensAt Try.prog N t d' ok := by
  constructor
  intro H enc W base held fuel cs y hf ht
  obtain ⟨x, hk, hx⟩ := h.get enc W base held fuel cs y hf ht
  refine ⟨x, ⟨by rw [← hs]; exact hk.1, fun k y v h1 h2 => hk.2 k y v (by rw [hc]; exact h1) h2⟩, hx⟩
theorem Ty.c_len (x : Ty) : (Ty.c false x).length = 3 := by obtain ⟨k, n, a⟩ := x; rw [Ty.c_mk]; rfl
theorem Tm.c_len (x : Tm) : (Tm.c false x).length = 9 := by obtain ⟨k, n, s, z, ⟨tk, tn, ta⟩, ts, a⟩ := x; rw [Tm.c_mk]; rfl
abbrev kTy : Kt Ty := ⟨Ty.c false, 3, Ty.c_len⟩
abbrev kTm : Kt Tm := ⟨Tm.c false, 9, Tm.c_len⟩
abbrev kS : Kt ByteArray := Kt.string
def tyF : Ty → Int × Int × List Ty
  | .mk k n a => (k, n, a)
def tmF : Tm → Int × Int × ByteArray × ByteArray × Ty × List Ty × List Tm
  | .mk k n s z t ts a => (k, n, s, z, t, ts, a)
theorem oStr (n : Nat) : OpensAt Try.prog n 9 kS (fun s => s.size ≤ 9223372036854775807) := (opens_string Try.underlying9).imp fun _ h => Nat.le_trans h max_le
theorem oTyB : ∀ n : Nat, OpensAt Try.prog n 24 kTy Ty.len ∧ OpensAt Try.prog n 22 (Kt.slice kTy) (fun l => l.length ≤ 9223372036854775807 ∧ Ty.lenL l)
  | 0 => ⟨opens_zero _ _, opens_zero _ _⟩
  | n + 1 => by
    obtain ⟨h1, h2⟩ := oTyB n
    refine ⟨?_, (opens_slice Try.underlying22 (by kernel_rfl) (by decide) h1).imp fun _ h => ⟨Nat.le_trans h.1 max_le, Ty.lenL_iff.2 h.2⟩⟩
    have h3 := opens_iso (f := tyF) (fun x => .mk x.1 x.2.1 x.2.2) (fun _ => rfl) (opens_struct (t := 24) Try.underlying24 (by kernel_rfl) (from_cons rfl (by kernel_rfl) (oInt n) (from_cons rfl (by kernel_rfl) (oInt n) (from_one rfl (by kernel_rfl) h2))))
    refine (opens_like (d' := kTy) (by rfl) (fun x => ?_) h3).imp fun x h => ?_
    · obtain ⟨k, m, a⟩ := x
      show _ = Ty.c false _
      rw [Ty.c_mk]
      rfl
    · obtain ⟨k, m, a⟩ := x
      rw [Ty.len]
      exact h.2.2
theorem oTmB : ∀ n : Nat, OpensAt Try.prog n 27 kTm Tm.len ∧ OpensAt Try.prog n 25 (Kt.slice kTm) (fun l => l.length ≤ 9223372036854775807 ∧ Tm.lenL l)
  | 0 => ⟨opens_zero _ _, opens_zero _ _⟩
  | n + 1 => by
    obtain ⟨h1, h2⟩ := oTmB n
    obtain ⟨g1, g2⟩ := oTyB n
    refine ⟨?_, (opens_slice Try.underlying25 (by kernel_rfl) (by decide) h1).imp fun _ h => ⟨Nat.le_trans h.1 max_le, Tm.lenL_iff.2 h.2⟩⟩
    have h3 := opens_iso (f := tmF) (fun x => .mk x.1 x.2.1 x.2.2.1 x.2.2.2.1 x.2.2.2.2.1 x.2.2.2.2.2.1 x.2.2.2.2.2.2) (fun _ => rfl) (opens_struct (t := 27) Try.underlying27 (by kernel_rfl) (from_cons rfl (by kernel_rfl) (oInt n) (from_cons rfl (by kernel_rfl) (oInt n) (from_cons rfl (by kernel_rfl) (oStr n) (from_cons rfl (by kernel_rfl) (oStr n) (from_cons rfl (by kernel_rfl) g1 (from_cons rfl (by kernel_rfl) g2 (from_one rfl (by kernel_rfl) h2))))))))
    refine (opens_like (d' := kTm) (by rfl) (fun x => ?_) h3).imp fun x h => ?_
    · obtain ⟨k, m, s, z, ⟨tk, tn, ta⟩, ts, a⟩ := x
      show _ = Tm.c false _
      rw [Tm.c_mk]
      show _ ++ (_ ++ (_ ++ (_ ++ (Ty.c false (.mk tk tn ta) ++ _)))) = _
      rw [Ty.c_mk]
      rfl
    · obtain ⟨k, m, s, z, t, ts, a⟩ := x
      rw [Tm.len]
      exact ⟨h.2.2.1, h.2.2.2.1, h.2.2.2.2.1, h.2.2.2.2.2.1, h.2.2.2.2.2.2⟩
theorem vs_tm {W : World} {B : Nat → Prop} {x : Tm} {cs : List Value} (hl : cs.length = 9) (hk : ∀ (k : Nat) (y : T) (v : Value), (Tm.c false x)[k]? = some y → cs[k]? = some v → Rep W B y v) : VS W B (x.a false) (.agg cs.toArray) (fun _ => False) := by
  have e : x.a false = .ag ((Tm.c false x).map AV.t) := by obtain ⟨k, n, s, z, ⟨tk, tn, ta⟩, ts, a⟩ := x; rw [Tm.c_mk]; rfl
  rw [e]
  refine vs_of (by rw [hl, Tm.c_len]) hk fun y hy => ?_
  obtain ⟨k, n, s, z, ⟨tk, tn, ta⟩, ts, a⟩ := x
  rw [Tm.c_mk] at hy
  simp only [List.mem_cons, List.not_mem_nil, or_false] at hy
  rcases hy with rfl | rfl | rfl | rfl | rfl | rfl | rfl | rfl | rfl
  all_goals first
  | exact .inl ⟨_, rfl⟩
  | exact .inr ⟨_, rfl⟩
theorem vs_str {W : World} {B : Nat → Prop} {x : ByteArray} {v : Value} (h : Rep W B (.sc (.string x)) v) : VS W B (.t (.sc (.string x))) v (fun _ => False) := by
  cases h
  exact .inl ⟨_, rfl, .sc _ _⟩
theorem calls {W : World} {x0 : Tm} {cs0 : List Value} (hk0 : kTm.K W x0 cs0) (hl0 : Tm.len x0) : Calls Try.prog 4 #[.agg cs0.toArray] W fun e W' => e = .returned (.bool true) ∧ Below W.heap.size W W' := by
  have h := (Tells.sound (X := XK) tab_ok XK_sound (lawFa_t x0 hl0)).2 W [.agg cs0.toArray] (fun b => b < W.heap.size) (fun _ => False) (fun b hb => ⟨hb, fun h => h⟩) (fun _ h => h.elim)
    (.cons _ _ _ _ (fun _ => False) (fun _ => False) _ (vs_tm hk0.1 hk0.2) (.nil _) (fun _ h => h.elim) (fun _ h => h) (fun _ h => h))
  refine h.mono fun e W' ⟨v, B', F', he, hv, _, _, hkeep⟩ => ?_
  rw [he, vx_bool hv]
  exact ⟨rfl, hkeep.os, hkeep.tape, hkeep.output, hkeep.size, fun k hk => hkeep.block k hk fun h => h⟩
set_option maxRecDepth 100000 in
theorem lifted (os : Os) (started : os.Started) (H : Type) (enc : TypeId × Value → H) :
    ReturnsInHanded {} Try.checked os 4 .any (Rows.fnExactFoldAllSpec.pre6 enc Try.prog Try.f4 Rows.fnExactFoldAllRow.domain false) (Rows.fnExactFoldAllSpec.post enc Try.prog Try.f4 false true false false) := by
  refine returnsInHanded_of_change_sized (C := Try.checked) own started (by kernel_rfl) Try.func4
    (ChangeSpec.witness6 (enc := enc) (C := Try.checked) false ⟨#[], #[.agg #[.int .i64 0, .int .i64 0, .string ByteArray.empty, .string ByteArray.empty, .int .i64 0, .int .i64 0, .slice none 0 0, .slice none 0 0, .slice none 0 0]], []⟩ 8 (by kernel_rfl) (by kernel_rfl) (by kernel_rfl) (by kernel_rfl)) ?_
  intro W base args ds gs before hval0 hW hcnd hsz0 _
  have hval : ∀ (j : Nat) t v, Try.f4.params[j]? = some t → args[j]? = some v → Value.okWide Try.prog W .any base t v := hval0
  have hW' := hW
  obtain ⟨p, q, hA0, hV, rfl, hfz, hnd⟩ := hW
  have hA : DataW.TrodAll enc Try.prog W 0 (fun _ => true) true Try.f4.params.toList args.toList ds p := hA0
  rw [Try.params4] at hA hval
  obtain ⟨v0, vs0, d0, ds0, p0, q0, hargs, rfl, rfl, h0, r0⟩ := trodAll_cons hA
  obtain ⟨rfl, rfl, rfl⟩ := trodAll_nil r0
  obtain rfl : args = #[v0] := by cases args; simp_all
  obtain ⟨rfl, rfl⟩ := trodVars_none hV
  obtain ⟨cs0, rfl, hcs0⟩ := okWide_struct Try.underlying27 (hval 0 27 v0 rfl rfl)
  have k0 := h0
  have lt0 : ∀ x ∈ p0, x.block < W.heap.size := by obtain ⟨m, hm⟩ := k0; exact DataW.trod_lt m _ _ _ hm
  obtain ⟨x0, hk0, ok0⟩ : ∃ x, kTm.K W x cs0.toList ∧ Tm.len x := by
    obtain ⟨m, hm⟩ := h0
    exact (oTmB m).1.get enc W _ _ m _ _ (Nat.le_refl _) hm
  refine (calls hk0 ok0).mono fun e W' ⟨he, bel0⟩ => ?_
  have bel : Below W.heap.size W W' := bel0
  subst he
  exact ⟨_, rfl, _, _, _, [], _, [], hW', trodAll_mk1 (shut_bool Try.underlying4 _), (trodAll_cons_mk (Below.trod laidOut (by kernel_rfl) (of_decide_eq_true (by kernel_rfl)) k0 bel lt0) trodAll_mk0), rfl, bel.frame _, fun h => by cases h⟩
theorem over : Rows.fnExactFoldAllRow.holds Try.pinned (OpenSpec.ofChange Rows.fnExactFoldAllSpec) :=
  OpenClaim.holds_of_wide 4 Try.f4 rfl rfl rfl rfl rfl rfl rfl ⟨rfl, rfl, rfl, rfl, rfl⟩ rfl rfl rfl rfl rfl (by kernel_rfl) Try.func4 (by kernel_rfl)
    (of_decide_eq_true (by kernel_rfl)) (by unfold Func.isWrapper; first | (rw [if_pos (by decide +kernel)]; kernel_rfl) | (rw [if_neg (by decide +kernel)]; exact ⟨rfl, rfl⟩))
    (fun os started H enc _ => lifted os started H enc)
theorem proved : Rows.FnExactFoldAllSaid := over
#print axioms proved
end Go.Proofs.Ytamcbocdcnndfaa.fnExactFoldAll
namespace Go.Proofs.Ytamcbocdcnndfaa
/-- The row, under a short name, for the claim. -/
theorem fnExactFoldAll_holds : Rows.FnExactFoldAllSaid := fnExactFoldAll.proved
end Go.Proofs.Ytamcbocdcnndfaa

