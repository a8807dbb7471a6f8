import Derived.Test.YthhlbnhgjijbaaaQa4
import Derived.Test.YthhlbnhgjijbaaaRows
import Derived.WalkKit
import Derived.ProofKit
import Derived.OpenShut
import Derived.ShutString
import Derived.ChangeOld
import Derived.Below
import Derived.SizedLaws
set_option linter.unusedVariables false
set_option linter.unusedSimpArgs false
set_option maxHeartbeats 4000000
namespace Go.Proofs
open Go Go.Ev
set_option maxRecDepth 100000
variable {X : Rel3}
def k_l20Cut : List (Nat × List Nat) := [(0, [1, 2]), (1, [1, 2, 5]), (2, [1, 2, 5, 6]), (3, [1, 2, 5, 6, 16]), (4, [1, 2, 5, 6]), (5, [1, 2, 5, 6]), (6, [1, 2, 5, 6, 7]), (7, [1, 2, 5, 6, 7, 25]), (8, [1, 2, 5, 6, 7]), (9, [1, 2, 5, 6, 7, 8]), (10, [1, 2, 5, 6, 7, 8, 9]), (11, [1, 2, 5, 6, 7, 8, 9, 37]), (12, [1, 2, 5, 6, 7, 8, 9]), (13, [1, 2, 5, 6, 7, 8, 9, 55]), (14, [1, 2, 5, 6, 7, 8, 9]), (15, [1, 2, 5, 6, 7, 8, 9]), (16, [4])]
theorem l20Cut_t (p : Piece) (c : Nat) (hb : pieceB p = true) (hp : p.ins.length ≤ 1048576) : Tells Try.prog E0 X 46 [p.a false, iA c] (.t (.sl true ((metC p.ins c).map bR))) := by
  have hz0 : (List.replicate (Int.toNat ((p.ins.map (Ins.c false)).length : Int)) [T.sc (.bool false)])[0]? = some [T.sc (.bool false)] := by
    have := (len_pos hb).1
    rw [List.getElem?_replicate, if_pos (by simp; omega)]
  have hi0 : ∃ o0 q0, Bf p.ins c o0 q0 ∧ ((c : Int) ≠ 0 → o0 = (List.replicate p.ins.length false).set 0 true ∧ q0 = [0]) ∧ ((c : Int) = 0 → o0 = List.replicate p.ins.length false ∧ q0 = []) := by
    by_cases hc : (c : Int) = 0
    · exact ⟨_, _, by rw [hc]; exact Bf.none _, fun h => absurd hc h, fun _ => ⟨rfl, rfl⟩⟩
    · exact ⟨_, _, Bf.zero hb hc, fun _ => ⟨rfl, rfl⟩, fun h => absurd h hc⟩
  obtain ⟨o0, q0, hB0, hn0, hy0⟩ := hi0
  refine Tells.by Try.func46 (by simp [Try.f46]) (Body.i rfl rfl rfl (fun _ => rfl) fun f => ?_)
  repeat' (first
     | refine wp_seq_i ?_ | refine wp_region_t k_l20Cut rfl ?_ | refine Run.done rfl ?_ | refine then_n ?_ | refine then_r ?_ | refine then_e ?_ | refine Run.go1 rfl ?_ | refine wp_skip_i ?_ | refine wp_ret_i ?_
     | refine wp_exit_i ?_ | refine wp_block_i ?_ | refine block_n ?_ | refine block_r ?_ | refine block_e ?_ | refine block_o rfl ?_ | refine wp_cond_t rfl ?_ | refine wp_cond_f rfl ?_
     | refine Run.cnd2 rfl rfl rfl ⟨by simp, rfl, by simp; omega, by simp; omega⟩ ?_ | refine Run.ix rfl rfl rfl rfl rfl rfl rfl hz0 rfl rfl rfl ?_ | refine Run.str rfl rfl rfl rfl rfl rfl hz0 rfl rfl ?_
     | refine Run.cnd rfl rfl rfl ⟨by first | (simp; done) | (simp; omega), (by intro r hr; first | (simp at hr; done) | skip; simp at hr; first | (rcases hr with ⟨a, _, rfl⟩ | rfl <;> rfl) | (obtain ⟨a, _, rfl⟩ := hr; rfl) | (subst hr; rfl)), by simp, by first | exact .inl rfl | exact hq | exact .inr rfl, by simp [flatT]⟩ ?_
     | (refine wp_cond_k rfl rfl rfl ?_ ?_ <;> intro _) | (refine wp_cond_i rfl ?_ ?_ <;> intro _))
  all_goals rename_i hcc
  · have hcn : (c : Int) ≠ 0 := by simpa using hcc
    refine wp_loop_k (α := Nat × List Bool × List Int) [.keep [1, 2, 5, 6, 7] [2, 13, 21], .ren 21 14] (fun z => [(7, iA z.1)]) (fun _ => []) (fun z => [(13, 0, z.2.1.map bR), (14, 0, z.2.2.map iR)]) (fun z => z.1 ≤ z.2.2.length ∧ Bf p.ins c z.2.1 z.2.2 ∧ (∀ (j : Nat) (x : Int), j < z.1 → z.2.2[j]? = some x → ∀ y ∈ nexts p.ins x.toNat, y ≠ c → y ∈ z.2.2) ∧ ((c : Int) ≠ 0 → 0 ∈ z.2.2)) (fun z => p.ins.length - z.1) (0, o0, q0) rfl (fun _ => rfl) ?_ ⟨by simp, hB0, by simp, fun h => by rw [(hn0 h).2]; simp⟩ ?_
    · rw [(hn0 hcn).1, (hn0 hcn).2]; simp [List.map_set]; rfl
    rintro ⟨k, out, q⟩ ⟨hk, hB, hC, hZ⟩
    simp only at hk hB hC hZ
    by_cases hlt : k < q.length
    · have hqk := hB.inr q[k] (List.getElem_mem hlt)
      obtain ⟨i0, hi0⟩ : ∃ i0 : Nat, q[k] = (i0 : Int) := ⟨q[k].toNat, by omega⟩
      have hri : Reach p.ins c i0 := by have := hqk.2; rw [hi0] at this; simpa using this
      have hil : i0 < p.ins.length := reach_lt hb hri
      have hx : (q.map iR)[k]? = some (iR (i0 : Int)) := by rw [← hi0]; exact map_at hlt
      repeat' (first
         | refine wp_seq_i ?_ | refine wp_region_t k_l20Cut rfl ?_ | refine Run.done rfl ?_ | refine then_n ?_ | refine then_r ?_ | refine then_e ?_ | refine Run.go1 rfl ?_ | refine wp_skip_i ?_ | refine wp_ret_i ?_
         | refine wp_exit_i ?_ | refine wp_block_i ?_ | refine block_n ?_ | refine block_r ?_ | refine block_e ?_ | refine block_o rfl ?_ | refine wp_cond_t rfl ?_ | refine wp_cond_f rfl ?_
         | refine wp_region_qt k_l20Cut rfl 7 (by decide +kernel) rfl rfl ?_ | refine RunQ.go1 rfl ?_ | refine RunQ.done rfl ?_ | refine RunQ.ix rfl rfl rfl rfl rfl rfl rfl hx rfl rfl rfl ?_ | refine RunQ.ldr rfl rfl rfl hx rfl rfl ?_
         | refine RunQ.callO rfl rfl rfl rfl rfl rfl (NextsS_t p i0 hb hp hil) (.inl rfl) rfl rfl rfl ?_ | (refine wp_cond_k rfl rfl rfl ?_ ?_ <;> intro _) | (refine wp_cond_i rfl ?_ ?_ <;> intro _))
      any_goals (exfalso; rename_i h; simp [hlt] at h; done)
      have hin : ∀ y ∈ nexts p.ins i0, 0 ≤ y ∧ y < p.ins.length := fun y hy => nexts_in hb hy
      have hrn : ∀ y : Nat, (y : Int) ∈ nexts p.ins i0 → (y : Int) ≠ c → Reach p.ins c y := fun y hy hyc => .step hri hy hyc
      generalize hnx : nexts p.ins i0 = nx at hin hrn
      refine wp_loop_k (α := Nat × List Bool × List Int) [.keep [1, 2, 5, 6, 7, 8, 9] [2, 13, 14, 33]] (fun z => [(9, iA z.1)]) (fun _ => []) (fun z => [(13, 0, z.2.1.map bR), (14, 0, z.2.2.map iR)]) (fun z => z.1 ≤ nx.length ∧ Bf p.ins c z.2.1 z.2.2 ∧ (∃ t, z.2.2 = q ++ t) ∧ ∀ y ∈ nx.take z.1, y ≠ c → y ∈ z.2.2) (fun z => nx.length - z.1) (0, out, q) rfl (fun _ => rfl) rfl ⟨by simp, hB, ⟨[], by simp⟩, by simp⟩ ?_
      rintro ⟨m, ou, qu⟩ ⟨hm, hB2, hpre, hall⟩
      simp only at hm hB2 hpre hall
      have hql := hB2.le
      by_cases hlm : m < nx.length
      · have hym := hin nx[m] (List.getElem_mem hlm)
        obtain ⟨y0, hy0⟩ : ∃ y0 : Nat, nx[m] = (y0 : Int) := ⟨nx[m].toNat, by omega⟩
        have hry : (y0 : Int) ≠ c → Reach p.ins c y0 := hrn y0 (by rw [← hy0]; exact List.getElem_mem hlm)
        have hyl : y0 < ou.length := by rw [hB2.len]; omega
        have hx2 : (nx.map iR)[m]? = some (iR (y0 : Int)) := by rw [← hy0]; exact map_at hlm
        have ht : nx.take (m + 1) = nx.take m ++ [(y0 : Int)] := by rw [← hy0]; simp
        obtain ⟨b, hob⟩ : ∃ b, ou[y0]? = some b := ⟨_, List.getElem?_eq_getElem hyl⟩
        have hz : (ou.map bR)[y0]? = some (bR b) := by rw [List.getElem?_map, hob]; rfl
        have hwm := w_succ hlm (by have := nexts_len p.ins i0; rw [hnx] at this; omega)
        cases b
        all_goals (
          repeat' (first
             | refine wp_seq_i ?_ | refine wp_region_t k_l20Cut rfl ?_ | refine Run.done rfl ?_ | refine then_n ?_ | refine then_r ?_ | refine then_e ?_ | refine Run.go1 rfl ?_ | refine wp_skip_i ?_ | refine wp_ret_i ?_
             | refine wp_exit_i ?_ | refine wp_block_i ?_ | refine block_n ?_ | refine block_r ?_ | refine block_e ?_ | refine block_o rfl ?_ | refine wp_cond_t rfl ?_ | refine wp_cond_f rfl ?_ | refine Run.gT rfl rfl rfl rfl ?_
             | refine Run.pT rfl rfl ?_ | (refine Run.splitG rfl rfl rfl rfl rfl rfl ?_ ?_ <;> intro _) | (refine Run.splitP rfl rfl rfl rfl ?_ ?_ <;> intro _) | refine Run.ix rfl rfl rfl rfl rfl rfl rfl hx2 rfl rfl rfl ?_
             | refine Run.ix rfl rfl rfl rfl rfl rfl rfl hz rfl rfl rfl ?_ | refine Run.ldr rfl rfl rfl hx2 rfl rfl ?_ | refine Run.ldr rfl rfl rfl hz rfl rfl ?_ | refine Run.str rfl rfl rfl rfl rfl rfl hz rfl rfl ?_
             | refine Run.cnd rfl rfl rfl ⟨by first | (simp; done) | (simp; omega), (by intro r hr; first | (simp at hr; done) | skip; simp at hr; first | (rcases hr with ⟨a, _, rfl⟩ | rfl <;> rfl) | (obtain ⟨a, _, rfl⟩ := hr; rfl) | (subst hr; rfl)), by simp, by first | exact .inl rfl | exact hq | exact .inr rfl, by simp [flatT]⟩ ?_
             | (refine wp_cond_k rfl rfl rfl ?_ ?_ <;> intro _) | (refine wp_cond_i rfl ?_ ?_ <;> intro _))
          all_goals first
          | (exfalso; rename_i h; simp [hlm] at h; done)
          | (exfalso; rename_i h; simp at h; done)
          | (rename_i hyc
             have hyc : (y0 : Int) ≠ c := by simpa using hyc
             refine back_i [.keep [1, 2, 5, 6, 7, 8, 9] [2, 13, 33, 68], .ren 68 14] (m + 1, ou.set y0 true, qu ++ [(y0 : Int)]) rfl ?_ ⟨by simp; omega, hB2.push hob (hry hyc), ?_, ?_⟩ (by simp; omega)
             · simp only [hwm, List.map_append, List.map_cons, List.map_nil, List.map_set]; try rfl
             · obtain ⟨t, ht'⟩ := hpre; exact ⟨t ++ [(y0 : Int)], by rw [ht', List.append_assoc]⟩
             · (intro y hy hyn
                rw [ht] at hy
                rcases List.mem_append.1 hy with hy | hy
                · exact List.mem_append.2 (.inl (hall y hy hyn))
                · exact List.mem_append.2 (.inr hy)); done)
          | (refine back_i [.keep [1, 2, 5, 6, 7, 8, 9] [2, 13, 14, 33]] (m + 1, ou, qu) rfl ?_ ⟨by simp; omega, hB2, hpre, ?_⟩ (by simp; omega)
             · simp only [hwm]; try rfl
             · (intro y hy hyn
                rw [ht] at hy
                rcases List.mem_append.1 hy with hy | hy
                · exact hall y hy hyn
                · obtain rfl : y = (y0 : Int) := by simpa using hy
                  exact (hB2.mem y0).1 hob); done)
          | (rename_i hyc
             have hyc : (y0 : Int) = c := by simpa using hyc
             refine back_i [.keep [1, 2, 5, 6, 7, 8, 9] [2, 13, 14, 33]] (m + 1, ou, qu) rfl ?_ ⟨by simp; omega, hB2, hpre, ?_⟩ (by simp; omega)
             · simp only [hwm]; try rfl
             · (intro y hy hyn
                rw [ht] at hy
                rcases List.mem_append.1 hy with hy | hy
                · exact hall y hy hyn
                · obtain rfl : y = (y0 : Int) := by simpa using hy
                  exact absurd hyc hyn); done)
          | trace_state)
      · have hmn : m = nx.length := by omega
        subst hmn
        rw [List.take_length] at hall
        repeat' (first
           | refine wp_seq_i ?_ | refine wp_region_t k_l20Cut rfl ?_ | refine Run.done rfl ?_ | refine then_n ?_ | refine then_r ?_ | refine then_e ?_ | refine Run.go1 rfl ?_ | refine wp_skip_i ?_ | refine wp_ret_i ?_
           | refine wp_exit_i ?_ | refine wp_block_i ?_ | refine block_n ?_ | refine block_r ?_ | refine block_e ?_ | refine block_o rfl ?_ | refine wp_cond_t rfl ?_ | refine wp_cond_f rfl ?_
           | (refine wp_cond_k rfl rfl rfl ?_ ?_ <;> intro _) | (refine wp_cond_i rfl ?_ ?_ <;> intro _))
        all_goals first
        | (exfalso; rename_i h; simp at h; done)
        | (refine back_i [.keep [1, 2, 5, 6, 7] [2, 13, 14]] (k + 1, ou, qu) rfl ?_ ⟨?_, hB2, ?_, ?_⟩ ?_
           · simp only [w_succ hlt (by have := hB.le; omega)]; try rfl
           · obtain ⟨t, ht'⟩ := hpre; simp [ht']; omega
           · obtain ⟨t, ht'⟩ := hpre
             intro j x hj hjx y hy hyn
             have hjq : j < q.length := by omega
             rw [ht', List.getElem?_append_left hjq] at hjx
             by_cases hjk : j < k
             · rw [ht']; exact List.mem_append.2 (.inl (hC j x hjk hjx y hy hyn))
             · have : j = k := by omega
               subst this
               rw [List.getElem?_eq_getElem hlt, hi0] at hjx
               cases hjx
               rw [Int.toNat_natCast, hnx] at hy
               exact hall y hy hyn
           · intro hc0; obtain ⟨t, ht'⟩ := hpre; rw [ht']; exact List.mem_append.2 (.inl (hZ hc0))
           · have := hB.le; simp; omega)
        | trace_state
    · have hki : k = q.length := by omega
      subst hki
      have hfin : out = metC p.ins c := hB.done (fun j x hj y hy hyn => hC j x (List.getElem?_eq_some_iff.1 hj).1 hj y hy hyn) hZ
      repeat' (first
         | refine wp_seq_i ?_ | refine wp_region_t k_l20Cut rfl ?_ | refine Run.done rfl ?_ | refine then_n ?_ | refine then_r ?_ | refine then_e ?_ | refine Run.go1 rfl ?_ | refine wp_skip_i ?_ | refine wp_ret_i ?_
         | refine wp_exit_i ?_ | refine wp_block_i ?_ | refine block_n ?_ | refine block_r ?_ | refine block_e ?_ | refine block_o rfl ?_ | refine wp_cond_t rfl ?_ | refine wp_cond_f rfl ?_
         | (refine wp_cond_k rfl rfl rfl ?_ ?_ <;> intro _) | (refine wp_cond_i rfl ?_ ?_ <;> intro _))
      all_goals first
      | (exfalso; simp at *; done)
      | (refine ret_m [] rfl rfl ?_; rw [hfin]; done)
      | trace_state
  · have hcn : (c : Int) = 0 := by simpa using hcc
    refine wp_loop_k (α := Nat × List Bool × List Int) [.keep [1, 2, 5, 6, 7] [2, 13, 14]] (fun z => [(7, iA z.1)]) (fun _ => []) (fun z => [(13, 0, z.2.1.map bR), (14, 0, z.2.2.map iR)]) (fun z => z.1 ≤ z.2.2.length ∧ Bf p.ins c z.2.1 z.2.2 ∧ (∀ (j : Nat) (x : Int), j < z.1 → z.2.2[j]? = some x → ∀ y ∈ nexts p.ins x.toNat, y ≠ c → y ∈ z.2.2) ∧ ((c : Int) ≠ 0 → 0 ∈ z.2.2)) (fun z => p.ins.length - z.1) (0, o0, q0) rfl (fun _ => rfl) ?_ ⟨by simp, hB0, by simp, fun h => by rw [(hn0 h).2]; simp⟩ ?_
    · rw [(hy0 hcn).1, (hy0 hcn).2]; simp
    rintro ⟨k, out, q⟩ ⟨hk, hB, hC, hZ⟩
    simp only at hk hB hC hZ
    by_cases hlt : k < q.length
    · have hqk := hB.inr q[k] (List.getElem_mem hlt)
      obtain ⟨i0, hi0⟩ : ∃ i0 : Nat, q[k] = (i0 : Int) := ⟨q[k].toNat, by omega⟩
      have hri : Reach p.ins c i0 := by have := hqk.2; rw [hi0] at this; simpa using this
      have hil : i0 < p.ins.length := reach_lt hb hri
      have hx : (q.map iR)[k]? = some (iR (i0 : Int)) := by rw [← hi0]; exact map_at hlt
      repeat' (first
         | refine wp_seq_i ?_ | refine wp_region_t k_l20Cut rfl ?_ | refine Run.done rfl ?_ | refine then_n ?_ | refine then_r ?_ | refine then_e ?_ | refine Run.go1 rfl ?_ | refine wp_skip_i ?_ | refine wp_ret_i ?_
         | refine wp_exit_i ?_ | refine wp_block_i ?_ | refine block_n ?_ | refine block_r ?_ | refine block_e ?_ | refine block_o rfl ?_ | refine wp_cond_t rfl ?_ | refine wp_cond_f rfl ?_
         | refine wp_region_qt k_l20Cut rfl 7 (by decide +kernel) rfl rfl ?_ | refine RunQ.go1 rfl ?_ | refine RunQ.done rfl ?_ | refine RunQ.ix rfl rfl rfl rfl rfl rfl rfl hx rfl rfl rfl ?_ | refine RunQ.ldr rfl rfl rfl hx rfl rfl ?_
         | refine RunQ.callO rfl rfl rfl rfl rfl rfl (NextsS_t p i0 hb hp hil) (.inl rfl) rfl rfl rfl ?_ | (refine wp_cond_k rfl rfl rfl ?_ ?_ <;> intro _) | (refine wp_cond_i rfl ?_ ?_ <;> intro _))
      any_goals (exfalso; rename_i h; simp [hlt] at h; done)
      have hin : ∀ y ∈ nexts p.ins i0, 0 ≤ y ∧ y < p.ins.length := fun y hy => nexts_in hb hy
      have hrn : ∀ y : Nat, (y : Int) ∈ nexts p.ins i0 → (y : Int) ≠ c → Reach p.ins c y := fun y hy hyc => .step hri hy hyc
      generalize hnx : nexts p.ins i0 = nx at hin hrn
      refine wp_loop_k (α := Nat × List Bool × List Int) [.keep [1, 2, 5, 6, 7, 8, 9] [2, 13, 14, 33]] (fun z => [(9, iA z.1)]) (fun _ => []) (fun z => [(13, 0, z.2.1.map bR), (14, 0, z.2.2.map iR)]) (fun z => z.1 ≤ nx.length ∧ Bf p.ins c z.2.1 z.2.2 ∧ (∃ t, z.2.2 = q ++ t) ∧ ∀ y ∈ nx.take z.1, y ≠ c → y ∈ z.2.2) (fun z => nx.length - z.1) (0, out, q) rfl (fun _ => rfl) rfl ⟨by simp, hB, ⟨[], by simp⟩, by simp⟩ ?_
      rintro ⟨m, ou, qu⟩ ⟨hm, hB2, hpre, hall⟩
      simp only at hm hB2 hpre hall
      have hql := hB2.le
      by_cases hlm : m < nx.length
      · have hym := hin nx[m] (List.getElem_mem hlm)
        obtain ⟨y0, hy0⟩ : ∃ y0 : Nat, nx[m] = (y0 : Int) := ⟨nx[m].toNat, by omega⟩
        have hry : (y0 : Int) ≠ c → Reach p.ins c y0 := hrn y0 (by rw [← hy0]; exact List.getElem_mem hlm)
        have hyl : y0 < ou.length := by rw [hB2.len]; omega
        have hx2 : (nx.map iR)[m]? = some (iR (y0 : Int)) := by rw [← hy0]; exact map_at hlm
        have ht : nx.take (m + 1) = nx.take m ++ [(y0 : Int)] := by rw [← hy0]; simp
        obtain ⟨b, hob⟩ : ∃ b, ou[y0]? = some b := ⟨_, List.getElem?_eq_getElem hyl⟩
        have hz : (ou.map bR)[y0]? = some (bR b) := by rw [List.getElem?_map, hob]; rfl
        have hwm := w_succ hlm (by have := nexts_len p.ins i0; rw [hnx] at this; omega)
        cases b
        all_goals (
          repeat' (first
             | refine wp_seq_i ?_ | refine wp_region_t k_l20Cut rfl ?_ | refine Run.done rfl ?_ | refine then_n ?_ | refine then_r ?_ | refine then_e ?_ | refine Run.go1 rfl ?_ | refine wp_skip_i ?_ | refine wp_ret_i ?_
             | refine wp_exit_i ?_ | refine wp_block_i ?_ | refine block_n ?_ | refine block_r ?_ | refine block_e ?_ | refine block_o rfl ?_ | refine wp_cond_t rfl ?_ | refine wp_cond_f rfl ?_ | refine Run.gT rfl rfl rfl rfl ?_
             | refine Run.pT rfl rfl ?_ | (refine Run.splitG rfl rfl rfl rfl rfl rfl ?_ ?_ <;> intro _) | (refine Run.splitP rfl rfl rfl rfl ?_ ?_ <;> intro _) | refine Run.ix rfl rfl rfl rfl rfl rfl rfl hx2 rfl rfl rfl ?_
             | refine Run.ix rfl rfl rfl rfl rfl rfl rfl hz rfl rfl rfl ?_ | refine Run.ldr rfl rfl rfl hx2 rfl rfl ?_ | refine Run.ldr rfl rfl rfl hz rfl rfl ?_ | refine Run.str rfl rfl rfl rfl rfl rfl hz rfl rfl ?_
             | refine Run.cnd rfl rfl rfl ⟨by first | (simp; done) | (simp; omega), (by intro r hr; first | (simp at hr; done) | skip; simp at hr; first | (rcases hr with ⟨a, _, rfl⟩ | rfl <;> rfl) | (obtain ⟨a, _, rfl⟩ := hr; rfl) | (subst hr; rfl)), by simp, by first | exact .inl rfl | exact hq | exact .inr rfl, by simp [flatT]⟩ ?_
             | (refine wp_cond_k rfl rfl rfl ?_ ?_ <;> intro _) | (refine wp_cond_i rfl ?_ ?_ <;> intro _))
          all_goals first
          | (exfalso; rename_i h; simp [hlm] at h; done)
          | (exfalso; rename_i h; simp at h; done)
          | (rename_i hyc
             have hyc : (y0 : Int) ≠ c := by simpa using hyc
             refine back_i [.keep [1, 2, 5, 6, 7, 8, 9] [2, 13, 33, 68], .ren 68 14] (m + 1, ou.set y0 true, qu ++ [(y0 : Int)]) rfl ?_ ⟨by simp; omega, hB2.push hob (hry hyc), ?_, ?_⟩ (by simp; omega)
             · simp only [hwm, List.map_append, List.map_cons, List.map_nil, List.map_set]; try rfl
             · obtain ⟨t, ht'⟩ := hpre; exact ⟨t ++ [(y0 : Int)], by rw [ht', List.append_assoc]⟩
             · (intro y hy hyn
                rw [ht] at hy
                rcases List.mem_append.1 hy with hy | hy
                · exact List.mem_append.2 (.inl (hall y hy hyn))
                · exact List.mem_append.2 (.inr hy)); done)
          | (refine back_i [.keep [1, 2, 5, 6, 7, 8, 9] [2, 13, 14, 33]] (m + 1, ou, qu) rfl ?_ ⟨by simp; omega, hB2, hpre, ?_⟩ (by simp; omega)
             · simp only [hwm]; try rfl
             · (intro y hy hyn
                rw [ht] at hy
                rcases List.mem_append.1 hy with hy | hy
                · exact hall y hy hyn
                · obtain rfl : y = (y0 : Int) := by simpa using hy
                  exact (hB2.mem y0).1 hob); done)
          | (rename_i hyc
             have hyc : (y0 : Int) = c := by simpa using hyc
             refine back_i [.keep [1, 2, 5, 6, 7, 8, 9] [2, 13, 14, 33]] (m + 1, ou, qu) rfl ?_ ⟨by simp; omega, hB2, hpre, ?_⟩ (by simp; omega)
             · simp only [hwm]; try rfl
             · (intro y hy hyn
                rw [ht] at hy
                rcases List.mem_append.1 hy with hy | hy
                · exact hall y hy hyn
                · obtain rfl : y = (y0 : Int) := by simpa using hy
                  exact absurd hyc hyn); done)
          | trace_state)
      · have hmn : m = nx.length := by omega
        subst hmn
        rw [List.take_length] at hall
        repeat' (first
           | refine wp_seq_i ?_ | refine wp_region_t k_l20Cut rfl ?_ | refine Run.done rfl ?_ | refine then_n ?_ | refine then_r ?_ | refine then_e ?_ | refine Run.go1 rfl ?_ | refine wp_skip_i ?_ | refine wp_ret_i ?_
           | refine wp_exit_i ?_ | refine wp_block_i ?_ | refine block_n ?_ | refine block_r ?_ | refine block_e ?_ | refine block_o rfl ?_ | refine wp_cond_t rfl ?_ | refine wp_cond_f rfl ?_
           | (refine wp_cond_k rfl rfl rfl ?_ ?_ <;> intro _) | (refine wp_cond_i rfl ?_ ?_ <;> intro _))
        all_goals first
        | (exfalso; rename_i h; simp at h; done)
        | (refine back_i [.keep [1, 2, 5, 6, 7] [2, 13, 14]] (k + 1, ou, qu) rfl ?_ ⟨?_, hB2, ?_, ?_⟩ ?_
           · simp only [w_succ hlt (by have := hB.le; omega)]; try rfl
           · obtain ⟨t, ht'⟩ := hpre; simp [ht']; omega
           · obtain ⟨t, ht'⟩ := hpre
             intro j x hj hjx y hy hyn
             have hjq : j < q.length := by omega
             rw [ht', List.getElem?_append_left hjq] at hjx
             by_cases hjk : j < k
             · rw [ht']; exact List.mem_append.2 (.inl (hC j x hjk hjx y hy hyn))
             · have : j = k := by omega
               subst this
               rw [List.getElem?_eq_getElem hlt, hi0] at hjx
               cases hjx
               rw [Int.toNat_natCast, hnx] at hy
               exact hall y hy hyn
           · intro hc0; obtain ⟨t, ht'⟩ := hpre; rw [ht']; exact List.mem_append.2 (.inl (hZ hc0))
           · have := hB.le; simp; omega)
        | trace_state
    · have hki : k = q.length := by omega
      subst hki
      have hfin : out = metC p.ins c := hB.done (fun j x hj y hy hyn => hC j x (List.getElem?_eq_some_iff.1 hj).1 hj y hy hyn) hZ
      repeat' (first
         | refine wp_seq_i ?_ | refine wp_region_t k_l20Cut rfl ?_ | refine Run.done rfl ?_ | refine then_n ?_ | refine then_r ?_ | refine then_e ?_ | refine Run.go1 rfl ?_ | refine wp_skip_i ?_ | refine wp_ret_i ?_
         | refine wp_exit_i ?_ | refine wp_block_i ?_ | refine block_n ?_ | refine block_r ?_ | refine block_e ?_ | refine block_o rfl ?_ | refine wp_cond_t rfl ?_ | refine wp_cond_f rfl ?_
         | (refine wp_cond_k rfl rfl rfl ?_ ?_ <;> intro _) | (refine wp_cond_i rfl ?_ ?_ <;> intro _))
      all_goals first
      | (exfalso; simp at *; done)
      | (refine ret_m [] rfl rfl ?_; rw [hfin]; done)
      | trace_state
def k_metW : List (Nat × List Nat) := [(0, [1, 2]), (1, [1, 2, 5]), (2, [1, 2, 5, 6]), (3, [1, 2, 5, 6, 15]), (4, [1, 2, 5, 6, 7]), (5, [1, 2, 5, 6, 7]), (6, [1, 2, 5, 6, 7, 30]), (7, [1, 2, 5, 6, 7]), (8, [1, 2, 5, 6]), (9, [4])]
theorem metWithout_t (p : Piece) (c : Nat) (hb : pieceB p = true) (hp : p.ins.length ≤ 1048576) : Tells Try.prog E0 XS 47 [p.a false, iA c] (.t (.sl true ((metC p.ins c).map bR))) := by
  refine Tells.by Try.func47 (by simp [Try.f47]) (Body.i rfl rfl rfl (fun _ => rfl) fun f => ?_)
  repeat' (first
     | refine wp_seq_i ?_ | refine wp_region_t k_metW rfl ?_ | refine Run.done rfl ?_ | refine then_n ?_ | refine then_r ?_ | refine then_e ?_ | refine Run.go1 rfl ?_ | refine wp_skip_i ?_ | refine wp_ret_i ?_
     | refine wp_exit_i ?_ | refine wp_block_i ?_ | refine block_n ?_ | refine block_r ?_ | refine block_e ?_ | refine block_o rfl ?_ | refine wp_cond_t rfl ?_ | refine wp_cond_f rfl ?_
     | refine Run.cnd2 rfl rfl rfl ⟨by simp, rfl, by simp; omega, by simp; omega⟩ ?_ | (refine wp_cond_k rfl rfl rfl ?_ ?_ <;> intro _) | (refine wp_cond_i rfl ?_ ?_ <;> intro _))
  refine wp_loop_k (α := List Bool × List Int × Nat) [.keep [1, 2, 5, 6] [2, 11, 12]] (fun _ => []) (fun _ => []) (fun z => [(11, 0, z.1.map bR), (12, ⟨z.2.2, none⟩, z.2.1.map iR)]) (fun z => Im p.ins c z.1 z.2.1 ∧ z.2.1.length ≤ 3 * cntT z.1 + 1 ∧ (z.2.2 = 0 ∨ z.2.2 = 1)) (fun z => 4 * (p.ins.length - cntT z.1) + z.2.1.length) (List.replicate p.ins.length false, [0], 0) rfl (fun _ => rfl) ?_ ⟨Im.start hb c, by simp, by simp⟩ ?_
  · simp; rfl
  rintro ⟨out, qu, q⟩ ⟨hI, hql, hq⟩
  simp only at hI hql hq
  have hcl := cntT_le out
  have hol := hI.len
  rcases qu with _ | ⟨x, r⟩
  · have hfin := hI.done
    repeat' (first
       | refine wp_seq_i ?_ | refine wp_region_t k_metW rfl ?_ | refine Run.done rfl ?_ | refine then_n ?_ | refine then_r ?_ | refine then_e ?_ | refine Run.go1 rfl ?_ | refine wp_skip_i ?_ | refine wp_ret_i ?_
       | refine wp_exit_i ?_ | refine wp_block_i ?_ | refine block_n ?_ | refine block_r ?_ | refine block_e ?_ | refine block_o rfl ?_ | refine wp_cond_t rfl ?_ | refine wp_cond_f rfl ?_
       | (refine wp_cond_k rfl rfl rfl ?_ ?_ <;> intro _) | (refine wp_cond_i rfl ?_ ?_ <;> intro _))
    all_goals first
    | (exfalso; rename_i h; simp at h; done)
    | (refine ret_m [] rfl rfl ?_; rw [hfin]; done)
    | trace_state
  · have hxr := hI.inr x (List.mem_cons_self ..)
    obtain ⟨x0, rfl⟩ : ∃ x0 : Nat, x = (x0 : Int) := ⟨x.toNat, by omega⟩
    have hxl : x0 < p.ins.length := by omega
    have hx : (((x0 : Int) :: r).map iR)[0]? = some (iR (x0 : Int)) := rfl
    obtain ⟨bb, hob⟩ : ∃ bb, out[x0]? = some bb := ⟨_, List.getElem?_eq_getElem (by omega)⟩
    have hz : (out.map bR)[x0]? = some (bR bb) := by rw [List.getElem?_map, hob]; rfl
    have hnl := nexts_len p.ins x0
    have hdr : List.drop (Int.toNat 1) (List.take (Int.toNat ((((x0 : Int) :: r).map iR).length : Int)) (((x0 : Int) :: r).map iR)) = r.map iR := by rw [Int.toNat_natCast, List.take_length]; rfl
    simp only [List.length_cons] at hql
    cases bb
    all_goals (
      repeat' (first
         | refine wp_seq_i ?_ | refine wp_region_t k_metW rfl ?_ | refine Run.done rfl ?_ | refine then_n ?_ | refine then_r ?_ | refine then_e ?_ | refine Run.go1 rfl ?_ | refine wp_skip_i ?_ | refine wp_ret_i ?_
         | refine wp_exit_i ?_ | refine wp_block_i ?_ | refine block_n ?_ | refine block_r ?_ | refine block_e ?_ | refine block_o rfl ?_ | refine wp_cond_t rfl ?_ | refine wp_cond_f rfl ?_ | refine Run.gT rfl rfl rfl rfl ?_
         | refine Run.pT rfl rfl ?_ | (refine Run.splitG rfl rfl rfl rfl rfl rfl ?_ ?_ <;> intro _) | (refine Run.splitP rfl rfl rfl rfl ?_ ?_ <;> intro _) | refine Run.ix rfl rfl rfl rfl rfl rfl rfl hx rfl rfl rfl ?_
         | refine Run.ldr rfl rfl rfl hx rfl rfl ?_ | refine Run.ix rfl rfl rfl rfl rfl rfl rfl hz rfl rfl rfl ?_ | refine Run.ldr rfl rfl rfl hz rfl rfl ?_ | refine Run.str rfl rfl rfl rfl rfl rfl hz rfl rfl ?_
         | refine Run.cnd2 rfl rfl rfl ⟨by decide, by first | (simp; done) | (simp; omega), by simp, by simp, by first | exact .inl rfl | exact hq, by decide⟩ ?_ | refine Run.call rfl rfl rfl (NextsI_t p x0 hp hxl) rfl rfl ?_
         | refine Run.cnd rfl rfl rfl ⟨by simp only [hdr]; simp; omega, by simp only [hdr]; simp, by simp, by first | exact .inl rfl | exact hq | exact .inr rfl, by simp [flatT]⟩ ?_
         | (refine wp_cond_k rfl rfl rfl ?_ ?_ <;> intro _) | (refine wp_cond_i rfl ?_ ?_ <;> intro _))
      all_goals first
      | (exfalso; rename_i h; simp at h; done)
      | (rename_i hxc
         have hxc : (x0 : Int) ≠ c := by simpa using hxc
         have hc2 := cntT_set hob
         have hc3 := cntT_lt hob
         refine back_i [.keep [1, 2, 5, 6] [2, 11, 38], .ren 38 12] (out.set x0 true, r ++ nexts p.ins x0, 1) rfl ?_ ⟨Im.mark hb hI hob hxc, by simp [hc2]; omega, by simp⟩ (by simp [hc2]; omega)
         simp only [hdr]; simp [List.map_set]; done)
      | (have hsk : out[x0]? = some true ∨ (x0 : Int) = c := by first | exact .inl hob | (rename_i hxc; exact .inr (by simpa using hxc))
         refine back_i [.keep [1, 2, 5, 6] [2, 11, 20], .ren 20 12] (out, r, 1) rfl ?_ ⟨hI.skip hsk, by simp only; omega, by simp⟩ (by simp only [List.length_cons]; omega)
         simp only [hdr]; first | done | rfl)
      | trace_state)
end Go.Proofs

set_option linter.unusedVariables false
set_option linter.unusedSimpArgs false
set_option maxHeartbeats 4000000
namespace Go.Proofs
open Go Go.Ev Go.Sort
set_option maxRecDepth 100000
theorem clip_c (a : Option Addr) (n cap : Nat) (h : n ≤ cap) (h2 : a = none → n = 0 ∧ cap = 0) (w : World) : Calls Try.prog 48 #[.slice a n cap] w fun e w' => e = .returned (.slice a n n) ∧ w' = w := by
  go_enter Try.func48, Try.ntmps48
  go_wp2
  go_ret
  exact ⟨rfl, rfl⟩
theorem clip_sound (rows : List (List T)) : Sound Try.prog 48 [.t (.sl true rows)] (.t (.sl true rows)) := by
  refine ⟨⟨Try.f48, Try.func48, rfl, by simp [Try.f48]⟩, ?_⟩
  intro w vs B Fin hB hF hfam
  obtain ⟨v, G, rfl, ho, hG⟩ := fam_one hfam
  cases ho with
  | nil =>
    refine (clip_c none 0 0 (Nat.le_refl _) (fun _ => ⟨rfl, rfl⟩) w).mono ?_
    rintro e w' ⟨rfl, rfl⟩
    exact ⟨_, B, G, rfl, .inl ⟨rfl, .inl (.inl ⟨_, rfl, .nil _⟩)⟩, fun k hk => ⟨(hB k hk).1, fun h => (hB k hk).2 (hG k h), .inl hk⟩, fun k h => ⟨hF k (hG k h), .inl (hG k h)⟩, Keeps.refl _ _⟩
  | sl _ b off cap sz us Fs F cs ty hh hcap hc hl hw hrr hoo hdd hbb hFb hFF htt =>
    refine (clip_c (some ⟨b, off, none⟩) rows.length cap hc (by simp) w).mono ?_
    rintro e w' ⟨rfl, rfl⟩
    have hle : off + rows.length * sz ≤ cs.size := Nat.le_trans (Nat.add_le_add_left (Nat.mul_le_mul_right sz hc) off) hcap
    exact ⟨_, B, G, rfl, .inl ⟨rfl, .inl (.inl ⟨_, rfl, .sl rows b off rows.length sz us Fs G cs ty hh hle (Nat.le_refl _) hl hw hrr hoo hdd hbb hFb hFF (fun h => by simp [h])⟩)⟩, fun k hk => ⟨(hB k hk).1, fun h => (hB k hk).2 (hG k h), .inl hk⟩, fun k h => ⟨hF k (hG k h), .inl (hG k h)⟩, Keeps.refl _ _⟩
/-- what is told from outside, with slices.Clip -/
def XC : Rel3 := fun f args r => XS f args r ∨ ∃ rows : List (List T), f = 48 ∧ args = [.t (.sl true rows)] ∧ r = .t (.sl true rows)
theorem XC_sound (f : FuncId) (args : List AV) (r : AV) (h : XC f args r) : Sound Try.prog f args r := by
  rcases h with h | ⟨rows, rfl, rfl, rfl⟩
  · exact XS_sound f args r h
  · exact clip_sound rows
theorem Clip_t (rows : List (List T)) : Tells Try.prog E0 XC 48 [.t (.sl true rows)] (.t (.sl true rows)) := Tells.of (.inr ⟨rows, rfl, rfl, rfl⟩)
theorem XC_of {f : FuncId} {args : List AV} {r : AV} (h : Tells Try.prog E0 XS f args r) : Tells Try.prog E0 XC f args r := fun R hX hR => h R (fun _ _ _ hx => hX _ _ _ (.inl hx)) hR
end Go.Proofs

set_option linter.unusedVariables false
set_option linter.unusedSimpArgs false
set_option maxHeartbeats 4000000
namespace Go.Proofs
open Go Go.Ev
set_option maxRecDepth 100000
variable {X : Rel3}
theorem reach_ne {l : List Ins} {c : Int} {y : Nat} (h : Reach l c y) : (y : Int) ≠ c := by
  cases h with
  | zero h => exact fun e => h (by omega)
  | step _ _ hc => exact hc
theorem reach_no {l : List Ins} {k y : Nat} (hk : ¬ Reach l (-1) k) (h : Reach l (-1) y) : Reach l (k : Int) y := by
  induction h with
  | zero h =>
    by_cases e : k = 0
    · subst e; exact absurd (.zero (by decide)) hk
    · exact .zero (by omega)
  | step h hy hc ih =>
    rename_i i z
    by_cases e : z = k
    · subst e; exact absurd (.step h hy hc) hk
    · exact .step ih hy (by omega)
noncomputable def metAt (l : List Ins) (c : Int) (i : Nat) : Bool := ((metC l c)[i]?).getD false
theorem metAt_iff {l : List Ins} {c : Int} {i : Nat} (hi : i < l.length) : metAt l c i = true ↔ Reach l c i := by
  unfold metAt
  have e : (metC l c)[i]? = some ((metC l c)[i]'(by rw [metC_len]; exact hi)) := List.getElem?_eq_getElem (by rw [metC_len]; exact hi)
  have h := metC_at (l := l) (c := c) (i := i)
  rw [e] at h ⊢
  simp only [Option.some.injEq, Option.getD_some] at h ⊢
  rw [h]; simp [hi]
theorem met_row {l : List Ins} {c : Int} {i : Nat} (hi : i < l.length) : ((metC l c).map bR)[i]? = some (bR (metAt l c i)) := by
  have e : (metC l c)[i]? = some ((metC l c)[i]'(by rw [metC_len]; exact hi)) := List.getElem?_eq_getElem (by rw [metC_len]; exact hi)
  rw [List.getElem?_map, metAt, e]; rfl
noncomputable def aheadF (l : List Ins) (i : Nat) (k : Nat) : Bool := (k == i) || !metAt l k i
noncomputable def aheadL (f : Nat → Bool) (n : Nat) : List Int := ((List.range n).filter f).map fun k : Nat => (k : Int)
theorem aheadL_step (f : Nat → Bool) (n : Nat) : aheadL f (n + 1) = aheadL f n ++ (if f n then [(n : Int)] else []) := by
  unfold aheadL
  rw [List.range_succ, List.filter_append, List.map_append]
  congr 1
  by_cases h : f n <;> simp [h]
theorem aheadL_len (f : Nat → Bool) (n : Nat) : (aheadL f n).length ≤ n := by
  unfold aheadL
  rw [List.length_map]
  exact Nat.le_trans (List.length_filter_le ..) (by simp)
theorem ahead_eq {l : List Ins} {i k : Nat} (hi : i < l.length) (hk : k < l.length) (hr : metAt l (-1) i = true) : (metAt l (-1) k && !metAt l k i) = aheadF l i k := by
  have hri := (metAt_iff hi).1 hr
  unfold aheadF
  by_cases e : k = i
  · subst e
    have : metAt l (k : Int) k = false := by
      cases h : metAt l (k : Int) k with
      | false => rfl
      | true => exact absurd rfl (reach_ne ((metAt_iff hi).1 h))
    simp [hr, this]
  · have : (k == i) = false := by simpa using e
    rw [this, Bool.false_or]
    cases h : metAt l (-1) k with
    | true => simp
    | false =>
      have hn : ¬ Reach l (-1) k := fun h' => by rw [(metAt_iff hk).2 h'] at h; cases h
      rw [(metAt_iff hi).2 (reach_no hn hri)]; rfl
noncomputable def aheadB (p : Piece) (i : Int) : List Int := if pieceB p && (rng i 0 (p.ins.length - 1) && metAt p.ins (-1) i.toNat) then aheadL (aheadF p.ins i.toNat) p.ins.length else []
def k_AheadS : List (Nat × List Nat) := [(0, [1, 2]), (1, [1, 2, 5]), (2, [1, 2, 5, 27]), (3, [4]), (4, [1, 2, 5, 6]), (5, [1, 2, 5, 6, 33]), (6, [1, 2, 5, 6]), (7, [1, 2, 5, 6, 47]), (8, [1, 2, 5, 6]), (9, [4])]
theorem AheadS_t (p : Piece) (i : Int) (hp : p.ok) : Tells Try.prog E0 X 22 [p.a false, iA i] (.t (.sl true ((aheadB p i).map iR))) := by
  have hpl := hp.1
  have hw : IntKind.i64.wrap (((p.ins.map (Ins.c false)).length : Int) - 1) = (p.ins.length : Int) - 1 := by rw [List.length_map, w64] <;> omega
  by_cases hc : pieceB p = true ∧ rng i 0 (p.ins.length - 1) = true
  · obtain ⟨hb, hr⟩ := hc
    obtain ⟨i0, rfl⟩ : ∃ i0 : Nat, i = (i0 : Int) := ⟨i.toNat, by have := rng_iff.1 hr; omega⟩
    have hi : i0 < p.ins.length := by have := rng_iff.1 hr; omega
    have hz := met_row (c := -1) hi
    refine Tells.by Try.func22 (by simp [Try.f22]) (Body.i rfl rfl rfl (fun _ => rfl) fun f => ?_)
    repeat' (first
       | refine wp_seq_i ?_ | refine wp_region_t k_AheadS rfl ?_ | refine Run.done rfl ?_ | refine then_n ?_ | refine then_r ?_ | refine then_e ?_ | refine Run.go1 rfl ?_ | refine wp_skip_i ?_ | refine wp_ret_i ?_
       | refine wp_exit_i ?_ | refine wp_block_i ?_ | refine block_n ?_ | refine block_r ?_ | refine block_e ?_ | refine block_o rfl ?_ | refine wp_cond_t rfl ?_ | refine wp_cond_f rfl ?_ | refine Run.gT rfl rfl rfl rfl ?_
       | refine Run.pT rfl rfl ?_ | (refine Run.splitG rfl rfl rfl rfl rfl rfl ?_ ?_ <;> intro _) | (refine Run.splitP rfl rfl rfl rfl ?_ ?_ <;> intro _) | refine Run.call rfl rfl rfl (l9Piece_t p hp) rfl rfl ?_
       | refine Run.call rfl rfl rfl (l1In_t _ _ _) rfl rfl ?_ | refine Run.call rfl rfl rfl (l15Met_t p hb hpl) rfl rfl ?_ | refine Run.ix rfl rfl rfl rfl rfl rfl rfl hz rfl rfl rfl ?_ | refine Run.ldr rfl rfl rfl hz rfl rfl ?_
       | (refine wp_cond_k rfl rfl rfl ?_ ?_ <;> intro _) | (refine wp_cond_i rfl ?_ ?_ <;> intro _))
    all_goals first
    | (exfalso; rename_i h; simp only [hw, hr, hb] at *; simp at *; done)
    | (exfalso; simp_all; done)
    | (refine ret_m [] rfl rfl ?_; simp_all [aheadB]; done)
    | skip
    all_goals (
      have hm : metAt p.ins (-1) i0 = true := by simp_all
      have hfin : aheadB p i0 = aheadL (aheadF p.ins i0) p.ins.length := by simp [aheadB, hb, hr, hm]
      refine wp_loop_k (α := Nat × List Int) [.keep [1, 2, 5, 6] [2, 7]] (fun z => [(6, iA z.1)]) (fun _ => []) (fun z => [(7, 0, z.2.map iR)]) (fun z => z.1 ≤ p.ins.length ∧ z.2 = aheadL (aheadF p.ins i0) z.1) (fun z => p.ins.length - z.1) (0, []) rfl (fun _ => rfl) rfl ⟨by simp, by simp [aheadL]⟩ ?_
      rintro ⟨k, c⟩ ⟨hk, hc0⟩
      simp only at hk hc0
      subst hc0
      have hcl := aheadL_len (aheadF p.ins i0) k
      by_cases hlt : k < p.ins.length
      · have hz2 := met_row (c := (k : Int)) hi
        have hst := aheadL_step (aheadF p.ins i0) k
        have hw2 := w_succ hlt (by omega)
        repeat' (first
           | refine wp_seq_i ?_ | refine wp_region_t k_AheadS rfl ?_ | refine Run.done rfl ?_ | refine then_n ?_ | refine then_r ?_ | refine then_e ?_ | refine Run.go1 rfl ?_ | refine wp_skip_i ?_ | refine wp_ret_i ?_
           | refine wp_exit_i ?_ | refine wp_block_i ?_ | refine block_n ?_ | refine block_r ?_ | refine block_e ?_ | refine block_o rfl ?_ | refine wp_cond_t rfl ?_ | refine wp_cond_f rfl ?_ | refine Run.gT rfl rfl rfl rfl ?_
           | refine Run.pT rfl rfl ?_ | (refine Run.splitG rfl rfl rfl rfl rfl rfl ?_ ?_ <;> intro _) | (refine Run.splitP rfl rfl rfl rfl ?_ ?_ <;> intro _) | refine Run.call rfl rfl rfl (l20Cut_t p k hb hpl) rfl rfl ?_
           | refine Run.ix rfl rfl rfl rfl rfl rfl rfl hz2 rfl rfl rfl ?_ | refine Run.ldr rfl rfl rfl hz2 rfl rfl ?_
           | refine Run.cnd rfl rfl rfl ⟨by first | (simp; done) | (simp; omega), (by intro r hr; first | (simp at hr; done) | skip; simp at hr; first | (rcases hr with ⟨a, _, rfl⟩ | rfl <;> rfl) | (obtain ⟨a, _, rfl⟩ := hr; rfl) | (subst hr; rfl)), by simp, .inl rfl, by simp [flatT]⟩ ?_
           | (refine wp_cond_k rfl rfl rfl ?_ ?_ <;> intro _) | (refine wp_cond_i rfl ?_ ?_ <;> intro _))
        all_goals first
        | (exfalso; rename_i h; simp [hlt] at h; done)
        | (rename_i h
           have hF : aheadF p.ins i0 k = true := by
             unfold aheadF
             first
             | (rw [h]; simp; done)
             | (have e : (k : Int) = i0 := by simpa using h
                have e2 : k = i0 := by omega
                simp [e2]; done)
           rw [hF, if_pos rfl] at hst
           refine back_i [.keep [1, 2, 5, 6] [2, 51], .ren 51 7] (k + 1, aheadL (aheadF p.ins i0) (k + 1)) rfl ?_ ⟨by simp; omega, rfl⟩ (by simp; omega)
           simp only [hst, hw2, List.map_append, List.map_cons, List.map_nil]; try rfl; done)
        | (rename_i h1 h2
           have hF : aheadF p.ins i0 k = false := by
             have e : ¬ (k : Int) = i0 := by simpa using h1
             unfold aheadF
             rw [h2]
             simp; omega
           rw [hF] at hst
           simp only [Bool.false_eq_true, if_false, List.append_nil] at hst
           refine back_i [.keep [1, 2, 5, 6] [2, 7]] (k + 1, aheadL (aheadF p.ins i0) (k + 1)) rfl ?_ ⟨by simp; omega, rfl⟩ (by simp; omega)
           simp only [hst, hw2]; done)
        | trace_state
      · have hkn : k = p.ins.length := by omega
        subst hkn
        repeat' (first
           | refine wp_seq_i ?_ | refine wp_region_t k_AheadS rfl ?_ | refine Run.done rfl ?_ | refine then_n ?_ | refine then_r ?_ | refine then_e ?_ | refine Run.go1 rfl ?_ | refine wp_skip_i ?_ | refine wp_ret_i ?_
           | refine wp_exit_i ?_ | refine wp_block_i ?_ | refine block_n ?_ | refine block_r ?_ | refine block_e ?_ | refine block_o rfl ?_ | refine wp_cond_t rfl ?_ | refine wp_cond_f rfl ?_
           | (refine wp_cond_k rfl rfl rfl ?_ ?_ <;> intro _) | (refine wp_cond_i rfl ?_ ?_ <;> intro _))
        all_goals first
        | (exfalso; simp at *; done)
        | (refine ret_m [] rfl rfl ?_; rw [hfin]; done)
        | trace_state)
  · have hn : aheadB p i = [] := by unfold aheadB; rw [if_neg (by simp; intro h1 h2; exact absurd ⟨h1, h2⟩ hc)]
    refine Tells.by Try.func22 (by simp [Try.f22]) (Body.i rfl rfl rfl (fun _ => rfl) fun f => ?_)
    repeat' (first
       | refine wp_seq_i ?_ | refine wp_region_t k_AheadS rfl ?_ | refine Run.done rfl ?_ | refine then_n ?_ | refine then_r ?_ | refine then_e ?_ | refine Run.go1 rfl ?_ | refine wp_skip_i ?_ | refine wp_ret_i ?_
       | refine wp_exit_i ?_ | refine wp_block_i ?_ | refine block_n ?_ | refine block_r ?_ | refine block_e ?_ | refine block_o rfl ?_ | refine wp_cond_t rfl ?_ | refine wp_cond_f rfl ?_ | refine Run.gT rfl rfl rfl rfl ?_
       | refine Run.pT rfl rfl ?_ | (refine Run.splitG rfl rfl rfl rfl rfl rfl ?_ ?_ <;> intro _) | (refine Run.splitP rfl rfl rfl rfl ?_ ?_ <;> intro _) | refine Run.call rfl rfl rfl (l9Piece_t p hp) rfl rfl ?_
       | refine Run.call rfl rfl rfl (l1In_t _ _ _) rfl rfl ?_ | (refine wp_cond_k rfl rfl rfl ?_ ?_ <;> intro _) | (refine wp_cond_i rfl ?_ ?_ <;> intro _))
    all_goals first
    | (refine ret_m [] rfl rfl ?_; rw [hn]; rfl)
    | (exfalso; simp only [hw] at *; simp_all; done)
    | trace_state
end Go.Proofs

set_option linter.unusedVariables false
set_option linter.unusedSimpArgs false
set_option maxHeartbeats 4000000
namespace Go.Proofs
open Go Go.Ev
set_option maxRecDepth 100000
variable {X : Rel3}
theorem metB_le (p : Piece) : (metB p).length ≤ 600 := by
  unfold metB
  split
  · rename_i h; rw [metC_len]; exact (len_pos h).2
  · simp
theorem aheadB_len (p : Piece) (i : Int) : (aheadB p i).length ≤ 600 := by
  unfold aheadB
  split
  · rename_i h
    simp only [Bool.and_eq_true] at h
    exact Nat.le_trans (aheadL_len _ _) (len_pos h.1).2
  · simp
def k_AheadI : List (Nat × List Nat) := [(0, [1, 2]), (1, [1, 2, 5]), (2, [1, 2, 5, 22]), (3, [4]), (4, [1, 2, 5, 6]), (5, [1, 2, 5, 6, 26, 27]), (6, [1, 2, 5, 6, 26, 27, 28]), (7, [1, 2, 5, 6, 7, 26, 27]), (8, [1, 2, 5, 6, 7, 26, 27, 42]), (9, [1, 2, 5, 6, 26, 27]), (10, [1, 2, 5, 6, 26, 27]), (11, [4])]
theorem AheadI_t (p : Piece) (i : Int) (hp : p.ok) : Tells Try.prog E0 XC 23 [p.a false, iA i] (.t (.sl true ((aheadB p i).map iR))) := by
  have hpl := hp.1
  by_cases hc : pieceB p = true ∧ rng i 0 (p.ins.length - 1) = true
  · obtain ⟨hb, hr⟩ := hc
    have hlp := len_pos hb
    obtain ⟨i0, rfl⟩ : ∃ i0 : Nat, i = (i0 : Int) := ⟨i.toNat, by have := rng_iff.1 hr; omega⟩
    have hi : i0 < p.ins.length := by have := rng_iff.1 hr; omega
    have hz := met_row (c := -1) hi
    have hmb : metB p = metC p.ins (-1) := by simp [metB, hb]
    have hM : Tells Try.prog E0 XC 11 [p.a false] (.t (.sl true ((metC p.ins (-1)).map bR))) := by have := XC_of (MetI_t p hp); rw [hmb] at this; exact this
    have hml : ((metC p.ins (-1)).map bR).length = p.ins.length := by rw [List.length_map, metC_len]
    have hw : IntKind.i64.wrap ((((metC p.ins (-1)).map bR).length : Int) - 1) = (p.ins.length : Int) - 1 := by rw [hml, w64] <;> omega
    refine Tells.by Try.func23 (by simp [Try.f23]) (Body.i rfl rfl rfl (fun _ => rfl) fun f => ?_)
    repeat' (first
       | refine wp_seq_i ?_ | refine wp_region_t k_AheadI rfl ?_ | refine Run.done rfl ?_ | refine then_n ?_ | refine then_r ?_ | refine then_e ?_ | refine Run.go1 rfl ?_ | refine wp_skip_i ?_ | refine wp_ret_i ?_
       | refine wp_exit_i ?_ | refine wp_block_i ?_ | refine block_n ?_ | refine block_r ?_ | refine block_e ?_ | refine block_o rfl ?_ | refine wp_cond_t rfl ?_ | refine wp_cond_f rfl ?_ | refine Run.gT rfl rfl rfl rfl ?_
       | refine Run.pT rfl rfl ?_ | (refine Run.splitG rfl rfl rfl rfl rfl rfl ?_ ?_ <;> intro _) | (refine Run.splitP rfl rfl rfl rfl ?_ ?_ <;> intro _) | refine Run.call rfl rfl rfl (hM) rfl rfl ?_
       | refine Run.call rfl rfl rfl (in_t _ _ _) rfl rfl ?_ | refine Run.ix rfl rfl rfl rfl rfl rfl rfl hz rfl rfl rfl ?_ | refine Run.ldr rfl rfl rfl hz rfl rfl ?_ | (refine wp_cond_k rfl rfl rfl ?_ ?_ <;> intro _)
       | (refine wp_cond_i rfl ?_ ?_ <;> intro _))
    all_goals first
    | (exfalso; rename_i h; simp only [hw, hr] at h; simp at h; done)
    | (rename_i hm
       refine ret_m [.nilT 4 99] rfl rfl ?_
       have hm2 : metAt p.ins (-1) i0 = false := by simpa using hm
       simp [aheadB, hb, hr, hm2]; done)
    | skip
    all_goals (
      rename_i hm
      have hm : metAt p.ins (-1) i0 = true := by simpa using hm
      have hfin : aheadB p i0 = aheadL (aheadF p.ins i0) p.ins.length := by simp [aheadB, hb, hr, hm]
      refine wp_loop_k (α := Nat × List Int) [.keep [1, 2, 5, 6, 26, 27] [2, 9, 23]] (fun z => [(27, iA z.1)]) (fun _ => []) (fun z => [(23, 0, z.2.map iR)]) (fun z => z.1 ≤ p.ins.length ∧ z.2 = aheadL (aheadF p.ins i0) z.1) (fun z => p.ins.length - z.1) (0, []) rfl (fun _ => rfl) rfl ⟨by simp, by simp [aheadL]⟩ ?_
      rintro ⟨k, c⟩ ⟨hk, hc0⟩
      simp only at hk hc0
      subst hc0
      have hcl := aheadL_len (aheadF p.ins i0) k
      by_cases hlt : k < p.ins.length
      · have hz1 := met_row (c := -1) hlt
        have hz2 := met_row (c := (k : Int)) hi
        have hst := aheadL_step (aheadF p.ins i0) k
        have hF := ahead_eq hi hlt hm
        have hw2 := w_succ hlt (by omega)
        repeat' (first
           | refine wp_seq_i ?_ | refine wp_region_t k_AheadI rfl ?_ | refine Run.done rfl ?_ | refine then_n ?_ | refine then_r ?_ | refine then_e ?_ | refine Run.go1 rfl ?_ | refine wp_skip_i ?_ | refine wp_ret_i ?_
           | refine wp_exit_i ?_ | refine wp_block_i ?_ | refine block_n ?_ | refine block_r ?_ | refine block_e ?_ | refine block_o rfl ?_ | refine wp_cond_t rfl ?_ | refine wp_cond_f rfl ?_ | refine Run.gT rfl rfl rfl rfl ?_
           | refine Run.pT rfl rfl ?_ | (refine Run.splitG rfl rfl rfl rfl rfl rfl ?_ ?_ <;> intro _) | (refine Run.splitP rfl rfl rfl rfl ?_ ?_ <;> intro _)
           | refine Run.call rfl rfl rfl (XC_of (metWithout_t p k hb hpl)) rfl rfl ?_ | refine Run.ix rfl rfl rfl rfl rfl rfl rfl hz1 rfl rfl rfl ?_ | refine Run.ldr rfl rfl rfl hz1 rfl rfl ?_
           | refine Run.ix rfl rfl rfl rfl rfl rfl rfl hz2 rfl rfl rfl ?_ | refine Run.ldr rfl rfl rfl hz2 rfl rfl ?_
           | refine Run.cnd rfl rfl rfl ⟨by first | (simp; done) | (simp; omega), (by intro r hr; first | (simp at hr; done) | skip; simp at hr; first | (rcases hr with ⟨a, _, rfl⟩ | rfl <;> rfl) | (obtain ⟨a, _, rfl⟩ := hr; rfl) | (subst hr; rfl)), by simp, .inl rfl, by simp [flatT]⟩ ?_
           | (refine wp_cond_k rfl rfl rfl ?_ ?_ <;> intro _) | (refine wp_cond_i rfl ?_ ?_ <;> intro _))
        all_goals first
        | (exfalso; rename_i h; simp [hlt] at h; done)
        | (rename_i h1 h2
           rw [h1, h2] at hF
           rw [← hF] at hst
           simp only [Bool.and_self, if_true] at hst
           refine back_i [.keep [1, 2, 5, 6, 26, 27] [2, 9, 46], .ren 46 23] (k + 1, aheadL (aheadF p.ins i0) (k + 1)) rfl ?_ ⟨by simp; omega, rfl⟩ (by simp; omega)
           simp only [hst, hw2, List.map_append, List.map_cons, List.map_nil]; try rfl; done)
        | (rename_i h1 h2
           rw [h1, h2] at hF
           rw [← hF] at hst
           simp only [Bool.and_false, Bool.false_eq_true, if_false, List.append_nil] at hst
           refine back_i [.keep [1, 2, 5, 6, 26, 27] [2, 9, 23]] (k + 1, aheadL (aheadF p.ins i0) (k + 1)) rfl ?_ ⟨by simp; omega, rfl⟩ (by simp; omega)
           simp only [hst, hw2]; try rfl; done)
        | (rename_i h1
           rw [h1] at hF
           rw [← hF] at hst
           simp only [Bool.false_and, Bool.false_eq_true, if_false, List.append_nil] at hst
           refine back_i [.keep [1, 2, 5, 6, 26, 27] [2, 9, 23]] (k + 1, aheadL (aheadF p.ins i0) (k + 1)) rfl ?_ ⟨by simp; omega, rfl⟩ (by simp; omega)
           simp only [hst, hw2]; try rfl; done)
        | trace_state
      · have hkn : k = p.ins.length := by omega
        subst hkn
        repeat' (first
           | refine wp_seq_i ?_ | refine wp_region_t k_AheadI rfl ?_ | refine Run.done rfl ?_ | refine then_n ?_ | refine then_r ?_ | refine then_e ?_ | refine Run.go1 rfl ?_ | refine wp_skip_i ?_ | refine wp_ret_i ?_
           | refine wp_exit_i ?_ | refine wp_block_i ?_ | refine block_n ?_ | refine block_r ?_ | refine block_e ?_ | refine block_o rfl ?_ | refine wp_cond_t rfl ?_ | refine wp_cond_f rfl ?_
           | refine Run.call rfl rfl rfl (Clip_t _) rfl rfl ?_ | (refine wp_cond_k rfl rfl rfl ?_ ?_ <;> intro _) | (refine wp_cond_i rfl ?_ ?_ <;> intro _))
        all_goals first
        | (exfalso; simp at *; done)
        | (refine ret_m [] rfl rfl ?_; rw [hfin]; done)
        | trace_state)
  · have hn : aheadB p i = [] := by unfold aheadB; rw [if_neg (by simp; intro h1 h2; exact absurd ⟨h1, h2⟩ hc)]
    have hlb := metB_le p
    have hwl : IntKind.i64.wrap ((((metB p).map bR).length : Int) - 1) = ((metB p).length : Int) - 1 := by rw [List.length_map, w64] <;> omega
    have hr : rng i 0 (((metB p).length : Int) - 1) = false := by
      cases h : rng i 0 (((metB p).length : Int) - 1) with
      | false => rfl
      | true =>
        exfalso
        by_cases hb : pieceB p = true
        · have hlb : metB p = metC p.ins (-1) := by simp [metB, hb]
          rw [hlb, metC_len] at h; exact hc ⟨hb, h⟩
        · have hlb : metB p = [] := by simp [metB, hb]
          rw [hlb] at h; have := rng_iff.1 h; simp at this; omega
    refine Tells.by Try.func23 (by simp [Try.f23]) (Body.i rfl rfl rfl (fun _ => rfl) fun f => ?_)
    repeat' (first
       | refine wp_seq_i ?_ | refine wp_region_t k_AheadI rfl ?_ | refine Run.done rfl ?_ | refine then_n ?_ | refine then_r ?_ | refine then_e ?_ | refine Run.go1 rfl ?_ | refine wp_skip_i ?_ | refine wp_ret_i ?_
       | refine wp_exit_i ?_ | refine wp_block_i ?_ | refine block_n ?_ | refine block_r ?_ | refine block_e ?_ | refine block_o rfl ?_ | refine wp_cond_t rfl ?_ | refine wp_cond_f rfl ?_ | refine Run.gT rfl rfl rfl rfl ?_
       | refine Run.pT rfl rfl ?_ | (refine Run.splitG rfl rfl rfl rfl rfl rfl ?_ ?_ <;> intro _) | (refine Run.splitP rfl rfl rfl rfl ?_ ?_ <;> intro _) | refine Run.call rfl rfl rfl (XC_of (MetI_t p hp)) rfl rfl ?_
       | refine Run.call rfl rfl rfl (in_t _ _ _) rfl rfl ?_ | (refine wp_cond_k rfl rfl rfl ?_ ?_ <;> intro _) | (refine wp_cond_i rfl ?_ ?_ <;> intro _))
    all_goals first
    | (refine ret_m [.nilT 4 99] rfl rfl ?_; rw [hn]; rfl)
    | (exfalso; rename_i h; rw [hwl, hr] at h; simp at h; done)
    | (exfalso; simp_all; done)
    | trace_state
end Go.Proofs

set_option linter.unusedVariables false
set_option linter.unusedSimpArgs false
set_option maxHeartbeats 4000000
namespace Go.Proofs
open Go Go.Ev
set_option maxRecDepth 100000
variable {X : Rel3}
def k_lawAh : List (Nat × List Nat) := [(0, [1, 2]), (1, [1, 2, 5]), (2, [1, 2, 5]), (3, [1, 2, 17]), (4, [4]), (5, [1, 2, 6]), (6, [1, 2, 6, 7]), (7, [1, 2, 6, 7, 8]), (8, [1, 2, 6, 7, 8, 30]), (9, [4]), (10, [1, 2, 6, 7, 8, 35]), (11, [4]), (12, [1, 2, 6, 7, 8, 9]), (13, [1, 2, 6, 8, 9]), (14, [1, 2, 6, 8, 46]), (15, [4]), (16, [1, 2, 6, 8, 10]), (17, [1, 2, 6, 8, 10]), (18, [1, 2, 6, 8, 10, 11]), (19, [1, 2, 6, 8, 10, 11]), (20, [1, 2, 6, 8, 10, 11, 54]), (21, [4]), (22, [1, 2, 6, 8, 10, 57]), (23, [4]), (24, [6, 8, 10, 12]), (25, [8, 10, 65]), (26, [4]), (27, [8, 10, 11]), (28, [10, 11]), (29, [10, 11, 70]), (30, [4]), (31, [73]), (32, [4]), (33, [4])]
theorem lawAh_t (p : Piece) (i : Int) (hl : p.len) : Tells Try.prog E0 XC 5 [p.a false, iA i] (bA true) := by
  have hsz := szPiece_t (X := XC) p 1048576 hl.1
  refine Tells.by Try.func5 (by simp [Try.f5]) (Body.i rfl rfl rfl (fun _ => rfl) fun f => ?_)
  repeat' (first
     | refine wp_seq_i ?_ | refine wp_region_t k_lawAh rfl ?_ | refine Run.done rfl ?_ | refine then_n ?_ | refine then_r ?_ | refine then_e ?_ | refine Run.go1 rfl ?_ | refine wp_skip_i ?_ | refine wp_ret_i ?_
     | refine wp_exit_i ?_ | refine wp_block_i ?_ | refine block_n ?_ | refine block_r ?_ | refine block_e ?_ | refine block_o rfl ?_ | refine wp_cond_t rfl ?_ | refine wp_cond_f rfl ?_
     | refine Run.call rfl rfl rfl (hsz) rfl rfl ?_ | (refine wp_cond_k rfl rfl rfl ?_ ?_ <;> intro _) | (refine wp_cond_i rfl ?_ ?_ <;> intro _))
  · refine ret_m [] rfl rfl rfl
  rename_i h
  have hp : p.ok := (szPiece_ok (left := 1048576) hl (by omega) (by simpa using h)).1
  have hS : Tells Try.prog E0 XC 22 [p.s, iA i] (.t (.sl true ((aheadB p i).map iR))) := by rw [Piece.s_eq]; exact AheadS_t p i hp
  have hI : Tells Try.prog E0 XC 23 [p.s, iA i] (.t (.sl true ((aheadB p i).map iR))) := by rw [Piece.s_eq]; exact AheadI_t p i hp
  have hE : Tells Try.prog E0 XC 13 [p.s, p.s] (bA (decide (p = p))) := by rw [Piece.s_eq]; exact eqPiece_t p p hp
  have hEi : ∀ a b : List Int, a.length ≤ 600 → Tells Try.prog E0 XC 19 [.t (.sl false (shrR (a.map iR))), .t (.sl false (shrR (b.map iR)))] (bA (decide (a = b))) := fun a b ha => by rw [shr_It, shr_It]; exact eqIntS_t a b (by omega)
  have hHe : ∀ l k, l.length ≤ 600 → Tells Try.prog E0 XC 21 [.t (.sl false (shrR (l.map iR))), iA k] (iA (heI l k)) := fun l k hk => by rw [shr_It]; exact heldIntS_t l k (by omega)
  have hbl : (aheadB p i).length ≤ 600 := aheadB_len p i
  have hM := mkP_up hp
  have hK : ¬ (mk (aheadB p i) 1).2 < 0 := by rw [mk_up _ _ (by omega) (by omega)]; omega
  repeat' (first
     | refine wp_seq_i ?_ | refine wp_region_t k_lawAh rfl ?_ | refine Run.done rfl ?_ | refine then_n ?_ | refine then_r ?_ | refine then_e ?_ | refine Run.go1 rfl ?_ | refine wp_skip_i ?_ | refine wp_ret_i ?_
     | refine wp_exit_i ?_ | refine wp_block_i ?_ | refine block_n ?_ | refine block_r ?_ | refine block_e ?_ | refine block_o rfl ?_ | refine wp_cond_t rfl ?_ | refine wp_cond_f rfl ?_ | refine RunQ.go1 rfl ?_
     | refine RunQ.done rfl ?_ | refine Run.gT rfl rfl rfl rfl ?_ | refine Run.pT rfl rfl ?_ | (refine Run.splitG rfl rfl rfl rfl rfl rfl ?_ ?_ <;> intro _) | (refine Run.splitP rfl rfl rfl rfl ?_ ?_ <;> intro _)
     | refine RunQ.gT rfl rfl rfl rfl ?_ | refine RunQ.pT rfl rfl ?_ | (refine RunQ.splitG rfl rfl rfl rfl rfl rfl ?_ ?_ <;> intro _) | (refine RunQ.splitP rfl rfl rfl rfl ?_ ?_ <;> intro _)
     | refine Run.call rfl rfl rfl (toPiece_t p hp) rfl rfl ?_ | refine Run.callB rfl rfl rfl (hS) (by simp [AV.own, T.own, own_I]) rfl ?_ | refine Run.callB rfl rfl rfl (hI) (by simp [AV.own, T.own, own_I]) rfl ?_
     | refine Run.callB rfl rfl rfl (hEi (aheadB p i) (aheadB p i) hbl) (by simp [AV.own, T.own]) rfl ?_ | refine wp_region_l k_lawAh [0, 1] [2, 3] [0, 0, 2, 7, 15] rfl (by decide +kernel) (by decide +kernel) rfl rfl ?_
     | refine RunL.call rfl rfl rfl rfl (toPiece_t p hp) (.inl rfl) rfl rfl ?_ | refine RunL.call rfl rfl rfl rfl (hE) (.inr (by simp [AV.own, T.own])) rfl rfl ?_ | refine RunL.done ?_
     | refine Run.call rfl rfl rfl (markPiece_t p 1 hl.1 hl.2) rfl rfl ?_ | refine Run.call rfl rfl rfl (markIntS_t _ _ (by omega)) rfl rfl ?_
     | refine Run.callB rfl rfl rfl (hHe _ _ (by simp only [mk_len]; omega)) (by simp [AV.own, T.own]) rfl ?_ | (refine wp_cond_k rfl rfl rfl ?_ ?_ <;> intro _) | (refine wp_cond_i rfl ?_ ?_ <;> intro _))
  all_goals first
    | (refine ret_m [] rfl rfl rfl; done)
    | (rename_i hx; exfalso; simp [heI_mk, hK, hM] at hx; done)
    | (rename_i hx; exfalso; simp [heI_mk] at hx; omega)
end Go.Proofs

set_option linter.unusedSimpArgs false
set_option linter.unusedVariables false
namespace Go.Ev
open Go
theorem vs_of {w : World} {B : Nat → Prop} {ts : List T} {vs : List Value} (hl : vs.length = ts.length) (h : ∀ (k : Nat) (y : T) (v : Value), ts[k]? = some y → vs[k]? = some v → Rep w B y v)
    (hs : ∀ y ∈ ts, (∃ v, y = .sc v) ∨ ∃ rows, y = .sl false rows) : VS w B (.ag (ts.map AV.t)) (.agg vs.toArray) (fun _ => False) := by
  refine .inr (.inl ⟨_, _, rfl, rfl, Fam.of (by simp [hl]) fun k x v h1 h2 => ?_⟩)
  rw [List.getElem?_map, Option.map_eq_some_iff] at h1
  obtain ⟨y, hy, rfl⟩ := h1
  have hr := h k y v hy h2
  rcases hs y (List.mem_of_getElem? hy) with ⟨u, rfl⟩ | ⟨rows, rfl⟩
  · cases hr; exact ⟨_, rfl, .sc _ _⟩
  · exact ⟨_, rfl, .sh _ _ _ hr⟩
theorem OpensAt.imp {P : Program} {N : Nat} {t : TypeId} {α : Type} {d : Kt α} {ok ok' : α → Prop} (h : OpensAt P N t d ok) (hok : ∀ x, ok x → ok' x) : OpensAt P N t d ok' := by
  constructor
  intro H enc W base held fuel cs y hf ht
  obtain ⟨x, hk, hx⟩ := h.get enc W base held fuel cs y hf ht
  exact ⟨x, hk, hok x hx⟩
theorem vx_bool {w : World} {B : Nat → Prop} {vs : List Value} {b : Bool} {v : Value} {F : Nat → Prop} (h : VX w B vs (.t (.sc (.bool b))) v F) : v = .bool b := by
  rcases h with ⟨_, (⟨y, hy, ho⟩ | ⟨cs, us, h, _⟩ | ⟨_, _, _, _, _, h, _⟩) | ⟨cs, us, h, _⟩⟩ | ⟨r0, outs, F1, F2, h, _⟩
  · cases hy; cases ho; rfl
  · cases h
  · cases h
  · cases h
  · cases h
theorem vs_int {w : World} {B : Nat → Prop} {k : IntKind} {n : Int} : VS w B (.t (.sc (.int k n))) (.int k n) (fun _ => False) := .inl ⟨_, rfl, .sc _ _⟩
end Go.Ev
namespace Go.Proofs.Ythhlbnhgjijbaaa.fnExactAhead
open Go Go.Ev Go.Proofs
open Go.ChangeShapes Go.WideShapes Go.ChangeAt Go.RowKit
theorem own : ownKnob Try.prog.godebug = none := by kernel_rfl
theorem laidOut : laidOutB Try.prog = true := by kernel_rfl
abbrev kI : Kt Int := Kt.int .i64
abbrev kL : Kt (List Int) := Kt.slice kI
abbrev kIns : Kt Ins := Kt.iso (Kt.pair kI (Kt.pair kI (Kt.pair kI (Kt.pair kI (Kt.pair kI (Kt.pair kL kI)))))) fun i => (i.op, i.d, i.x, i.y, i.n, i.l, i.to_)
abbrev kPiece : Kt Piece := Kt.iso (Kt.pair kI (Kt.pair kI (Kt.pair kI (Kt.slice kIns)))) fun p => (p.lam, p.in_, p.regs, p.ins)
theorem max_le : maxLen ≤ 9223372036854775807 := by decide
theorem oInt (n : Nat) : OpensAt Try.prog n 3 kI (fun _ => True) := (opens_int Try.underlying3).imp fun _ _ => trivial
theorem oL (n : Nat) : OpensAt Try.prog (n + 1) 37 kL (fun l => l.length ≤ 9223372036854775807) := (opens_slice Try.underlying37 (by kernel_rfl) (by decide) (oInt n)).imp fun _ h => Nat.le_trans h.1 max_le
theorem oIns (n : Nat) : OpensAt Try.prog (n + 2) 68 kIns Ins.len :=
  (opens_iso (fun x => (⟨x.1, x.2.1, x.2.2.1, x.2.2.2.1, x.2.2.2.2.1, x.2.2.2.2.2.1, x.2.2.2.2.2.2⟩ : Ins)) (fun _ => rfl)
    (opens_struct Try.underlying68 (by kernel_rfl) (from_cons rfl (by kernel_rfl) (oInt _) (from_cons rfl (by kernel_rfl) (oInt _) (from_cons rfl (by kernel_rfl) (oInt _) (from_cons rfl (by kernel_rfl) (oInt _) (from_cons rfl (by kernel_rfl) (oInt _)
      (from_cons rfl (by kernel_rfl) (oL n) (from_one rfl (by kernel_rfl) (oInt _)))))))))).imp fun x h => h.2.2.2.2.2.1
theorem oInsS (n : Nat) : OpensAt Try.prog (n + 3) 22 (Kt.slice kIns) (fun l => l.length ≤ 9223372036854775807 ∧ ∀ i ∈ l, i.len) := (opens_slice Try.underlying22 (by kernel_rfl) (by decide) (oIns n)).imp fun _ h => ⟨Nat.le_trans h.1 max_le, h.2⟩
theorem oPiece (n : Nat) : OpensAt Try.prog (n + 4) 24 kPiece Piece.len :=
  (opens_iso (fun x => (⟨x.1, x.2.1, x.2.2.1, x.2.2.2⟩ : Piece)) (fun _ => rfl)
    (opens_struct Try.underlying24 (by kernel_rfl) (from_cons rfl (by kernel_rfl) (oInt _) (from_cons rfl (by kernel_rfl) (oInt _) (from_cons rfl (by kernel_rfl) (oInt _) (from_one rfl (by kernel_rfl) (oInsS n))))))).imp fun x h => h.2.2.2
theorem calls {W : World} {x0 : Piece} {cs0 : List Value} (hk0 : kPiece.K W x0 cs0) (hl0 : Piece.len x0) (a1 : Int) : Calls Try.prog 5 #[.agg cs0.toArray, .int .i64 a1] W fun e W' => e = .returned (.bool true) ∧ Below W.heap.size W W' := by
  have h := (Tells.sound (X := XC) tab_ok XC_sound (lawAh_t x0 a1 hl0)).2 W [.agg cs0.toArray, .int .i64 a1] (fun b => b < W.heap.size) (fun _ => False) (fun b hb => ⟨hb, fun h => h⟩) (fun _ h => h.elim)
    (.cons _ _ _ _ (fun _ => False) (fun _ => False) _ (vs_of (ts := Piece.c false x0) hk0.1 hk0.2 (by
      intro y hy
      simp only [Piece.c, List.mem_cons, List.not_mem_nil, or_false] at hy
      rcases hy with rfl | rfl | rfl | rfl
      · exact .inl ⟨_, rfl⟩
      · exact .inl ⟨_, rfl⟩
      · exact .inl ⟨_, rfl⟩
      · exact .inr ⟨_, rfl⟩)) (.cons _ _ _ _ (fun _ => False) (fun _ => False) _ vs_int (.nil _) (fun _ h => h.elim) (fun _ h => h) (fun _ h => h)) (fun _ h => h.elim) (fun _ h => h) (fun _ h => h))
  refine h.mono fun e W' ⟨v, B', F', he, hv, _, _, hkeep⟩ => ?_
  rw [he, vx_bool hv]
  exact ⟨rfl, hkeep.os, hkeep.tape, hkeep.output, hkeep.size, fun k hk => hkeep.block k hk fun h => h⟩
set_option maxRecDepth 100000 in
theorem lifted (os : Os) (started : os.Started) (H : Type) (enc : TypeId × Value → H) :
    ReturnsInHanded {} Try.checked os 5 .any (Rows.fnExactAheadSpec.pre6 enc Try.prog Try.f5 Rows.fnExactAheadRow.domain false) (Rows.fnExactAheadSpec.post enc Try.prog Try.f5 false true false false) := by
  refine returnsInHanded_of_change_sized (C := Try.checked) own started (by kernel_rfl) Try.func5
    (ChangeSpec.witness6 (enc := enc) (C := Try.checked) false ⟨#[], #[.agg #[.int .i64 0, .int .i64 0, .int .i64 0, .slice none 0 0], .int .i64 0], []⟩ 8 (by kernel_rfl) (by kernel_rfl) (by kernel_rfl) (by kernel_rfl)) ?_
  intro W base args ds gs before hval0 hW hcnd hsz0 _
  have hval : ∀ (j : Nat) t v, Try.f5.params[j]? = some t → args[j]? = some v → Value.okWide Try.prog W .any base t v := hval0
  have hW' := hW
  obtain ⟨p, q, hA0, hV, rfl, hfz, hnd⟩ := hW
  have hA : DataW.TrodAll enc Try.prog W 0 (fun _ => true) true Try.f5.params.toList args.toList ds p := hA0
  rw [Try.params5] at hA hval
  obtain ⟨v0, vs0, d0, ds0, p0, q0, hargs, rfl, rfl, h0, r0⟩ := trodAll_cons hA
  obtain ⟨v1, vs1, d1, ds1, p1, q1, rfl, rfl, rfl, h1, r1⟩ := trodAll_cons r0
  obtain ⟨rfl, rfl, rfl⟩ := trodAll_nil r1
  obtain rfl : args = #[v0, v1] := by cases args; simp_all
  obtain ⟨rfl, rfl⟩ := trodVars_none hV
  obtain ⟨cs0, rfl, hcs0⟩ := okWide_struct Try.underlying24 (hval 0 24 v0 rfl rfl)
  have k0 := h0
  have lt0 : ∀ x ∈ p0, x.block < W.heap.size := by obtain ⟨m, hm⟩ := k0; exact DataW.trod_lt m _ _ _ hm
  obtain ⟨x0, hk0, ok0⟩ : ∃ x, kPiece.K W x cs0.toList ∧ Piece.len x := by
    obtain ⟨m, hm⟩ := h0
    exact (oPiece m).get enc W _ _ m _ _ (by omega) hm
  obtain ⟨a1, rfl, rfl, rfl, w1⟩ := open_int Try.underlying3 (hval 1 3 v1 rfl rfl) h1
  refine (calls hk0 ok0 a1).mono fun e W' ⟨he, bel0⟩ => ?_
  have bel : Below W.heap.size W W' := bel0
  subst he
  exact ⟨_, rfl, _, _, _, [], _, [], hW', trodAll_mk1 (shut_bool Try.underlying4 _), (trodAll_cons_mk (Below.trod laidOut (by kernel_rfl) (of_decide_eq_true (by kernel_rfl)) k0 bel lt0) (trodAll_cons_mk (shut_int Try.underlying3 w1) trodAll_mk0)), rfl, bel.frame _, fun h => by cases h⟩
theorem over : Rows.fnExactAheadRow.holds Try.pinned (OpenSpec.ofChange Rows.fnExactAheadSpec) :=
  OpenClaim.holds_of_wide 5 Try.f5 rfl rfl rfl rfl rfl rfl rfl ⟨rfl, rfl, rfl, rfl, rfl⟩ rfl rfl rfl rfl rfl (by kernel_rfl) Try.func5 (by kernel_rfl)
    (of_decide_eq_true (by kernel_rfl)) (by unfold Func.isWrapper; first | (rw [if_pos (by decide +kernel)]; kernel_rfl) | (rw [if_neg (by decide +kernel)]; exact ⟨rfl, rfl⟩))
    (fun os started H enc _ => lifted os started H enc)
theorem proved : Rows.FnExactAheadSaid := over
#print axioms proved
end Go.Proofs.Ythhlbnhgjijbaaa.fnExactAhead
namespace Go.Proofs.Ythhlbnhgjijbaaa
/-- The row, under a short name, for the claim. -/
theorem fnExactAhead_holds : Rows.FnExactAheadSaid := fnExactAhead.proved
end Go.Proofs.Ythhlbnhgjijbaaa

