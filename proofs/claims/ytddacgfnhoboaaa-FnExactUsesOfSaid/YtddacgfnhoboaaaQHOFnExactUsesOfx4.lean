-- written by wip/tools/prune.py: what this claim reaches of the print's and our texts
import Derived.Test.YtddacgfnhoboaaaQHOFnExactUsesOfx0
import Derived.Test.YtddacgfnhoboaaaQHOFnExactUsesOfx1
import Derived.Test.YtddacgfnhoboaaaQHOFnExactUsesOfx3
namespace Go.Proofs.Ytddacgfnhoboaaa.OFnExactUsesOf
open Go.RowKit Go.Proofs.YtddacgfnhoboaaaW.PrintWords Go.Proofs.YtddacgfnhoboaaaW.PrintLast Go.Proofs.YtddacgfnhoboaaaW.PrintMore
attribute [local go_sem] max2_int min2_int max_two min_two max_three min_three max_four min_four   -- for this text's walks alone
set_option linter.unusedVariables false
set_option linter.unusedSimpArgs false
def nArgs (K : Int) : Int := if K = 1 ∨ K = 2 ∨ K = 3 then 0 else if K = 6 then 1 else if K = 4 ∨ K = 5 then 2 else -1
theorem nArgs_f (K : Int) : spec_l1Args.f 1 K = some (nArgs K) := by
  unfold spec_l1Args.f nArgs
  simp only [spec_l1Args.j0]
  by_cases h1 : K = 1
  · simp [h1]
  · by_cases h2 : K = 2
    · simp [h2]
    · by_cases h3 : K = 3
      · simp [h3]
      · by_cases h6 : K = 6
        · simp [h6]
        · by_cases h4 : K = 4
          · simp [h4]
          · by_cases h5 : K = 5
            · simp [h5]
            · simp [h1, h2, h3, h4, h5, h6]
mutual
def look : S32 → Int → Int → Bool × Int
  | ⟨K, N, A⟩, d, n => if d = 0 ∨ 60 < wrap64 (n + 1) ∨ ¬ (A.length : Int) = nArgs K ∨ (K = 3 ∧ ¬ (0 ≤ N ∧ N ≤ 1)) ∨ (¬ K = 3 ∧ ¬ N = 0) then (false, wrap64 (n + 1)) else lookS A (wrap64 (d - 1)) (wrap64 (n + 1))
def lookS : List S32 → Int → Int → Bool × Int
  | [], _, n => (true, n)
  | x :: l, d, n => if (look x d n).1 = true then lookS l d (look x d n).2 else (false, (look x d n).2)
end
def bad (K N : Int) (m : Nat) (d n : Int) : Bool := decide (d = 0 ∨ 60 < n ∨ ¬ (m : Int) = nArgs K ∨ (K = 3 ∧ ¬ (0 ≤ N ∧ N ≤ 1)) ∨ (¬ K = 3 ∧ ¬ N = 0))
theorem bad_cases (K N : Int) (m : Nat) (d n : Int) :
    ((d == 0) = true ∧ bad K N m d n = true) ∨
    ((d == 0) = false ∧ decide (n > 60) = true ∧ bad K N m d n = true) ∨
    ((d == 0) = false ∧ decide (n > 60) = false ∧ ((m : Int) != nArgs K) = true ∧ bad K N m d n = true) ∨
    ((d == 0) = false ∧ decide (n > 60) = false ∧ ((m : Int) != nArgs K) = false ∧ (K == 3) = true ∧ (K != 3) = false ∧ decide (0 ≤ N ∧ N ≤ 1) = false ∧ bad K N m d n = true) ∨
    ((d == 0) = false ∧ decide (n > 60) = false ∧ ((m : Int) != nArgs K) = false ∧ (K == 3) = true ∧ (K != 3) = false ∧ decide (0 ≤ N ∧ N ≤ 1) = true ∧ bad K N m d n = false) ∨
    ((d == 0) = false ∧ decide (n > 60) = false ∧ ((m : Int) != nArgs K) = false ∧ (K == 3) = false ∧ (K != 3) = true ∧ (N != 0) = true ∧ bad K N m d n = true) ∨
    ((d == 0) = false ∧ decide (n > 60) = false ∧ ((m : Int) != nArgs K) = false ∧ (K == 3) = false ∧ (K != 3) = true ∧ (N != 0) = false ∧ bad K N m d n = false) := by
  unfold bad
  by_cases h0 : d = 0
  · simp [h0]
  · by_cases h1 : 60 < n
    · simp [h0, h1]
    · by_cases h2 : (m : Int) = nArgs K
      · by_cases h3 : K = 3
        · by_cases h4 : 0 ≤ N ∧ N ≤ 1
          · simp [h0, h1, h2, h3, h4] <;> omega
          · simp [h0, h1, h2, h3, h4] <;> omega
        · by_cases h4 : N = 0
          · simp [h0, h1, h2, h3, h4] <;> omega
          · simp [h0, h1, h2, h3, h4]
      · simp [h0, h1, h2] <;> omega
theorem l1In_f (a b c : Int) : spec_l1In.f a b c = some (decide (b ≤ a ∧ a ≤ c)) := by
  unfold spec_l1In.f
  by_cases h : b ≤ a <;> simp [h]
theorem S32.ind {P : S32 → Prop} (h : ∀ a b l, (∀ y ∈ l, P y) → P ⟨a, b, l⟩) (x : S32) : P x :=
  S32.rec (motive_1 := P) (motive_2 := fun l => ∀ y ∈ l, P y) (fun a b l ih => h a b l ih) (fun y hy => by cases hy)
    (fun x l hx hl y hy => by cases hy with | head => exact hx | tail _ hy => exact hl y hy) x
theorem look_eq (K N : Int) (l : List S32) (d n : Int) : look ⟨K, N, l⟩ d n = if bad K N l.length d (wrap64 (n + 1)) = true then (false, wrap64 (n + 1)) else lookS l (wrap64 (d - 1)) (wrap64 (n + 1)) := by
  simp only [look, bad, decide_eq_true_eq]
set_option maxHeartbeats 4000000 in
set_option maxRecDepth 100000 in
theorem l1Look.calls (t : S32) : ∀ (d n : Int) (w0 w : World) (g : Nat) (A : Option Addr) (c : Nat), Kd.C k32 w0 A t.f2.length t.f2 → t.f2.length ≤ c → w0.heap.size ≤ g → Below w0.heap.size w0 w → w.heap[g]? = some (.cells #[.int .i64 n] 3 (0, 0)) →
    Calls Try.prog 290 #[.agg #[.int .i64 t.f0, .int .i64 t.f1, .slice A t.f2.length c], .int .i64 d, .pointer (some ⟨g, 0, none⟩)] w fun e w' => e = .returned (.bool (look t d n).1) ∧ Below w0.heap.size w0 w' ∧ w'.heap[g]? = some (.cells #[.int .i64 (look t d n).2] 3 (0, 0)) ∧ KeepBut w w' g none := by
  induction t using S32.ind with
  | h K N l ih =>
  intro d n w0 w g A c hr hc hg hb hi
  have huT := Try.underlying32
  have IH := Aside0.mk ih
  clear ih
  have HR := Aside0.mk hr
  have HC := Aside0.mk hc
  have HG := Aside0.mk hg
  have HB := Aside0.mk hb
  have HI := Aside0.mk hi
  clear hr hc hg hb hi
  obtain ⟨n1, hn1⟩ : ∃ n1, wrap64 (n + 1) = n1 := ⟨_, rfl⟩
  have HN := Aside0.mk hn1
  clear hn1
  go_enter Try.func290, Try.ntmps290
  go_upto_region 2 with (first | ((with_reducible refine gate_dst (N := 3) rfl ?_); refine box_event ?hg (N := 3) ?hd (cs := #[.int .i64 K, .int .i64 N, .slice A l.length c]) (t := 32) ?hr ?_; (case hd => rfl); (case hg => rfl); (case hr => first | (go_simp; done) | (go_simp; rfl)); intro gb hgb w3 hbox hb3; have HI3 := Aside0.mk (blk_below HI.out hb3); have HB3 := Aside0.mk (below_step HB.out hb3); have HK3 := Aside0.mk (KeepBut.of_below hb3 g none); have BK3 := Aside0.mk hbox; have NE := Aside0.mk (show g ≠ gb from by have := blk_lt HI.out; omega); have hc3 : w3.cell? ⟨g, 0, none⟩ = some (.int .i64 n) := (blk_cell HI3.out 0).trans rfl; have hf3 := blk_frozen HI3.out 0; clear hb3 hbox hgb) | ((with_reducible refine gate_store (t := 3) (p := 13) rfl ?_); refine store_event (t := 3) (p := 13) (v := ?vv) (w1 := w3.setCell ⟨g, 0, none⟩ (.int .i64 n1)) ?hg ?ho ?hn ?hr ?_; (case ho => rfl); (case hg => rfl); (case hn => rfl); (case hr => go_simp; first | done | rfl | (rw [HN.out]; done) | (rw [HN.out]; rfl)); intro w4 hw; have HI4 := Aside0.mk (show w4.heap[g]? = some (.cells #[.int .i64 n1] 3 (0, 0)) from by rw [hw]; exact blk_put HI3.out 0 _ rfl); have HK4 := Aside0.mk (show KeepBut w w4 g none from by rw [hw]; exact KeepBut.set_ HK3.out 0 _); have HB4 := Aside0.mk (show Below w0.heap.size w0 w4 from by rw [hw]; exact below_set HB3.out HG.out); have BK4 := Aside0.mk (show w4.heap[gb]? = some (.cells #[.int .i64 K, .int .i64 N, .slice A l.length c] 32 (0, 0)) from by rw [hw]; exact blk_far BK3.out (fun e => NE.out e.symm) _); clear hw hc3 hf3))
  (try simp only [Act.put, List.setIfInBounds_toArray, List.set_cons_zero, List.set_cons_succ])
  go_cut [51] (fun v51 wc => v51 = .bool (bad K N l.length d n1) ∧ Aside0 (Below w0.heap.size w0 wc) ∧ Aside0 (wc.heap[g]? = some (.cells #[.int .i64 n1] 3 (0, 0))) ∧ Aside0 (wc.heap[gb]? = some (.cells #[.int .i64 K, .int .i64 N, .slice A l.length c] 32 (0, 0))) ∧ Aside0 (KeepBut w wc g none))
  case first =>
    have hz0 : w4.cell? ⟨gb, 0, none⟩ = some (.int .i64 K) := (blk_cell BK4.out 0).trans rfl
    have hz1 : w4.cell? ⟨gb, 1, none⟩ = some (.int .i64 N) := (blk_cell BK4.out 1).trans rfl
    have hz2 : w4.cell? ⟨gb, 2, none⟩ = some (.slice A l.length c) := (blk_cell BK4.out 2).trans rfl
    have hz3 : w4.cell? ⟨g, 0, none⟩ = some (.int .i64 n1) := (blk_cell HI4.out 0).trans rfl
    rcases bad_cases K N l.length d n1 with ⟨h0, hb⟩ | ⟨h0, h1, hb⟩ | ⟨h0, h1, h2, hb⟩ | ⟨h0, h1, h2, h3, h4, h5, hb⟩ | ⟨h0, h1, h2, h3, h4, h5, hb⟩ | ⟨h0, h1, h2, h3, h4, h5, hb⟩ | ⟨h0, h1, h2, h3, h4, h5, hb⟩
    all_goals
      have HBD := Aside0.mk hb
      clear hb
      go_wp2_with (fail)
      repeat (go_quiet (first | (go_at_call 311; refine (spec_l1Args.calls 1 K (nArgs K) _ (nArgs_f K)).mono ?_; rintro e w' ⟨rfl, ⟨nd, rfl⟩⟩; (try first | exact ⟨rfl, _, World.drewN_drewN _ _ _⟩ | exact ⟨rfl, _, Eq.trans (World.drewN_drewN _ _ _) (congrArg (World.drewN _) (Nat.add_assoc _ _ _))⟩)) | (go_at_call 110; refine (spec_l1In.calls N 0 1 _ _ (l1In_f N 0 1)).mono ?_; rintro e w' ⟨rfl, ⟨nd, rfl⟩⟩; (try first | exact ⟨rfl, _, World.drewN_drewN _ _ _⟩ | exact ⟨rfl, _, Eq.trans (World.drewN_drewN _ _ _) (congrArg (World.drewN _) (Nat.add_assoc _ _ _))⟩))); try go_wp2)
      go_meet
      case rel => exact ⟨by rw [HBD.out], ⟨pw_below_drewN HB4.out _⟩, ⟨blk_drewN HI4.out _⟩, ⟨blk_drewN BK4.out _⟩, ⟨keep_drewN HK4.out _⟩⟩
  case rest =>
    obtain ⟨rfl, HB5, HI5, BK5, HK5⟩ := hcut
    clear HB4 HI4 BK4 HB3 HI3 BK3 HB HI HK3 HK4
    have hlook := look_eq K N l d n
    rw [HN.out] at hlook
    cases hbad : bad K N l.length d n1 with
    | true =>
      rw [if_pos hbad] at hlook
      have HLK := Aside0.mk hlook
      clear hlook hbad
      go_wp2
      go_ret
      rw [HLK.out]
      exact ⟨rfl, HB5.out, HI5.out, HK5.out⟩
    | false =>
      rw [if_neg (by rw [hbad]; decide)] at hlook
      have HLK := Aside0.mk hlook
      clear hlook hbad
      go_wp2
      go_loopg [7] (l.length + 1) (fun kq v7 w' => ∃ (i : Nat) (m : Int), v7 = .int .i64 i ∧ Aside0 (i ≤ l.length ∧ i + kq = l.length + 1) ∧ Aside0 (look ⟨K, N, l⟩ d n = lookS (l.drop i) (wrap64 (d - 1)) m) ∧ Aside0 (Below w0.heap.size w0 w') ∧ Aside0 (w'.heap[g]? = some (.cells #[.int .i64 m] 3 (0, 0))) ∧ Aside0 (w'.heap[gb]? = some (.cells #[.int .i64 K, .int .i64 N, .slice A l.length c] 32 (0, 0))) ∧ Aside0 (KeepBut w w' g none))
      case atStart => exact ⟨0, n1, rfl, ⟨by omega⟩, ⟨by rw [HLK.out]; rfl⟩, HB5, HI5, BK5, HK5⟩
      case round =>
        clear HLK HB5 HI5 BK5 HK5
        obtain ⟨i, m, rfl, HJ, HA, HB, HI, BK, HK⟩ := hrel
        cases gk with
        | zero => exact absurd HJ.out (by omega)
        | succ k1 =>
          have hm : l.length ≤ 9223372036854775807 := HR.out.2.1
          have hj := HJ.out
          have hz2 : wr.cell? ⟨gb, 2, none⟩ = some (.slice A l.length c) := (blk_cell BK.out 2).trans rfl
          by_cases hlt : i < l.length
          · have hA := HA.out
            rw [List.drop_eq_getElem_cons hlt] at hA
            unfold lookS at hA
            have hrd : rd_T32 l (i : Int) = l[i] := by simp [rd_T32, List.getD_eq_getElem?_getD, hlt]
            obtain ⟨ad, A2, c2, e1, hx0, hx1, hx2, hl2, hr2⟩ := at_T32 HR.out (i : Int) (by omega) (by omega)
            cases e1
            replace hx0 := pw_cell_below HB.out hx0
            replace hx1 := pw_cell_below HB.out hx1
            replace hx2 := pw_cell_below HB.out hx2
            rw [hrd] at hx0 hx1 hx2 hl2 hr2
            simp only [Int.toNat_natCast] at hx0 hx1 hx2
            have p1 := eq_true (show (0 : Int) ≤ (i : Int) by omega)
            have p2 := eq_true (show (i : Int) < (l.length : Int) by omega)
            have HR2 := Aside0.mk hr2
            have HL2 := Aside0.mk hl2
            have HM := Aside0.mk (List.getElem_mem hlt)
            have HRES := Aside0.mk (rfl : look l[i] (wrap64 (d - 1)) m = look l[i] (wrap64 (d - 1)) m)
            obtain ⟨q, m2, hq⟩ : ∃ q m2, look l[i] (wrap64 (d - 1)) m = (q, m2) := ⟨_, _, rfl⟩
            rw [hq] at hA
            have HQ := Aside0.mk hq
            have HA2 := Aside0.mk hA
            clear hA HA hr2 hl2 hrd hj hq HRES
            cases q with
            | true =>
              have HA3 := Aside0.mk (show look ⟨K, N, l⟩ d n = lookS (l.drop (i + 1)) (wrap64 (d - 1)) m2 from HA2.out)
              clear HA2
              go_wp2_with (go_at_call 290; refine (IH.out l[i] HM.out (wrap64 (d - 1)) m w0 _ g A2 c2 HR2.out HL2.out HG.out HB.out HI.out).mono ?_; rintro e w6 ⟨rfl, hb, hi, hk⟩; rw [HQ.out] at hi; rw [HQ.out]; dsimp only at hi ⊢; have HB6 := Aside0.mk hb; have HI6 := Aside0.mk hi; have BK6 := Aside0.mk (hk.blk BK.out (fun e => NE.out e.symm) (by simp)); have HK6 := Aside0.mk (HK.out.trans hk (.inl rfl)); clear hb hi hk)
              go_roundg k1
              case measure => omega
              case rel => exact ⟨i + 1, m2, by go_num, ⟨by have := HJ.out; omega⟩, HA3, HB6, HI6, BK6, HK6⟩
            | false =>
              have HA3 := Aside0.mk (show look ⟨K, N, l⟩ d n = (false, m2) from HA2.out)
              clear HA2
              go_wp2_with (go_at_call 290; refine (IH.out l[i] HM.out (wrap64 (d - 1)) m w0 _ g A2 c2 HR2.out HL2.out HG.out HB.out HI.out).mono ?_; rintro e w6 ⟨rfl, hb, hi, hk⟩; rw [HQ.out] at hi; rw [HQ.out]; dsimp only at hi ⊢; have HB6 := Aside0.mk hb; have HI6 := Aside0.mk hi; have HK6 := Aside0.mk (HK.out.trans hk (.inl rfl)); clear hb hi hk)
              go_ret
              rw [HA3.out]
              exact ⟨rfl, HB6.out, HI6.out, HK6.out⟩
          · have hn : i = l.length := by omega
            have hA := HA.out
            rw [hn, List.drop_length] at hA
            unfold lookS at hA
            have HA2 := Aside0.mk hA
            clear HA hA hj
            have p2 : decide ((i : Int) < (l.length : Int)) = false := decide_eq_false (by omega)
            go_wp2
            go_ret
            rw [HA2.out]
            exact ⟨rfl, HB.out, HI.out, HK.out⟩
def spec_TyOk.f (a0_0 a0_1 : Int) (l0_2 : List S32) : Option Bool := some (look ⟨a0_0, a0_1, l0_2⟩ 6 0).1
set_option maxHeartbeats 4000000 in
set_option maxRecDepth 100000 in
theorem spec_TyOk.calls (a0_0 a0_1 : Int) (A0_2 : Option Addr) (c0_2 : Nat) (l0_2 : List S32) (r : Bool) (w : World) (hr0_2 : Kd.C k32 w A0_2 l0_2.length l0_2) (hc0_2 : l0_2.length ≤ c0_2) (h : spec_TyOk.f a0_0 a0_1 l0_2 = some r) :
    Calls Try.prog 249 #[.agg #[.int .i64 a0_0, .int .i64 a0_1, .slice A0_2 l0_2.length c0_2]] w fun e w' => e = .returned (.bool r) ∧ Below w.heap.size w w' := by
  have huT := Try.underlying32
  obtain rfl : (look ⟨a0_0, a0_1, l0_2⟩ 6 0).1 = r := by simpa [spec_TyOk.f] using h
  have HR := Aside0.mk hr0_2
  have HC := Aside0.mk hc0_2
  clear hr0_2 hc0_2 h
  go_enter Try.func249, Try.ntmps249
  go_wp2_with (first | ((with_reducible refine gate_dst (N := 1) rfl ?_); refine box_event ?hg (N := 1) ?hd (cs := #[.int .i64 a0_0, .int .i64 a0_1, .slice A0_2 l0_2.length c0_2]) (t := 32) ?hr ?_; (case hd => rfl); (case hg => rfl); (case hr => first | (go_simp; done) | (go_simp; rfl)); intro gb hgb w3 hbox hb3; have HB3 := Aside0.mk hb3; have BK3 := Aside0.mk hbox; have GE3 := Aside0.mk (show w.heap.size ≤ gb from by omega); clear hb3 hbox hgb) | ((with_reducible refine gate_dst (N := 3) rfl ?_); refine box_event ?hg (N := 3) ?hd (cs := #[.int .i64 0]) (t := 3) ?hr ?_; (case hd => rfl); (case hg => rfl); (case hr => first | (go_simp; done) | (go_simp; rfl)); intro g hg w4 hbox hb4; have HB4 := Aside0.mk (below_step HB3.out hb4); have BK4 := Aside0.mk (blk_below BK3.out hb4); have GE4 := Aside0.mk (show w.heap.size ≤ g from by have := HB3.out.size; omega); have HI4 := Aside0.mk hbox; have NE := Aside0.mk (show g ≠ gb from by have := blk_lt BK3.out; omega); have hf4 := blk_frozen HI4.out 0; have hc4 : w4.cell? ⟨g, 0, none⟩ = some (.int .i64 0) := (blk_cell HI4.out 0).trans rfl; clear hb4 hbox hg) | ((with_reducible refine gate_store (t := 3) (p := 3) rfl ?_); refine store_event (t := 3) (p := 3) (v := ?vv) (w1 := w4.setCell ⟨g, 0, none⟩ (.int .i64 0)) ?hg ?ho ?hn ?hr ?_; (case ho => rfl); (case hg => rfl); (case hn => rfl); (case hr => go_simp; first | done | rfl); intro w5 hw; have HI5 := Aside0.mk (show w5.heap[g]? = some (.cells #[.int .i64 0] 3 (0, 0)) from by rw [hw]; exact blk_put HI4.out 0 _ rfl); have HB5 := Aside0.mk (show Below w.heap.size w w5 from by rw [hw]; exact below_set HB4.out GE4.out); have BK5 := Aside0.mk (show w5.heap[gb]? = some (.cells #[.int .i64 a0_0, .int .i64 a0_1, .slice A0_2 l0_2.length c0_2] 32 (0, 0)) from by rw [hw]; exact blk_far BK4.out (fun e => NE.out e.symm) _); have hz0 : w5.cell? ⟨gb, 0, none⟩ = some (.int .i64 a0_0) := (blk_cell BK5.out 0).trans rfl; have hz1 : w5.cell? ⟨gb, 1, none⟩ = some (.int .i64 a0_1) := (blk_cell BK5.out 1).trans rfl; have hz2 : w5.cell? ⟨gb, 2, none⟩ = some (.slice A0_2 l0_2.length c0_2) := (blk_cell BK5.out 2).trans rfl; clear hw hf4 hc4) | (go_at_call 290; refine (l1Look.calls ⟨a0_0, a0_1, l0_2⟩ 6 0 w _ g A0_2 c0_2 HR.out HC.out GE4.out HB5.out HI5.out).mono ?_; rintro e w6 ⟨rfl, hb, hi, hk⟩; have HB6 := Aside0.mk hb; clear hb hi hk))
  go_ret
  exact ⟨rfl, HB6.out⟩
mutual
def spec_l2Of.j0 : Nat → Int → Bool → Option (Int × Int × Bool × Bool × Bool)
  | 0, _, _ => none
  | k + 1, x3, x4 => if x4 = true then (some (0, 1, false, false, false)) else (if x3 = 3 then (some (0, 0, true, false, false)) else (if x3 = 4 then (some (1, 0, true, false, true)) else (if x3 = 5 then (spec_l2Of.j1 k x3 (x3 == 5)) else (if x3 = 9 then (spec_l2Of.j1 k x3 (x3 == 9)) else (spec_l2Of.j1 k x3 (x3 == 13))))))
def spec_l2Of.j1 : Nat → Int → Bool → Option (Int × Int × Bool × Bool × Bool)
  | 0, _, _ => none
  | k + 1, x3, x14 => if x14 = true then (some (2, 0, false, false, false)) else (if x3 = 6 then (some (2, 1, true, false, false)) else (if x3 = 7 then (some (2, 1, true, false, true)) else (if x3 = 8 then (some (3, 0, false, false, false)) else (if x3 = 10 then (spec_l2Of.j2 k x3 (x3 == 10)) else (spec_l2Of.j2 k x3 (x3 == 11))))))
def spec_l2Of.j2 : Nat → Int → Bool → Option (Int × Int × Bool × Bool × Bool)
  | 0, _, _ => none
  | k + 1, x3, x28 => if x28 = true then (some (1, 0, false, false, false)) else (if x3 = 12 then (some (0, 0, false, false, true)) else (if x3 = 14 then (some (3, 0, true, true, false)) else (if x3 = 15 then (some (2, 1, false, false, false)) else (if x3 = 16 then (some (1, 0, false, false, true)) else (if x3 = 17 then (some (2, 0, true, false, false)) else (some ((-1), 0, false, false, false)))))))
end
def spec_l2Of.f (k : Nat) (a0 : Int) : Option (Int × Int × Bool × Bool × Bool) := if a0 = 1 then (spec_l2Of.j0 k a0 (a0 == 1)) else (spec_l2Of.j0 k a0 (a0 == 2))
set_option maxHeartbeats 8000000 in
set_option maxRecDepth 100000 in
theorem spec_l2Of.calls (k : Nat) (a0 : Int) (r1 : Int) (r2 : Int) (r3 : Bool) (r4 : Bool) (r5 : Bool) (w : World) (h : spec_l2Of.f k a0 = some (r1, r2, r3, r4, r5)) :
    Calls Try.prog 259 #[.int .i64 a0] w fun e w' => e = .returned (.agg #[.int .i64 r1, .int .i64 r2, .bool r3, .bool r4, .bool r5]) ∧ Below w.heap.size w w' := by
  have hu268 := Try.underlying268
  have HB := Aside0.mk (Below.refl w.heap.size w)
  have H : (if a0 = 1 then (spec_l2Of.j0 k a0 (a0 == 1)) else (spec_l2Of.j0 k a0 (a0 == 2))) = some (r1, r2, r3, r4, r5) := h
  clear h
  have HC2 := Aside0.mk H
  clear H
  go_enter Try.func259, Try.ntmps259
  go_upto_if 4 with (first | ((with_reducible refine gate_dst (N := 2) rfl ?_); refine box_event ?hg (N := 2) ?hd (cs := #[.int .i64 0, .int .i64 0, .bool false, .bool false, .bool false]) (t := 268) ?hr ?_; (case hd => rfl); (case hg => rfl); (case hr => first | (go_simp; done) | (go_simp; rfl)); intro gb126 hg w3 hbox hb; have n0_ := Aside0.mk (below_step (by repeat (first | (with_reducible first | exact HB.out | apply below_alloc | apply pw_below_drewN | apply below_drew1) | exact HB.out)) hb); have n1_ := Aside0.mk (hbox); have n2_ := Aside0.mk ((by rw [hg]; exact (below_size (by repeat (first | (with_reducible first | exact HB.out | apply below_alloc | apply pw_below_drewN | apply below_drew1) | exact HB.out))) : w.heap.size ≤ gb126)); have n3_ := Aside0.mk ((by rw [hg]; exact (below_size (by repeat (first | (with_reducible first | exact HB.out | apply below_alloc | apply pw_below_drewN | apply below_drew1) | exact HB.out))) : w.heap.size ≤ gb126)); clear HB; have HB := n0_; have BK126 := n1_; have GW126 := n2_; have GE126 := n3_; clear n0_ n1_ n2_ n3_; clear hb hbox hg))
  (try simp only [Act.put, List.setIfInBounds_toArray, List.set_cons_zero, List.set_cons_succ])
  go_cut [4] (fun v4 wc => ∃ (kq : Nat) (x4_1 : Bool), v4 = .bool x4_1 ∧ Aside0 (spec_l2Of.j0 kq a0 x4_1 = some (r1, r2, r3, r4, r5)) ∧ Aside0 (kq ≤ k) ∧ Aside0 (wc.heap[gb126]? = some (.cells #[.int .i64 0, .int .i64 0, .bool false, .bool false, .bool false] 268 (0, 0))) ∧ Aside0 (Below w.heap.size w wc))
  case first =>
    have H := HC2.out
    clear HC2
    by_cases c4 : a0 = 1
    · rw [if_pos c4] at H
      have c4b0 : (a0 == 1) = true := beq_iff_eq.mpr c4
      have c4b1 : (a0 != 1) = false := bne_eq_false_iff_eq.mpr c4
      clear c4
      (first | rw [c4b0] | (simp only [i64_w, i32_w]; rw [c4b0]) | skip)
      have H' := Aside0.mk H
      clear H
      go_wp2
      go_meet
      case rel => exact ⟨_, ((a0 == 1)), (by first | rfl | (simp; done) | (simp [*]; done)), H', ⟨by first | omega | exact Nat.le_refl _⟩, ⟨by (with_reducible repeat (first | refine blk_drewN ?_ _ | refine blk_drew ?_ | refine blk_alloc ?_ _)); exact BK126.out⟩, ⟨by repeat (first | (with_reducible first | exact HB.out | apply below_alloc | apply pw_below_drewN | apply below_drew1 | refine below_set ?_ GE126.out) | exact HB.out)⟩⟩
    · rw [if_neg c4] at H
      have c4b0 : (a0 == 1) = false := beq_eq_false_iff_ne.mpr c4
      have c4b1 : (a0 != 1) = true := bne_iff_ne.mpr c4
      (first | rw [c4b0] | (simp only [i64_w, i32_w]; rw [c4b0]) | skip)
      have H' := Aside0.mk H
      clear H
      go_wp2
      go_meet
      case rel => exact ⟨_, ((a0 == 2)), (by first | rfl | (simp; done) | (simp [*]; done)), H', ⟨by first | omega | exact Nat.le_refl _⟩, ⟨by (with_reducible repeat (first | refine blk_drewN ?_ _ | refine blk_drew ?_ | refine blk_alloc ?_ _)); exact BK126.out⟩, ⟨by repeat (first | (with_reducible first | exact HB.out | apply below_alloc | apply pw_below_drewN | apply below_drew1 | refine below_set ?_ GE126.out) | exact HB.out)⟩⟩
  case rest =>
    clear HC2
    try clear c2
    try clear p2
    try clear c4
    try clear c4b0
    try clear c4b1
    obtain ⟨kq, x4_1, rfl, HA, HJ1, BK126, HB⟩ := hcut
    cases kq with
    | zero => exact absurd HA.out (by simp [spec_l2Of.j0])
    | succ kj1 =>
      have H := HA.out
      clear HA
      simp only [spec_l2Of.j0] at H
      by_cases c5 : x4_1 = true
      · subst c5
        have H1 : (some (0, 1, false, false, false)) = some (r1, r2, r3, r4, r5) := by rw [if_pos rfl] at H; exact H
        clear H
        have H := H1
        clear H1
        simp only [Option.some.injEq, Prod.mk.injEq] at H
        obtain ⟨rfl, rfl, rfl, rfl, rfl⟩ := H
        have hcz6_0 : wc.cell? ⟨gb126, 0, none⟩ = some (.int .i64 0) := (blk_cell BK126.out 0).trans rfl
        have hcz6_1 : wc.cell? ⟨gb126, 1, none⟩ = some (.int .i64 0) := (blk_cell BK126.out 1).trans rfl
        have hcz6_2 : wc.cell? ⟨gb126, 2, none⟩ = some (.bool false) := (blk_cell BK126.out 2).trans rfl
        have hcz6_3 : wc.cell? ⟨gb126, 3, none⟩ = some (.bool false) := (blk_cell BK126.out 3).trans rfl
        have hcz6_4 : wc.cell? ⟨gb126, 4, none⟩ = some (.bool false) := (blk_cell BK126.out 4).trans rfl
        have hfz6_0 := blk_frozen BK126.out 0
        have hfz6_1 := blk_frozen BK126.out 1
        have hfz6_2 := blk_frozen BK126.out 2
        have hfz6_3 := blk_frozen BK126.out 3
        have hfz6_4 := blk_frozen BK126.out 4
        go_wp2
        refine bodyPost_ret (results_cell_row rfl _ _ gb126 268 #[.int .i64 0, .int .i64 1, .bool false, .bool false, .bool false] (0, 0) _ rfl (by (with_reducible repeat (first | refine blk_drewN ?_ _ | refine blk_drew ?_ | refine blk_alloc ?_ _)); refine blk_put (cs := #[.int .i64 0, .int .i64 1, .bool false, .bool false, .bool false]) ?_ 4 _ rfl; (with_reducible repeat (first | refine blk_drewN ?_ _ | refine blk_drew ?_ | refine blk_alloc ?_ _)); refine blk_put (cs := #[.int .i64 0, .int .i64 1, .bool false, .bool false, .bool false]) ?_ 3 _ rfl; (with_reducible repeat (first | refine blk_drewN ?_ _ | refine blk_drew ?_ | refine blk_alloc ?_ _)); refine blk_put (cs := #[.int .i64 0, .int .i64 1, .bool false, .bool false, .bool false]) ?_ 2 _ rfl; (with_reducible repeat (first | refine blk_drewN ?_ _ | refine blk_drew ?_ | refine blk_alloc ?_ _)); refine blk_put (cs := #[.int .i64 0, .int .i64 0, .bool false, .bool false, .bool false]) ?_ 1 _ rfl; (with_reducible repeat (first | refine blk_drewN ?_ _ | refine blk_drew ?_ | refine blk_alloc ?_ _)); refine blk_put (cs := #[.int .i64 0, .int .i64 0, .bool false, .bool false, .bool false]) ?_ 0 _ rfl; (with_reducible repeat (first | refine blk_drewN ?_ _ | refine blk_drew ?_ | refine blk_alloc ?_ _)); exact BK126.out) Try.underlying268 rfl (by kernel_rfl)) rfl ?_
        exact ⟨by first | rfl | (simp [errW_none, errW_some] <;> rfl) | (simp [*, errW_none, errW_some] <;> rfl), by repeat (first | (with_reducible first | exact HB.out | apply below_alloc | apply pw_below_drewN | apply below_drew1 | refine below_set ?_ GE126.out) | exact HB.out)⟩
      · replace c5 := Bool.eq_false_iff.mpr c5
        subst c5
        have H1 : (if a0 = 3 then (some (0, 0, true, false, false)) else (if a0 = 4 then (some (1, 0, true, false, true)) else (if a0 = 5 then (spec_l2Of.j1 kj1 a0 (a0 == 5)) else (if a0 = 9 then (spec_l2Of.j1 kj1 a0 (a0 == 9)) else (spec_l2Of.j1 kj1 a0 (a0 == 13)))))) = some (r1, r2, r3, r4, r5) := by rw [if_neg (show ¬ (false = true) by decide)] at H; exact H
        clear H
        have H := H1
        clear H1
        by_cases c7 : a0 = 3
        · rw [if_pos c7] at H
          have c7b0 : (a0 == 3) = true := beq_iff_eq.mpr c7
          have c7b1 : (a0 != 3) = false := bne_eq_false_iff_eq.mpr c7
          clear c7
          simp only [Option.some.injEq, Prod.mk.injEq] at H
          obtain ⟨rfl, rfl, rfl, rfl, rfl⟩ := H
          have hcz8_0 : wc.cell? ⟨gb126, 0, none⟩ = some (.int .i64 0) := (blk_cell BK126.out 0).trans rfl
          have hcz8_1 : wc.cell? ⟨gb126, 1, none⟩ = some (.int .i64 0) := (blk_cell BK126.out 1).trans rfl
          have hcz8_2 : wc.cell? ⟨gb126, 2, none⟩ = some (.bool false) := (blk_cell BK126.out 2).trans rfl
          have hcz8_3 : wc.cell? ⟨gb126, 3, none⟩ = some (.bool false) := (blk_cell BK126.out 3).trans rfl
          have hcz8_4 : wc.cell? ⟨gb126, 4, none⟩ = some (.bool false) := (blk_cell BK126.out 4).trans rfl
          have hfz8_0 := blk_frozen BK126.out 0
          have hfz8_1 := blk_frozen BK126.out 1
          have hfz8_2 := blk_frozen BK126.out 2
          have hfz8_3 := blk_frozen BK126.out 3
          have hfz8_4 := blk_frozen BK126.out 4
          go_wp2
          refine bodyPost_ret (results_cell_row rfl _ _ gb126 268 #[.int .i64 0, .int .i64 0, .bool true, .bool false, .bool false] (0, 0) _ rfl (by (with_reducible repeat (first | refine blk_drewN ?_ _ | refine blk_drew ?_ | refine blk_alloc ?_ _)); refine blk_put (cs := #[.int .i64 0, .int .i64 0, .bool true, .bool false, .bool false]) ?_ 4 _ rfl; (with_reducible repeat (first | refine blk_drewN ?_ _ | refine blk_drew ?_ | refine blk_alloc ?_ _)); refine blk_put (cs := #[.int .i64 0, .int .i64 0, .bool true, .bool false, .bool false]) ?_ 3 _ rfl; (with_reducible repeat (first | refine blk_drewN ?_ _ | refine blk_drew ?_ | refine blk_alloc ?_ _)); refine blk_put (cs := #[.int .i64 0, .int .i64 0, .bool false, .bool false, .bool false]) ?_ 2 _ rfl; (with_reducible repeat (first | refine blk_drewN ?_ _ | refine blk_drew ?_ | refine blk_alloc ?_ _)); refine blk_put (cs := #[.int .i64 0, .int .i64 0, .bool false, .bool false, .bool false]) ?_ 1 _ rfl; (with_reducible repeat (first | refine blk_drewN ?_ _ | refine blk_drew ?_ | refine blk_alloc ?_ _)); refine blk_put (cs := #[.int .i64 0, .int .i64 0, .bool false, .bool false, .bool false]) ?_ 0 _ rfl; (with_reducible repeat (first | refine blk_drewN ?_ _ | refine blk_drew ?_ | refine blk_alloc ?_ _)); exact BK126.out) Try.underlying268 rfl (by kernel_rfl)) rfl ?_
          exact ⟨by first | rfl | (simp [errW_none, errW_some] <;> rfl) | (simp [*, errW_none, errW_some] <;> rfl), by repeat (first | (with_reducible first | exact HB.out | apply below_alloc | apply pw_below_drewN | apply below_drew1 | refine below_set ?_ GE126.out) | exact HB.out)⟩
        · rw [if_neg c7] at H
          have c7b0 : (a0 == 3) = false := beq_eq_false_iff_ne.mpr c7
          have c7b1 : (a0 != 3) = true := bne_iff_ne.mpr c7
          by_cases c9 : a0 = 4
          · rw [if_pos c9] at H
            have c9b0 : (a0 == 4) = true := beq_iff_eq.mpr c9
            have c9b1 : (a0 != 4) = false := bne_eq_false_iff_eq.mpr c9
            clear c9
            simp only [Option.some.injEq, Prod.mk.injEq] at H
            obtain ⟨rfl, rfl, rfl, rfl, rfl⟩ := H
            have hcz10_0 : wc.cell? ⟨gb126, 0, none⟩ = some (.int .i64 0) := (blk_cell BK126.out 0).trans rfl
            have hcz10_1 : wc.cell? ⟨gb126, 1, none⟩ = some (.int .i64 0) := (blk_cell BK126.out 1).trans rfl
            have hcz10_2 : wc.cell? ⟨gb126, 2, none⟩ = some (.bool false) := (blk_cell BK126.out 2).trans rfl
            have hcz10_3 : wc.cell? ⟨gb126, 3, none⟩ = some (.bool false) := (blk_cell BK126.out 3).trans rfl
            have hcz10_4 : wc.cell? ⟨gb126, 4, none⟩ = some (.bool false) := (blk_cell BK126.out 4).trans rfl
            have hfz10_0 := blk_frozen BK126.out 0
            have hfz10_1 := blk_frozen BK126.out 1
            have hfz10_2 := blk_frozen BK126.out 2
            have hfz10_3 := blk_frozen BK126.out 3
            have hfz10_4 := blk_frozen BK126.out 4
            go_wp2
            refine bodyPost_ret (results_cell_row rfl _ _ gb126 268 #[.int .i64 1, .int .i64 0, .bool true, .bool false, .bool true] (0, 0) _ rfl (by (with_reducible repeat (first | refine blk_drewN ?_ _ | refine blk_drew ?_ | refine blk_alloc ?_ _)); refine blk_put (cs := #[.int .i64 1, .int .i64 0, .bool true, .bool false, .bool false]) ?_ 4 _ rfl; (with_reducible repeat (first | refine blk_drewN ?_ _ | refine blk_drew ?_ | refine blk_alloc ?_ _)); refine blk_put (cs := #[.int .i64 1, .int .i64 0, .bool true, .bool false, .bool false]) ?_ 3 _ rfl; (with_reducible repeat (first | refine blk_drewN ?_ _ | refine blk_drew ?_ | refine blk_alloc ?_ _)); refine blk_put (cs := #[.int .i64 1, .int .i64 0, .bool false, .bool false, .bool false]) ?_ 2 _ rfl; (with_reducible repeat (first | refine blk_drewN ?_ _ | refine blk_drew ?_ | refine blk_alloc ?_ _)); refine blk_put (cs := #[.int .i64 1, .int .i64 0, .bool false, .bool false, .bool false]) ?_ 1 _ rfl; (with_reducible repeat (first | refine blk_drewN ?_ _ | refine blk_drew ?_ | refine blk_alloc ?_ _)); refine blk_put (cs := #[.int .i64 0, .int .i64 0, .bool false, .bool false, .bool false]) ?_ 0 _ rfl; (with_reducible repeat (first | refine blk_drewN ?_ _ | refine blk_drew ?_ | refine blk_alloc ?_ _)); exact BK126.out) Try.underlying268 rfl (by kernel_rfl)) rfl ?_
            exact ⟨by first | rfl | (simp [errW_none, errW_some] <;> rfl) | (simp [*, errW_none, errW_some] <;> rfl), by repeat (first | (with_reducible first | exact HB.out | apply below_alloc | apply pw_below_drewN | apply below_drew1 | refine below_set ?_ GE126.out) | exact HB.out)⟩
          · rw [if_neg c9] at H
            have c9b0 : (a0 == 4) = false := beq_eq_false_iff_ne.mpr c9
            have c9b1 : (a0 != 4) = true := bne_iff_ne.mpr c9
            have HC11 := Aside0.mk H
            clear H
            go_upto_if 14 with (fail)
            go_cut [14] (fun v14 wc => ∃ (kq : Nat) (x14_10 : Bool), v14 = .bool x14_10 ∧ Aside0 (spec_l2Of.j1 kq a0 x14_10 = some (r1, r2, r3, r4, r5)) ∧ Aside0 (kq ≤ kj1) ∧ Aside0 (wc.heap[gb126]? = some (.cells #[.int .i64 0, .int .i64 0, .bool false, .bool false, .bool false] 268 (0, 0))) ∧ Aside0 (Below w.heap.size w wc))
            case first =>
              have H := HC11.out
              clear HC11
              by_cases c12 : a0 = 5
              · rw [if_pos c12] at H
                have c12b0 : (a0 == 5) = true := beq_iff_eq.mpr c12
                have c12b1 : (a0 != 5) = false := bne_eq_false_iff_eq.mpr c12
                clear c12
                (first | rw [c12b0] | (simp only [i64_w, i32_w]; rw [c12b0]) | skip)
                have H' := Aside0.mk H
                clear H
                go_wp2
                go_meet
                case rel => exact ⟨_, ((a0 == 5)), (by first | rfl | (simp; done) | (simp [*]; done)), H', ⟨by have := HJ1.out; first | omega | exact Nat.le_refl _⟩, ⟨by (with_reducible repeat (first | refine blk_drewN ?_ _ | refine blk_drew ?_ | refine blk_alloc ?_ _)); exact BK126.out⟩, ⟨by repeat (first | (with_reducible first | exact HB.out | apply below_alloc | apply pw_below_drewN | apply below_drew1 | refine below_set ?_ GE126.out) | exact HB.out)⟩⟩
              · rw [if_neg c12] at H
                have c12b0 : (a0 == 5) = false := beq_eq_false_iff_ne.mpr c12
                have c12b1 : (a0 != 5) = true := bne_iff_ne.mpr c12
                (first | rw [c12b0] | (simp only [i64_w, i32_w]; rw [c12b0]) | skip)
                by_cases c13 : a0 = 9
                · rw [if_pos c13] at H
                  have c13b0 : (a0 == 9) = true := beq_iff_eq.mpr c13
                  have c13b1 : (a0 != 9) = false := bne_eq_false_iff_eq.mpr c13
                  clear c13
                  have H' := Aside0.mk H
                  clear H
                  go_wp2
                  go_meet
                  case rel => exact ⟨_, ((a0 == 9)), (by first | rfl | (simp; done) | (simp [*]; done)), H', ⟨by have := HJ1.out; first | omega | exact Nat.le_refl _⟩, ⟨by (with_reducible repeat (first | refine blk_drewN ?_ _ | refine blk_drew ?_ | refine blk_alloc ?_ _)); exact BK126.out⟩, ⟨by repeat (first | (with_reducible first | exact HB.out | apply below_alloc | apply pw_below_drewN | apply below_drew1 | refine below_set ?_ GE126.out) | exact HB.out)⟩⟩
                · rw [if_neg c13] at H
                  have c13b0 : (a0 == 9) = false := beq_eq_false_iff_ne.mpr c13
                  have c13b1 : (a0 != 9) = true := bne_iff_ne.mpr c13
                  have H' := Aside0.mk H
                  clear H
                  go_wp2
                  go_meet
                  case rel => exact ⟨_, ((a0 == 13)), (by first | rfl | (simp; done) | (simp [*]; done)), H', ⟨by have := HJ1.out; first | omega | exact Nat.le_refl _⟩, ⟨by (with_reducible repeat (first | refine blk_drewN ?_ _ | refine blk_drew ?_ | refine blk_alloc ?_ _)); exact BK126.out⟩, ⟨by repeat (first | (with_reducible first | exact HB.out | apply below_alloc | apply pw_below_drewN | apply below_drew1 | refine below_set ?_ GE126.out) | exact HB.out)⟩⟩
            case rest =>
              clear HC11
              try clear c1
              try clear c2
              try clear p2
              try clear c4
              try clear c4b0
              try clear c4b1
              try clear c5
              try clear c7
              try clear c7b0
              try clear c7b1
              try clear c9
              try clear c9b0
              try clear c9b1
              try clear c12
              try clear c12b0
              try clear c12b1
              try clear c13
              try clear c13b0
              try clear c13b1
              try clear hcz10_0
              try clear hcz10_1
              try clear hcz10_2
              try clear hcz10_3
              try clear hcz10_4
              try clear hcz6_0
              try clear hcz6_1
              try clear hcz6_2
              try clear hcz6_3
              try clear hcz6_4
              try clear hcz8_0
              try clear hcz8_1
              try clear hcz8_2
              try clear hcz8_3
              try clear hcz8_4
              try clear hfz10_0
              try clear hfz10_1
              try clear hfz10_2
              try clear hfz10_3
              try clear hfz10_4
              try clear hfz6_0
              try clear hfz6_1
              try clear hfz6_2
              try clear hfz6_3
              try clear hfz6_4
              try clear hfz8_0
              try clear hfz8_1
              try clear hfz8_2
              try clear hfz8_3
              try clear hfz8_4
              try clear p2
              obtain ⟨kq, x14_10, rfl, HA, HJ10, BK126, HB⟩ := hcut
              cases kq with
              | zero => exact absurd HA.out (by simp [spec_l2Of.j1])
              | succ kj10 =>
                have H := HA.out
                clear HA
                simp only [spec_l2Of.j1] at H
                by_cases c14 : x14_10 = true
                · subst c14
                  have H1 : (some (2, 0, false, false, false)) = some (r1, r2, r3, r4, r5) := by rw [if_pos rfl] at H; exact H
                  clear H
                  have H := H1
                  clear H1
                  simp only [Option.some.injEq, Prod.mk.injEq] at H
                  obtain ⟨rfl, rfl, rfl, rfl, rfl⟩ := H
                  have hcz15_0 : wc.cell? ⟨gb126, 0, none⟩ = some (.int .i64 0) := (blk_cell BK126.out 0).trans rfl
                  have hcz15_1 : wc.cell? ⟨gb126, 1, none⟩ = some (.int .i64 0) := (blk_cell BK126.out 1).trans rfl
                  have hcz15_2 : wc.cell? ⟨gb126, 2, none⟩ = some (.bool false) := (blk_cell BK126.out 2).trans rfl
                  have hcz15_3 : wc.cell? ⟨gb126, 3, none⟩ = some (.bool false) := (blk_cell BK126.out 3).trans rfl
                  have hcz15_4 : wc.cell? ⟨gb126, 4, none⟩ = some (.bool false) := (blk_cell BK126.out 4).trans rfl
                  have hfz15_0 := blk_frozen BK126.out 0
                  have hfz15_1 := blk_frozen BK126.out 1
                  have hfz15_2 := blk_frozen BK126.out 2
                  have hfz15_3 := blk_frozen BK126.out 3
                  have hfz15_4 := blk_frozen BK126.out 4
                  go_wp2
                  refine bodyPost_ret (results_cell_row rfl _ _ gb126 268 #[.int .i64 2, .int .i64 0, .bool false, .bool false, .bool false] (0, 0) _ rfl (by (with_reducible repeat (first | refine blk_drewN ?_ _ | refine blk_drew ?_ | refine blk_alloc ?_ _)); refine blk_put (cs := #[.int .i64 2, .int .i64 0, .bool false, .bool false, .bool false]) ?_ 4 _ rfl; (with_reducible repeat (first | refine blk_drewN ?_ _ | refine blk_drew ?_ | refine blk_alloc ?_ _)); refine blk_put (cs := #[.int .i64 2, .int .i64 0, .bool false, .bool false, .bool false]) ?_ 3 _ rfl; (with_reducible repeat (first | refine blk_drewN ?_ _ | refine blk_drew ?_ | refine blk_alloc ?_ _)); refine blk_put (cs := #[.int .i64 2, .int .i64 0, .bool false, .bool false, .bool false]) ?_ 2 _ rfl; (with_reducible repeat (first | refine blk_drewN ?_ _ | refine blk_drew ?_ | refine blk_alloc ?_ _)); refine blk_put (cs := #[.int .i64 2, .int .i64 0, .bool false, .bool false, .bool false]) ?_ 1 _ rfl; (with_reducible repeat (first | refine blk_drewN ?_ _ | refine blk_drew ?_ | refine blk_alloc ?_ _)); refine blk_put (cs := #[.int .i64 0, .int .i64 0, .bool false, .bool false, .bool false]) ?_ 0 _ rfl; (with_reducible repeat (first | refine blk_drewN ?_ _ | refine blk_drew ?_ | refine blk_alloc ?_ _)); exact BK126.out) Try.underlying268 rfl (by kernel_rfl)) rfl ?_
                  exact ⟨by first | rfl | (simp [errW_none, errW_some] <;> rfl) | (simp [*, errW_none, errW_some] <;> rfl), by repeat (first | (with_reducible first | exact HB.out | apply below_alloc | apply pw_below_drewN | apply below_drew1 | refine below_set ?_ GE126.out) | exact HB.out)⟩
                · replace c14 := Bool.eq_false_iff.mpr c14
                  subst c14
                  have H1 : (if a0 = 6 then (some (2, 1, true, false, false)) else (if a0 = 7 then (some (2, 1, true, false, true)) else (if a0 = 8 then (some (3, 0, false, false, false)) else (if a0 = 10 then (spec_l2Of.j2 kj10 a0 (a0 == 10)) else (spec_l2Of.j2 kj10 a0 (a0 == 11)))))) = some (r1, r2, r3, r4, r5) := by rw [if_neg (show ¬ (false = true) by decide)] at H; exact H
                  clear H
                  have H := H1
                  clear H1
                  by_cases c16 : a0 = 6
                  · rw [if_pos c16] at H
                    have c16b0 : (a0 == 6) = true := beq_iff_eq.mpr c16
                    have c16b1 : (a0 != 6) = false := bne_eq_false_iff_eq.mpr c16
                    clear c16
                    simp only [Option.some.injEq, Prod.mk.injEq] at H
                    obtain ⟨rfl, rfl, rfl, rfl, rfl⟩ := H
                    have hcz17_0 : wc.cell? ⟨gb126, 0, none⟩ = some (.int .i64 0) := (blk_cell BK126.out 0).trans rfl
                    have hcz17_1 : wc.cell? ⟨gb126, 1, none⟩ = some (.int .i64 0) := (blk_cell BK126.out 1).trans rfl
                    have hcz17_2 : wc.cell? ⟨gb126, 2, none⟩ = some (.bool false) := (blk_cell BK126.out 2).trans rfl
                    have hcz17_3 : wc.cell? ⟨gb126, 3, none⟩ = some (.bool false) := (blk_cell BK126.out 3).trans rfl
                    have hcz17_4 : wc.cell? ⟨gb126, 4, none⟩ = some (.bool false) := (blk_cell BK126.out 4).trans rfl
                    have hfz17_0 := blk_frozen BK126.out 0
                    have hfz17_1 := blk_frozen BK126.out 1
                    have hfz17_2 := blk_frozen BK126.out 2
                    have hfz17_3 := blk_frozen BK126.out 3
                    have hfz17_4 := blk_frozen BK126.out 4
                    go_wp2
                    refine bodyPost_ret (results_cell_row rfl _ _ gb126 268 #[.int .i64 2, .int .i64 1, .bool true, .bool false, .bool false] (0, 0) _ rfl (by (with_reducible repeat (first | refine blk_drewN ?_ _ | refine blk_drew ?_ | refine blk_alloc ?_ _)); refine blk_put (cs := #[.int .i64 2, .int .i64 1, .bool true, .bool false, .bool false]) ?_ 4 _ rfl; (with_reducible repeat (first | refine blk_drewN ?_ _ | refine blk_drew ?_ | refine blk_alloc ?_ _)); refine blk_put (cs := #[.int .i64 2, .int .i64 1, .bool true, .bool false, .bool false]) ?_ 3 _ rfl; (with_reducible repeat (first | refine blk_drewN ?_ _ | refine blk_drew ?_ | refine blk_alloc ?_ _)); refine blk_put (cs := #[.int .i64 2, .int .i64 1, .bool false, .bool false, .bool false]) ?_ 2 _ rfl; (with_reducible repeat (first | refine blk_drewN ?_ _ | refine blk_drew ?_ | refine blk_alloc ?_ _)); refine blk_put (cs := #[.int .i64 2, .int .i64 0, .bool false, .bool false, .bool false]) ?_ 1 _ rfl; (with_reducible repeat (first | refine blk_drewN ?_ _ | refine blk_drew ?_ | refine blk_alloc ?_ _)); refine blk_put (cs := #[.int .i64 0, .int .i64 0, .bool false, .bool false, .bool false]) ?_ 0 _ rfl; (with_reducible repeat (first | refine blk_drewN ?_ _ | refine blk_drew ?_ | refine blk_alloc ?_ _)); exact BK126.out) Try.underlying268 rfl (by kernel_rfl)) rfl ?_
                    exact ⟨by first | rfl | (simp [errW_none, errW_some] <;> rfl) | (simp [*, errW_none, errW_some] <;> rfl), by repeat (first | (with_reducible first | exact HB.out | apply below_alloc | apply pw_below_drewN | apply below_drew1 | refine below_set ?_ GE126.out) | exact HB.out)⟩
                  · rw [if_neg c16] at H
                    have c16b0 : (a0 == 6) = false := beq_eq_false_iff_ne.mpr c16
                    have c16b1 : (a0 != 6) = true := bne_iff_ne.mpr c16
                    by_cases c18 : a0 = 7
                    · rw [if_pos c18] at H
                      have c18b0 : (a0 == 7) = true := beq_iff_eq.mpr c18
                      have c18b1 : (a0 != 7) = false := bne_eq_false_iff_eq.mpr c18
                      clear c18
                      simp only [Option.some.injEq, Prod.mk.injEq] at H
                      obtain ⟨rfl, rfl, rfl, rfl, rfl⟩ := H
                      have hcz19_0 : wc.cell? ⟨gb126, 0, none⟩ = some (.int .i64 0) := (blk_cell BK126.out 0).trans rfl
                      have hcz19_1 : wc.cell? ⟨gb126, 1, none⟩ = some (.int .i64 0) := (blk_cell BK126.out 1).trans rfl
                      have hcz19_2 : wc.cell? ⟨gb126, 2, none⟩ = some (.bool false) := (blk_cell BK126.out 2).trans rfl
                      have hcz19_3 : wc.cell? ⟨gb126, 3, none⟩ = some (.bool false) := (blk_cell BK126.out 3).trans rfl
                      have hcz19_4 : wc.cell? ⟨gb126, 4, none⟩ = some (.bool false) := (blk_cell BK126.out 4).trans rfl
                      have hfz19_0 := blk_frozen BK126.out 0
                      have hfz19_1 := blk_frozen BK126.out 1
                      have hfz19_2 := blk_frozen BK126.out 2
                      have hfz19_3 := blk_frozen BK126.out 3
                      have hfz19_4 := blk_frozen BK126.out 4
                      go_wp2
                      refine bodyPost_ret (results_cell_row rfl _ _ gb126 268 #[.int .i64 2, .int .i64 1, .bool true, .bool false, .bool true] (0, 0) _ rfl (by (with_reducible repeat (first | refine blk_drewN ?_ _ | refine blk_drew ?_ | refine blk_alloc ?_ _)); refine blk_put (cs := #[.int .i64 2, .int .i64 1, .bool true, .bool false, .bool false]) ?_ 4 _ rfl; (with_reducible repeat (first | refine blk_drewN ?_ _ | refine blk_drew ?_ | refine blk_alloc ?_ _)); refine blk_put (cs := #[.int .i64 2, .int .i64 1, .bool true, .bool false, .bool false]) ?_ 3 _ rfl; (with_reducible repeat (first | refine blk_drewN ?_ _ | refine blk_drew ?_ | refine blk_alloc ?_ _)); refine blk_put (cs := #[.int .i64 2, .int .i64 1, .bool false, .bool false, .bool false]) ?_ 2 _ rfl; (with_reducible repeat (first | refine blk_drewN ?_ _ | refine blk_drew ?_ | refine blk_alloc ?_ _)); refine blk_put (cs := #[.int .i64 2, .int .i64 0, .bool false, .bool false, .bool false]) ?_ 1 _ rfl; (with_reducible repeat (first | refine blk_drewN ?_ _ | refine blk_drew ?_ | refine blk_alloc ?_ _)); refine blk_put (cs := #[.int .i64 0, .int .i64 0, .bool false, .bool false, .bool false]) ?_ 0 _ rfl; (with_reducible repeat (first | refine blk_drewN ?_ _ | refine blk_drew ?_ | refine blk_alloc ?_ _)); exact BK126.out) Try.underlying268 rfl (by kernel_rfl)) rfl ?_
                      exact ⟨by first | rfl | (simp [errW_none, errW_some] <;> rfl) | (simp [*, errW_none, errW_some] <;> rfl), by repeat (first | (with_reducible first | exact HB.out | apply below_alloc | apply pw_below_drewN | apply below_drew1 | refine below_set ?_ GE126.out) | exact HB.out)⟩
                    · rw [if_neg c18] at H
                      have c18b0 : (a0 == 7) = false := beq_eq_false_iff_ne.mpr c18
                      have c18b1 : (a0 != 7) = true := bne_iff_ne.mpr c18
                      by_cases c20 : a0 = 8
                      · rw [if_pos c20] at H
                        have c20b0 : (a0 == 8) = true := beq_iff_eq.mpr c20
                        have c20b1 : (a0 != 8) = false := bne_eq_false_iff_eq.mpr c20
                        clear c20
                        simp only [Option.some.injEq, Prod.mk.injEq] at H
                        obtain ⟨rfl, rfl, rfl, rfl, rfl⟩ := H
                        have hcz21_0 : wc.cell? ⟨gb126, 0, none⟩ = some (.int .i64 0) := (blk_cell BK126.out 0).trans rfl
                        have hcz21_1 : wc.cell? ⟨gb126, 1, none⟩ = some (.int .i64 0) := (blk_cell BK126.out 1).trans rfl
                        have hcz21_2 : wc.cell? ⟨gb126, 2, none⟩ = some (.bool false) := (blk_cell BK126.out 2).trans rfl
                        have hcz21_3 : wc.cell? ⟨gb126, 3, none⟩ = some (.bool false) := (blk_cell BK126.out 3).trans rfl
                        have hcz21_4 : wc.cell? ⟨gb126, 4, none⟩ = some (.bool false) := (blk_cell BK126.out 4).trans rfl
                        have hfz21_0 := blk_frozen BK126.out 0
                        have hfz21_1 := blk_frozen BK126.out 1
                        have hfz21_2 := blk_frozen BK126.out 2
                        have hfz21_3 := blk_frozen BK126.out 3
                        have hfz21_4 := blk_frozen BK126.out 4
                        go_wp2
                        refine bodyPost_ret (results_cell_row rfl _ _ gb126 268 #[.int .i64 3, .int .i64 0, .bool false, .bool false, .bool false] (0, 0) _ rfl (by (with_reducible repeat (first | refine blk_drewN ?_ _ | refine blk_drew ?_ | refine blk_alloc ?_ _)); refine blk_put (cs := #[.int .i64 3, .int .i64 0, .bool false, .bool false, .bool false]) ?_ 4 _ rfl; (with_reducible repeat (first | refine blk_drewN ?_ _ | refine blk_drew ?_ | refine blk_alloc ?_ _)); refine blk_put (cs := #[.int .i64 3, .int .i64 0, .bool false, .bool false, .bool false]) ?_ 3 _ rfl; (with_reducible repeat (first | refine blk_drewN ?_ _ | refine blk_drew ?_ | refine blk_alloc ?_ _)); refine blk_put (cs := #[.int .i64 3, .int .i64 0, .bool false, .bool false, .bool false]) ?_ 2 _ rfl; (with_reducible repeat (first | refine blk_drewN ?_ _ | refine blk_drew ?_ | refine blk_alloc ?_ _)); refine blk_put (cs := #[.int .i64 3, .int .i64 0, .bool false, .bool false, .bool false]) ?_ 1 _ rfl; (with_reducible repeat (first | refine blk_drewN ?_ _ | refine blk_drew ?_ | refine blk_alloc ?_ _)); refine blk_put (cs := #[.int .i64 0, .int .i64 0, .bool false, .bool false, .bool false]) ?_ 0 _ rfl; (with_reducible repeat (first | refine blk_drewN ?_ _ | refine blk_drew ?_ | refine blk_alloc ?_ _)); exact BK126.out) Try.underlying268 rfl (by kernel_rfl)) rfl ?_
                        exact ⟨by first | rfl | (simp [errW_none, errW_some] <;> rfl) | (simp [*, errW_none, errW_some] <;> rfl), by repeat (first | (with_reducible first | exact HB.out | apply below_alloc | apply pw_below_drewN | apply below_drew1 | refine below_set ?_ GE126.out) | exact HB.out)⟩
                      · rw [if_neg c20] at H
                        have c20b0 : (a0 == 8) = false := beq_eq_false_iff_ne.mpr c20
                        have c20b1 : (a0 != 8) = true := bne_iff_ne.mpr c20
                        have HC22 := Aside0.mk H
                        clear H
                        go_upto_if 28 with (fail)
                        go_cut [28] (fun v28 wc => ∃ (kq : Nat) (x28_21 : Bool), v28 = .bool x28_21 ∧ Aside0 (spec_l2Of.j2 kq a0 x28_21 = some (r1, r2, r3, r4, r5)) ∧ Aside0 (kq ≤ kj10) ∧ Aside0 (wc.heap[gb126]? = some (.cells #[.int .i64 0, .int .i64 0, .bool false, .bool false, .bool false] 268 (0, 0))) ∧ Aside0 (Below w.heap.size w wc))
                        case first =>
                          have H := HC22.out
                          clear HC22
                          by_cases c23 : a0 = 10
                          · rw [if_pos c23] at H
                            have c23b0 : (a0 == 10) = true := beq_iff_eq.mpr c23
                            have c23b1 : (a0 != 10) = false := bne_eq_false_iff_eq.mpr c23
                            clear c23
                            (first | rw [c23b0] | (simp only [i64_w, i32_w]; rw [c23b0]) | skip)
                            have H' := Aside0.mk H
                            clear H
                            go_wp2
                            go_meet
                            case rel => exact ⟨_, ((a0 == 10)), (by first | rfl | (simp; done) | (simp [*]; done)), H', ⟨by have := HJ1.out; have := HJ10.out; first | omega | exact Nat.le_refl _⟩, ⟨by (with_reducible repeat (first | refine blk_drewN ?_ _ | refine blk_drew ?_ | refine blk_alloc ?_ _)); exact BK126.out⟩, ⟨by repeat (first | (with_reducible first | exact HB.out | apply below_alloc | apply pw_below_drewN | apply below_drew1 | refine below_set ?_ GE126.out) | exact HB.out)⟩⟩
                          · rw [if_neg c23] at H
                            have c23b0 : (a0 == 10) = false := beq_eq_false_iff_ne.mpr c23
                            have c23b1 : (a0 != 10) = true := bne_iff_ne.mpr c23
                            (first | rw [c23b0] | (simp only [i64_w, i32_w]; rw [c23b0]) | skip)
                            have H' := Aside0.mk H
                            clear H
                            go_wp2
                            go_meet
                            case rel => exact ⟨_, ((a0 == 11)), (by first | rfl | (simp; done) | (simp [*]; done)), H', ⟨by have := HJ1.out; have := HJ10.out; first | omega | exact Nat.le_refl _⟩, ⟨by (with_reducible repeat (first | refine blk_drewN ?_ _ | refine blk_drew ?_ | refine blk_alloc ?_ _)); exact BK126.out⟩, ⟨by repeat (first | (with_reducible first | exact HB.out | apply below_alloc | apply pw_below_drewN | apply below_drew1 | refine below_set ?_ GE126.out) | exact HB.out)⟩⟩
                        case rest =>
                          clear HC22
                          try clear c1
                          try clear c2
                          try clear p2
                          try clear c4
                          try clear c4b0
                          try clear c4b1
                          try clear c5
                          try clear c7
                          try clear c7b0
                          try clear c7b1
                          try clear c9
                          try clear c9b0
                          try clear c9b1
                          try clear c12
                          try clear c12b0
                          try clear c12b1
                          try clear c13
                          try clear c13b0
                          try clear c13b1
                          try clear c14
                          try clear c16
                          try clear c16b0
                          try clear c16b1
                          try clear c18
                          try clear c18b0
                          try clear c18b1
                          try clear c20
                          try clear c20b0
                          try clear c20b1
                          try clear c23
                          try clear c23b0
                          try clear c23b1
                          try clear hcz10_0
                          try clear hcz10_1
                          try clear hcz10_2
                          try clear hcz10_3
                          try clear hcz10_4
                          try clear hcz15_0
                          try clear hcz15_1
                          try clear hcz15_2
                          try clear hcz15_3
                          try clear hcz15_4
                          try clear hcz17_0
                          try clear hcz17_1
                          try clear hcz17_2
                          try clear hcz17_3
                          try clear hcz17_4
                          try clear hcz19_0
                          try clear hcz19_1
                          try clear hcz19_2
                          try clear hcz19_3
                          try clear hcz19_4
                          try clear hcz21_0
                          try clear hcz21_1
                          try clear hcz21_2
                          try clear hcz21_3
                          try clear hcz21_4
                          try clear hcz6_0
                          try clear hcz6_1
                          try clear hcz6_2
                          try clear hcz6_3
                          try clear hcz6_4
                          try clear hcz8_0
                          try clear hcz8_1
                          try clear hcz8_2
                          try clear hcz8_3
                          try clear hcz8_4
                          try clear hfz10_0
                          try clear hfz10_1
                          try clear hfz10_2
                          try clear hfz10_3
                          try clear hfz10_4
                          try clear hfz15_0
                          try clear hfz15_1
                          try clear hfz15_2
                          try clear hfz15_3
                          try clear hfz15_4
                          try clear hfz17_0
                          try clear hfz17_1
                          try clear hfz17_2
                          try clear hfz17_3
                          try clear hfz17_4
                          try clear hfz19_0
                          try clear hfz19_1
                          try clear hfz19_2
                          try clear hfz19_3
                          try clear hfz19_4
                          try clear hfz21_0
                          try clear hfz21_1
                          try clear hfz21_2
                          try clear hfz21_3
                          try clear hfz21_4
                          try clear hfz6_0
                          try clear hfz6_1
                          try clear hfz6_2
                          try clear hfz6_3
                          try clear hfz6_4
                          try clear hfz8_0
                          try clear hfz8_1
                          try clear hfz8_2
                          try clear hfz8_3
                          try clear hfz8_4
                          try clear p2
                          obtain ⟨kq, x28_21, rfl, HA, HJ21, BK126, HB⟩ := hcut
                          cases kq with
                          | zero => exact absurd HA.out (by simp [spec_l2Of.j2])
                          | succ kj21 =>
                            have H := HA.out
                            clear HA
                            simp only [spec_l2Of.j2] at H
                            by_cases c24 : x28_21 = true
                            · subst c24
                              have H1 : (some (1, 0, false, false, false)) = some (r1, r2, r3, r4, r5) := by rw [if_pos rfl] at H; exact H
                              clear H
                              have H := H1
                              clear H1
                              simp only [Option.some.injEq, Prod.mk.injEq] at H
                              obtain ⟨rfl, rfl, rfl, rfl, rfl⟩ := H
                              have hcz25_0 : wc.cell? ⟨gb126, 0, none⟩ = some (.int .i64 0) := (blk_cell BK126.out 0).trans rfl
                              have hcz25_1 : wc.cell? ⟨gb126, 1, none⟩ = some (.int .i64 0) := (blk_cell BK126.out 1).trans rfl
                              have hcz25_2 : wc.cell? ⟨gb126, 2, none⟩ = some (.bool false) := (blk_cell BK126.out 2).trans rfl
                              have hcz25_3 : wc.cell? ⟨gb126, 3, none⟩ = some (.bool false) := (blk_cell BK126.out 3).trans rfl
                              have hcz25_4 : wc.cell? ⟨gb126, 4, none⟩ = some (.bool false) := (blk_cell BK126.out 4).trans rfl
                              have hfz25_0 := blk_frozen BK126.out 0
                              have hfz25_1 := blk_frozen BK126.out 1
                              have hfz25_2 := blk_frozen BK126.out 2
                              have hfz25_3 := blk_frozen BK126.out 3
                              have hfz25_4 := blk_frozen BK126.out 4
                              go_wp2
                              refine bodyPost_ret (results_cell_row rfl _ _ gb126 268 #[.int .i64 1, .int .i64 0, .bool false, .bool false, .bool false] (0, 0) _ rfl (by (with_reducible repeat (first | refine blk_drewN ?_ _ | refine blk_drew ?_ | refine blk_alloc ?_ _)); refine blk_put (cs := #[.int .i64 1, .int .i64 0, .bool false, .bool false, .bool false]) ?_ 4 _ rfl; (with_reducible repeat (first | refine blk_drewN ?_ _ | refine blk_drew ?_ | refine blk_alloc ?_ _)); refine blk_put (cs := #[.int .i64 1, .int .i64 0, .bool false, .bool false, .bool false]) ?_ 3 _ rfl; (with_reducible repeat (first | refine blk_drewN ?_ _ | refine blk_drew ?_ | refine blk_alloc ?_ _)); refine blk_put (cs := #[.int .i64 1, .int .i64 0, .bool false, .bool false, .bool false]) ?_ 2 _ rfl; (with_reducible repeat (first | refine blk_drewN ?_ _ | refine blk_drew ?_ | refine blk_alloc ?_ _)); refine blk_put (cs := #[.int .i64 1, .int .i64 0, .bool false, .bool false, .bool false]) ?_ 1 _ rfl; (with_reducible repeat (first | refine blk_drewN ?_ _ | refine blk_drew ?_ | refine blk_alloc ?_ _)); refine blk_put (cs := #[.int .i64 0, .int .i64 0, .bool false, .bool false, .bool false]) ?_ 0 _ rfl; (with_reducible repeat (first | refine blk_drewN ?_ _ | refine blk_drew ?_ | refine blk_alloc ?_ _)); exact BK126.out) Try.underlying268 rfl (by kernel_rfl)) rfl ?_
                              exact ⟨by first | rfl | (simp [errW_none, errW_some] <;> rfl) | (simp [*, errW_none, errW_some] <;> rfl), by repeat (first | (with_reducible first | exact HB.out | apply below_alloc | apply pw_below_drewN | apply below_drew1 | refine below_set ?_ GE126.out) | exact HB.out)⟩
                            · replace c24 := Bool.eq_false_iff.mpr c24
                              subst c24
                              have H1 : (if a0 = 12 then (some (0, 0, false, false, true)) else (if a0 = 14 then (some (3, 0, true, true, false)) else (if a0 = 15 then (some (2, 1, false, false, false)) else (if a0 = 16 then (some (1, 0, false, false, true)) else (if a0 = 17 then (some (2, 0, true, false, false)) else (some ((-1), 0, false, false, false))))))) = some (r1, r2, r3, r4, r5) := by rw [if_neg (show ¬ (false = true) by decide)] at H; exact H
                              clear H
                              have H := H1
                              clear H1
                              by_cases c26 : a0 = 12
                              · rw [if_pos c26] at H
                                have c26b0 : (a0 == 12) = true := beq_iff_eq.mpr c26
                                have c26b1 : (a0 != 12) = false := bne_eq_false_iff_eq.mpr c26
                                clear c26
                                simp only [Option.some.injEq, Prod.mk.injEq] at H
                                obtain ⟨rfl, rfl, rfl, rfl, rfl⟩ := H
                                have hcz27_0 : wc.cell? ⟨gb126, 0, none⟩ = some (.int .i64 0) := (blk_cell BK126.out 0).trans rfl
                                have hcz27_1 : wc.cell? ⟨gb126, 1, none⟩ = some (.int .i64 0) := (blk_cell BK126.out 1).trans rfl
                                have hcz27_2 : wc.cell? ⟨gb126, 2, none⟩ = some (.bool false) := (blk_cell BK126.out 2).trans rfl
                                have hcz27_3 : wc.cell? ⟨gb126, 3, none⟩ = some (.bool false) := (blk_cell BK126.out 3).trans rfl
                                have hcz27_4 : wc.cell? ⟨gb126, 4, none⟩ = some (.bool false) := (blk_cell BK126.out 4).trans rfl
                                have hfz27_0 := blk_frozen BK126.out 0
                                have hfz27_1 := blk_frozen BK126.out 1
                                have hfz27_2 := blk_frozen BK126.out 2
                                have hfz27_3 := blk_frozen BK126.out 3
                                have hfz27_4 := blk_frozen BK126.out 4
                                go_wp2
                                refine bodyPost_ret (results_cell_row rfl _ _ gb126 268 #[.int .i64 0, .int .i64 0, .bool false, .bool false, .bool true] (0, 0) _ rfl (by (with_reducible repeat (first | refine blk_drewN ?_ _ | refine blk_drew ?_ | refine blk_alloc ?_ _)); refine blk_put (cs := #[.int .i64 0, .int .i64 0, .bool false, .bool false, .bool false]) ?_ 4 _ rfl; (with_reducible repeat (first | refine blk_drewN ?_ _ | refine blk_drew ?_ | refine blk_alloc ?_ _)); refine blk_put (cs := #[.int .i64 0, .int .i64 0, .bool false, .bool false, .bool false]) ?_ 3 _ rfl; (with_reducible repeat (first | refine blk_drewN ?_ _ | refine blk_drew ?_ | refine blk_alloc ?_ _)); refine blk_put (cs := #[.int .i64 0, .int .i64 0, .bool false, .bool false, .bool false]) ?_ 2 _ rfl; (with_reducible repeat (first | refine blk_drewN ?_ _ | refine blk_drew ?_ | refine blk_alloc ?_ _)); refine blk_put (cs := #[.int .i64 0, .int .i64 0, .bool false, .bool false, .bool false]) ?_ 1 _ rfl; (with_reducible repeat (first | refine blk_drewN ?_ _ | refine blk_drew ?_ | refine blk_alloc ?_ _)); refine blk_put (cs := #[.int .i64 0, .int .i64 0, .bool false, .bool false, .bool false]) ?_ 0 _ rfl; (with_reducible repeat (first | refine blk_drewN ?_ _ | refine blk_drew ?_ | refine blk_alloc ?_ _)); exact BK126.out) Try.underlying268 rfl (by kernel_rfl)) rfl ?_
                                exact ⟨by first | rfl | (simp [errW_none, errW_some] <;> rfl) | (simp [*, errW_none, errW_some] <;> rfl), by repeat (first | (with_reducible first | exact HB.out | apply below_alloc | apply pw_below_drewN | apply below_drew1 | refine below_set ?_ GE126.out) | exact HB.out)⟩
                              · rw [if_neg c26] at H
                                have c26b0 : (a0 == 12) = false := beq_eq_false_iff_ne.mpr c26
                                have c26b1 : (a0 != 12) = true := bne_iff_ne.mpr c26
                                by_cases c28 : a0 = 14
                                · rw [if_pos c28] at H
                                  have c28b0 : (a0 == 14) = true := beq_iff_eq.mpr c28
                                  have c28b1 : (a0 != 14) = false := bne_eq_false_iff_eq.mpr c28
                                  clear c28
                                  simp only [Option.some.injEq, Prod.mk.injEq] at H
                                  obtain ⟨rfl, rfl, rfl, rfl, rfl⟩ := H
                                  have hcz29_0 : wc.cell? ⟨gb126, 0, none⟩ = some (.int .i64 0) := (blk_cell BK126.out 0).trans rfl
                                  have hcz29_1 : wc.cell? ⟨gb126, 1, none⟩ = some (.int .i64 0) := (blk_cell BK126.out 1).trans rfl
                                  have hcz29_2 : wc.cell? ⟨gb126, 2, none⟩ = some (.bool false) := (blk_cell BK126.out 2).trans rfl
                                  have hcz29_3 : wc.cell? ⟨gb126, 3, none⟩ = some (.bool false) := (blk_cell BK126.out 3).trans rfl
                                  have hcz29_4 : wc.cell? ⟨gb126, 4, none⟩ = some (.bool false) := (blk_cell BK126.out 4).trans rfl
                                  have hfz29_0 := blk_frozen BK126.out 0
                                  have hfz29_1 := blk_frozen BK126.out 1
                                  have hfz29_2 := blk_frozen BK126.out 2
                                  have hfz29_3 := blk_frozen BK126.out 3
                                  have hfz29_4 := blk_frozen BK126.out 4
                                  go_wp2
                                  refine bodyPost_ret (results_cell_row rfl _ _ gb126 268 #[.int .i64 3, .int .i64 0, .bool true, .bool true, .bool false] (0, 0) _ rfl (by (with_reducible repeat (first | refine blk_drewN ?_ _ | refine blk_drew ?_ | refine blk_alloc ?_ _)); refine blk_put (cs := #[.int .i64 3, .int .i64 0, .bool true, .bool true, .bool false]) ?_ 4 _ rfl; (with_reducible repeat (first | refine blk_drewN ?_ _ | refine blk_drew ?_ | refine blk_alloc ?_ _)); refine blk_put (cs := #[.int .i64 3, .int .i64 0, .bool true, .bool false, .bool false]) ?_ 3 _ rfl; (with_reducible repeat (first | refine blk_drewN ?_ _ | refine blk_drew ?_ | refine blk_alloc ?_ _)); refine blk_put (cs := #[.int .i64 3, .int .i64 0, .bool false, .bool false, .bool false]) ?_ 2 _ rfl; (with_reducible repeat (first | refine blk_drewN ?_ _ | refine blk_drew ?_ | refine blk_alloc ?_ _)); refine blk_put (cs := #[.int .i64 3, .int .i64 0, .bool false, .bool false, .bool false]) ?_ 1 _ rfl; (with_reducible repeat (first | refine blk_drewN ?_ _ | refine blk_drew ?_ | refine blk_alloc ?_ _)); refine blk_put (cs := #[.int .i64 0, .int .i64 0, .bool false, .bool false, .bool false]) ?_ 0 _ rfl; (with_reducible repeat (first | refine blk_drewN ?_ _ | refine blk_drew ?_ | refine blk_alloc ?_ _)); exact BK126.out) Try.underlying268 rfl (by kernel_rfl)) rfl ?_
                                  exact ⟨by first | rfl | (simp [errW_none, errW_some] <;> rfl) | (simp [*, errW_none, errW_some] <;> rfl), by repeat (first | (with_reducible first | exact HB.out | apply below_alloc | apply pw_below_drewN | apply below_drew1 | refine below_set ?_ GE126.out) | exact HB.out)⟩
                                · rw [if_neg c28] at H
                                  have c28b0 : (a0 == 14) = false := beq_eq_false_iff_ne.mpr c28
                                  have c28b1 : (a0 != 14) = true := bne_iff_ne.mpr c28
                                  by_cases c30 : a0 = 15
                                  · rw [if_pos c30] at H
                                    have c30b0 : (a0 == 15) = true := beq_iff_eq.mpr c30
                                    have c30b1 : (a0 != 15) = false := bne_eq_false_iff_eq.mpr c30
                                    clear c30
                                    simp only [Option.some.injEq, Prod.mk.injEq] at H
                                    obtain ⟨rfl, rfl, rfl, rfl, rfl⟩ := H
                                    have hcz31_0 : wc.cell? ⟨gb126, 0, none⟩ = some (.int .i64 0) := (blk_cell BK126.out 0).trans rfl
                                    have hcz31_1 : wc.cell? ⟨gb126, 1, none⟩ = some (.int .i64 0) := (blk_cell BK126.out 1).trans rfl
                                    have hcz31_2 : wc.cell? ⟨gb126, 2, none⟩ = some (.bool false) := (blk_cell BK126.out 2).trans rfl
                                    have hcz31_3 : wc.cell? ⟨gb126, 3, none⟩ = some (.bool false) := (blk_cell BK126.out 3).trans rfl
                                    have hcz31_4 : wc.cell? ⟨gb126, 4, none⟩ = some (.bool false) := (blk_cell BK126.out 4).trans rfl
                                    have hfz31_0 := blk_frozen BK126.out 0
                                    have hfz31_1 := blk_frozen BK126.out 1
                                    have hfz31_2 := blk_frozen BK126.out 2
                                    have hfz31_3 := blk_frozen BK126.out 3
                                    have hfz31_4 := blk_frozen BK126.out 4
                                    go_wp2
                                    refine bodyPost_ret (results_cell_row rfl _ _ gb126 268 #[.int .i64 2, .int .i64 1, .bool false, .bool false, .bool false] (0, 0) _ rfl (by (with_reducible repeat (first | refine blk_drewN ?_ _ | refine blk_drew ?_ | refine blk_alloc ?_ _)); refine blk_put (cs := #[.int .i64 2, .int .i64 1, .bool false, .bool false, .bool false]) ?_ 4 _ rfl; (with_reducible repeat (first | refine blk_drewN ?_ _ | refine blk_drew ?_ | refine blk_alloc ?_ _)); refine blk_put (cs := #[.int .i64 2, .int .i64 1, .bool false, .bool false, .bool false]) ?_ 3 _ rfl; (with_reducible repeat (first | refine blk_drewN ?_ _ | refine blk_drew ?_ | refine blk_alloc ?_ _)); refine blk_put (cs := #[.int .i64 2, .int .i64 1, .bool false, .bool false, .bool false]) ?_ 2 _ rfl; (with_reducible repeat (first | refine blk_drewN ?_ _ | refine blk_drew ?_ | refine blk_alloc ?_ _)); refine blk_put (cs := #[.int .i64 2, .int .i64 0, .bool false, .bool false, .bool false]) ?_ 1 _ rfl; (with_reducible repeat (first | refine blk_drewN ?_ _ | refine blk_drew ?_ | refine blk_alloc ?_ _)); refine blk_put (cs := #[.int .i64 0, .int .i64 0, .bool false, .bool false, .bool false]) ?_ 0 _ rfl; (with_reducible repeat (first | refine blk_drewN ?_ _ | refine blk_drew ?_ | refine blk_alloc ?_ _)); exact BK126.out) Try.underlying268 rfl (by kernel_rfl)) rfl ?_
                                    exact ⟨by first | rfl | (simp [errW_none, errW_some] <;> rfl) | (simp [*, errW_none, errW_some] <;> rfl), by repeat (first | (with_reducible first | exact HB.out | apply below_alloc | apply pw_below_drewN | apply below_drew1 | refine below_set ?_ GE126.out) | exact HB.out)⟩
                                  · rw [if_neg c30] at H
                                    have c30b0 : (a0 == 15) = false := beq_eq_false_iff_ne.mpr c30
                                    have c30b1 : (a0 != 15) = true := bne_iff_ne.mpr c30
                                    by_cases c32 : a0 = 16
                                    · rw [if_pos c32] at H
                                      have c32b0 : (a0 == 16) = true := beq_iff_eq.mpr c32
                                      have c32b1 : (a0 != 16) = false := bne_eq_false_iff_eq.mpr c32
                                      clear c32
                                      simp only [Option.some.injEq, Prod.mk.injEq] at H
                                      obtain ⟨rfl, rfl, rfl, rfl, rfl⟩ := H
                                      have hcz33_0 : wc.cell? ⟨gb126, 0, none⟩ = some (.int .i64 0) := (blk_cell BK126.out 0).trans rfl
                                      have hcz33_1 : wc.cell? ⟨gb126, 1, none⟩ = some (.int .i64 0) := (blk_cell BK126.out 1).trans rfl
                                      have hcz33_2 : wc.cell? ⟨gb126, 2, none⟩ = some (.bool false) := (blk_cell BK126.out 2).trans rfl
                                      have hcz33_3 : wc.cell? ⟨gb126, 3, none⟩ = some (.bool false) := (blk_cell BK126.out 3).trans rfl
                                      have hcz33_4 : wc.cell? ⟨gb126, 4, none⟩ = some (.bool false) := (blk_cell BK126.out 4).trans rfl
                                      have hfz33_0 := blk_frozen BK126.out 0
                                      have hfz33_1 := blk_frozen BK126.out 1
                                      have hfz33_2 := blk_frozen BK126.out 2
                                      have hfz33_3 := blk_frozen BK126.out 3
                                      have hfz33_4 := blk_frozen BK126.out 4
                                      go_wp2
                                      refine bodyPost_ret (results_cell_row rfl _ _ gb126 268 #[.int .i64 1, .int .i64 0, .bool false, .bool false, .bool true] (0, 0) _ rfl (by (with_reducible repeat (first | refine blk_drewN ?_ _ | refine blk_drew ?_ | refine blk_alloc ?_ _)); refine blk_put (cs := #[.int .i64 1, .int .i64 0, .bool false, .bool false, .bool false]) ?_ 4 _ rfl; (with_reducible repeat (first | refine blk_drewN ?_ _ | refine blk_drew ?_ | refine blk_alloc ?_ _)); refine blk_put (cs := #[.int .i64 1, .int .i64 0, .bool false, .bool false, .bool false]) ?_ 3 _ rfl; (with_reducible repeat (first | refine blk_drewN ?_ _ | refine blk_drew ?_ | refine blk_alloc ?_ _)); refine blk_put (cs := #[.int .i64 1, .int .i64 0, .bool false, .bool false, .bool false]) ?_ 2 _ rfl; (with_reducible repeat (first | refine blk_drewN ?_ _ | refine blk_drew ?_ | refine blk_alloc ?_ _)); refine blk_put (cs := #[.int .i64 1, .int .i64 0, .bool false, .bool false, .bool false]) ?_ 1 _ rfl; (with_reducible repeat (first | refine blk_drewN ?_ _ | refine blk_drew ?_ | refine blk_alloc ?_ _)); refine blk_put (cs := #[.int .i64 0, .int .i64 0, .bool false, .bool false, .bool false]) ?_ 0 _ rfl; (with_reducible repeat (first | refine blk_drewN ?_ _ | refine blk_drew ?_ | refine blk_alloc ?_ _)); exact BK126.out) Try.underlying268 rfl (by kernel_rfl)) rfl ?_
                                      exact ⟨by first | rfl | (simp [errW_none, errW_some] <;> rfl) | (simp [*, errW_none, errW_some] <;> rfl), by repeat (first | (with_reducible first | exact HB.out | apply below_alloc | apply pw_below_drewN | apply below_drew1 | refine below_set ?_ GE126.out) | exact HB.out)⟩
                                    · rw [if_neg c32] at H
                                      have c32b0 : (a0 == 16) = false := beq_eq_false_iff_ne.mpr c32
                                      have c32b1 : (a0 != 16) = true := bne_iff_ne.mpr c32
                                      by_cases c34 : a0 = 17
                                      · rw [if_pos c34] at H
                                        have c34b0 : (a0 == 17) = true := beq_iff_eq.mpr c34
                                        have c34b1 : (a0 != 17) = false := bne_eq_false_iff_eq.mpr c34
                                        clear c34
                                        simp only [Option.some.injEq, Prod.mk.injEq] at H
                                        obtain ⟨rfl, rfl, rfl, rfl, rfl⟩ := H
                                        have hcz35_0 : wc.cell? ⟨gb126, 0, none⟩ = some (.int .i64 0) := (blk_cell BK126.out 0).trans rfl
                                        have hcz35_1 : wc.cell? ⟨gb126, 1, none⟩ = some (.int .i64 0) := (blk_cell BK126.out 1).trans rfl
                                        have hcz35_2 : wc.cell? ⟨gb126, 2, none⟩ = some (.bool false) := (blk_cell BK126.out 2).trans rfl
                                        have hcz35_3 : wc.cell? ⟨gb126, 3, none⟩ = some (.bool false) := (blk_cell BK126.out 3).trans rfl
                                        have hcz35_4 : wc.cell? ⟨gb126, 4, none⟩ = some (.bool false) := (blk_cell BK126.out 4).trans rfl
                                        have hfz35_0 := blk_frozen BK126.out 0
                                        have hfz35_1 := blk_frozen BK126.out 1
                                        have hfz35_2 := blk_frozen BK126.out 2
                                        have hfz35_3 := blk_frozen BK126.out 3
                                        have hfz35_4 := blk_frozen BK126.out 4
                                        go_wp2
                                        refine bodyPost_ret (results_cell_row rfl _ _ gb126 268 #[.int .i64 2, .int .i64 0, .bool true, .bool false, .bool false] (0, 0) _ rfl (by (with_reducible repeat (first | refine blk_drewN ?_ _ | refine blk_drew ?_ | refine blk_alloc ?_ _)); refine blk_put (cs := #[.int .i64 2, .int .i64 0, .bool true, .bool false, .bool false]) ?_ 4 _ rfl; (with_reducible repeat (first | refine blk_drewN ?_ _ | refine blk_drew ?_ | refine blk_alloc ?_ _)); refine blk_put (cs := #[.int .i64 2, .int .i64 0, .bool true, .bool false, .bool false]) ?_ 3 _ rfl; (with_reducible repeat (first | refine blk_drewN ?_ _ | refine blk_drew ?_ | refine blk_alloc ?_ _)); refine blk_put (cs := #[.int .i64 2, .int .i64 0, .bool false, .bool false, .bool false]) ?_ 2 _ rfl; (with_reducible repeat (first | refine blk_drewN ?_ _ | refine blk_drew ?_ | refine blk_alloc ?_ _)); refine blk_put (cs := #[.int .i64 2, .int .i64 0, .bool false, .bool false, .bool false]) ?_ 1 _ rfl; (with_reducible repeat (first | refine blk_drewN ?_ _ | refine blk_drew ?_ | refine blk_alloc ?_ _)); refine blk_put (cs := #[.int .i64 0, .int .i64 0, .bool false, .bool false, .bool false]) ?_ 0 _ rfl; (with_reducible repeat (first | refine blk_drewN ?_ _ | refine blk_drew ?_ | refine blk_alloc ?_ _)); exact BK126.out) Try.underlying268 rfl (by kernel_rfl)) rfl ?_
                                        exact ⟨by first | rfl | (simp [errW_none, errW_some] <;> rfl) | (simp [*, errW_none, errW_some] <;> rfl), by repeat (first | (with_reducible first | exact HB.out | apply below_alloc | apply pw_below_drewN | apply below_drew1 | refine below_set ?_ GE126.out) | exact HB.out)⟩
                                      · rw [if_neg c34] at H
                                        have c34b0 : (a0 == 17) = false := beq_eq_false_iff_ne.mpr c34
                                        have c34b1 : (a0 != 17) = true := bne_iff_ne.mpr c34
                                        simp only [Option.some.injEq, Prod.mk.injEq] at H
                                        obtain ⟨rfl, rfl, rfl, rfl, rfl⟩ := H
                                        have hcz36_0 : wc.cell? ⟨gb126, 0, none⟩ = some (.int .i64 0) := (blk_cell BK126.out 0).trans rfl
                                        have hcz36_1 : wc.cell? ⟨gb126, 1, none⟩ = some (.int .i64 0) := (blk_cell BK126.out 1).trans rfl
                                        have hcz36_2 : wc.cell? ⟨gb126, 2, none⟩ = some (.bool false) := (blk_cell BK126.out 2).trans rfl
                                        have hcz36_3 : wc.cell? ⟨gb126, 3, none⟩ = some (.bool false) := (blk_cell BK126.out 3).trans rfl
                                        have hcz36_4 : wc.cell? ⟨gb126, 4, none⟩ = some (.bool false) := (blk_cell BK126.out 4).trans rfl
                                        have hfz36_0 := blk_frozen BK126.out 0
                                        have hfz36_1 := blk_frozen BK126.out 1
                                        have hfz36_2 := blk_frozen BK126.out 2
                                        have hfz36_3 := blk_frozen BK126.out 3
                                        have hfz36_4 := blk_frozen BK126.out 4
                                        go_wp2
                                        refine bodyPost_ret (results_cell_row rfl _ _ gb126 268 #[.int .i64 (-1), .int .i64 0, .bool false, .bool false, .bool false] (0, 0) _ rfl (by (with_reducible repeat (first | refine blk_drewN ?_ _ | refine blk_drew ?_ | refine blk_alloc ?_ _)); refine blk_put (cs := #[.int .i64 (-1), .int .i64 0, .bool false, .bool false, .bool false]) ?_ 4 _ rfl; (with_reducible repeat (first | refine blk_drewN ?_ _ | refine blk_drew ?_ | refine blk_alloc ?_ _)); refine blk_put (cs := #[.int .i64 (-1), .int .i64 0, .bool false, .bool false, .bool false]) ?_ 3 _ rfl; (with_reducible repeat (first | refine blk_drewN ?_ _ | refine blk_drew ?_ | refine blk_alloc ?_ _)); refine blk_put (cs := #[.int .i64 (-1), .int .i64 0, .bool false, .bool false, .bool false]) ?_ 2 _ rfl; (with_reducible repeat (first | refine blk_drewN ?_ _ | refine blk_drew ?_ | refine blk_alloc ?_ _)); refine blk_put (cs := #[.int .i64 (-1), .int .i64 0, .bool false, .bool false, .bool false]) ?_ 1 _ rfl; (with_reducible repeat (first | refine blk_drewN ?_ _ | refine blk_drew ?_ | refine blk_alloc ?_ _)); refine blk_put (cs := #[.int .i64 0, .int .i64 0, .bool false, .bool false, .bool false]) ?_ 0 _ rfl; (with_reducible repeat (first | refine blk_drewN ?_ _ | refine blk_drew ?_ | refine blk_alloc ?_ _)); exact BK126.out) Try.underlying268 rfl (by kernel_rfl)) rfl ?_
                                        exact ⟨by first | rfl | (simp [errW_none, errW_some] <;> rfl) | (simp [*, errW_none, errW_some] <;> rfl), by repeat (first | (with_reducible first | exact HB.out | apply below_alloc | apply pw_below_drewN | apply below_drew1 | refine below_set ?_ GE126.out) | exact HB.out)⟩
end Go.Proofs.Ytddacgfnhoboaaa.OFnExactUsesOf
