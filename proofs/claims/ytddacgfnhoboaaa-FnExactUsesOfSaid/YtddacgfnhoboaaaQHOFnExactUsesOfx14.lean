-- written by wip/tools/prune.py: what this claim reaches of the print's and our texts
import Derived.Test.YtddacgfnhoboaaaQHOFnExactUsesOfx0
import Derived.Test.YtddacgfnhoboaaaQHOFnExactUsesOfx13
namespace Go.Proofs.Ytddacgfnhoboaaa.OFnExactUsesOf
open Go.RowKit Go.Proofs.YtddacgfnhoboaaaW.PrintWords Go.Proofs.YtddacgfnhoboaaaW.PrintLast Go.Proofs.YtddacgfnhoboaaaW.PrintMore
attribute [local go_sem] max2_int min2_int max_two min_two max_three min_three max_four min_four   -- for this text's walks alone
set_option linter.unusedVariables false
set_option linter.unusedSimpArgs false
def impl_boundIn.j0 : Nat → Int → Bool → Int → Int → ByteArray → ByteArray → Int → Int → List (S32) → List (S32) → List (S35) → Option (List ByteArray)
  | 0, _, _, _, _, _, _, _, _, _, _, _ => none
  | k + 1, x1, x5, x249000, x249001, x249002, x249003, x249004, x249005, x249006, x249007, x249008 => if x5 = true then (some (([x249002] : List ByteArray))) else (if x249000 = 14 then (if x1 = 2 then (some (([x249002, x249003] : List ByteArray))) else (some ([] : List ByteArray))) else (some ([] : List ByteArray)))
def impl_boundIn.f (k : Nat) (a0_0 : Int) (a0_1 : Int) (a0_2 : ByteArray) (a0_3 : ByteArray) (a0_4 : Int) (a0_5 : Int) (l0_6 : List (S32)) (l0_7 : List (S32)) (l0_8 : List (S35)) (a1 : Int) : Option (List ByteArray) := if a0_0 = 4 then (impl_boundIn.j0 k a1 true a0_0 a0_1 a0_2 a0_3 a0_4 a0_5 l0_6 l0_7 l0_8) else (if a0_0 = 7 then (impl_boundIn.j0 k a1 true a0_0 a0_1 a0_2 a0_3 a0_4 a0_5 l0_6 l0_7 l0_8) else (if a0_0 = 6 then (impl_boundIn.j0 k a1 (a1 == 1) a0_0 a0_1 a0_2 a0_3 a0_4 a0_5 l0_6 l0_7 l0_8) else (if a0_0 = 17 then (impl_boundIn.j0 k a1 (a1 == 1) a0_0 a0_1 a0_2 a0_3 a0_4 a0_5 l0_6 l0_7 l0_8) else (impl_boundIn.j0 k a1 false a0_0 a0_1 a0_2 a0_3 a0_4 a0_5 l0_6 l0_7 l0_8))))
set_option maxHeartbeats 8000000 in
set_option maxRecDepth 100000 in
theorem impl_boundIn.calls (k : Nat) (a0_0 : Int) (a0_1 : Int) (a0_2 : ByteArray) (a0_3 : ByteArray) (a0_4 : Int) (a0_5 : Int) (A0_6 : Option Addr) (c0_6 : Nat) (l0_6 : List (S32)) (A0_7 : Option Addr) (c0_7 : Nat) (l0_7 : List (S32)) (A0_8 : Option Addr) (c0_8 : Nat) (l0_8 : List (S35)) (a1 : Int) (r : List ByteArray) (w : World) (hr0_6 : Kd.C k32 w A0_6 l0_6.length l0_6) (hc0_6 : l0_6.length ≤ c0_6) (hr0_7 : Kd.C k32 w A0_7 l0_7.length l0_7) (hc0_7 : l0_7.length ≤ c0_7) (hr0_8 : Kd.C k35 w A0_8 l0_8.length l0_8) (hc0_8 : l0_8.length ≤ c0_8) (h : impl_boundIn.f k a0_0 a0_1 a0_2 a0_3 a0_4 a0_5 l0_6 l0_7 l0_8 a1 = some r) :
    Calls Try.prog 146 #[.agg #[.int .i64 a0_0, .int .i64 a0_1, .string a0_2, .string a0_3, .int .i64 a0_4, .int .i64 a0_5, .slice A0_6 l0_6.length c0_6, .slice A0_7 l0_7.length c0_7, .slice A0_8 l0_8.length c0_8], .int .i64 a1] w fun e w' => ∃ v0_ : Value, e = .returned (v0_) ∧ Kd.R Kd.string 9 w' w.heap.size (fun _ => True) v0_ r ∧ Below w.heap.size w w' := by
  have hu35 := Try.underlying35
  have HR0_6 := Aside0.mk hr0_6
  have HC0_6 := Aside0.mk hc0_6
  clear hr0_6 hc0_6
  have HR0_7 := Aside0.mk hr0_7
  have HC0_7 := Aside0.mk hc0_7
  clear hr0_7 hc0_7
  have HR0_8 := Aside0.mk hr0_8
  have HC0_8 := Aside0.mk hc0_8
  clear hr0_8 hc0_8
  have HB := Aside0.mk (Below.refl w.heap.size w)
  have H : (if a0_0 = 4 then (impl_boundIn.j0 k a1 true a0_0 a0_1 a0_2 a0_3 a0_4 a0_5 l0_6 l0_7 l0_8) else (if a0_0 = 7 then (impl_boundIn.j0 k a1 true a0_0 a0_1 a0_2 a0_3 a0_4 a0_5 l0_6 l0_7 l0_8) else (if a0_0 = 6 then (impl_boundIn.j0 k a1 (a1 == 1) a0_0 a0_1 a0_2 a0_3 a0_4 a0_5 l0_6 l0_7 l0_8) else (if a0_0 = 17 then (impl_boundIn.j0 k a1 (a1 == 1) a0_0 a0_1 a0_2 a0_3 a0_4 a0_5 l0_6 l0_7 l0_8) else (impl_boundIn.j0 k a1 false a0_0 a0_1 a0_2 a0_3 a0_4 a0_5 l0_6 l0_7 l0_8))))) = some r := h
  clear h
  have HC3 := Aside0.mk H
  clear H
  go_enter Try.func146, Try.ntmps146
  go_upto_region 1 with (first | ((with_reducible refine gate_dst (N := 2) rfl ?_); refine box_event ?hg (N := 2) ?hd (cs := #[.int .i64 a0_0, .int .i64 a0_1, .string a0_2, .string a0_3, .int .i64 a0_4, .int .i64 a0_5, .slice A0_6 l0_6.length c0_6, .slice A0_7 l0_7.length c0_7, .slice A0_8 l0_8.length c0_8]) (t := 35) ?hr ?_; (case hd => rfl); (case hg => rfl); (case hr => first | (go_simp; done) | (go_simp; rfl)); intro gb248 hg w4 hbox hb; have n0_ := Aside0.mk (below_step (by repeat (first | (with_reducible first | exact HB.out | apply below_alloc | apply pw_below_drewN | apply below_drew1) | exact HB.out)) hb); have n1_ := Aside0.mk (hbox); have n2_ := Aside0.mk ((by rw [hg]; exact (below_size (by repeat (first | (with_reducible first | exact HB.out | apply below_alloc | apply pw_below_drewN | apply below_drew1) | exact HB.out))) : w.heap.size ≤ gb248)); have n3_ := Aside0.mk ((by rw [hg]; exact (below_size (by repeat (first | (with_reducible first | exact HB.out | apply below_alloc | apply pw_below_drewN | apply below_drew1) | exact HB.out))) : w.heap.size ≤ gb248)); clear HB; have HB := n0_; have BK248 := n1_; have GW248 := n2_; have GE248 := n3_; clear n0_ n1_ n2_ n3_; clear hb hbox hg))
  (try simp only [Act.put, List.setIfInBounds_toArray, List.set_cons_zero, List.set_cons_succ])
  go_cut [5] (fun v5 wc => ∃ (kq : Nat) (x5_2 : Bool), v5 = .bool x5_2 ∧ Aside0 (impl_boundIn.j0 kq a1 x5_2 a0_0 a0_1 a0_2 a0_3 a0_4 a0_5 l0_6 l0_7 l0_8 = some r) ∧ Aside0 (kq ≤ k) ∧ Aside0 (wc.heap[gb248]? = some (.cells #[.int .i64 a0_0, .int .i64 a0_1, .string a0_2, .string a0_3, .int .i64 a0_4, .int .i64 a0_5, (.slice A0_6 l0_6.length c0_6), (.slice A0_7 l0_7.length c0_7), (.slice A0_8 l0_8.length c0_8)] 35 (0, 0))) ∧ Aside0 (Below w.heap.size w wc))
  case first =>
    have H := HC3.out
    clear HC3
    by_cases c5 : a0_0 = 4
    · rw [if_pos c5] at H
      have c5b0 : (a0_0 == 4) = true := beq_iff_eq.mpr c5
      have c5b1 : (a0_0 != 4) = false := bne_eq_false_iff_eq.mpr c5
      clear c5
      (first | rw [c5b0] | (simp only [i64_w, i32_w]; rw [c5b0]) | skip)
      have H' := Aside0.mk H
      clear H
      have hcz6_0 : w4.cell? ⟨gb248, 0, none⟩ = some (.int .i64 a0_0) := (blk_cell BK248.out 0).trans rfl
      have hcz6_1 : w4.cell? ⟨gb248, 1, none⟩ = some (.int .i64 a0_1) := (blk_cell BK248.out 1).trans rfl
      have hcz6_2 : w4.cell? ⟨gb248, 2, none⟩ = some (.string a0_2) := (blk_cell BK248.out 2).trans rfl
      have hcz6_3 : w4.cell? ⟨gb248, 3, none⟩ = some (.string a0_3) := (blk_cell BK248.out 3).trans rfl
      have hcz6_4 : w4.cell? ⟨gb248, 4, none⟩ = some (.int .i64 a0_4) := (blk_cell BK248.out 4).trans rfl
      have hcz6_5 : w4.cell? ⟨gb248, 5, none⟩ = some (.int .i64 a0_5) := (blk_cell BK248.out 5).trans rfl
      have hcz6_6 : w4.cell? ⟨gb248, 6, none⟩ = some (.slice A0_6 l0_6.length c0_6) := (blk_cell BK248.out 6).trans rfl
      have hcz6_7 : w4.cell? ⟨gb248, 7, none⟩ = some (.slice A0_7 l0_7.length c0_7) := (blk_cell BK248.out 7).trans rfl
      have hcz6_8 : w4.cell? ⟨gb248, 8, none⟩ = some (.slice A0_8 l0_8.length c0_8) := (blk_cell BK248.out 8).trans rfl
      have hfz6_0 := blk_frozen BK248.out 0
      have hfz6_1 := blk_frozen BK248.out 1
      have hfz6_2 := blk_frozen BK248.out 2
      have hfz6_3 := blk_frozen BK248.out 3
      have hfz6_4 := blk_frozen BK248.out 4
      have hfz6_5 := blk_frozen BK248.out 5
      have hfz6_6 := blk_frozen BK248.out 6
      have hfz6_7 := blk_frozen BK248.out 7
      have hfz6_8 := blk_frozen BK248.out 8
      go_wp2
      go_meet
      case rel => exact ⟨_, (true), (by first | rfl | (simp; done) | (simp [*]; done)), H', ⟨by first | omega | exact Nat.le_refl _⟩, ⟨by (with_reducible repeat (first | refine blk_drewN ?_ _ | refine blk_drew ?_ | refine blk_alloc ?_ _)); exact BK248.out⟩, ⟨by repeat (first | (with_reducible first | exact HB.out | apply below_alloc | apply pw_below_drewN | apply below_drew1 | refine below_set ?_ GE248.out) | exact HB.out)⟩⟩
    · rw [if_neg c5] at H
      have c5b0 : (a0_0 == 4) = false := beq_eq_false_iff_ne.mpr c5
      have c5b1 : (a0_0 != 4) = true := bne_iff_ne.mpr c5
      (first | rw [c5b0] | (simp only [i64_w, i32_w]; rw [c5b0]) | skip)
      by_cases c7 : a0_0 = 7
      · rw [if_pos c7] at H
        have c7b0 : (a0_0 == 7) = true := beq_iff_eq.mpr c7
        have c7b1 : (a0_0 != 7) = false := bne_eq_false_iff_eq.mpr c7
        clear c7
        have H' := Aside0.mk H
        clear H
        have hcz8_0 : w4.cell? ⟨gb248, 0, none⟩ = some (.int .i64 a0_0) := (blk_cell BK248.out 0).trans rfl
        have hcz8_1 : w4.cell? ⟨gb248, 1, none⟩ = some (.int .i64 a0_1) := (blk_cell BK248.out 1).trans rfl
        have hcz8_2 : w4.cell? ⟨gb248, 2, none⟩ = some (.string a0_2) := (blk_cell BK248.out 2).trans rfl
        have hcz8_3 : w4.cell? ⟨gb248, 3, none⟩ = some (.string a0_3) := (blk_cell BK248.out 3).trans rfl
        have hcz8_4 : w4.cell? ⟨gb248, 4, none⟩ = some (.int .i64 a0_4) := (blk_cell BK248.out 4).trans rfl
        have hcz8_5 : w4.cell? ⟨gb248, 5, none⟩ = some (.int .i64 a0_5) := (blk_cell BK248.out 5).trans rfl
        have hcz8_6 : w4.cell? ⟨gb248, 6, none⟩ = some (.slice A0_6 l0_6.length c0_6) := (blk_cell BK248.out 6).trans rfl
        have hcz8_7 : w4.cell? ⟨gb248, 7, none⟩ = some (.slice A0_7 l0_7.length c0_7) := (blk_cell BK248.out 7).trans rfl
        have hcz8_8 : w4.cell? ⟨gb248, 8, none⟩ = some (.slice A0_8 l0_8.length c0_8) := (blk_cell BK248.out 8).trans rfl
        have hfz8_0 := blk_frozen BK248.out 0
        have hfz8_1 := blk_frozen BK248.out 1
        have hfz8_2 := blk_frozen BK248.out 2
        have hfz8_3 := blk_frozen BK248.out 3
        have hfz8_4 := blk_frozen BK248.out 4
        have hfz8_5 := blk_frozen BK248.out 5
        have hfz8_6 := blk_frozen BK248.out 6
        have hfz8_7 := blk_frozen BK248.out 7
        have hfz8_8 := blk_frozen BK248.out 8
        go_wp2
        go_meet
        case rel => exact ⟨_, (true), (by first | rfl | (simp; done) | (simp [*]; done)), H', ⟨by first | omega | exact Nat.le_refl _⟩, ⟨by (with_reducible repeat (first | refine blk_drewN ?_ _ | refine blk_drew ?_ | refine blk_alloc ?_ _)); exact BK248.out⟩, ⟨by repeat (first | (with_reducible first | exact HB.out | apply below_alloc | apply pw_below_drewN | apply below_drew1 | refine below_set ?_ GE248.out) | exact HB.out)⟩⟩
      · rw [if_neg c7] at H
        have c7b0 : (a0_0 == 7) = false := beq_eq_false_iff_ne.mpr c7
        have c7b1 : (a0_0 != 7) = true := bne_iff_ne.mpr c7
        by_cases c9 : a0_0 = 6
        · rw [if_pos c9] at H
          have c9b0 : (a0_0 == 6) = true := beq_iff_eq.mpr c9
          have c9b1 : (a0_0 != 6) = false := bne_eq_false_iff_eq.mpr c9
          clear c9
          have H' := Aside0.mk H
          clear H
          have hcz10_0 : w4.cell? ⟨gb248, 0, none⟩ = some (.int .i64 a0_0) := (blk_cell BK248.out 0).trans rfl
          have hcz10_1 : w4.cell? ⟨gb248, 1, none⟩ = some (.int .i64 a0_1) := (blk_cell BK248.out 1).trans rfl
          have hcz10_2 : w4.cell? ⟨gb248, 2, none⟩ = some (.string a0_2) := (blk_cell BK248.out 2).trans rfl
          have hcz10_3 : w4.cell? ⟨gb248, 3, none⟩ = some (.string a0_3) := (blk_cell BK248.out 3).trans rfl
          have hcz10_4 : w4.cell? ⟨gb248, 4, none⟩ = some (.int .i64 a0_4) := (blk_cell BK248.out 4).trans rfl
          have hcz10_5 : w4.cell? ⟨gb248, 5, none⟩ = some (.int .i64 a0_5) := (blk_cell BK248.out 5).trans rfl
          have hcz10_6 : w4.cell? ⟨gb248, 6, none⟩ = some (.slice A0_6 l0_6.length c0_6) := (blk_cell BK248.out 6).trans rfl
          have hcz10_7 : w4.cell? ⟨gb248, 7, none⟩ = some (.slice A0_7 l0_7.length c0_7) := (blk_cell BK248.out 7).trans rfl
          have hcz10_8 : w4.cell? ⟨gb248, 8, none⟩ = some (.slice A0_8 l0_8.length c0_8) := (blk_cell BK248.out 8).trans rfl
          have hfz10_0 := blk_frozen BK248.out 0
          have hfz10_1 := blk_frozen BK248.out 1
          have hfz10_2 := blk_frozen BK248.out 2
          have hfz10_3 := blk_frozen BK248.out 3
          have hfz10_4 := blk_frozen BK248.out 4
          have hfz10_5 := blk_frozen BK248.out 5
          have hfz10_6 := blk_frozen BK248.out 6
          have hfz10_7 := blk_frozen BK248.out 7
          have hfz10_8 := blk_frozen BK248.out 8
          go_wp2
          go_meet
          case rel => exact ⟨_, ((a1 == 1)), (by first | rfl | (simp; done) | (simp [*]; done)), H', ⟨by first | omega | exact Nat.le_refl _⟩, ⟨by (with_reducible repeat (first | refine blk_drewN ?_ _ | refine blk_drew ?_ | refine blk_alloc ?_ _)); exact BK248.out⟩, ⟨by repeat (first | (with_reducible first | exact HB.out | apply below_alloc | apply pw_below_drewN | apply below_drew1 | refine below_set ?_ GE248.out) | exact HB.out)⟩⟩
        · rw [if_neg c9] at H
          have c9b0 : (a0_0 == 6) = false := beq_eq_false_iff_ne.mpr c9
          have c9b1 : (a0_0 != 6) = true := bne_iff_ne.mpr c9
          by_cases c11 : a0_0 = 17
          · rw [if_pos c11] at H
            have c11b0 : (a0_0 == 17) = true := beq_iff_eq.mpr c11
            have c11b1 : (a0_0 != 17) = false := bne_eq_false_iff_eq.mpr c11
            clear c11
            have H' := Aside0.mk H
            clear H
            have hcz12_0 : w4.cell? ⟨gb248, 0, none⟩ = some (.int .i64 a0_0) := (blk_cell BK248.out 0).trans rfl
            have hcz12_1 : w4.cell? ⟨gb248, 1, none⟩ = some (.int .i64 a0_1) := (blk_cell BK248.out 1).trans rfl
            have hcz12_2 : w4.cell? ⟨gb248, 2, none⟩ = some (.string a0_2) := (blk_cell BK248.out 2).trans rfl
            have hcz12_3 : w4.cell? ⟨gb248, 3, none⟩ = some (.string a0_3) := (blk_cell BK248.out 3).trans rfl
            have hcz12_4 : w4.cell? ⟨gb248, 4, none⟩ = some (.int .i64 a0_4) := (blk_cell BK248.out 4).trans rfl
            have hcz12_5 : w4.cell? ⟨gb248, 5, none⟩ = some (.int .i64 a0_5) := (blk_cell BK248.out 5).trans rfl
            have hcz12_6 : w4.cell? ⟨gb248, 6, none⟩ = some (.slice A0_6 l0_6.length c0_6) := (blk_cell BK248.out 6).trans rfl
            have hcz12_7 : w4.cell? ⟨gb248, 7, none⟩ = some (.slice A0_7 l0_7.length c0_7) := (blk_cell BK248.out 7).trans rfl
            have hcz12_8 : w4.cell? ⟨gb248, 8, none⟩ = some (.slice A0_8 l0_8.length c0_8) := (blk_cell BK248.out 8).trans rfl
            have hfz12_0 := blk_frozen BK248.out 0
            have hfz12_1 := blk_frozen BK248.out 1
            have hfz12_2 := blk_frozen BK248.out 2
            have hfz12_3 := blk_frozen BK248.out 3
            have hfz12_4 := blk_frozen BK248.out 4
            have hfz12_5 := blk_frozen BK248.out 5
            have hfz12_6 := blk_frozen BK248.out 6
            have hfz12_7 := blk_frozen BK248.out 7
            have hfz12_8 := blk_frozen BK248.out 8
            go_wp2
            go_meet
            case rel => exact ⟨_, ((a1 == 1)), (by first | rfl | (simp; done) | (simp [*]; done)), H', ⟨by first | omega | exact Nat.le_refl _⟩, ⟨by (with_reducible repeat (first | refine blk_drewN ?_ _ | refine blk_drew ?_ | refine blk_alloc ?_ _)); exact BK248.out⟩, ⟨by repeat (first | (with_reducible first | exact HB.out | apply below_alloc | apply pw_below_drewN | apply below_drew1 | refine below_set ?_ GE248.out) | exact HB.out)⟩⟩
          · rw [if_neg c11] at H
            have c11b0 : (a0_0 == 17) = false := beq_eq_false_iff_ne.mpr c11
            have c11b1 : (a0_0 != 17) = true := bne_iff_ne.mpr c11
            have H' := Aside0.mk H
            clear H
            have hcz13_0 : w4.cell? ⟨gb248, 0, none⟩ = some (.int .i64 a0_0) := (blk_cell BK248.out 0).trans rfl
            have hcz13_1 : w4.cell? ⟨gb248, 1, none⟩ = some (.int .i64 a0_1) := (blk_cell BK248.out 1).trans rfl
            have hcz13_2 : w4.cell? ⟨gb248, 2, none⟩ = some (.string a0_2) := (blk_cell BK248.out 2).trans rfl
            have hcz13_3 : w4.cell? ⟨gb248, 3, none⟩ = some (.string a0_3) := (blk_cell BK248.out 3).trans rfl
            have hcz13_4 : w4.cell? ⟨gb248, 4, none⟩ = some (.int .i64 a0_4) := (blk_cell BK248.out 4).trans rfl
            have hcz13_5 : w4.cell? ⟨gb248, 5, none⟩ = some (.int .i64 a0_5) := (blk_cell BK248.out 5).trans rfl
            have hcz13_6 : w4.cell? ⟨gb248, 6, none⟩ = some (.slice A0_6 l0_6.length c0_6) := (blk_cell BK248.out 6).trans rfl
            have hcz13_7 : w4.cell? ⟨gb248, 7, none⟩ = some (.slice A0_7 l0_7.length c0_7) := (blk_cell BK248.out 7).trans rfl
            have hcz13_8 : w4.cell? ⟨gb248, 8, none⟩ = some (.slice A0_8 l0_8.length c0_8) := (blk_cell BK248.out 8).trans rfl
            have hfz13_0 := blk_frozen BK248.out 0
            have hfz13_1 := blk_frozen BK248.out 1
            have hfz13_2 := blk_frozen BK248.out 2
            have hfz13_3 := blk_frozen BK248.out 3
            have hfz13_4 := blk_frozen BK248.out 4
            have hfz13_5 := blk_frozen BK248.out 5
            have hfz13_6 := blk_frozen BK248.out 6
            have hfz13_7 := blk_frozen BK248.out 7
            have hfz13_8 := blk_frozen BK248.out 8
            go_wp2
            go_meet
            case rel => exact ⟨_, (false), (by first | rfl | (simp; done) | (simp [*]; done)), H', ⟨by first | omega | exact Nat.le_refl _⟩, ⟨by (with_reducible repeat (first | refine blk_drewN ?_ _ | refine blk_drew ?_ | refine blk_alloc ?_ _)); exact BK248.out⟩, ⟨by repeat (first | (with_reducible first | exact HB.out | apply below_alloc | apply pw_below_drewN | apply below_drew1 | refine below_set ?_ GE248.out) | exact HB.out)⟩⟩
  case rest =>
    clear HC3
    try clear c1
    try clear p2
    try clear c5
    try clear c5b0
    try clear c5b1
    try clear c7
    try clear c7b0
    try clear c7b1
    try clear c9
    try clear c9b0
    try clear c9b1
    try clear c11
    try clear c11b0
    try clear c11b1
    try clear hcz10_0
    try clear hcz10_1
    try clear hcz10_2
    try clear hcz10_3
    try clear hcz10_4
    try clear hcz10_5
    try clear hcz10_6
    try clear hcz10_7
    try clear hcz10_8
    try clear hcz12_0
    try clear hcz12_1
    try clear hcz12_2
    try clear hcz12_3
    try clear hcz12_4
    try clear hcz12_5
    try clear hcz12_6
    try clear hcz12_7
    try clear hcz12_8
    try clear hcz13_0
    try clear hcz13_1
    try clear hcz13_2
    try clear hcz13_3
    try clear hcz13_4
    try clear hcz13_5
    try clear hcz13_6
    try clear hcz13_7
    try clear hcz13_8
    try clear hcz6_0
    try clear hcz6_1
    try clear hcz6_2
    try clear hcz6_3
    try clear hcz6_4
    try clear hcz6_5
    try clear hcz6_6
    try clear hcz6_7
    try clear hcz6_8
    try clear hcz8_0
    try clear hcz8_1
    try clear hcz8_2
    try clear hcz8_3
    try clear hcz8_4
    try clear hcz8_5
    try clear hcz8_6
    try clear hcz8_7
    try clear hcz8_8
    try clear hfz10_0
    try clear hfz10_1
    try clear hfz10_2
    try clear hfz10_3
    try clear hfz10_4
    try clear hfz10_5
    try clear hfz10_6
    try clear hfz10_7
    try clear hfz10_8
    try clear hfz12_0
    try clear hfz12_1
    try clear hfz12_2
    try clear hfz12_3
    try clear hfz12_4
    try clear hfz12_5
    try clear hfz12_6
    try clear hfz12_7
    try clear hfz12_8
    try clear hfz13_0
    try clear hfz13_1
    try clear hfz13_2
    try clear hfz13_3
    try clear hfz13_4
    try clear hfz13_5
    try clear hfz13_6
    try clear hfz13_7
    try clear hfz13_8
    try clear hfz6_0
    try clear hfz6_1
    try clear hfz6_2
    try clear hfz6_3
    try clear hfz6_4
    try clear hfz6_5
    try clear hfz6_6
    try clear hfz6_7
    try clear hfz6_8
    try clear hfz8_0
    try clear hfz8_1
    try clear hfz8_2
    try clear hfz8_3
    try clear hfz8_4
    try clear hfz8_5
    try clear hfz8_6
    try clear hfz8_7
    try clear hfz8_8
    obtain ⟨kq, x5_2, rfl, HA, HJ2, BK248, HB⟩ := hcut
    cases kq with
    | zero => exact absurd HA.out (by simp [impl_boundIn.j0])
    | succ kj2 =>
      have H := HA.out
      clear HA
      simp only [impl_boundIn.j0] at H
      by_cases c14 : x5_2 = true
      · subst c14
        have H1 : (some (([a0_2] : List ByteArray))) = some r := by rw [if_pos rfl] at H; exact H
        clear H
        have H := H1
        clear H1
        obtain ⟨y249, hy249⟩ : ∃ y_ : List ByteArray, y_ = (([a0_2] : List ByteArray)) := ⟨_, rfl⟩
        replace H : (some y249) = some r := by first | (rw [hy249]; with_reducible exact H) | (have H2_ := (Option.bind_some _ _).symm.trans H; rw [hy249]; with_reducible exact H2_) | (have H2_ := (Option.bind_some _ _).symm.trans H; with_reducible exact H2_) | with_reducible exact H | (rw [hy249]; exact H) | exact H
        have Ny249 := Aside0.mk hy249
        clear hy249
        obtain rfl := Option.some.inj H
        have hcz15_0 : wc.cell? ⟨gb248, 0, none⟩ = some (.int .i64 a0_0) := (blk_cell BK248.out 0).trans rfl
        have hcz15_1 : wc.cell? ⟨gb248, 1, none⟩ = some (.int .i64 a0_1) := (blk_cell BK248.out 1).trans rfl
        have hcz15_2 : wc.cell? ⟨gb248, 2, none⟩ = some (.string a0_2) := (blk_cell BK248.out 2).trans rfl
        have hcz15_3 : wc.cell? ⟨gb248, 3, none⟩ = some (.string a0_3) := (blk_cell BK248.out 3).trans rfl
        have hcz15_4 : wc.cell? ⟨gb248, 4, none⟩ = some (.int .i64 a0_4) := (blk_cell BK248.out 4).trans rfl
        have hcz15_5 : wc.cell? ⟨gb248, 5, none⟩ = some (.int .i64 a0_5) := (blk_cell BK248.out 5).trans rfl
        have hcz15_6 : wc.cell? ⟨gb248, 6, none⟩ = some (.slice A0_6 l0_6.length c0_6) := (blk_cell BK248.out 6).trans rfl
        have hcz15_7 : wc.cell? ⟨gb248, 7, none⟩ = some (.slice A0_7 l0_7.length c0_7) := (blk_cell BK248.out 7).trans rfl
        have hcz15_8 : wc.cell? ⟨gb248, 8, none⟩ = some (.slice A0_8 l0_8.length c0_8) := (blk_cell BK248.out 8).trans rfl
        have hfz15_0 := blk_frozen BK248.out 0
        have hfz15_1 := blk_frozen BK248.out 1
        have hfz15_2 := blk_frozen BK248.out 2
        have hfz15_3 := blk_frozen BK248.out 3
        have hfz15_4 := blk_frozen BK248.out 4
        have hfz15_5 := blk_frozen BK248.out 5
        have hfz15_6 := blk_frozen BK248.out 6
        have hfz15_7 := blk_frozen BK248.out 7
        have hfz15_8 := blk_frozen BK248.out 8
        go_wp2_with (first | ((with_reducible refine gate_dst (N := 30) rfl ?_); refine Kd.R_lit Kd.string _ 9 ?hg (N := 30) ?hd (xs := ([a0_2] : List ByteArray)) (inner := [.string a0_2]) (ok := fun _ => True) (okp := fun _ => True) ?hr ?hp (fun _ hk => hk) trivial (Below.refl _ _) (Nat.le_refl _) (by simp) ?_; (case hd => rfl); (case hg => rfl); (case hr => first | (go_simp; done) | (go_simp; rfl)); (case hp => exact (Reps.one (show Kd.M Kd.string _ _ _ a0_2 [.string a0_2] from rfl) (Reps.none _ _))); intro v250 w16 ho17 hb hg_ hnew_; clear hg_ hnew_; (first | rw [← Ny249.out] at ho17 | (simp only [Int.reduceToNat] at ho17; rw [← Ny249.out] at ho17)); have n0_ := Aside0.mk (Kd.R_lower ho17 (below_size (by repeat (first | (with_reducible first | exact HB.out | apply below_alloc | apply pw_below_drewN | apply below_drew1 | refine below_set ?_ GE248.out) | exact HB.out)))); have n1_ := Aside0.mk (blk_below (g := gb248) (o := .cells #[.int .i64 a0_0, .int .i64 a0_1, .string a0_2, .string a0_3, .int .i64 a0_4, .int .i64 a0_5, .slice A0_6 l0_6.length c0_6, .slice A0_7 l0_7.length c0_7, .slice A0_8 l0_8.length c0_8] 35 (0, 0)) (by (with_reducible repeat (first | refine blk_drewN ?_ _ | refine blk_drew ?_ | refine blk_alloc ?_ _)); exact BK248.out) hb); have n2_ := Aside0.mk (below_step (by repeat (first | (with_reducible first | exact HB.out | apply below_alloc | apply pw_below_drewN | apply below_drew1 | refine below_set ?_ GE248.out) | exact HB.out)) hb); clear BK248; clear HB; have HO251 := n0_; have BK248 := n1_; have HB := n2_; clear n0_ n1_ n2_; clear hb ho17))
        go_ret
        exact ⟨_, by first | rfl | (simp [errW_none, errW_some] <;> rfl) | (simp [*, errW_none, errW_some] <;> rfl), by (with_reducible repeat (first | apply Kd.R_alloc | apply Kd.R_drewN | apply Kd.R_drew)); exact HO251.out, by repeat (first | (with_reducible first | exact HB.out | apply below_alloc | apply pw_below_drewN | apply below_drew1 | refine below_set ?_ GE248.out) | exact HB.out)⟩
      · replace c14 := Bool.eq_false_iff.mpr c14
        subst c14
        have H1 : (if a0_0 = 14 then (if a1 = 2 then (some (([a0_2, a0_3] : List ByteArray))) else (some ([] : List ByteArray))) else (some ([] : List ByteArray))) = some r := by rw [if_neg (show ¬ (false = true) by decide)] at H; exact H
        clear H
        have H := H1
        clear H1
        by_cases c18 : a0_0 = 14
        · rw [if_pos c18] at H
          have c18b0 : (a0_0 == 14) = true := beq_iff_eq.mpr c18
          have c18b1 : (a0_0 != 14) = false := bne_eq_false_iff_eq.mpr c18
          clear c18
          by_cases c19 : a1 = 2
          · rw [if_pos c19] at H
            have c19b0 : (a1 == 2) = true := beq_iff_eq.mpr c19
            have c19b1 : (a1 != 2) = false := bne_eq_false_iff_eq.mpr c19
            clear c19
            obtain ⟨y252, hy252⟩ : ∃ y_ : List ByteArray, y_ = (([a0_2, a0_3] : List ByteArray)) := ⟨_, rfl⟩
            replace H : (some y252) = some r := by first | (rw [hy252]; with_reducible exact H) | (have H2_ := (Option.bind_some _ _).symm.trans H; rw [hy252]; with_reducible exact H2_) | (have H2_ := (Option.bind_some _ _).symm.trans H; with_reducible exact H2_) | with_reducible exact H | (rw [hy252]; exact H) | exact H
            have Ny252 := Aside0.mk hy252
            clear hy252
            obtain rfl := Option.some.inj H
            have hcz20_0 : wc.cell? ⟨gb248, 0, none⟩ = some (.int .i64 a0_0) := (blk_cell BK248.out 0).trans rfl
            have hcz20_1 : wc.cell? ⟨gb248, 1, none⟩ = some (.int .i64 a0_1) := (blk_cell BK248.out 1).trans rfl
            have hcz20_2 : wc.cell? ⟨gb248, 2, none⟩ = some (.string a0_2) := (blk_cell BK248.out 2).trans rfl
            have hcz20_3 : wc.cell? ⟨gb248, 3, none⟩ = some (.string a0_3) := (blk_cell BK248.out 3).trans rfl
            have hcz20_4 : wc.cell? ⟨gb248, 4, none⟩ = some (.int .i64 a0_4) := (blk_cell BK248.out 4).trans rfl
            have hcz20_5 : wc.cell? ⟨gb248, 5, none⟩ = some (.int .i64 a0_5) := (blk_cell BK248.out 5).trans rfl
            have hcz20_6 : wc.cell? ⟨gb248, 6, none⟩ = some (.slice A0_6 l0_6.length c0_6) := (blk_cell BK248.out 6).trans rfl
            have hcz20_7 : wc.cell? ⟨gb248, 7, none⟩ = some (.slice A0_7 l0_7.length c0_7) := (blk_cell BK248.out 7).trans rfl
            have hcz20_8 : wc.cell? ⟨gb248, 8, none⟩ = some (.slice A0_8 l0_8.length c0_8) := (blk_cell BK248.out 8).trans rfl
            have hfz20_0 := blk_frozen BK248.out 0
            have hfz20_1 := blk_frozen BK248.out 1
            have hfz20_2 := blk_frozen BK248.out 2
            have hfz20_3 := blk_frozen BK248.out 3
            have hfz20_4 := blk_frozen BK248.out 4
            have hfz20_5 := blk_frozen BK248.out 5
            have hfz20_6 := blk_frozen BK248.out 6
            have hfz20_7 := blk_frozen BK248.out 7
            have hfz20_8 := blk_frozen BK248.out 8
            go_wp2_with (first | ((with_reducible refine gate_dst (N := 43) rfl ?_); refine Kd.R_lit Kd.string _ 9 ?hg (N := 43) ?hd (xs := ([a0_2, a0_3] : List ByteArray)) (inner := [.string a0_2, .string a0_3]) (ok := fun _ => True) (okp := fun _ => True) ?hr ?hp (fun _ hk => hk) trivial (Below.refl _ _) (Nat.le_refl _) (by simp) ?_; (case hd => rfl); (case hg => rfl); (case hr => first | (go_simp; done) | (go_simp; rfl)); (case hp => exact (Reps.one (show Kd.M Kd.string _ _ _ a0_2 [.string a0_2] from rfl) (Reps.one (show Kd.M Kd.string _ _ _ a0_3 [.string a0_3] from rfl) (Reps.none _ _)))); intro v253 w21 ho22 hb hg_ hnew_; clear hg_ hnew_; (first | rw [← Ny252.out] at ho22 | (simp only [Int.reduceToNat] at ho22; rw [← Ny252.out] at ho22)); have n0_ := Aside0.mk (Kd.R_lower ho22 (below_size (by repeat (first | (with_reducible first | exact HB.out | apply below_alloc | apply pw_below_drewN | apply below_drew1 | refine below_set ?_ GE248.out) | exact HB.out)))); have n1_ := Aside0.mk (blk_below (g := gb248) (o := .cells #[.int .i64 a0_0, .int .i64 a0_1, .string a0_2, .string a0_3, .int .i64 a0_4, .int .i64 a0_5, .slice A0_6 l0_6.length c0_6, .slice A0_7 l0_7.length c0_7, .slice A0_8 l0_8.length c0_8] 35 (0, 0)) (by (with_reducible repeat (first | refine blk_drewN ?_ _ | refine blk_drew ?_ | refine blk_alloc ?_ _)); exact BK248.out) hb); have n2_ := Aside0.mk (below_step (by repeat (first | (with_reducible first | exact HB.out | apply below_alloc | apply pw_below_drewN | apply below_drew1 | refine below_set ?_ GE248.out) | exact HB.out)) hb); clear BK248; clear HB; have HO254 := n0_; have BK248 := n1_; have HB := n2_; clear n0_ n1_ n2_; clear hb ho22))
            go_ret
            exact ⟨_, by first | rfl | (simp [errW_none, errW_some] <;> rfl) | (simp [*, errW_none, errW_some] <;> rfl), by (with_reducible repeat (first | apply Kd.R_alloc | apply Kd.R_drewN | apply Kd.R_drew)); exact HO254.out, by repeat (first | (with_reducible first | exact HB.out | apply below_alloc | apply pw_below_drewN | apply below_drew1 | refine below_set ?_ GE248.out) | exact HB.out)⟩
          · rw [if_neg c19] at H
            have c19b0 : (a1 == 2) = false := beq_eq_false_iff_ne.mpr c19
            have c19b1 : (a1 != 2) = true := bne_iff_ne.mpr c19
            obtain rfl := Option.some.inj H
            have hcz23_0 : wc.cell? ⟨gb248, 0, none⟩ = some (.int .i64 a0_0) := (blk_cell BK248.out 0).trans rfl
            have hcz23_1 : wc.cell? ⟨gb248, 1, none⟩ = some (.int .i64 a0_1) := (blk_cell BK248.out 1).trans rfl
            have hcz23_2 : wc.cell? ⟨gb248, 2, none⟩ = some (.string a0_2) := (blk_cell BK248.out 2).trans rfl
            have hcz23_3 : wc.cell? ⟨gb248, 3, none⟩ = some (.string a0_3) := (blk_cell BK248.out 3).trans rfl
            have hcz23_4 : wc.cell? ⟨gb248, 4, none⟩ = some (.int .i64 a0_4) := (blk_cell BK248.out 4).trans rfl
            have hcz23_5 : wc.cell? ⟨gb248, 5, none⟩ = some (.int .i64 a0_5) := (blk_cell BK248.out 5).trans rfl
            have hcz23_6 : wc.cell? ⟨gb248, 6, none⟩ = some (.slice A0_6 l0_6.length c0_6) := (blk_cell BK248.out 6).trans rfl
            have hcz23_7 : wc.cell? ⟨gb248, 7, none⟩ = some (.slice A0_7 l0_7.length c0_7) := (blk_cell BK248.out 7).trans rfl
            have hcz23_8 : wc.cell? ⟨gb248, 8, none⟩ = some (.slice A0_8 l0_8.length c0_8) := (blk_cell BK248.out 8).trans rfl
            have hfz23_0 := blk_frozen BK248.out 0
            have hfz23_1 := blk_frozen BK248.out 1
            have hfz23_2 := blk_frozen BK248.out 2
            have hfz23_3 := blk_frozen BK248.out 3
            have hfz23_4 := blk_frozen BK248.out 4
            have hfz23_5 := blk_frozen BK248.out 5
            have hfz23_6 := blk_frozen BK248.out 6
            have hfz23_7 := blk_frozen BK248.out 7
            have hfz23_8 := blk_frozen BK248.out 8
            go_wp2
            go_ret
            exact ⟨_, by first | rfl | (simp [errW_none, errW_some] <;> rfl) | (simp [*, errW_none, errW_some] <;> rfl), by first | exact Kd.R_nil _ _ _ _ _ | exact Kd.N_nil _ _ _ _ _ | exact Kd.V_nil _ _ _ _ _ | exact Kd.Q_nil _ _ _ _ _ | exact Kd.S_nil _ _ _ _ _, by repeat (first | (with_reducible first | exact HB.out | apply below_alloc | apply pw_below_drewN | apply below_drew1 | refine below_set ?_ GE248.out) | exact HB.out)⟩
        · rw [if_neg c18] at H
          have c18b0 : (a0_0 == 14) = false := beq_eq_false_iff_ne.mpr c18
          have c18b1 : (a0_0 != 14) = true := bne_iff_ne.mpr c18
          obtain rfl := Option.some.inj H
          have hcz24_0 : wc.cell? ⟨gb248, 0, none⟩ = some (.int .i64 a0_0) := (blk_cell BK248.out 0).trans rfl
          have hcz24_1 : wc.cell? ⟨gb248, 1, none⟩ = some (.int .i64 a0_1) := (blk_cell BK248.out 1).trans rfl
          have hcz24_2 : wc.cell? ⟨gb248, 2, none⟩ = some (.string a0_2) := (blk_cell BK248.out 2).trans rfl
          have hcz24_3 : wc.cell? ⟨gb248, 3, none⟩ = some (.string a0_3) := (blk_cell BK248.out 3).trans rfl
          have hcz24_4 : wc.cell? ⟨gb248, 4, none⟩ = some (.int .i64 a0_4) := (blk_cell BK248.out 4).trans rfl
          have hcz24_5 : wc.cell? ⟨gb248, 5, none⟩ = some (.int .i64 a0_5) := (blk_cell BK248.out 5).trans rfl
          have hcz24_6 : wc.cell? ⟨gb248, 6, none⟩ = some (.slice A0_6 l0_6.length c0_6) := (blk_cell BK248.out 6).trans rfl
          have hcz24_7 : wc.cell? ⟨gb248, 7, none⟩ = some (.slice A0_7 l0_7.length c0_7) := (blk_cell BK248.out 7).trans rfl
          have hcz24_8 : wc.cell? ⟨gb248, 8, none⟩ = some (.slice A0_8 l0_8.length c0_8) := (blk_cell BK248.out 8).trans rfl
          have hfz24_0 := blk_frozen BK248.out 0
          have hfz24_1 := blk_frozen BK248.out 1
          have hfz24_2 := blk_frozen BK248.out 2
          have hfz24_3 := blk_frozen BK248.out 3
          have hfz24_4 := blk_frozen BK248.out 4
          have hfz24_5 := blk_frozen BK248.out 5
          have hfz24_6 := blk_frozen BK248.out 6
          have hfz24_7 := blk_frozen BK248.out 7
          have hfz24_8 := blk_frozen BK248.out 8
          go_wp2
          go_ret
          exact ⟨_, by first | rfl | (simp [errW_none, errW_some] <;> rfl) | (simp [*, errW_none, errW_some] <;> rfl), by first | exact Kd.R_nil _ _ _ _ _ | exact Kd.N_nil _ _ _ _ _ | exact Kd.V_nil _ _ _ _ _ | exact Kd.Q_nil _ _ _ _ _ | exact Kd.S_nil _ _ _ _ _, by repeat (first | (with_reducible first | exact HB.out | apply below_alloc | apply pw_below_drewN | apply below_drew1 | refine below_set ?_ GE248.out) | exact HB.out)⟩
mutual
def impl_usesIn.j0 : Nat → ByteArray → Bool → Int → Int → ByteArray → ByteArray → Int → Int → List (S32) → List (S32) → List (S35) → Option (Int)
  | 0, _, _, _, _, _, _, _, _, _, _, _ => none
  | k + 1, x1, x16, x256000, x256001, x256002, x256003, x256004, x256005, x256006, x256007, x256008 => if x16 = true then (some 1) else (impl_usesIn.l0 k x1 0 x256008 (x256008.length : Int) 0 x256000 x256001 x256002 x256003 x256004 x256005 x256006 x256007 x256008)
def impl_usesIn.l0 : Nat → ByteArray → Int → List (S35) → Int → Int → Int → Int → ByteArray → ByteArray → Int → Int → List (S32) → List (S32) → List (S35) → Option (Int)
  | 0, _, _, _, _, _, _, _, _, _, _, _, _, _, _ => none
  | k + 1, x1, x5, x18, x19, x20, x256000, x256001, x256002, x256003, x256004, x256005, x256006, x256007, x256008 => if x20 < x19 then (if 0 ≤ x20 then (if x20 < (x18.length : Int) then ((impl_boundIn.f k x256000 x256001 x256002 x256003 x256004 x256005 x256006 x256007 x256008 x20).bind fun t258 => ((slices_Contains_string_string.f k t258 x1).bind fun t261 => (if t261 = true then (impl_usesIn.l0 k x1 x5 x18 x19 (wrap64 (x20 + 1)) x256000 x256001 x256002 x256003 x256004 x256005 x256006 x256007 x256008) else ((impl_usesIn.f k ((rd_T35 x18 x20).f0) ((rd_T35 x18 x20).f1) ((rd_T35 x18 x20).f2) ((rd_T35 x18 x20).f3) ((rd_T35 x18 x20).f4.f0) ((rd_T35 x18 x20).f4.f1) ((rd_T35 x18 x20).f4.f2) ((rd_T35 x18 x20).f5) ((rd_T35 x18 x20).f6) x1).bind fun t262 => (impl_usesIn.l0 k x1 (wrap64 (x5 + t262)) x18 x19 (wrap64 (x20 + 1)) x256000 x256001 x256002 x256003 x256004 x256005 x256006 x256007 x256008))))) else (none)) else (none)) else (some x5)
def impl_usesIn.f : Nat → Int → Int → ByteArray → ByteArray → Int → Int → List (S32) → List (S32) → List (S35) → ByteArray → Option (Int)
  | 0, _, _, _, _, _, _, _, _, _, _ => none
  | k + 1, a0_0, a0_1, a0_2, a0_3, a0_4, a0_5, l0_6, l0_7, l0_8, a1 => if a0_0 = 3 then (impl_usesIn.j0 k a1 (a0_2.toList == a1.toList) a0_0 a0_1 a0_2 a0_3 a0_4 a0_5 l0_6 l0_7 l0_8) else (impl_usesIn.j0 k a1 false a0_0 a0_1 a0_2 a0_3 a0_4 a0_5 l0_6 l0_7 l0_8)
end
set_option maxHeartbeats 8000000 in
set_option maxRecDepth 100000 in
theorem impl_usesIn.calls (k : Nat) : ∀ (a0_0 : Int) (a0_1 : Int) (a0_2 : ByteArray) (a0_3 : ByteArray) (a0_4 : Int) (a0_5 : Int) (A0_6 : Option Addr) (c0_6 : Nat) (l0_6 : List (S32)) (A0_7 : Option Addr) (c0_7 : Nat) (l0_7 : List (S32)) (A0_8 : Option Addr) (c0_8 : Nat) (l0_8 : List (S35)) (a1 : ByteArray) (r : Int) (w : World) (hr0_6 : Kd.C k32 w A0_6 l0_6.length l0_6) (hc0_6 : l0_6.length ≤ c0_6) (hr0_7 : Kd.C k32 w A0_7 l0_7.length l0_7) (hc0_7 : l0_7.length ≤ c0_7) (hr0_8 : Kd.C k35 w A0_8 l0_8.length l0_8) (hc0_8 : l0_8.length ≤ c0_8) (h : impl_usesIn.f k a0_0 a0_1 a0_2 a0_3 a0_4 a0_5 l0_6 l0_7 l0_8 a1 = some r),
    Calls Try.prog 75 #[.agg #[.int .i64 a0_0, .int .i64 a0_1, .string a0_2, .string a0_3, .int .i64 a0_4, .int .i64 a0_5, .slice A0_6 l0_6.length c0_6, .slice A0_7 l0_7.length c0_7, .slice A0_8 l0_8.length c0_8], .string a1] w fun e w' => e = .returned (.int .i64 r) ∧ Below w.heap.size w w' := by
  induction k using Nat.strongRecOn with
  | _ k ih =>
  intro a0_0 a0_1 a0_2 a0_3 a0_4 a0_5 A0_6 c0_6 l0_6 A0_7 c0_7 l0_7 A0_8 c0_8 l0_8 a1 r w hr0_6 hc0_6 hr0_7 hc0_7 hr0_8 hc0_8 h
  cases k with
  | zero => exact absurd h (by simp [impl_usesIn.f])
  | succ k =>
  simp only [impl_usesIn.f] at h
  have hu35 := Try.underlying35
  have HR0_6 := Aside0.mk hr0_6
  have HC0_6 := Aside0.mk hc0_6
  clear hr0_6 hc0_6
  have HR0_7 := Aside0.mk hr0_7
  have HC0_7 := Aside0.mk hc0_7
  clear hr0_7 hc0_7
  have HR0_8 := Aside0.mk hr0_8
  have HC0_8 := Aside0.mk hc0_8
  clear hr0_8 hc0_8
  have HB := Aside0.mk (Below.refl w.heap.size w)
  have H : (if a0_0 = 3 then (impl_usesIn.j0 k a1 (a0_2.toList == a1.toList) a0_0 a0_1 a0_2 a0_3 a0_4 a0_5 l0_6 l0_7 l0_8) else (impl_usesIn.j0 k a1 false a0_0 a0_1 a0_2 a0_3 a0_4 a0_5 l0_6 l0_7 l0_8)) = some r := h
  clear h
  have HC3 := Aside0.mk H
  clear H
  go_enter Try.func75, Try.ntmps75
  go_upto_region 1 with (first | ((with_reducible refine gate_dst (N := 2) rfl ?_); refine box_event ?hg (N := 2) ?hd (cs := #[.int .i64 a0_0, .int .i64 a0_1, .string a0_2, .string a0_3, .int .i64 a0_4, .int .i64 a0_5, .slice A0_6 l0_6.length c0_6, .slice A0_7 l0_7.length c0_7, .slice A0_8 l0_8.length c0_8]) (t := 35) ?hr ?_; (case hd => rfl); (case hg => rfl); (case hr => first | (go_simp; done) | (go_simp; rfl)); intro gb255 hg w4 hbox hb; have n0_ := Aside0.mk (below_step (by repeat (first | (with_reducible first | exact HB.out | apply below_alloc | apply pw_below_drewN | apply below_drew1) | exact HB.out)) hb); have n1_ := Aside0.mk (hbox); have n2_ := Aside0.mk ((by rw [hg]; exact (below_size (by repeat (first | (with_reducible first | exact HB.out | apply below_alloc | apply pw_below_drewN | apply below_drew1) | exact HB.out))) : w.heap.size ≤ gb255)); have n3_ := Aside0.mk ((by rw [hg]; exact (below_size (by repeat (first | (with_reducible first | exact HB.out | apply below_alloc | apply pw_below_drewN | apply below_drew1) | exact HB.out))) : w.heap.size ≤ gb255)); clear HB; have HB := n0_; have BK255 := n1_; have GW255 := n2_; have GE255 := n3_; clear n0_ n1_ n2_ n3_; clear hb hbox hg))
  (try simp only [Act.put, List.setIfInBounds_toArray, List.set_cons_zero, List.set_cons_succ])
  go_cut [16] (fun v16 wc => ∃ (kq : Nat) (x16_2 : Bool), v16 = .bool x16_2 ∧ Aside0 (impl_usesIn.j0 kq a1 x16_2 a0_0 a0_1 a0_2 a0_3 a0_4 a0_5 l0_6 l0_7 l0_8 = some r) ∧ Aside0 (kq ≤ k) ∧ Aside0 (wc.heap[gb255]? = some (.cells #[.int .i64 a0_0, .int .i64 a0_1, .string a0_2, .string a0_3, .int .i64 a0_4, .int .i64 a0_5, (.slice A0_6 l0_6.length c0_6), (.slice A0_7 l0_7.length c0_7), (.slice A0_8 l0_8.length c0_8)] 35 (0, 0))) ∧ Aside0 (Below w.heap.size w wc))
  case first =>
    have H := HC3.out
    clear HC3
    by_cases c5 : a0_0 = 3
    · rw [if_pos c5] at H
      have c5b0 : (a0_0 == 3) = true := beq_iff_eq.mpr c5
      have c5b1 : (a0_0 != 3) = false := bne_eq_false_iff_eq.mpr c5
      clear c5
      (first | rw [c5b0] | (simp only [i64_w, i32_w]; rw [c5b0]) | skip)
      have H' := Aside0.mk H
      clear H
      have hcz6_0 : w4.cell? ⟨gb255, 0, none⟩ = some (.int .i64 a0_0) := (blk_cell BK255.out 0).trans rfl
      have hcz6_1 : w4.cell? ⟨gb255, 1, none⟩ = some (.int .i64 a0_1) := (blk_cell BK255.out 1).trans rfl
      have hcz6_2 : w4.cell? ⟨gb255, 2, none⟩ = some (.string a0_2) := (blk_cell BK255.out 2).trans rfl
      have hcz6_3 : w4.cell? ⟨gb255, 3, none⟩ = some (.string a0_3) := (blk_cell BK255.out 3).trans rfl
      have hcz6_4 : w4.cell? ⟨gb255, 4, none⟩ = some (.int .i64 a0_4) := (blk_cell BK255.out 4).trans rfl
      have hcz6_5 : w4.cell? ⟨gb255, 5, none⟩ = some (.int .i64 a0_5) := (blk_cell BK255.out 5).trans rfl
      have hcz6_6 : w4.cell? ⟨gb255, 6, none⟩ = some (.slice A0_6 l0_6.length c0_6) := (blk_cell BK255.out 6).trans rfl
      have hcz6_7 : w4.cell? ⟨gb255, 7, none⟩ = some (.slice A0_7 l0_7.length c0_7) := (blk_cell BK255.out 7).trans rfl
      have hcz6_8 : w4.cell? ⟨gb255, 8, none⟩ = some (.slice A0_8 l0_8.length c0_8) := (blk_cell BK255.out 8).trans rfl
      have hfz6_0 := blk_frozen BK255.out 0
      have hfz6_1 := blk_frozen BK255.out 1
      have hfz6_2 := blk_frozen BK255.out 2
      have hfz6_3 := blk_frozen BK255.out 3
      have hfz6_4 := blk_frozen BK255.out 4
      have hfz6_5 := blk_frozen BK255.out 5
      have hfz6_6 := blk_frozen BK255.out 6
      have hfz6_7 := blk_frozen BK255.out 7
      have hfz6_8 := blk_frozen BK255.out 8
      go_wp2
      go_meet
      case rel => exact ⟨_, ((a0_2.toList == a1.toList)), (by first | rfl | (simp; done) | (simp [*]; done)), H', ⟨by first | omega | exact Nat.le_refl _⟩, ⟨by (with_reducible repeat (first | refine blk_drewN ?_ _ | refine blk_drew ?_ | refine blk_alloc ?_ _)); exact BK255.out⟩, ⟨by repeat (first | (with_reducible first | exact HB.out | apply below_alloc | apply pw_below_drewN | apply below_drew1 | refine below_set ?_ GE255.out) | exact HB.out)⟩⟩
    · rw [if_neg c5] at H
      have c5b0 : (a0_0 == 3) = false := beq_eq_false_iff_ne.mpr c5
      have c5b1 : (a0_0 != 3) = true := bne_iff_ne.mpr c5
      (first | rw [c5b0] | (simp only [i64_w, i32_w]; rw [c5b0]) | skip)
      have H' := Aside0.mk H
      clear H
      have hcz7_0 : w4.cell? ⟨gb255, 0, none⟩ = some (.int .i64 a0_0) := (blk_cell BK255.out 0).trans rfl
      have hcz7_1 : w4.cell? ⟨gb255, 1, none⟩ = some (.int .i64 a0_1) := (blk_cell BK255.out 1).trans rfl
      have hcz7_2 : w4.cell? ⟨gb255, 2, none⟩ = some (.string a0_2) := (blk_cell BK255.out 2).trans rfl
      have hcz7_3 : w4.cell? ⟨gb255, 3, none⟩ = some (.string a0_3) := (blk_cell BK255.out 3).trans rfl
      have hcz7_4 : w4.cell? ⟨gb255, 4, none⟩ = some (.int .i64 a0_4) := (blk_cell BK255.out 4).trans rfl
      have hcz7_5 : w4.cell? ⟨gb255, 5, none⟩ = some (.int .i64 a0_5) := (blk_cell BK255.out 5).trans rfl
      have hcz7_6 : w4.cell? ⟨gb255, 6, none⟩ = some (.slice A0_6 l0_6.length c0_6) := (blk_cell BK255.out 6).trans rfl
      have hcz7_7 : w4.cell? ⟨gb255, 7, none⟩ = some (.slice A0_7 l0_7.length c0_7) := (blk_cell BK255.out 7).trans rfl
      have hcz7_8 : w4.cell? ⟨gb255, 8, none⟩ = some (.slice A0_8 l0_8.length c0_8) := (blk_cell BK255.out 8).trans rfl
      have hfz7_0 := blk_frozen BK255.out 0
      have hfz7_1 := blk_frozen BK255.out 1
      have hfz7_2 := blk_frozen BK255.out 2
      have hfz7_3 := blk_frozen BK255.out 3
      have hfz7_4 := blk_frozen BK255.out 4
      have hfz7_5 := blk_frozen BK255.out 5
      have hfz7_6 := blk_frozen BK255.out 6
      have hfz7_7 := blk_frozen BK255.out 7
      have hfz7_8 := blk_frozen BK255.out 8
      go_wp2
      go_meet
      case rel => exact ⟨_, (false), (by first | rfl | (simp; done) | (simp [*]; done)), H', ⟨by first | omega | exact Nat.le_refl _⟩, ⟨by (with_reducible repeat (first | refine blk_drewN ?_ _ | refine blk_drew ?_ | refine blk_alloc ?_ _)); exact BK255.out⟩, ⟨by repeat (first | (with_reducible first | exact HB.out | apply below_alloc | apply pw_below_drewN | apply below_drew1 | refine below_set ?_ GE255.out) | exact HB.out)⟩⟩
  case rest =>
    clear HC3
    try clear p2
    try clear c5
    try clear c5b0
    try clear c5b1
    try clear c7
    try clear hcz6_0
    try clear hcz6_1
    try clear hcz6_2
    try clear hcz6_3
    try clear hcz6_4
    try clear hcz6_5
    try clear hcz6_6
    try clear hcz6_7
    try clear hcz6_8
    try clear hcz7_0
    try clear hcz7_1
    try clear hcz7_2
    try clear hcz7_3
    try clear hcz7_4
    try clear hcz7_5
    try clear hcz7_6
    try clear hcz7_7
    try clear hcz7_8
    try clear hfz6_0
    try clear hfz6_1
    try clear hfz6_2
    try clear hfz6_3
    try clear hfz6_4
    try clear hfz6_5
    try clear hfz6_6
    try clear hfz6_7
    try clear hfz6_8
    try clear hfz7_0
    try clear hfz7_1
    try clear hfz7_2
    try clear hfz7_3
    try clear hfz7_4
    try clear hfz7_5
    try clear hfz7_6
    try clear hfz7_7
    try clear hfz7_8
    obtain ⟨kq, x16_2, rfl, HA, HJ2, BK255, HB⟩ := hcut
    cases kq with
    | zero => exact absurd HA.out (by simp [impl_usesIn.j0])
    | succ kj2 =>
      have H := HA.out
      clear HA
      simp only [impl_usesIn.j0] at H
      by_cases c8 : x16_2 = true
      · subst c8
        have H1 : (some 1) = some r := by rw [if_pos rfl] at H; exact H
        clear H
        have H := H1
        clear H1
        obtain rfl := Option.some.inj H
        go_wp2
        go_ret
        exact ⟨by first | rfl | (simp [errW_none, errW_some] <;> rfl) | (simp [*, errW_none, errW_some] <;> rfl), by repeat (first | (with_reducible first | exact HB.out | apply below_alloc | apply pw_below_drewN | apply below_drew1 | refine below_set ?_ GE255.out) | exact HB.out)⟩
      · replace c8 := Bool.eq_false_iff.mpr c8
        subst c8
        have H1 : (impl_usesIn.l0 kj2 a1 0 l0_8 (l0_8.length : Int) 0 a0_0 a0_1 a0_2 a0_3 a0_4 a0_5 l0_6 l0_7 l0_8) = some r := by rw [if_neg (show ¬ (false = true) by decide)] at H; exact H
        clear H
        have H := H1
        clear H1
        have H' := Aside0.mk H
        clear H
        have hcz9_0 : wc.cell? ⟨gb255, 0, none⟩ = some (.int .i64 a0_0) := (blk_cell BK255.out 0).trans rfl
        have hcz9_1 : wc.cell? ⟨gb255, 1, none⟩ = some (.int .i64 a0_1) := (blk_cell BK255.out 1).trans rfl
        have hcz9_2 : wc.cell? ⟨gb255, 2, none⟩ = some (.string a0_2) := (blk_cell BK255.out 2).trans rfl
        have hcz9_3 : wc.cell? ⟨gb255, 3, none⟩ = some (.string a0_3) := (blk_cell BK255.out 3).trans rfl
        have hcz9_4 : wc.cell? ⟨gb255, 4, none⟩ = some (.int .i64 a0_4) := (blk_cell BK255.out 4).trans rfl
        have hcz9_5 : wc.cell? ⟨gb255, 5, none⟩ = some (.int .i64 a0_5) := (blk_cell BK255.out 5).trans rfl
        have hcz9_6 : wc.cell? ⟨gb255, 6, none⟩ = some (.slice A0_6 l0_6.length c0_6) := (blk_cell BK255.out 6).trans rfl
        have hcz9_7 : wc.cell? ⟨gb255, 7, none⟩ = some (.slice A0_7 l0_7.length c0_7) := (blk_cell BK255.out 7).trans rfl
        have hcz9_8 : wc.cell? ⟨gb255, 8, none⟩ = some (.slice A0_8 l0_8.length c0_8) := (blk_cell BK255.out 8).trans rfl
        have hfz9_0 := blk_frozen BK255.out 0
        have hfz9_1 := blk_frozen BK255.out 1
        have hfz9_2 := blk_frozen BK255.out 2
        have hfz9_3 := blk_frozen BK255.out 3
        have hfz9_4 := blk_frozen BK255.out 4
        have hfz9_5 := blk_frozen BK255.out 5
        have hfz9_6 := blk_frozen BK255.out 6
        have hfz9_7 := blk_frozen BK255.out 7
        have hfz9_8 := blk_frozen BK255.out 8
        go_wp2
        go_loopg [5, 20] kj2 (fun kq v5 v20 w' => ∃ (x5_2 : Int) (x20_2 : Int), v5 = .int .i64 x5_2 ∧ v20 = .int .i64 x20_2 ∧ Aside0 (impl_usesIn.l0 kq a1 x5_2 l0_8 (l0_8.length : Int) x20_2 a0_0 a0_1 a0_2 a0_3 a0_4 a0_5 l0_6 l0_7 l0_8 = some r) ∧ Aside0 (kq ≤ kj2) ∧ Aside0 (w'.heap[gb255]? = some (.cells #[.int .i64 a0_0, .int .i64 a0_1, .string a0_2, .string a0_3, .int .i64 a0_4, .int .i64 a0_5, (.slice A0_6 l0_6.length c0_6), (.slice A0_7 l0_7.length c0_7), (.slice A0_8 l0_8.length c0_8)] 35 (0, 0))) ∧ Aside0 (Below w.heap.size w w'))
        case atStart => exact ⟨(0), (0), (by first | rfl | (simp; done) | (simp [*]; done)), (by first | rfl | (simp; done) | (simp [*]; done)), H', ⟨Nat.le_refl _⟩, ⟨by (with_reducible repeat (first | refine blk_drewN ?_ _ | refine blk_drew ?_ | refine blk_alloc ?_ _)); exact BK255.out⟩, ⟨by repeat (first | (with_reducible first | exact HB.out | apply below_alloc | apply pw_below_drewN | apply below_drew1 | refine below_set ?_ GE255.out) | exact HB.out)⟩⟩
        case round =>
          clear H'
          try clear p2
          try clear c5
          try clear c5b0
          try clear c5b1
          try clear c7
          try clear c8
          try clear hcz6_0
          try clear hcz6_1
          try clear hcz6_2
          try clear hcz6_3
          try clear hcz6_4
          try clear hcz6_5
          try clear hcz6_6
          try clear hcz6_7
          try clear hcz6_8
          try clear hcz7_0
          try clear hcz7_1
          try clear hcz7_2
          try clear hcz7_3
          try clear hcz7_4
          try clear hcz7_5
          try clear hcz7_6
          try clear hcz7_7
          try clear hcz7_8
          try clear hcz9_0
          try clear hcz9_1
          try clear hcz9_2
          try clear hcz9_3
          try clear hcz9_4
          try clear hcz9_5
          try clear hcz9_6
          try clear hcz9_7
          try clear hcz9_8
          try clear hfz6_0
          try clear hfz6_1
          try clear hfz6_2
          try clear hfz6_3
          try clear hfz6_4
          try clear hfz6_5
          try clear hfz6_6
          try clear hfz6_7
          try clear hfz6_8
          try clear hfz7_0
          try clear hfz7_1
          try clear hfz7_2
          try clear hfz7_3
          try clear hfz7_4
          try clear hfz7_5
          try clear hfz7_6
          try clear hfz7_7
          try clear hfz7_8
          try clear hfz9_0
          try clear hfz9_1
          try clear hfz9_2
          try clear hfz9_3
          try clear hfz9_4
          try clear hfz9_5
          try clear hfz9_6
          try clear hfz9_7
          try clear hfz9_8
          try clear p2
          obtain ⟨x5_2, x20_2, rfl, rfl, HA, HK2, BK255, HB⟩ := hrel
          cases gk with
          | zero => exact absurd HA.out (by simp [impl_usesIn.l0])
          | succ k2 =>
            have H := HA.out
            clear HA
            simp only [impl_usesIn.l0] at H
            by_cases c10 : x20_2 < (l0_8.length : Int)
            · rw [if_pos c10] at H
              have c10b0 : decide (x20_2 < (l0_8.length : Int)) = true := decide_eq_true c10
              clear c10
              by_cases c11 : 0 ≤ x20_2
              · rw [if_pos c11] at H
                have c11b0 : decide (0 ≤ x20_2) = true := decide_eq_true c11
                clear c11
                by_cases c12 : x20_2 < (l0_8.length : Int)
                · rw [if_pos c12] at H
                  have c12b0 : decide (x20_2 < (l0_8.length : Int)) = true := decide_eq_true c12
                  clear c12
                  replace H := Option.bind_eq_some_iff.mp H
                  obtain ⟨t258, A130, H⟩ := H
                  replace H : ((slices_Contains_string_string.f k2 t258 a1).bind fun t261 => (if t261 = true then (impl_usesIn.l0 k2 a1 x5_2 l0_8 (l0_8.length : Int) (wrap64 (x20_2 + 1)) a0_0 a0_1 a0_2 a0_3 a0_4 a0_5 l0_6 l0_7 l0_8) else ((impl_usesIn.f k2 ((rd_T35 l0_8 x20_2).f0) ((rd_T35 l0_8 x20_2).f1) ((rd_T35 l0_8 x20_2).f2) ((rd_T35 l0_8 x20_2).f3) ((rd_T35 l0_8 x20_2).f4.f0) ((rd_T35 l0_8 x20_2).f4.f1) ((rd_T35 l0_8 x20_2).f4.f2) ((rd_T35 l0_8 x20_2).f5) ((rd_T35 l0_8 x20_2).f6) a1).bind fun t262 => (impl_usesIn.l0 k2 a1 (wrap64 (x5_2 + t262)) l0_8 (l0_8.length : Int) (wrap64 (x20_2 + 1)) a0_0 a0_1 a0_2 a0_3 a0_4 a0_5 l0_6 l0_7 l0_8)))) = some r := H
                  have A13 := Aside0.mk A130
                  clear A130
                  replace H := Option.bind_eq_some_iff.mp H
                  obtain ⟨t261, A140, H⟩ := H
                  replace H : (if t261 = true then (impl_usesIn.l0 k2 a1 x5_2 l0_8 (l0_8.length : Int) (wrap64 (x20_2 + 1)) a0_0 a0_1 a0_2 a0_3 a0_4 a0_5 l0_6 l0_7 l0_8) else ((impl_usesIn.f k2 ((rd_T35 l0_8 x20_2).f0) ((rd_T35 l0_8 x20_2).f1) ((rd_T35 l0_8 x20_2).f2) ((rd_T35 l0_8 x20_2).f3) ((rd_T35 l0_8 x20_2).f4.f0) ((rd_T35 l0_8 x20_2).f4.f1) ((rd_T35 l0_8 x20_2).f4.f2) ((rd_T35 l0_8 x20_2).f5) ((rd_T35 l0_8 x20_2).f6) a1).bind fun t262 => (impl_usesIn.l0 k2 a1 (wrap64 (x5_2 + t262)) l0_8 (l0_8.length : Int) (wrap64 (x20_2 + 1)) a0_0 a0_1 a0_2 a0_3 a0_4 a0_5 l0_6 l0_7 l0_8))) = some r := H
                  have A14 := Aside0.mk A140
                  clear A140
                  by_cases c15 : t261 = true
                  · subst c15
                    have H1 : (impl_usesIn.l0 k2 a1 x5_2 l0_8 (l0_8.length : Int) (wrap64 (x20_2 + 1)) a0_0 a0_1 a0_2 a0_3 a0_4 a0_5 l0_6 l0_7 l0_8) = some r := by rw [if_pos rfl] at H; exact H
                    clear H
                    have H := H1
                    clear H1
                    have H' := Aside0.mk H
                    clear H
                    have p256 : 0 ≤ (x20_2 : Int) := of_decide_eq_true (by first | (with_reducible assumption) | assumption)
                    have q256 : x20_2 < (l0_8.length : Int) := of_decide_eq_true (by first | (with_reducible assumption) | assumption)
                    obtain ⟨ad256, A256_6, c256_6, A256_7, c256_7, A256_8, c256_8, e256, hx256_0, hx256_1, hx256_2, hx256_3, hx256_4, hx256_5, hx256_6, hx256_7, hx256_8, hl256_6, hi256_6, hl256_7, hi256_7, hl256_8, hi256_8⟩ := at_T35 HR0_8.out x20_2 p256 q256
                    cases e256
                    replace hx256_0 := (HB.out.cell (World.block_lt_of_cell? w _ hx256_0)).trans hx256_0
                    replace hx256_1 := (HB.out.cell (World.block_lt_of_cell? w _ hx256_1)).trans hx256_1
                    replace hx256_2 := (HB.out.cell (World.block_lt_of_cell? w _ hx256_2)).trans hx256_2
                    replace hx256_3 := (HB.out.cell (World.block_lt_of_cell? w _ hx256_3)).trans hx256_3
                    replace hx256_4 := (HB.out.cell (World.block_lt_of_cell? w _ hx256_4)).trans hx256_4
                    replace hx256_5 := (HB.out.cell (World.block_lt_of_cell? w _ hx256_5)).trans hx256_5
                    replace hx256_6 := (HB.out.cell (World.block_lt_of_cell? w _ hx256_6)).trans hx256_6
                    replace hx256_7 := (HB.out.cell (World.block_lt_of_cell? w _ hx256_7)).trans hx256_7
                    replace hx256_8 := (HB.out.cell (World.block_lt_of_cell? w _ hx256_8)).trans hx256_8
                    have HR256_6 := Aside0.mk hi256_6
                    have HC256_6 := Aside0.mk hl256_6
                    clear hi256_6 hl256_6
                    have HR256_7 := Aside0.mk hi256_7
                    have HC256_7 := Aside0.mk hl256_7
                    clear hi256_7 hl256_7
                    have HR256_8 := Aside0.mk hi256_8
                    have HC256_8 := Aside0.mk hl256_8
                    clear hi256_8 hl256_8
                    replace p256 := eq_true p256
                    replace q256 := eq_true q256
                    go_wp2_with (first | ((with_reducible refine gate_dst (N := 7) rfl ?_); refine box_event ?hg (N := 7) ?hd (cs := #[.int .i64 0, .int .i64 0, .string (⟨#[]⟩ : ByteArray), .string (⟨#[]⟩ : ByteArray), .int .i64 0, .int .i64 0, .slice none 0 0, .slice none 0 0, .slice none 0 0]) (t := 35) ?hr ?_; (case hd => rfl); (case hg => rfl); (case hr => first | (go_simp; done) | (go_simp; rfl)); intro gb257 hg w16 hbox hb; have n0_ := Aside0.mk (blk_below (g := gb255) (o := .cells #[.int .i64 a0_0, .int .i64 a0_1, .string a0_2, .string a0_3, .int .i64 a0_4, .int .i64 a0_5, .slice A0_6 l0_6.length c0_6, .slice A0_7 l0_7.length c0_7, .slice (some ad256) l0_8.length c0_8] 35 (0, 0)) (by (with_reducible repeat (first | refine blk_drewN ?_ _ | refine blk_drew ?_ | refine blk_alloc ?_ _)); exact BK255.out) hb); have n1_ := Aside0.mk (below_step (by repeat (first | (with_reducible first | exact HB.out | apply below_alloc | apply pw_below_drewN | apply below_drew1 | refine below_set ?_ GE255.out) | exact HB.out)) hb); have n2_ := Aside0.mk (hbox); have n3_ := Aside0.mk ((by rw [hg]; exact (below_size (by repeat (first | (with_reducible first | exact HB.out | apply below_alloc | apply pw_below_drewN | apply below_drew1 | refine below_set ?_ GE255.out) | exact HB.out))) : w.heap.size ≤ gb257)); have n4_ := Aside0.mk ((by rw [hg]; exact (below_size (by repeat (first | (with_reducible first | exact HB.out | apply below_alloc | apply pw_below_drewN | apply below_drew1 | refine below_set ?_ GE255.out) | exact HB.out))) : w.heap.size ≤ gb257)); have n5_ := Aside0.mk ((by rw [hg]; exact Nat.ne_of_lt (blk_lt (g := gb255) (o := .cells #[.int .i64 a0_0, .int .i64 a0_1, .string a0_2, .string a0_3, .int .i64 a0_4, .int .i64 a0_5, .slice A0_6 l0_6.length c0_6, .slice A0_7 l0_7.length c0_7, .slice (some ad256) l0_8.length c0_8] 35 (0, 0)) (by (with_reducible repeat (first | refine blk_drewN ?_ _ | refine blk_drew ?_ | refine blk_alloc ?_ _)); exact BK255.out)) : gb255 ≠ gb257)); have n6_ := Aside0.mk ((by rw [hg]; exact Nat.ne_of_gt (blk_lt (g := gb255) (o := .cells #[.int .i64 a0_0, .int .i64 a0_1, .string a0_2, .string a0_3, .int .i64 a0_4, .int .i64 a0_5, .slice A0_6 l0_6.length c0_6, .slice A0_7 l0_7.length c0_7, .slice (some ad256) l0_8.length c0_8] 35 (0, 0)) (by (with_reducible repeat (first | refine blk_drewN ?_ _ | refine blk_drew ?_ | refine blk_alloc ?_ _)); exact BK255.out)) : gb257 ≠ gb255)); clear BK255; clear HB; have BK255 := n0_; have HB := n1_; have BK257 := n2_; have GW257 := n3_; have GE257 := n4_; have NB255_257 := n5_; have NB257_255 := n6_; clear n0_ n1_ n2_ n3_ n4_ n5_ n6_; clear hb hbox hg; have hnb17 := NB257_255.out; have hnc17 := NB255_257.out; have hcz18_0 : w16.cell? ⟨gb257, 0, none⟩ = some (.int .i64 0) := (blk_cell BK257.out 0).trans rfl; have hcz18_1 : w16.cell? ⟨gb257, 1, none⟩ = some (.int .i64 0) := (blk_cell BK257.out 1).trans rfl; have hcz18_2 : w16.cell? ⟨gb257, 2, none⟩ = some (.string (⟨#[]⟩ : ByteArray)) := (blk_cell BK257.out 2).trans rfl; have hcz18_3 : w16.cell? ⟨gb257, 3, none⟩ = some (.string (⟨#[]⟩ : ByteArray)) := (blk_cell BK257.out 3).trans rfl; have hcz18_4 : w16.cell? ⟨gb257, 4, none⟩ = some (.int .i64 0) := (blk_cell BK257.out 4).trans rfl; have hcz18_5 : w16.cell? ⟨gb257, 5, none⟩ = some (.int .i64 0) := (blk_cell BK257.out 5).trans rfl; have hcz18_6 : w16.cell? ⟨gb257, 6, none⟩ = some (.slice none 0 0) := (blk_cell BK257.out 6).trans rfl; have hcz18_7 : w16.cell? ⟨gb257, 7, none⟩ = some (.slice none 0 0) := (blk_cell BK257.out 7).trans rfl; have hcz18_8 : w16.cell? ⟨gb257, 8, none⟩ = some (.slice none 0 0) := (blk_cell BK257.out 8).trans rfl; have hfz18_0 := blk_frozen BK257.out 0; have hfz18_1 := blk_frozen BK257.out 1; have hfz18_2 := blk_frozen BK257.out 2; have hfz18_3 := blk_frozen BK257.out 3; have hfz18_4 := blk_frozen BK257.out 4; have hfz18_5 := blk_frozen BK257.out 5; have hfz18_6 := blk_frozen BK257.out 6; have hfz18_7 := blk_frozen BK257.out 7; have hfz18_8 := blk_frozen BK257.out 8; have hcz19_0 : w16.cell? ⟨gb255, 0, none⟩ = some (.int .i64 a0_0) := (blk_cell BK255.out 0).trans rfl; have hcz19_1 : w16.cell? ⟨gb255, 1, none⟩ = some (.int .i64 a0_1) := (blk_cell BK255.out 1).trans rfl; have hcz19_2 : w16.cell? ⟨gb255, 2, none⟩ = some (.string a0_2) := (blk_cell BK255.out 2).trans rfl; have hcz19_3 : w16.cell? ⟨gb255, 3, none⟩ = some (.string a0_3) := (blk_cell BK255.out 3).trans rfl; have hcz19_4 : w16.cell? ⟨gb255, 4, none⟩ = some (.int .i64 a0_4) := (blk_cell BK255.out 4).trans rfl; have hcz19_5 : w16.cell? ⟨gb255, 5, none⟩ = some (.int .i64 a0_5) := (blk_cell BK255.out 5).trans rfl; have hcz19_6 : w16.cell? ⟨gb255, 6, none⟩ = some (.slice A0_6 l0_6.length c0_6) := (blk_cell BK255.out 6).trans rfl; have hcz19_7 : w16.cell? ⟨gb255, 7, none⟩ = some (.slice A0_7 l0_7.length c0_7) := (blk_cell BK255.out 7).trans rfl; have hcz19_8 : w16.cell? ⟨gb255, 8, none⟩ = some (.slice (some ad256) l0_8.length c0_8) := (blk_cell BK255.out 8).trans rfl; have hfz19_0 := blk_frozen BK255.out 0; have hfz19_1 := blk_frozen BK255.out 1; have hfz19_2 := blk_frozen BK255.out 2; have hfz19_3 := blk_frozen BK255.out 3; have hfz19_4 := blk_frozen BK255.out 4; have hfz19_5 := blk_frozen BK255.out 5; have hfz19_6 := blk_frozen BK255.out 6; have hfz19_7 := blk_frozen BK255.out 7; have hfz19_8 := blk_frozen BK255.out 8) | ((with_reducible refine gate_callee (f := 146) rfl ?_); refine goesL_ (some 27) rfl rfl Try.func146 (by kernel_rfl) rfl #[.agg #[.int .i64 a0_0, .int .i64 a0_1, .string a0_2, .string a0_3, .int .i64 a0_4, .int .i64 a0_5, .slice A0_6 l0_6.length c0_6, .slice A0_7 l0_7.length c0_7, .slice (some ad256) l0_8.length c0_8], .int .i64 x20_2] rfl (by (try simp only [List.map_toArray, List.map_cons, List.map_nil]); first | done | rfl | (simp only [List.length_drop, List.length_take]; rfl)) ?_; (with_reducible refine (impl_boundIn.calls k2 a0_0 a0_1 a0_2 a0_3 a0_4 a0_5 _ _ l0_6 _ _ l0_7 _ _ l0_8 x20_2 t258 _ ?side1 ?side2 ?side3 ?side4 ?side5 ?side6 A13.out).mono ?_); (case side1 => exact Kd.C_below HR0_6.out (by repeat (first | (with_reducible first | exact HB.out | apply below_alloc | apply pw_below_drewN | apply below_drew1 | refine below_set ?_ GE255.out | refine below_set ?_ GE257.out) | exact HB.out))); (case side2 => exact HC0_6.out); (case side3 => exact Kd.C_below HR0_7.out (by repeat (first | (with_reducible first | exact HB.out | apply below_alloc | apply pw_below_drewN | apply below_drew1 | refine below_set ?_ GE255.out | refine below_set ?_ GE257.out) | exact HB.out))); (case side4 => exact HC0_7.out); (case side5 => exact Kd.C_below HR0_8.out (by repeat (first | (with_reducible first | exact HB.out | apply below_alloc | apply pw_below_drewN | apply below_drew1 | refine below_set ?_ GE255.out | refine below_set ?_ GE257.out) | exact HB.out))); (case side6 => exact HC0_8.out); rintro e w20 ⟨v259, rfl, ho0, hb⟩; refine ⟨_, rfl, ?_⟩; have n0_ := Aside0.mk (Kd.R_lower ho0 (below_size (by repeat (first | (with_reducible first | exact HB.out | apply below_alloc | apply pw_below_drewN | apply below_drew1 | refine below_set ?_ GE255.out | refine below_set ?_ GE257.out) | exact HB.out)))); have n1_ := Aside0.mk (blk_below (g := gb255) (o := .cells #[.int .i64 a0_0, .int .i64 a0_1, .string a0_2, .string a0_3, .int .i64 a0_4, .int .i64 a0_5, .slice A0_6 l0_6.length c0_6, .slice A0_7 l0_7.length c0_7, .slice (some ad256) l0_8.length c0_8] 35 (0, 0)) (by (with_reducible repeat (first | refine blk_drewN ?_ _ | refine blk_drew ?_ | refine blk_alloc ?_ _)); refine blk_far ?_ NB255_257.out _; (with_reducible repeat (first | refine blk_drewN ?_ _ | refine blk_drew ?_ | refine blk_alloc ?_ _)); refine blk_far ?_ NB255_257.out _; (with_reducible repeat (first | refine blk_drewN ?_ _ | refine blk_drew ?_ | refine blk_alloc ?_ _)); refine blk_far ?_ NB255_257.out _; (with_reducible repeat (first | refine blk_drewN ?_ _ | refine blk_drew ?_ | refine blk_alloc ?_ _)); refine blk_far ?_ NB255_257.out _; (with_reducible repeat (first | refine blk_drewN ?_ _ | refine blk_drew ?_ | refine blk_alloc ?_ _)); refine blk_far ?_ NB255_257.out _; (with_reducible repeat (first | refine blk_drewN ?_ _ | refine blk_drew ?_ | refine blk_alloc ?_ _)); refine blk_far ?_ NB255_257.out _; (with_reducible repeat (first | refine blk_drewN ?_ _ | refine blk_drew ?_ | refine blk_alloc ?_ _)); refine blk_far ?_ NB255_257.out _; (with_reducible repeat (first | refine blk_drewN ?_ _ | refine blk_drew ?_ | refine blk_alloc ?_ _)); refine blk_far ?_ NB255_257.out _; (with_reducible repeat (first | refine blk_drewN ?_ _ | refine blk_drew ?_ | refine blk_alloc ?_ _)); refine blk_far ?_ NB255_257.out _; (with_reducible repeat (first | refine blk_drewN ?_ _ | refine blk_drew ?_ | refine blk_alloc ?_ _)); exact BK255.out) hb); have n2_ := Aside0.mk (blk_below (g := gb257) (o := .cells #[.int .i64 ((rd_T35 l0_8 x20_2).f0), .int .i64 ((rd_T35 l0_8 x20_2).f1), .string ((rd_T35 l0_8 x20_2).f2), .string ((rd_T35 l0_8 x20_2).f3), .int .i64 ((rd_T35 l0_8 x20_2).f4.f0), .int .i64 ((rd_T35 l0_8 x20_2).f4.f1), .slice A256_6 ((rd_T35 l0_8 x20_2).f4.f2).length c256_6, .slice A256_7 ((rd_T35 l0_8 x20_2).f5).length c256_7, .slice A256_8 ((rd_T35 l0_8 x20_2).f6).length c256_8] 35 (0, 0)) (by (with_reducible repeat (first | refine blk_drewN ?_ _ | refine blk_drew ?_ | refine blk_alloc ?_ _)); refine blk_put (cs := #[.int .i64 ((rd_T35 l0_8 x20_2).f0), .int .i64 ((rd_T35 l0_8 x20_2).f1), .string ((rd_T35 l0_8 x20_2).f2), .string ((rd_T35 l0_8 x20_2).f3), .int .i64 ((rd_T35 l0_8 x20_2).f4.f0), .int .i64 ((rd_T35 l0_8 x20_2).f4.f1), .slice A256_6 ((rd_T35 l0_8 x20_2).f4.f2).length c256_6, .slice A256_7 ((rd_T35 l0_8 x20_2).f5).length c256_7, .slice none 0 0]) ?_ 8 _ rfl; (with_reducible repeat (first | refine blk_drewN ?_ _ | refine blk_drew ?_ | refine blk_alloc ?_ _)); refine blk_put (cs := #[.int .i64 ((rd_T35 l0_8 x20_2).f0), .int .i64 ((rd_T35 l0_8 x20_2).f1), .string ((rd_T35 l0_8 x20_2).f2), .string ((rd_T35 l0_8 x20_2).f3), .int .i64 ((rd_T35 l0_8 x20_2).f4.f0), .int .i64 ((rd_T35 l0_8 x20_2).f4.f1), .slice A256_6 ((rd_T35 l0_8 x20_2).f4.f2).length c256_6, .slice none 0 0, .slice none 0 0]) ?_ 7 _ rfl; (with_reducible repeat (first | refine blk_drewN ?_ _ | refine blk_drew ?_ | refine blk_alloc ?_ _)); refine blk_put (cs := #[.int .i64 ((rd_T35 l0_8 x20_2).f0), .int .i64 ((rd_T35 l0_8 x20_2).f1), .string ((rd_T35 l0_8 x20_2).f2), .string ((rd_T35 l0_8 x20_2).f3), .int .i64 ((rd_T35 l0_8 x20_2).f4.f0), .int .i64 ((rd_T35 l0_8 x20_2).f4.f1), .slice none 0 0, .slice none 0 0, .slice none 0 0]) ?_ 6 _ rfl; (with_reducible repeat (first | refine blk_drewN ?_ _ | refine blk_drew ?_ | refine blk_alloc ?_ _)); refine blk_put (cs := #[.int .i64 ((rd_T35 l0_8 x20_2).f0), .int .i64 ((rd_T35 l0_8 x20_2).f1), .string ((rd_T35 l0_8 x20_2).f2), .string ((rd_T35 l0_8 x20_2).f3), .int .i64 ((rd_T35 l0_8 x20_2).f4.f0), .int .i64 0, .slice none 0 0, .slice none 0 0, .slice none 0 0]) ?_ 5 _ rfl; (with_reducible repeat (first | refine blk_drewN ?_ _ | refine blk_drew ?_ | refine blk_alloc ?_ _)); refine blk_put (cs := #[.int .i64 ((rd_T35 l0_8 x20_2).f0), .int .i64 ((rd_T35 l0_8 x20_2).f1), .string ((rd_T35 l0_8 x20_2).f2), .string ((rd_T35 l0_8 x20_2).f3), .int .i64 0, .int .i64 0, .slice none 0 0, .slice none 0 0, .slice none 0 0]) ?_ 4 _ rfl; (with_reducible repeat (first | refine blk_drewN ?_ _ | refine blk_drew ?_ | refine blk_alloc ?_ _)); refine blk_put (cs := #[.int .i64 ((rd_T35 l0_8 x20_2).f0), .int .i64 ((rd_T35 l0_8 x20_2).f1), .string ((rd_T35 l0_8 x20_2).f2), .string (⟨#[]⟩ : ByteArray), .int .i64 0, .int .i64 0, .slice none 0 0, .slice none 0 0, .slice none 0 0]) ?_ 3 _ rfl; (with_reducible repeat (first | refine blk_drewN ?_ _ | refine blk_drew ?_ | refine blk_alloc ?_ _)); refine blk_put (cs := #[.int .i64 ((rd_T35 l0_8 x20_2).f0), .int .i64 ((rd_T35 l0_8 x20_2).f1), .string (⟨#[]⟩ : ByteArray), .string (⟨#[]⟩ : ByteArray), .int .i64 0, .int .i64 0, .slice none 0 0, .slice none 0 0, .slice none 0 0]) ?_ 2 _ rfl; (with_reducible repeat (first | refine blk_drewN ?_ _ | refine blk_drew ?_ | refine blk_alloc ?_ _)); refine blk_put (cs := #[.int .i64 ((rd_T35 l0_8 x20_2).f0), .int .i64 0, .string (⟨#[]⟩ : ByteArray), .string (⟨#[]⟩ : ByteArray), .int .i64 0, .int .i64 0, .slice none 0 0, .slice none 0 0, .slice none 0 0]) ?_ 1 _ rfl; (with_reducible repeat (first | refine blk_drewN ?_ _ | refine blk_drew ?_ | refine blk_alloc ?_ _)); refine blk_put (cs := #[.int .i64 0, .int .i64 0, .string (⟨#[]⟩ : ByteArray), .string (⟨#[]⟩ : ByteArray), .int .i64 0, .int .i64 0, .slice none 0 0, .slice none 0 0, .slice none 0 0]) ?_ 0 _ rfl; (with_reducible repeat (first | refine blk_drewN ?_ _ | refine blk_drew ?_ | refine blk_alloc ?_ _)); exact BK257.out) hb); have n3_ := Aside0.mk (below_step (by repeat (first | (with_reducible first | exact HB.out | apply below_alloc | apply pw_below_drewN | apply below_drew1 | refine below_set ?_ GE255.out | refine below_set ?_ GE257.out) | exact HB.out)) hb); clear BK255; clear BK257; clear HB; have HO260 := n0_; have BK255 := n1_; have BK257 := n2_; have HB := n3_; clear n0_ n1_ n2_ n3_; (try clear hb); (try clear hb2); (try clear hk); (try clear hi); (try clear ho0); obtain ⟨Ao21, co21, eo21⟩ := Kd.R_slice HO260.out; subst eo21) | ((with_reducible refine gate_callee (f := 145) rfl ?_); refine goesL_ (some 29) rfl rfl Try.func145 (by kernel_rfl) rfl #[.slice Ao21 t258.length co21, .string a1] rfl (by (try simp only [List.map_toArray, List.map_cons, List.map_nil]); first | done | rfl | (simp only [List.length_drop, List.length_take]; rfl)) ?_; (with_reducible refine (slices_Contains_string_string.calls k2 _ _ t258 a1 true _ ?side1 ?side2 A14.out).mono ?_); (case side1 => repeat (first | exact (Kd.R_reads' HO260.out).2.2 | (with_reducible refine Kd.C_alloc ?_ _) | (with_reducible refine Kd.C_drewN ?_ _) | (with_reducible refine Kd.C_drew ?_))); (case side2 => exact (Kd.R_reads' HO260.out).2.1); rintro e w' ⟨rfl, ⟨nd, rfl⟩⟩; refine ⟨_, rfl, ?_⟩))
                    go_roundg k2
                    case measure => have := HJ2.out; have := HK2.out; omega
                    case rel => exact ⟨(x5_2), (wrap64 (x20_2 + 1)), (by first | rfl | (simp; done) | (simp [*]; done)), (by first | rfl | (simp; done) | (simp [*]; done)), H', ⟨by have := HJ2.out; have := HK2.out; omega⟩, ⟨by (with_reducible repeat (first | refine blk_drewN ?_ _ | refine blk_drew ?_ | refine blk_alloc ?_ _)); exact BK255.out⟩, ⟨by repeat (first | (with_reducible first | exact HB.out | apply below_alloc | apply pw_below_drewN | apply below_drew1 | refine below_set ?_ GE255.out | refine below_set ?_ GE257.out) | exact HB.out)⟩⟩
                  · replace c15 := Bool.eq_false_iff.mpr c15
                    subst c15
                    have H1 : ((impl_usesIn.f k2 ((rd_T35 l0_8 x20_2).f0) ((rd_T35 l0_8 x20_2).f1) ((rd_T35 l0_8 x20_2).f2) ((rd_T35 l0_8 x20_2).f3) ((rd_T35 l0_8 x20_2).f4.f0) ((rd_T35 l0_8 x20_2).f4.f1) ((rd_T35 l0_8 x20_2).f4.f2) ((rd_T35 l0_8 x20_2).f5) ((rd_T35 l0_8 x20_2).f6) a1).bind fun t262 => (impl_usesIn.l0 k2 a1 (wrap64 (x5_2 + t262)) l0_8 (l0_8.length : Int) (wrap64 (x20_2 + 1)) a0_0 a0_1 a0_2 a0_3 a0_4 a0_5 l0_6 l0_7 l0_8)) = some r := by rw [if_neg (show ¬ (false = true) by decide)] at H; exact H
                    clear H
                    have H := H1
                    clear H1
                    replace H := Option.bind_eq_some_iff.mp H
                    obtain ⟨t262, A220, H⟩ := H
                    replace H : (impl_usesIn.l0 k2 a1 (wrap64 (x5_2 + t262)) l0_8 (l0_8.length : Int) (wrap64 (x20_2 + 1)) a0_0 a0_1 a0_2 a0_3 a0_4 a0_5 l0_6 l0_7 l0_8) = some r := H
                    have A22 := Aside0.mk A220
                    clear A220
                    have H' := Aside0.mk H
                    clear H
                    have p256 : 0 ≤ (x20_2 : Int) := of_decide_eq_true (by first | (with_reducible assumption) | assumption)
                    have q256 : x20_2 < (l0_8.length : Int) := of_decide_eq_true (by first | (with_reducible assumption) | assumption)
                    obtain ⟨ad256, A256_6, c256_6, A256_7, c256_7, A256_8, c256_8, e256, hx256_0, hx256_1, hx256_2, hx256_3, hx256_4, hx256_5, hx256_6, hx256_7, hx256_8, hl256_6, hi256_6, hl256_7, hi256_7, hl256_8, hi256_8⟩ := at_T35 HR0_8.out x20_2 p256 q256
                    cases e256
                    replace hx256_0 := (HB.out.cell (World.block_lt_of_cell? w _ hx256_0)).trans hx256_0
                    replace hx256_1 := (HB.out.cell (World.block_lt_of_cell? w _ hx256_1)).trans hx256_1
                    replace hx256_2 := (HB.out.cell (World.block_lt_of_cell? w _ hx256_2)).trans hx256_2
                    replace hx256_3 := (HB.out.cell (World.block_lt_of_cell? w _ hx256_3)).trans hx256_3
                    replace hx256_4 := (HB.out.cell (World.block_lt_of_cell? w _ hx256_4)).trans hx256_4
                    replace hx256_5 := (HB.out.cell (World.block_lt_of_cell? w _ hx256_5)).trans hx256_5
                    replace hx256_6 := (HB.out.cell (World.block_lt_of_cell? w _ hx256_6)).trans hx256_6
                    replace hx256_7 := (HB.out.cell (World.block_lt_of_cell? w _ hx256_7)).trans hx256_7
                    replace hx256_8 := (HB.out.cell (World.block_lt_of_cell? w _ hx256_8)).trans hx256_8
                    have HR256_6 := Aside0.mk hi256_6
                    have HC256_6 := Aside0.mk hl256_6
                    clear hi256_6 hl256_6
                    have HR256_7 := Aside0.mk hi256_7
                    have HC256_7 := Aside0.mk hl256_7
                    clear hi256_7 hl256_7
                    have HR256_8 := Aside0.mk hi256_8
                    have HC256_8 := Aside0.mk hl256_8
                    clear hi256_8 hl256_8
                    replace p256 := eq_true p256
                    replace q256 := eq_true q256
                    go_wp2_with (first | ((with_reducible refine gate_dst (N := 7) rfl ?_); refine box_event ?hg (N := 7) ?hd (cs := #[.int .i64 0, .int .i64 0, .string (⟨#[]⟩ : ByteArray), .string (⟨#[]⟩ : ByteArray), .int .i64 0, .int .i64 0, .slice none 0 0, .slice none 0 0, .slice none 0 0]) (t := 35) ?hr ?_; (case hd => rfl); (case hg => rfl); (case hr => first | (go_simp; done) | (go_simp; rfl)); intro gb257 hg w23 hbox hb; have n0_ := Aside0.mk (blk_below (g := gb255) (o := .cells #[.int .i64 a0_0, .int .i64 a0_1, .string a0_2, .string a0_3, .int .i64 a0_4, .int .i64 a0_5, .slice A0_6 l0_6.length c0_6, .slice A0_7 l0_7.length c0_7, .slice (some ad256) l0_8.length c0_8] 35 (0, 0)) (by (with_reducible repeat (first | refine blk_drewN ?_ _ | refine blk_drew ?_ | refine blk_alloc ?_ _)); exact BK255.out) hb); have n1_ := Aside0.mk (below_step (by repeat (first | (with_reducible first | exact HB.out | apply below_alloc | apply pw_below_drewN | apply below_drew1 | refine below_set ?_ GE255.out) | exact HB.out)) hb); have n2_ := Aside0.mk (hbox); have n3_ := Aside0.mk ((by rw [hg]; exact (below_size (by repeat (first | (with_reducible first | exact HB.out | apply below_alloc | apply pw_below_drewN | apply below_drew1 | refine below_set ?_ GE255.out) | exact HB.out))) : w.heap.size ≤ gb257)); have n4_ := Aside0.mk ((by rw [hg]; exact (below_size (by repeat (first | (with_reducible first | exact HB.out | apply below_alloc | apply pw_below_drewN | apply below_drew1 | refine below_set ?_ GE255.out) | exact HB.out))) : w.heap.size ≤ gb257)); have n5_ := Aside0.mk ((by rw [hg]; exact Nat.ne_of_lt (blk_lt (g := gb255) (o := .cells #[.int .i64 a0_0, .int .i64 a0_1, .string a0_2, .string a0_3, .int .i64 a0_4, .int .i64 a0_5, .slice A0_6 l0_6.length c0_6, .slice A0_7 l0_7.length c0_7, .slice (some ad256) l0_8.length c0_8] 35 (0, 0)) (by (with_reducible repeat (first | refine blk_drewN ?_ _ | refine blk_drew ?_ | refine blk_alloc ?_ _)); exact BK255.out)) : gb255 ≠ gb257)); have n6_ := Aside0.mk ((by rw [hg]; exact Nat.ne_of_gt (blk_lt (g := gb255) (o := .cells #[.int .i64 a0_0, .int .i64 a0_1, .string a0_2, .string a0_3, .int .i64 a0_4, .int .i64 a0_5, .slice A0_6 l0_6.length c0_6, .slice A0_7 l0_7.length c0_7, .slice (some ad256) l0_8.length c0_8] 35 (0, 0)) (by (with_reducible repeat (first | refine blk_drewN ?_ _ | refine blk_drew ?_ | refine blk_alloc ?_ _)); exact BK255.out)) : gb257 ≠ gb255)); clear BK255; clear HB; have BK255 := n0_; have HB := n1_; have BK257 := n2_; have GW257 := n3_; have GE257 := n4_; have NB255_257 := n5_; have NB257_255 := n6_; clear n0_ n1_ n2_ n3_ n4_ n5_ n6_; clear hb hbox hg; have hnb24 := NB257_255.out; have hnc24 := NB255_257.out; have hcz25_0 : w23.cell? ⟨gb257, 0, none⟩ = some (.int .i64 0) := (blk_cell BK257.out 0).trans rfl; have hcz25_1 : w23.cell? ⟨gb257, 1, none⟩ = some (.int .i64 0) := (blk_cell BK257.out 1).trans rfl; have hcz25_2 : w23.cell? ⟨gb257, 2, none⟩ = some (.string (⟨#[]⟩ : ByteArray)) := (blk_cell BK257.out 2).trans rfl; have hcz25_3 : w23.cell? ⟨gb257, 3, none⟩ = some (.string (⟨#[]⟩ : ByteArray)) := (blk_cell BK257.out 3).trans rfl; have hcz25_4 : w23.cell? ⟨gb257, 4, none⟩ = some (.int .i64 0) := (blk_cell BK257.out 4).trans rfl; have hcz25_5 : w23.cell? ⟨gb257, 5, none⟩ = some (.int .i64 0) := (blk_cell BK257.out 5).trans rfl; have hcz25_6 : w23.cell? ⟨gb257, 6, none⟩ = some (.slice none 0 0) := (blk_cell BK257.out 6).trans rfl; have hcz25_7 : w23.cell? ⟨gb257, 7, none⟩ = some (.slice none 0 0) := (blk_cell BK257.out 7).trans rfl; have hcz25_8 : w23.cell? ⟨gb257, 8, none⟩ = some (.slice none 0 0) := (blk_cell BK257.out 8).trans rfl; have hfz25_0 := blk_frozen BK257.out 0; have hfz25_1 := blk_frozen BK257.out 1; have hfz25_2 := blk_frozen BK257.out 2; have hfz25_3 := blk_frozen BK257.out 3; have hfz25_4 := blk_frozen BK257.out 4; have hfz25_5 := blk_frozen BK257.out 5; have hfz25_6 := blk_frozen BK257.out 6; have hfz25_7 := blk_frozen BK257.out 7; have hfz25_8 := blk_frozen BK257.out 8; have hcz26_0 : w23.cell? ⟨gb255, 0, none⟩ = some (.int .i64 a0_0) := (blk_cell BK255.out 0).trans rfl; have hcz26_1 : w23.cell? ⟨gb255, 1, none⟩ = some (.int .i64 a0_1) := (blk_cell BK255.out 1).trans rfl; have hcz26_2 : w23.cell? ⟨gb255, 2, none⟩ = some (.string a0_2) := (blk_cell BK255.out 2).trans rfl; have hcz26_3 : w23.cell? ⟨gb255, 3, none⟩ = some (.string a0_3) := (blk_cell BK255.out 3).trans rfl; have hcz26_4 : w23.cell? ⟨gb255, 4, none⟩ = some (.int .i64 a0_4) := (blk_cell BK255.out 4).trans rfl; have hcz26_5 : w23.cell? ⟨gb255, 5, none⟩ = some (.int .i64 a0_5) := (blk_cell BK255.out 5).trans rfl; have hcz26_6 : w23.cell? ⟨gb255, 6, none⟩ = some (.slice A0_6 l0_6.length c0_6) := (blk_cell BK255.out 6).trans rfl; have hcz26_7 : w23.cell? ⟨gb255, 7, none⟩ = some (.slice A0_7 l0_7.length c0_7) := (blk_cell BK255.out 7).trans rfl; have hcz26_8 : w23.cell? ⟨gb255, 8, none⟩ = some (.slice (some ad256) l0_8.length c0_8) := (blk_cell BK255.out 8).trans rfl; have hfz26_0 := blk_frozen BK255.out 0; have hfz26_1 := blk_frozen BK255.out 1; have hfz26_2 := blk_frozen BK255.out 2; have hfz26_3 := blk_frozen BK255.out 3; have hfz26_4 := blk_frozen BK255.out 4; have hfz26_5 := blk_frozen BK255.out 5; have hfz26_6 := blk_frozen BK255.out 6; have hfz26_7 := blk_frozen BK255.out 7; have hfz26_8 := blk_frozen BK255.out 8) | ((with_reducible refine gate_callee (f := 146) rfl ?_); refine goesL_ (some 27) rfl rfl Try.func146 (by kernel_rfl) rfl #[.agg #[.int .i64 a0_0, .int .i64 a0_1, .string a0_2, .string a0_3, .int .i64 a0_4, .int .i64 a0_5, .slice A0_6 l0_6.length c0_6, .slice A0_7 l0_7.length c0_7, .slice (some ad256) l0_8.length c0_8], .int .i64 x20_2] rfl (by (try simp only [List.map_toArray, List.map_cons, List.map_nil]); first | done | rfl | (simp only [List.length_drop, List.length_take]; rfl)) ?_; (with_reducible refine (impl_boundIn.calls k2 a0_0 a0_1 a0_2 a0_3 a0_4 a0_5 _ _ l0_6 _ _ l0_7 _ _ l0_8 x20_2 t258 _ ?side1 ?side2 ?side3 ?side4 ?side5 ?side6 A13.out).mono ?_); (case side1 => exact Kd.C_below HR0_6.out (by repeat (first | (with_reducible first | exact HB.out | apply below_alloc | apply pw_below_drewN | apply below_drew1 | refine below_set ?_ GE255.out | refine below_set ?_ GE257.out) | exact HB.out))); (case side2 => exact HC0_6.out); (case side3 => exact Kd.C_below HR0_7.out (by repeat (first | (with_reducible first | exact HB.out | apply below_alloc | apply pw_below_drewN | apply below_drew1 | refine below_set ?_ GE255.out | refine below_set ?_ GE257.out) | exact HB.out))); (case side4 => exact HC0_7.out); (case side5 => exact Kd.C_below HR0_8.out (by repeat (first | (with_reducible first | exact HB.out | apply below_alloc | apply pw_below_drewN | apply below_drew1 | refine below_set ?_ GE255.out | refine below_set ?_ GE257.out) | exact HB.out))); (case side6 => exact HC0_8.out); rintro e w27 ⟨v259, rfl, ho0, hb⟩; refine ⟨_, rfl, ?_⟩; have n0_ := Aside0.mk (Kd.R_lower ho0 (below_size (by repeat (first | (with_reducible first | exact HB.out | apply below_alloc | apply pw_below_drewN | apply below_drew1 | refine below_set ?_ GE255.out | refine below_set ?_ GE257.out) | exact HB.out)))); have n1_ := Aside0.mk (blk_below (g := gb255) (o := .cells #[.int .i64 a0_0, .int .i64 a0_1, .string a0_2, .string a0_3, .int .i64 a0_4, .int .i64 a0_5, .slice A0_6 l0_6.length c0_6, .slice A0_7 l0_7.length c0_7, .slice (some ad256) l0_8.length c0_8] 35 (0, 0)) (by (with_reducible repeat (first | refine blk_drewN ?_ _ | refine blk_drew ?_ | refine blk_alloc ?_ _)); refine blk_far ?_ NB255_257.out _; (with_reducible repeat (first | refine blk_drewN ?_ _ | refine blk_drew ?_ | refine blk_alloc ?_ _)); refine blk_far ?_ NB255_257.out _; (with_reducible repeat (first | refine blk_drewN ?_ _ | refine blk_drew ?_ | refine blk_alloc ?_ _)); refine blk_far ?_ NB255_257.out _; (with_reducible repeat (first | refine blk_drewN ?_ _ | refine blk_drew ?_ | refine blk_alloc ?_ _)); refine blk_far ?_ NB255_257.out _; (with_reducible repeat (first | refine blk_drewN ?_ _ | refine blk_drew ?_ | refine blk_alloc ?_ _)); refine blk_far ?_ NB255_257.out _; (with_reducible repeat (first | refine blk_drewN ?_ _ | refine blk_drew ?_ | refine blk_alloc ?_ _)); refine blk_far ?_ NB255_257.out _; (with_reducible repeat (first | refine blk_drewN ?_ _ | refine blk_drew ?_ | refine blk_alloc ?_ _)); refine blk_far ?_ NB255_257.out _; (with_reducible repeat (first | refine blk_drewN ?_ _ | refine blk_drew ?_ | refine blk_alloc ?_ _)); refine blk_far ?_ NB255_257.out _; (with_reducible repeat (first | refine blk_drewN ?_ _ | refine blk_drew ?_ | refine blk_alloc ?_ _)); refine blk_far ?_ NB255_257.out _; (with_reducible repeat (first | refine blk_drewN ?_ _ | refine blk_drew ?_ | refine blk_alloc ?_ _)); exact BK255.out) hb); have n2_ := Aside0.mk (blk_below (g := gb257) (o := .cells #[.int .i64 ((rd_T35 l0_8 x20_2).f0), .int .i64 ((rd_T35 l0_8 x20_2).f1), .string ((rd_T35 l0_8 x20_2).f2), .string ((rd_T35 l0_8 x20_2).f3), .int .i64 ((rd_T35 l0_8 x20_2).f4.f0), .int .i64 ((rd_T35 l0_8 x20_2).f4.f1), .slice A256_6 ((rd_T35 l0_8 x20_2).f4.f2).length c256_6, .slice A256_7 ((rd_T35 l0_8 x20_2).f5).length c256_7, .slice A256_8 ((rd_T35 l0_8 x20_2).f6).length c256_8] 35 (0, 0)) (by (with_reducible repeat (first | refine blk_drewN ?_ _ | refine blk_drew ?_ | refine blk_alloc ?_ _)); refine blk_put (cs := #[.int .i64 ((rd_T35 l0_8 x20_2).f0), .int .i64 ((rd_T35 l0_8 x20_2).f1), .string ((rd_T35 l0_8 x20_2).f2), .string ((rd_T35 l0_8 x20_2).f3), .int .i64 ((rd_T35 l0_8 x20_2).f4.f0), .int .i64 ((rd_T35 l0_8 x20_2).f4.f1), .slice A256_6 ((rd_T35 l0_8 x20_2).f4.f2).length c256_6, .slice A256_7 ((rd_T35 l0_8 x20_2).f5).length c256_7, .slice none 0 0]) ?_ 8 _ rfl; (with_reducible repeat (first | refine blk_drewN ?_ _ | refine blk_drew ?_ | refine blk_alloc ?_ _)); refine blk_put (cs := #[.int .i64 ((rd_T35 l0_8 x20_2).f0), .int .i64 ((rd_T35 l0_8 x20_2).f1), .string ((rd_T35 l0_8 x20_2).f2), .string ((rd_T35 l0_8 x20_2).f3), .int .i64 ((rd_T35 l0_8 x20_2).f4.f0), .int .i64 ((rd_T35 l0_8 x20_2).f4.f1), .slice A256_6 ((rd_T35 l0_8 x20_2).f4.f2).length c256_6, .slice none 0 0, .slice none 0 0]) ?_ 7 _ rfl; (with_reducible repeat (first | refine blk_drewN ?_ _ | refine blk_drew ?_ | refine blk_alloc ?_ _)); refine blk_put (cs := #[.int .i64 ((rd_T35 l0_8 x20_2).f0), .int .i64 ((rd_T35 l0_8 x20_2).f1), .string ((rd_T35 l0_8 x20_2).f2), .string ((rd_T35 l0_8 x20_2).f3), .int .i64 ((rd_T35 l0_8 x20_2).f4.f0), .int .i64 ((rd_T35 l0_8 x20_2).f4.f1), .slice none 0 0, .slice none 0 0, .slice none 0 0]) ?_ 6 _ rfl; (with_reducible repeat (first | refine blk_drewN ?_ _ | refine blk_drew ?_ | refine blk_alloc ?_ _)); refine blk_put (cs := #[.int .i64 ((rd_T35 l0_8 x20_2).f0), .int .i64 ((rd_T35 l0_8 x20_2).f1), .string ((rd_T35 l0_8 x20_2).f2), .string ((rd_T35 l0_8 x20_2).f3), .int .i64 ((rd_T35 l0_8 x20_2).f4.f0), .int .i64 0, .slice none 0 0, .slice none 0 0, .slice none 0 0]) ?_ 5 _ rfl; (with_reducible repeat (first | refine blk_drewN ?_ _ | refine blk_drew ?_ | refine blk_alloc ?_ _)); refine blk_put (cs := #[.int .i64 ((rd_T35 l0_8 x20_2).f0), .int .i64 ((rd_T35 l0_8 x20_2).f1), .string ((rd_T35 l0_8 x20_2).f2), .string ((rd_T35 l0_8 x20_2).f3), .int .i64 0, .int .i64 0, .slice none 0 0, .slice none 0 0, .slice none 0 0]) ?_ 4 _ rfl; (with_reducible repeat (first | refine blk_drewN ?_ _ | refine blk_drew ?_ | refine blk_alloc ?_ _)); refine blk_put (cs := #[.int .i64 ((rd_T35 l0_8 x20_2).f0), .int .i64 ((rd_T35 l0_8 x20_2).f1), .string ((rd_T35 l0_8 x20_2).f2), .string (⟨#[]⟩ : ByteArray), .int .i64 0, .int .i64 0, .slice none 0 0, .slice none 0 0, .slice none 0 0]) ?_ 3 _ rfl; (with_reducible repeat (first | refine blk_drewN ?_ _ | refine blk_drew ?_ | refine blk_alloc ?_ _)); refine blk_put (cs := #[.int .i64 ((rd_T35 l0_8 x20_2).f0), .int .i64 ((rd_T35 l0_8 x20_2).f1), .string (⟨#[]⟩ : ByteArray), .string (⟨#[]⟩ : ByteArray), .int .i64 0, .int .i64 0, .slice none 0 0, .slice none 0 0, .slice none 0 0]) ?_ 2 _ rfl; (with_reducible repeat (first | refine blk_drewN ?_ _ | refine blk_drew ?_ | refine blk_alloc ?_ _)); refine blk_put (cs := #[.int .i64 ((rd_T35 l0_8 x20_2).f0), .int .i64 0, .string (⟨#[]⟩ : ByteArray), .string (⟨#[]⟩ : ByteArray), .int .i64 0, .int .i64 0, .slice none 0 0, .slice none 0 0, .slice none 0 0]) ?_ 1 _ rfl; (with_reducible repeat (first | refine blk_drewN ?_ _ | refine blk_drew ?_ | refine blk_alloc ?_ _)); refine blk_put (cs := #[.int .i64 0, .int .i64 0, .string (⟨#[]⟩ : ByteArray), .string (⟨#[]⟩ : ByteArray), .int .i64 0, .int .i64 0, .slice none 0 0, .slice none 0 0, .slice none 0 0]) ?_ 0 _ rfl; (with_reducible repeat (first | refine blk_drewN ?_ _ | refine blk_drew ?_ | refine blk_alloc ?_ _)); exact BK257.out) hb); have n3_ := Aside0.mk (below_step (by repeat (first | (with_reducible first | exact HB.out | apply below_alloc | apply pw_below_drewN | apply below_drew1 | refine below_set ?_ GE255.out | refine below_set ?_ GE257.out) | exact HB.out)) hb); clear BK255; clear BK257; clear HB; have HO260 := n0_; have BK255 := n1_; have BK257 := n2_; have HB := n3_; clear n0_ n1_ n2_ n3_; (try clear hb); (try clear hb2); (try clear hk); (try clear hi); (try clear ho0); obtain ⟨Ao28, co28, eo28⟩ := Kd.R_slice HO260.out; subst eo28) | ((with_reducible refine gate_callee (f := 145) rfl ?_); refine goesL_ (some 29) rfl rfl Try.func145 (by kernel_rfl) rfl #[.slice Ao28 t258.length co28, .string a1] rfl (by (try simp only [List.map_toArray, List.map_cons, List.map_nil]); first | done | rfl | (simp only [List.length_drop, List.length_take]; rfl)) ?_; (with_reducible refine (slices_Contains_string_string.calls k2 _ _ t258 a1 false _ ?side1 ?side2 A14.out).mono ?_); (case side1 => repeat (first | exact (Kd.R_reads' HO260.out).2.2 | (with_reducible refine Kd.C_alloc ?_ _) | (with_reducible refine Kd.C_drewN ?_ _) | (with_reducible refine Kd.C_drew ?_))); (case side2 => exact (Kd.R_reads' HO260.out).2.1); rintro e w' ⟨rfl, ⟨nd, rfl⟩⟩; refine ⟨_, rfl, ?_⟩; have hcz29_0 : w27.cell? ⟨gb257, 0, none⟩ = some (.int .i64 ((rd_T35 l0_8 x20_2).f0)) := (blk_cell BK257.out 0).trans rfl; have hcz29_1 : w27.cell? ⟨gb257, 1, none⟩ = some (.int .i64 ((rd_T35 l0_8 x20_2).f1)) := (blk_cell BK257.out 1).trans rfl; have hcz29_2 : w27.cell? ⟨gb257, 2, none⟩ = some (.string ((rd_T35 l0_8 x20_2).f2)) := (blk_cell BK257.out 2).trans rfl; have hcz29_3 : w27.cell? ⟨gb257, 3, none⟩ = some (.string ((rd_T35 l0_8 x20_2).f3)) := (blk_cell BK257.out 3).trans rfl; have hcz29_4 : w27.cell? ⟨gb257, 4, none⟩ = some (.int .i64 ((rd_T35 l0_8 x20_2).f4.f0)) := (blk_cell BK257.out 4).trans rfl; have hcz29_5 : w27.cell? ⟨gb257, 5, none⟩ = some (.int .i64 ((rd_T35 l0_8 x20_2).f4.f1)) := (blk_cell BK257.out 5).trans rfl; have hcz29_6 : w27.cell? ⟨gb257, 6, none⟩ = some (.slice A256_6 ((rd_T35 l0_8 x20_2).f4.f2).length c256_6) := (blk_cell BK257.out 6).trans rfl; have hcz29_7 : w27.cell? ⟨gb257, 7, none⟩ = some (.slice A256_7 ((rd_T35 l0_8 x20_2).f5).length c256_7) := (blk_cell BK257.out 7).trans rfl; have hcz29_8 : w27.cell? ⟨gb257, 8, none⟩ = some (.slice A256_8 ((rd_T35 l0_8 x20_2).f6).length c256_8) := (blk_cell BK257.out 8).trans rfl; have hfz29_0 := blk_frozen BK257.out 0; have hfz29_1 := blk_frozen BK257.out 1; have hfz29_2 := blk_frozen BK257.out 2; have hfz29_3 := blk_frozen BK257.out 3; have hfz29_4 := blk_frozen BK257.out 4; have hfz29_5 := blk_frozen BK257.out 5; have hfz29_6 := blk_frozen BK257.out 6; have hfz29_7 := blk_frozen BK257.out 7; have hfz29_8 := blk_frozen BK257.out 8) | ((with_reducible refine gate_callee (f := 75) rfl ?_); refine goesL_ (some 34) rfl rfl Try.func75 (by kernel_rfl) rfl #[.agg #[.int .i64 ((rd_T35 l0_8 x20_2).f0), .int .i64 ((rd_T35 l0_8 x20_2).f1), .string ((rd_T35 l0_8 x20_2).f2), .string ((rd_T35 l0_8 x20_2).f3), .int .i64 ((rd_T35 l0_8 x20_2).f4.f0), .int .i64 ((rd_T35 l0_8 x20_2).f4.f1), .slice A256_6 ((rd_T35 l0_8 x20_2).f4.f2).length c256_6, .slice A256_7 ((rd_T35 l0_8 x20_2).f5).length c256_7, .slice A256_8 ((rd_T35 l0_8 x20_2).f6).length c256_8], .string a1] rfl (by (try simp only [List.map_toArray, List.map_cons, List.map_nil]); first | done | rfl | (simp only [List.length_drop, List.length_take]; rfl)) ?_; (with_reducible refine (ih k2 (by have := HJ2.out; have := HK2.out; omega) ((rd_T35 l0_8 x20_2).f0) ((rd_T35 l0_8 x20_2).f1) ((rd_T35 l0_8 x20_2).f2) ((rd_T35 l0_8 x20_2).f3) ((rd_T35 l0_8 x20_2).f4.f0) ((rd_T35 l0_8 x20_2).f4.f1) _ _ ((rd_T35 l0_8 x20_2).f4.f2) _ _ ((rd_T35 l0_8 x20_2).f5) _ _ ((rd_T35 l0_8 x20_2).f6) a1 t262 _ ?side1 ?side2 ?side3 ?side4 ?side5 ?side6 A22.out).mono ?_); (case side1 => repeat (first | exact (Kd.C_below HR256_6.out (by repeat (first | (with_reducible first | exact HB.out | apply below_alloc | apply pw_below_drewN | apply below_drew1 | refine below_set ?_ GE255.out | refine below_set ?_ GE257.out) | exact HB.out))) | (with_reducible refine Kd.C_alloc ?_ _) | (with_reducible refine Kd.C_drewN ?_ _) | (with_reducible refine Kd.C_drew ?_))); (case side2 => exact HC256_6.out); (case side3 => repeat (first | exact (Kd.C_below HR256_7.out (by repeat (first | (with_reducible first | exact HB.out | apply below_alloc | apply pw_below_drewN | apply below_drew1 | refine below_set ?_ GE255.out | refine below_set ?_ GE257.out) | exact HB.out))) | (with_reducible refine Kd.C_alloc ?_ _) | (with_reducible refine Kd.C_drewN ?_ _) | (with_reducible refine Kd.C_drew ?_))); (case side4 => exact HC256_7.out); (case side5 => repeat (first | exact (Kd.C_below HR256_8.out (by repeat (first | (with_reducible first | exact HB.out | apply below_alloc | apply pw_below_drewN | apply below_drew1 | refine below_set ?_ GE255.out | refine below_set ?_ GE257.out) | exact HB.out))) | (with_reducible refine Kd.C_alloc ?_ _) | (with_reducible refine Kd.C_drewN ?_ _) | (with_reducible refine Kd.C_drew ?_))); (case side6 => exact HC256_8.out); rintro e w30 ⟨rfl, hb⟩; refine ⟨_, rfl, ?_⟩; have n0_ := Aside0.mk (Kd.R_below (by (with_reducible repeat (first | apply Kd.R_alloc | apply Kd.R_drewN | apply Kd.R_drew)); exact HO260.out) hb); have n1_ := Aside0.mk (blk_below (g := gb255) (o := .cells #[.int .i64 a0_0, .int .i64 a0_1, .string a0_2, .string a0_3, .int .i64 a0_4, .int .i64 a0_5, .slice A0_6 l0_6.length c0_6, .slice A0_7 l0_7.length c0_7, .slice (some ad256) l0_8.length c0_8] 35 (0, 0)) (by (with_reducible repeat (first | refine blk_drewN ?_ _ | refine blk_drew ?_ | refine blk_alloc ?_ _)); exact BK255.out) hb); have n2_ := Aside0.mk (blk_below (g := gb257) (o := .cells #[.int .i64 ((rd_T35 l0_8 x20_2).f0), .int .i64 ((rd_T35 l0_8 x20_2).f1), .string ((rd_T35 l0_8 x20_2).f2), .string ((rd_T35 l0_8 x20_2).f3), .int .i64 ((rd_T35 l0_8 x20_2).f4.f0), .int .i64 ((rd_T35 l0_8 x20_2).f4.f1), .slice A256_6 ((rd_T35 l0_8 x20_2).f4.f2).length c256_6, .slice A256_7 ((rd_T35 l0_8 x20_2).f5).length c256_7, .slice A256_8 ((rd_T35 l0_8 x20_2).f6).length c256_8] 35 (0, 0)) (by (with_reducible repeat (first | refine blk_drewN ?_ _ | refine blk_drew ?_ | refine blk_alloc ?_ _)); exact BK257.out) hb); have n3_ := Aside0.mk (below_step (by repeat (first | (with_reducible first | exact HB.out | apply below_alloc | apply pw_below_drewN | apply below_drew1 | refine below_set ?_ GE255.out | refine below_set ?_ GE257.out) | exact HB.out)) hb); clear HO260; clear BK255; clear BK257; clear HB; have HO260 := n0_; have BK255 := n1_; have BK257 := n2_; have HB := n3_; clear n0_ n1_ n2_ n3_; (try clear hb); (try clear hb2); (try clear hk); (try clear hi)))
                    go_roundg k2
                    case measure => have := HJ2.out; have := HK2.out; omega
                    case rel => exact ⟨(wrap64 (x5_2 + t262)), (wrap64 (x20_2 + 1)), (by first | rfl | (simp; done) | (simp [*]; done)), (by first | rfl | (simp; done) | (simp [*]; done)), H', ⟨by have := HJ2.out; have := HK2.out; omega⟩, ⟨by (with_reducible repeat (first | refine blk_drewN ?_ _ | refine blk_drew ?_ | refine blk_alloc ?_ _)); exact BK255.out⟩, ⟨by repeat (first | (with_reducible first | exact HB.out | apply below_alloc | apply pw_below_drewN | apply below_drew1 | refine below_set ?_ GE255.out | refine below_set ?_ GE257.out) | exact HB.out)⟩⟩
                · rw [if_neg c12] at H
                  exact absurd H (by simp)
              · rw [if_neg c11] at H
                exact absurd H (by simp)
            · rw [if_neg c10] at H
              have c10b0 : decide (x20_2 < (l0_8.length : Int)) = false := decide_eq_false c10
              clear c10
              obtain rfl := Option.some.inj H
              go_wp2
              go_ret
              exact ⟨by first | rfl | (simp [errW_none, errW_some] <;> rfl) | (simp [*, errW_none, errW_some] <;> rfl), by repeat (first | (with_reducible first | exact HB.out | apply below_alloc | apply pw_below_drewN | apply below_drew1 | refine below_set ?_ GE255.out) | exact HB.out)⟩
end Go.Proofs.Ytddacgfnhoboaaa.OFnExactUsesOf
