import Derived.Test.YtanobmanpnkccaaOFnExactAllocx1
import Derived.Test.YtanobmanpnkccaaOFnExactAllocx2
import Derived.Test.YtanobmanpnkccaaOFnExactAllocx3
import Derived.Test.YtanobmanpnkccaaOFnExactAllocx5
import Derived.Test.YtanobmanpnkccaaAInv
import Derived.Test.YtanobmanpnkccaaMod
namespace Go.Proofs.Ytanobmanpnkccaa.OFnExactAlloc
open Go.RowKit Go.Proofs.YtanobmanpnkccaaW.PrintWords Go.Proofs.YtanobmanpnkccaaW.PrintLast Go.Proofs.YtanobmanpnkccaaW.PrintMore Go.Proofs.Ytanobmanpnkccaa.Mod
set_option linter.unusedVariables false
set_option linter.unusedSimpArgs false
set_option maxHeartbeats 8000000 in
set_option maxRecDepth 100000 in
theorem law_early1 (sz : Int) (l : List S65) (K N : Int) (fs : List S65) (A1 : Option Addr) (c1 : Nat) (A2 : Option Addr) (c2 : Nat) (w : World)
    (hr1 : Kd.C k65 w A1 l.length l) (hc1 : l.length ≤ c1) (hr2 : Kd.C k65 w A2 fs.length fs) (hc2 : fs.length ≤ c2) (lf1 : Int) (e1 : laws_szHeap.f sz l 1048576 = some lf1) (n1 : lf1 < 0) :
    Calls Try.prog 9 #[.agg #[.int .i64 sz, .slice A1 l.length c1], .agg #[.int .i64 K, .int .i64 N], .slice A2 fs.length c2] w fun e w' => e = .returned (.bool true) ∧ Below w.heap.size w w' := by
  have hu42 := Try.underlying42
  have hu65 := Try.underlying65
  have HR1 := Aside0.mk hr1
  have HC1 := Aside0.mk hc1
  have HR2 := Aside0.mk hr2
  have HC2 := Aside0.mk hc2
  have E1 := Aside0.mk e1
  have N1 : decide (lf1 < 0) = true := decide_eq_true n1
  clear e1 n1
  clear hr1 hc1 hr2 hc2
  go_enter Try.func9, Try.ntmps9
  go_wp2_with (first | ((with_reducible refine gate_dst (N := 3) rfl ?_); refine box_event ?hg (N := 3) ?hd (cs := #[.int .i64 sz, .slice A1 l.length c1]) (t := 42) ?hr ?_; (case hd => rfl); (case hg => rfl); (case hr => first | (go_simp; done) | (go_simp; rfl)); intro g3 hg3 w3 hbox hb3; have HB3 := Aside0.mk hb3; have BK3 := Aside0.mk hbox; have G3 := Aside0.mk (show w.heap.size ≤ g3 from by omega); clear hb3 hbox hg3) | ((with_reducible refine gate_dst (N := 4) rfl ?_); refine box_event ?hg (N := 4) ?hd (cs := #[.int .i64 K, .int .i64 N]) (t := 65) ?hr ?_; (case hd => rfl); (case hg => rfl); (case hr => first | (go_simp; done) | (go_simp; rfl)); intro g4 hg4 w4 hbox hb4; have HB4 := Aside0.mk (below_step HB3.out hb4); have BK3' := Aside0.mk (blk_below BK3.out hb4); have BK4 := Aside0.mk hbox; have G4 := Aside0.mk (show w.heap.size ≤ g4 from by have := HB3.out.size; omega); have hz0 : w4.cell? ⟨g3, 0, none⟩ = some (.int .i64 sz) := (blk_cell BK3'.out 0).trans rfl; have hz1 : w4.cell? ⟨g3, 1, none⟩ = some (.slice A1 l.length c1) := (blk_cell BK3'.out 1).trans rfl; clear hb4 hbox hg4) | (go_at_call 26; refine (laws_szHeap.calls sz A1 c1 l 1048576 lf1 _ (Kd.C_below HR1.out HB4.out) HC1.out E1.out).mono ?_; rintro e w5 ⟨rfl, hb⟩; have HB5 := Aside0.mk (below_step HB4.out hb); have BK3'' := Aside0.mk (blk_below BK3'.out hb); have BK4' := Aside0.mk (blk_below BK4.out hb); clear hb))
  go_ret
  exact ⟨rfl, HB5.out⟩
set_option maxHeartbeats 8000000 in
set_option maxRecDepth 100000 in
theorem law_early2 (sz : Int) (l : List S65) (K N : Int) (fs : List S65) (A1 : Option Addr) (c1 : Nat) (A2 : Option Addr) (c2 : Nat) (w : World)
    (hr1 : Kd.C k65 w A1 l.length l) (hc1 : l.length ≤ c1) (hr2 : Kd.C k65 w A2 fs.length fs) (hc2 : fs.length ≤ c2) (lf1 lf2 : Int) (e1 : laws_szHeap.f sz l 1048576 = some lf1) (n1 : ¬ lf1 < 0) (e2 : laws_szWordS.f fs lf1 = some lf2) (n2 : lf2 < 0) :
    Calls Try.prog 9 #[.agg #[.int .i64 sz, .slice A1 l.length c1], .agg #[.int .i64 K, .int .i64 N], .slice A2 fs.length c2] w fun e w' => e = .returned (.bool true) ∧ Below w.heap.size w w' := by
  have hu42 := Try.underlying42
  have hu65 := Try.underlying65
  have HR1 := Aside0.mk hr1
  have HC1 := Aside0.mk hc1
  have HR2 := Aside0.mk hr2
  have HC2 := Aside0.mk hc2
  have E1 := Aside0.mk e1
  have E2 := Aside0.mk e2
  have N1 : decide (lf1 < 0) = false := decide_eq_false n1
  have N2 : decide (lf2 < 0) = true := decide_eq_true n2
  clear e1 n1 e2 n2
  clear hr1 hc1 hr2 hc2
  go_enter Try.func9, Try.ntmps9
  go_wp2_with (first | ((with_reducible refine gate_dst (N := 3) rfl ?_); refine box_event ?hg (N := 3) ?hd (cs := #[.int .i64 sz, .slice A1 l.length c1]) (t := 42) ?hr ?_; (case hd => rfl); (case hg => rfl); (case hr => first | (go_simp; done) | (go_simp; rfl)); intro g3 hg3 w3 hbox hb3; have HB3 := Aside0.mk hb3; have BK3 := Aside0.mk hbox; have G3 := Aside0.mk (show w.heap.size ≤ g3 from by omega); clear hb3 hbox hg3) | ((with_reducible refine gate_dst (N := 4) rfl ?_); refine box_event ?hg (N := 4) ?hd (cs := #[.int .i64 K, .int .i64 N]) (t := 65) ?hr ?_; (case hd => rfl); (case hg => rfl); (case hr => first | (go_simp; done) | (go_simp; rfl)); intro g4 hg4 w4 hbox hb4; have HB4 := Aside0.mk (below_step HB3.out hb4); have BK3' := Aside0.mk (blk_below BK3.out hb4); have BK4 := Aside0.mk hbox; have G4 := Aside0.mk (show w.heap.size ≤ g4 from by have := HB3.out.size; omega); have hz0 : w4.cell? ⟨g3, 0, none⟩ = some (.int .i64 sz) := (blk_cell BK3'.out 0).trans rfl; have hz1 : w4.cell? ⟨g3, 1, none⟩ = some (.slice A1 l.length c1) := (blk_cell BK3'.out 1).trans rfl; clear hb4 hbox hg4) | (go_at_call 26; refine (laws_szHeap.calls sz A1 c1 l 1048576 lf1 _ (Kd.C_below HR1.out HB4.out) HC1.out E1.out).mono ?_; rintro e w5 ⟨rfl, hb⟩; have HB5 := Aside0.mk (below_step HB4.out hb); have BK3'' := Aside0.mk (blk_below BK3'.out hb); have BK4' := Aside0.mk (blk_below BK4.out hb); clear hb) | (go_at_call 35; refine (laws_szWordS.calls A2 c2 fs lf1 lf2 _ (Kd.C_below HR2.out HB5.out) HC2.out E2.out).mono ?_; rintro e w6 ⟨rfl, hd⟩; have HB6 := Aside0.mk (below_step HB5.out hd.below); have BK3''' := Aside0.mk (blk_below BK3''.out hd.below); have BK4'' := Aside0.mk (blk_below BK4'.out hd.below)))
  go_ret
  exact ⟨rfl, HB6.out⟩
set_option maxHeartbeats 8000000 in
set_option maxRecDepth 100000 in
theorem law_true (k : Nat) (sz : Int) (l : List S65) (K N : Int) (fs : List S65) (A1 : Option Addr) (c1 : Nat) (A2 : Option Addr) (c2 : Nat) (w : World)
    (hr1 : Kd.C k65 w A1 l.length l) (hc1 : l.length ≤ c1) (hr2 : Kd.C k65 w A2 fs.length fs) (hc2 : fs.length ≤ c2)
    (lf1 lf2 : Int) (e1 : laws_szHeap.f sz l 1048576 = some lf1) (n1 : ¬ lf1 < 0) (e2 : laws_szWordS.f fs lf1 = some lf2) (n2 : ¬ lf2 < 0)
    (L F : List S67) (eh : laws_toHeap.f k sz l = some (sz, L)) (ew : laws_toWord.f K N = some (K, N)) (es : laws_toWordS.f k fs = some F)
    (r1 : Int) (r2 : List S67) (r3 r4 : Int) (r5 : Bool) (esp : spec_Alloc.f k sz L K N F = some (r1, r2, r3, r4, r5)) (eim : impl_Alloc.f k sz L K N F = some (r1, r2, r3, r4, r5))
    (q1 : laws_eqHeap.f k r1 r2 r1 r2 = some true) (q2 : laws_eqWord.f r3 r4 r3 r4 = some true) (q3 : laws_eqHeap.f k sz L sz L = some true) (q4 : laws_eqWordS.f k F F = some true)
    (m1 : Int) (L1 : List S67) (em1 : laws_markHeap.f k sz L 1 = some (m1, L1)) (m2 : Int) (F1 : List S67) (em2 : laws_markWordS.f k F m1 = some (m2, F1)) (n3 : ¬ m2 < 0)
    (m3 : Int) (R1 : List S67) (em3 : laws_markHeap.f k r1 r2 1 = some (m3, R1)) (ed : laws_heldHeap.f k r1 R1 1 = some m3) (n4 : ¬ m3 < 0) :
    Calls Try.prog 9 #[.agg #[.int .i64 sz, .slice A1 l.length c1], .agg #[.int .i64 K, .int .i64 N], .slice A2 fs.length c2] w fun e w' => e = .returned (.bool true) ∧ Below w.heap.size w w' := by
  have hu42 := Try.underlying42
  have hu65 := Try.underlying65
  have hu32 := Try.underlying32
  have hu67 := Try.underlying67
  have HR1 := Aside0.mk hr1
  have HC1 := Aside0.mk hc1
  have HR2 := Aside0.mk hr2
  have HC2 := Aside0.mk hc2
  have E1 := Aside0.mk e1
  have E2 := Aside0.mk e2
  have EH := Aside0.mk eh
  have EW := Aside0.mk ew
  have ES := Aside0.mk es
  have ESP := Aside0.mk esp
  have EIM := Aside0.mk eim
  have Q1 := Aside0.mk q1
  have Q2 := Aside0.mk q2
  have Q3 := Aside0.mk q3
  have Q4 := Aside0.mk q4
  have EM1 := Aside0.mk em1
  have EM2 := Aside0.mk em2
  have EM3 := Aside0.mk em3
  have ED := Aside0.mk ed
  have N1 : decide (lf1 < 0) = false := decide_eq_false n1
  have N2 : decide (lf2 < 0) = false := decide_eq_false n2
  have N3 : decide (m2 < 0) = false := decide_eq_false n3
  have N4 : decide (m3 < 0) = false := decide_eq_false n4
  clear hr1 hc1 hr2 hc2 e1 e2 eh ew es esp eim q1 q2 q3 q4 em1 em2 em3 ed n1 n2 n3 n4
  go_enter Try.func9, Try.ntmps9
  go_upto_region 8 with (first | ((with_reducible refine gate_dst (N := 3) rfl ?_); refine box_event ?hg (N := 3) ?hd (cs := #[.int .i64 sz, .slice A1 l.length c1]) (t := 42) ?hr ?_; (case hd => rfl); (case hg => rfl); (case hr => first | (go_simp; done) | (go_simp; rfl)); intro g3 hg3 w3 hbox hb3; have HB3 := Aside0.mk hb3; have BK3 := Aside0.mk hbox; have G3 := Aside0.mk (show w.heap.size ≤ g3 from by omega); clear hb3 hbox hg3) | ((with_reducible refine gate_dst (N := 4) rfl ?_); refine box_event ?hg (N := 4) ?hd (cs := #[.int .i64 K, .int .i64 N]) (t := 65) ?hr ?_; (case hd => rfl); (case hg => rfl); (case hr => first | (go_simp; done) | (go_simp; rfl)); intro g4 hg4 w4 hbox hb4; have HB4 := Aside0.mk (below_step HB3.out hb4); have BK3' := Aside0.mk (blk_below BK3.out hb4); have BK4 := Aside0.mk hbox; have G4 := Aside0.mk (show w.heap.size ≤ g4 from by have := HB3.out.size; omega); have hz0 : w4.cell? ⟨g3, 0, none⟩ = some (.int .i64 sz) := (blk_cell BK3'.out 0).trans rfl; have hz1 : w4.cell? ⟨g3, 1, none⟩ = some (.slice A1 l.length c1) := (blk_cell BK3'.out 1).trans rfl; clear hb4 hbox hg4) | (go_at_call 26; refine (laws_szHeap.calls sz A1 c1 l 1048576 lf1 _ (Kd.C_below HR1.out HB4.out) HC1.out E1.out).mono ?_; rintro e w5 ⟨rfl, hb⟩; have HB5 := Aside0.mk (below_step HB4.out hb); have BK3'' := Aside0.mk (blk_below BK3'.out hb); have BK4' := Aside0.mk (blk_below BK4.out hb); clear hb) | (go_at_call 35; refine (laws_szWordS.calls A2 c2 fs lf1 lf2 _ (Kd.C_below HR2.out HB5.out) HC2.out E2.out).mono ?_; rintro e w6 ⟨rfl, hd⟩; have HB6 := Aside0.mk (below_step HB5.out hd.below); have BK3''' := Aside0.mk (blk_below BK3''.out hd.below); have BK4'' := Aside0.mk (blk_below BK4'.out hd.below)))
  (try simp only [Act.put, List.setIfInBounds_toArray, List.set_cons_zero, List.set_cons_succ])
  have BX3 := BK3'''
  have BX4 := BK4''
  have HB := HB6
  clear HB6 HB5 HB4 HB3 BK3 BK3' BK3'' BK3''' BK4 BK4' BK4'' hz0 hz1
  refine region_done (n := 16) (by rfl) (by kernel_rfl) (by kernel_rfl) (fun D a w' => ∃ a0 a1 a2 a3 a4 a5 a6 a7 a8 a9 a10 b1 b2 a15, a = ⟨#[Value.agg #[Value.int .i64 sz, Value.slice A1 l.length c1], Value.agg #[Value.int .i64 K, Value.int .i64 N], Value.slice A2 fs.length c2, Value.pointer (some ⟨g3, 0, none⟩), Value.pointer (some ⟨g4, 0, none⟩), undef, Value.bool false, Value.int .i64 lf2, b1, b2, a15, undef, undef, undef, undef, undef, undef, undef, undef, undef, undef, undef, Value.agg #[Value.int .i64 sz, Value.slice A1 l.length c1], Value.int .i64 1048576, Value.int .i64 lf1, Value.int .i64 lf1, Value.bool false, Value.slice A2 fs.length c2, Value.int .i64 lf1, Value.int .i64 lf2, Value.int .i64 lf2, Value.bool false, a7, a0, a1, a2, a3, a4, a5, a6, a8, a9, a10, undef, undef, undef, undef, undef, undef, undef, undef, undef, undef, undef, undef, undef, undef, undef, undef, undef, undef, undef, undef, undef, undef, undef, undef, undef, undef, undef, undef, undef, undef, undef, undef, undef, undef, undef, undef, undef, undef, undef, undef, undef, undef, undef, undef, undef, undef, undef, undef, undef, undef, undef, undef, undef, undef, undef, undef, undef, undef, undef, undef, undef, undef, undef, undef, undef, undef, undef, undef, undef, undef, undef, undef, undef, undef, undef, undef, undef, undef, undef, undef, undef, undef, undef, undef, undef, undef, undef, undef, undef, undef, undef, undef, undef, undef, undef, undef, undef, undef, undef, undef, undef, undef, undef, undef, undef, undef, undef, undef], []⟩ ∧ I8 w6 (.agg #[.int .i64 sz, .slice A1 l.length c1]) (.agg #[.int .i64 K, .int .i64 N]) (.slice A2 fs.length c2) sz K N r1 r3 r4 r5 L F r2 D a0 a1 a2 a3 a4 a5 a6 a7 a8 a9 a10 b1 b2 a15 w') ?h0 ?step ?fin
  case h0 => exact ⟨_, _, _, _, _, _, _, _, _, _, _, _, _, _, rfl, by constructor <;> first | exact below_drew1 (Below.refl _ _) | exact Below.refl _ _ | exact fun h => h.elim | (intro g h; simp [undef] at h)⟩
  case step =>
    intro i hi o ho D a w1 hn hd hI
    obtain ⟨a0, a1, a2, a3, a4, a5, a6, a7, a8, a9, a10, b1, b2, a15, ha, H⟩ := hI
    dsimp only at ha
    subst ha
    have HE := H.bel
    have hy0 : w1.cell? ⟨g3, 0, none⟩ = some (.int .i64 sz) := (blk_cell (blk_below BX3.out HE) 0).trans rfl
    have hy1 : w1.cell? ⟨g3, 1, none⟩ = some (.slice A1 l.length c1) := (blk_cell (blk_below BX3.out HE) 1).trans rfl
    have hy2 : w1.cell? ⟨g4, 0, none⟩ = some (.int .i64 K) := (blk_cell (blk_below BX4.out HE) 0).trans rfl
    have hy3 : w1.cell? ⟨g4, 1, none⟩ = some (.int .i64 N) := (blk_cell (blk_below BX4.out HE) 1).trans rfl
    obtain rfl | rfl | rfl | rfl | rfl | rfl | rfl | rfl | rfl | rfl | rfl | rfl | rfl | rfl | rfl | rfl : i = 0 ∨ i = 1 ∨ i = 2 ∨ i = 3 ∨ i = 4 ∨ i = 5 ∨ i = 6 ∨ i = 7 ∨ i = 8 ∨ i = 9 ∨ i = 10 ∨ i = 11 ∨ i = 12 ∨ i = 13 ∨ i = 14 ∨ i = 15 := by omega
    · simp only [List.getElem?_toArray, List.getElem?_cons_succ, List.getElem?_cons_zero, Option.some.injEq] at ho
      subst ho
      refine event_step (w1 := w1) (v := (.agg #[.int .i64 sz, .slice A1 l.length c1])) rfl ?_ ⟨_, _, _, _, _, _, _, _, _, _, _, _, _, _, rfl, H.s0 rfl⟩
      (first | (go_simp; done) | (go_simp; rfl))
    · simp only [List.getElem?_toArray, List.getElem?_cons_succ, List.getElem?_cons_zero, Option.some.injEq] at ho
      subst ho
      obtain rfl := H.f0 (hd 0 rfl)
      refine call_step (f := 28) rfl Try.func28 (by kernel_rfl) rfl #[(.agg #[.int .i64 sz, .slice A1 l.length c1])] rfl (by simp only [List.map_toArray, List.map_cons, List.map_nil]; rfl) ?_
      refine (laws_toHeap.calls k sz A1 c1 l sz L _ (Kd.C_below HR1.out (below_step HB.out HE)) HC1.out EH.out).mono ?_
      rintro e w2 ⟨u, rfl, ho, hb⟩
      exact ⟨_, rfl, _, _, _, _, _, _, _, _, _, _, _, _, _, _, rfl, (H.up hb).s1 (Got.made ho hb HE.size H.lt11 H.lt12 rfl)⟩
    · simp only [List.getElem?_toArray, List.getElem?_cons_succ, List.getElem?_cons_zero, Option.some.injEq] at ho
      subst ho
      refine event_step (w1 := w1) (v := (.agg #[.int .i64 K, .int .i64 N])) rfl ?_ ⟨_, _, _, _, _, _, _, _, _, _, _, _, _, _, rfl, H.s2 rfl⟩
      (first | (go_simp; done) | (go_simp; rfl))
    · simp only [List.getElem?_toArray, List.getElem?_cons_succ, List.getElem?_cons_zero, Option.some.injEq] at ho
      subst ho
      obtain rfl := H.f2 (hd 2 rfl)
      refine call_step (f := 37) rfl Try.func37 (by kernel_rfl) rfl #[(.agg #[.int .i64 K, .int .i64 N])] rfl (by simp only [List.map_toArray, List.map_cons, List.map_nil]; rfl) ?_
      refine (laws_toWord.calls K N K N _ EW.out).mono ?_
      rintro e w2 ⟨rfl, hb⟩
      exact ⟨_, rfl, _, _, _, _, _, _, _, _, _, _, _, _, _, _, rfl, (H.up hb).s3 rfl⟩
    · simp only [List.getElem?_toArray, List.getElem?_cons_succ, List.getElem?_cons_zero, Option.some.injEq] at ho
      subst ho
      refine event_step (w1 := w1) (v := (.slice A2 fs.length c2)) rfl ?_ ⟨_, _, _, _, _, _, _, _, _, _, _, _, _, _, rfl, H.s4 rfl⟩
      (first | (go_simp; done) | (go_simp; rfl))
    · simp only [List.getElem?_toArray, List.getElem?_cons_succ, List.getElem?_cons_zero, Option.some.injEq] at ho
      subst ho
      obtain rfl := H.f4 (hd 4 rfl)
      refine call_step (f := 38) rfl Try.func38 (by kernel_rfl) rfl #[(.slice A2 fs.length c2)] rfl (by simp only [List.map_toArray, List.map_cons, List.map_nil]; rfl) ?_
      refine (laws_toWordS.calls k A2 c2 fs F _ (Kd.C_below HR2.out (below_step HB.out HE)) HC2.out ES.out).mono ?_
      rintro e w2 ⟨u, rfl, ho, hb⟩
      exact ⟨_, rfl, _, _, _, _, _, _, _, _, _, _, _, _, _, _, rfl, (H.up hb).s5 (Got.made ho hb HE.size H.lt11 H.lt12 rfl)⟩
    · simp only [List.getElem?_toArray, List.getElem?_cons_succ, List.getElem?_cons_zero, Option.some.injEq] at ho
      subst ho
      obtain ⟨u1, lo1, hi1, rfl, _, O1, _, _⟩ := H.f1 (hd 1 rfl)
      obtain rfl := H.f3 (hd 3 rfl)
      obtain ⟨u2, lo2, hi2, rfl, _, O2, _, _⟩ := H.f5 (hd 5 rfl)
      obtain ⟨B1, d1, rfl, hl1, hC1⟩ := own_read O1
      obtain ⟨B2, d2, rfl, hl2, hC2⟩ := own_read O2
      refine call_step (f := 36) rfl Try.func36 (by kernel_rfl) rfl #[.agg #[.int .i64 sz, .slice B1 L.length d1], .agg #[.int .i64 K, .int .i64 N], .slice B2 F.length d2] rfl (by simp only [List.map_toArray, List.map_cons, List.map_nil]; rfl) ?_
      refine (spec_Alloc.calls k sz B1 d1 L K N B2 d2 F r1 r2 r3 r4 r5 _ hC1 hl1 hC2 hl2 ESP.out).mono ?_
      rintro e w2 ⟨u, rfl, ho, hb⟩
      exact ⟨_, rfl, _, _, _, _, _, _, _, _, _, _, _, _, _, _, rfl, (H.up hb).s6 (Got.made ho hb HE.size H.lt11 H.lt12 rfl)⟩
    · simp only [List.getElem?_toArray, List.getElem?_cons_succ, List.getElem?_cons_zero, Option.some.injEq] at ho
      subst ho
      refine event_step (w1 := w1) (v := a6) rfl ?_ ⟨_, _, _, _, _, _, _, _, _, _, _, _, _, _, rfl, H.s7 (H.f6 (hd 6 rfl))⟩
      (first | (go_simp; done) | (go_simp; rfl))
    · simp only [List.getElem?_toArray, List.getElem?_cons_succ, List.getElem?_cons_zero, Option.some.injEq] at ho
      subst ho
      obtain ⟨u, lo, hi, rfl, hr⟩ := H.f7 (hd 7 rfl)
      refine event_step (w1 := w1) (v := (.agg #[.int .i64 r1, u])) rfl ?_ ⟨_, _, _, _, _, _, _, _, _, _, _, _, _, _, rfl, H.s8 hn ⟨u, lo, hi, rfl, hr⟩⟩
      (first | (go_simp; done) | (go_simp; rfl))
    · simp only [List.getElem?_toArray, List.getElem?_cons_succ, List.getElem?_cons_zero, Option.some.injEq] at ho
      subst ho
      obtain ⟨u, lo, hi, rfl, hr⟩ := H.f7 (hd 7 rfl)
      refine event_step (w1 := w1) (v := (.agg #[.int .i64 r3, .int .i64 r4])) rfl ?_ ⟨_, _, _, _, _, _, _, _, _, _, _, _, _, _, rfl, H.s9 rfl⟩
      (first | (go_simp; done) | (go_simp; rfl))
    · simp only [List.getElem?_toArray, List.getElem?_cons_succ, List.getElem?_cons_zero, Option.some.injEq] at ho
      subst ho
      obtain ⟨u, lo, hi, rfl, hr⟩ := H.f7 (hd 7 rfl)
      refine event_step (w1 := w1) (v := (.bool r5)) rfl ?_ ⟨_, _, _, _, _, _, _, _, _, _, _, _, _, _, rfl, H.s10 rfl⟩
      (first | (go_simp; done) | (go_simp; rfl))
    · simp only [List.getElem?_toArray, List.getElem?_cons_succ, List.getElem?_cons_zero, Option.some.injEq] at ho
      subst ho
      refine box_step rfl (N := 8) rfl (cs := #[.int .i64 0, .slice none 0 0]) (t := 32) ?_ ?_
      · first | (go_simp; done) | (go_simp; rfl)
      rintro g rfl w2 hbox hb
      exact ⟨_, _, _, _, _, _, _, _, _, _, _, _, _, _, rfl, H.s11 hn hb hbox⟩
    · simp only [List.getElem?_toArray, List.getElem?_cons_succ, List.getElem?_cons_zero, Option.some.injEq] at ho
      subst ho
      refine box_step rfl (N := 9) rfl (cs := #[.int .i64 0, .int .i64 0]) (t := 67) ?_ ?_
      · first | (go_simp; done) | (go_simp; rfl)
      rintro g rfl w2 hbox hb
      exact ⟨_, _, _, _, _, _, _, _, _, _, _, _, _, _, rfl, H.s12 hn hb hbox⟩
    · simp only [List.getElem?_toArray, List.getElem?_cons_succ, List.getElem?_cons_zero, Option.some.injEq] at ho
      subst ho
      obtain ⟨u, lo, hi, rfl, hlo, O1, hr⟩ := H.f8 (hd 8 rfl)
      obtain ⟨B1, d1, rfl, hl1, hC1⟩ := own_read O1
      obtain ⟨g, rfl, hge, cs, hblk, hz, _⟩ := H.f11 (hd 11 rfl)
      obtain rfl := hz hn
      have hf0 := blk_frozen hblk 0
      have hf1 := blk_frozen hblk 1
      have hq0 : w1.cell? ⟨g, 0, none⟩ = some (.int .i64 0) := (blk_cell hblk 0).trans rfl
      have hq1 : w1.cell? ⟨g, 1, none⟩ = some (.slice none 0 0) := (blk_cell hblk 1).trans rfl
      have hk : Kept w1 ((w1.setCell ⟨g, 0, none⟩ (.int .i64 r1)).setCell ⟨g, 1, none⟩ (.slice B1 r2.length d1)) (fun q => q = g) := Kept.setCell (Kept.setCell (Kept.refl w1 (fun q => q = g)) (p := ⟨g, 0, none⟩) (.inl rfl) _) (p := ⟨g, 1, none⟩) (.inl rfl) _
      have hc : (((w1.setCell ⟨g, 0, none⟩ (.int .i64 r1)).setCell ⟨g, 1, none⟩ (.slice B1 r2.length d1))).heap[g]? = some (.cells #[.int .i64 r1, .slice B1 r2.length d1] 32 (0, 0)) := blk_put (cs := #[.int .i64 r1, .slice none 0 0]) (blk_put hblk 0 _ rfl) 1 _ rfl
      have hB := below_set (j := 1) (v := .slice B1 r2.length d1) (below_set (j := 0) (v := .int .i64 r1) HE hge) hge
      have HN := H.s13 (hd 11 rfl) (hd 8 rfl) rfl hB hk hc rfl
      refine skip_step (w1 := ((w1.setCell ⟨g, 0, none⟩ (.int .i64 r1)).setCell ⟨g, 1, none⟩ (.slice B1 r2.length d1))) rfl ?_ ⟨_, _, _, _, _, _, _, _, _, _, _, _, _, _, rfl, HN⟩
      go_simp
      first | done | rfl
    · simp only [List.getElem?_toArray, List.getElem?_cons_succ, List.getElem?_cons_zero, Option.some.injEq] at ho
      subst ho
      obtain rfl := H.f9 (hd 9 rfl)
      obtain ⟨g, rfl, hge, cs, hblk, hz, _⟩ := H.f12 (hd 12 rfl)
      obtain rfl := hz hn
      have hf0 := blk_frozen hblk 0
      have hf1 := blk_frozen hblk 1
      have hq0 : w1.cell? ⟨g, 0, none⟩ = some (.int .i64 0) := (blk_cell hblk 0).trans rfl
      have hq1 : w1.cell? ⟨g, 1, none⟩ = some (.int .i64 0) := (blk_cell hblk 1).trans rfl
      have hk : Kept w1 ((w1.setCell ⟨g, 0, none⟩ (.int .i64 r3)).setCell ⟨g, 1, none⟩ (.int .i64 r4)) (fun q => q = g) := Kept.setCell (Kept.setCell (Kept.refl w1 (fun q => q = g)) (p := ⟨g, 0, none⟩) (.inl rfl) _) (p := ⟨g, 1, none⟩) (.inl rfl) _
      have hc : (((w1.setCell ⟨g, 0, none⟩ (.int .i64 r3)).setCell ⟨g, 1, none⟩ (.int .i64 r4))).heap[g]? = some (.cells #[.int .i64 r3, .int .i64 r4] 67 (0, 0)) := blk_put (cs := #[.int .i64 r3, .int .i64 0]) (blk_put hblk 0 _ rfl) 1 _ rfl
      have hB := below_set (j := 1) (v := .int .i64 r4) (below_set (j := 0) (v := .int .i64 r3) HE hge) hge
      have HN := H.s14 (hd 12 rfl) rfl hB hk hc rfl
      refine skip_step (w1 := ((w1.setCell ⟨g, 0, none⟩ (.int .i64 r3)).setCell ⟨g, 1, none⟩ (.int .i64 r4))) rfl ?_ ⟨_, _, _, _, _, _, _, _, _, _, _, _, _, _, rfl, HN⟩
      go_simp
      first | done | rfl
    · simp only [List.getElem?_toArray, List.getElem?_cons_succ, List.getElem?_cons_zero, Option.some.injEq] at ho
      subst ho
      obtain rfl := H.f10 (hd 10 rfl)
      refine event_step (w1 := w1) (v := (.bool r5)) rfl ?_ ⟨_, _, _, _, _, _, _, _, _, _, _, _, _, _, rfl, H.s15 rfl⟩
      (first | (go_simp; done) | (go_simp; rfl))
  case fin =>
    intro D a w7 hall hI
    obtain ⟨a0, a1, a2, a3, a4, a5, a6, a7, a8, a9, a10, b1, b2, a15, ha, H⟩ := hI
    dsimp only at ha
    subst ha
    have HBr := Aside0.mk H.bel
    obtain ⟨g8, rfl, hga, csa, hca, _, hva⟩ := H.f11 (hall 11 (by decide))
    have hva := hva (hall 13 (by decide))
    obtain ⟨g9, rfl, hgb, csb, hcb, _, hvb⟩ := H.f12 (hall 12 (by decide))
    have hvb := hvb (hall 14 (by decide))
    subst hvb
    obtain ⟨u, lor, hir, he, hlo, hO, hxa, hxb⟩ := H.f8 (hall 8 (by decide))
    rw [he] at hva
    injection hva with hva
    subst hva
    subst he
    obtain ⟨Br, dr, rfl, _, _⟩ := own_read hO
    obtain rfl := H.f15 (hall 15 (by decide))
    have OWr := Aside0.mk hO
    have BX8 := Aside0.mk hca
    have BX9 := Aside0.mk hcb
    have XA := Aside0.mk (hxa g8 rfl)
    have XB := Aside0.mk (hxb g9 rfl)
    have GA := Aside0.mk hga
    have GB := Aside0.mk hgb
    have LOa := Aside0.mk hlo
    have LB3_r := Aside0.mk (show g3 < lor from by have := blk_lt BX3.out; have := LOa.out; omega)
    have NE3_8 := Aside0.mk (show g3 ≠ g8 from by have := blk_lt BX3.out; have := GA.out; have := GB.out; omega)
    have NE3_9 := Aside0.mk (show g3 ≠ g9 from by have := blk_lt BX3.out; have := GA.out; have := GB.out; omega)
    have LB4_r := Aside0.mk (show g4 < lor from by have := blk_lt BX4.out; have := LOa.out; omega)
    have NE4_8 := Aside0.mk (show g4 ≠ g8 from by have := blk_lt BX4.out; have := GA.out; have := GB.out; omega)
    have NE4_9 := Aside0.mk (show g4 ≠ g9 from by have := blk_lt BX4.out; have := GA.out; have := GB.out; omega)
    have BX3 := Aside0.mk (blk_below BX3.out HBr.out)
    have BX4 := Aside0.mk (blk_below BX4.out HBr.out)
    have NE8_9 := Aside0.mk (blk_ne BX8.out BX9.out (by decide))
    have GE8 := Aside0.mk (Nat.le_trans HB.out.size GA.out)
    have GE9 := Aside0.mk (Nat.le_trans HB.out.size GB.out)
    have LOr := Aside0.mk (Nat.le_trans HB.out.size LOa.out)
    have LX8_r := XA
    have LX9_r := XB
    have HB := Aside0.mk (below_step HB.out HBr.out)
    (try clear hz3_0); (try clear hz3_1); (try clear hz4_0); (try clear hz4_1); (try clear hf3_0); (try clear hf3_1); (try clear hf4_0); (try clear hf4_1)
    clear XA XB H hall hga hgb hxa hxb hca hcb hO hlo GA GB LOa HBr
    have hz3_0 : w7.cell? ⟨g3, 0, none⟩ = some (.int .i64 sz) := (blk_cell BX3.out 0).trans rfl
    have hz3_1 : w7.cell? ⟨g3, 1, none⟩ = some (.slice A1 l.length c1) := (blk_cell BX3.out 1).trans rfl
    go_upto_region 11 with (first | (go_at_call 28; refine (laws_toHeap.calls k sz A1 c1 l sz L _ (Kd.C_below HR1.out HB.out) HC1.out EH.out).mono ?_; rintro e w8 ⟨u, rfl, ho, hb⟩; (try clear hz3_0); (try clear hz3_1); (try clear hz4_0); (try clear hz4_1); (try clear hz8_0); (try clear hz8_1); (try clear hz9_0); (try clear hz9_1); (try clear hf3_0); (try clear hf3_1); (try clear hf4_0); (try clear hf4_1); (try clear hf8_0); (try clear hf8_1); (try clear hf9_0); (try clear hf9_1); obtain ⟨lox, hix, hloe, OWm⟩ := own_ex ho hb; have OWn := Aside0.mk OWm; have LOx := Aside0.mk (show w.heap.size ≤ lox from by have := HB.out.size; omega); have LB3_x := Aside0.mk (show g3 < lox from by have := blk_lt BX3.out; omega); have LB4_x := Aside0.mk (show g4 < lox from by have := blk_lt BX4.out; omega); have LB8_x := Aside0.mk (show g8 < lox from by have := blk_lt BX8.out; omega); have LB9_x := Aside0.mk (show g9 < lox from by have := blk_lt BX9.out; omega); have LUr_x := Aside0.mk (show hir ≤ lox from by have := OWr.out.2.1; omega); clear OWm hloe; have HB := Aside0.mk (below_step HB.out hb); have BX3 := Aside0.mk (blk_below BX3.out hb); have BX4 := Aside0.mk (blk_below BX4.out hb); have BX8 := Aside0.mk (blk_below BX8.out hb); have BX9 := Aside0.mk (blk_below BX9.out hb); have OWr := Aside0.mk (own_below OWr.out hb); have OWx := OWn; clear OWn ho; obtain ⟨Bx, dx, rfl, hlx, hCx⟩ := own_read OWx.out; clear hlx hCx; clear hb) | ((with_reducible refine gate_dst (N := 11) rfl ?_); refine box_event ?hg (N := 11) ?hd (cs := #[.int .i64 0, .slice none 0 0]) (t := 32) ?hr ?_; (case hd => rfl); (case hg => rfl); (case hr => first | (go_simp; done) | (go_simp; rfl)); intro g11 hgg w9 hbox hb; (try clear hz3_0); (try clear hz3_1); (try clear hz4_0); (try clear hz4_1); (try clear hz8_0); (try clear hz8_1); (try clear hz9_0); (try clear hz9_1); (try clear hf3_0); (try clear hf3_1); (try clear hf4_0); (try clear hf4_1); (try clear hf8_0); (try clear hf8_1); (try clear hf9_0); (try clear hf9_1); have NE3_11 := Aside0.mk (show g3 ≠ g11 from by have := blk_lt BX3.out; omega); have NE4_11 := Aside0.mk (show g4 ≠ g11 from by have := blk_lt BX4.out; omega); have NE8_11 := Aside0.mk (show g8 ≠ g11 from by have := blk_lt BX8.out; omega); have NE9_11 := Aside0.mk (show g9 ≠ g11 from by have := blk_lt BX9.out; omega); have GE11 := Aside0.mk (show w.heap.size ≤ g11 from by have := HB.out.size; omega); have LEr_11 := Aside0.mk (show hir ≤ g11 from by have := OWr.out.2.1; omega); have LEx_11 := Aside0.mk (show hix ≤ g11 from by have := OWx.out.2.1; omega); have HB := Aside0.mk (below_step HB.out hb); have BX3 := Aside0.mk (blk_below BX3.out hb); have BX4 := Aside0.mk (blk_below BX4.out hb); have BX8 := Aside0.mk (blk_below BX8.out hb); have BX9 := Aside0.mk (blk_below BX9.out hb); have OWr := Aside0.mk (own_below OWr.out hb); have OWx := Aside0.mk (own_below OWx.out hb); have BX11 := Aside0.mk hbox; clear hb hbox hgg; have hz11_0 : w9.cell? ⟨g11, 0, none⟩ = some (.int .i64 0) := (blk_cell BX11.out 0).trans rfl; have hz11_1 : w9.cell? ⟨g11, 1, none⟩ = some (.slice none 0 0) := (blk_cell BX11.out 1).trans rfl; have hf11_0 := blk_frozen BX11.out 0; have hf11_1 := blk_frozen BX11.out 1) | ((with_reducible refine gate_store (t := 32) (p := 11) rfl ?_); refine store_event (t := 32) (p := 11) (v := ?vv) (w1 := ((w9.setCell ⟨g11, 0, none⟩ (.int .i64 sz)).setCell ⟨g11, 1, none⟩ (.slice Bx L.length dx))) ?hg ?ho ?hn ?hr ?_; (case ho => rfl); (case hg => rfl); (case hn => rfl); (case hr => go_simp; first | done | rfl); intro w10 hw; (try clear hz3_0); (try clear hz3_1); (try clear hz4_0); (try clear hz4_1); (try clear hz8_0); (try clear hz8_1); (try clear hz9_0); (try clear hz9_1); (try clear hz11_0); (try clear hz11_1); (try clear hf3_0); (try clear hf3_1); (try clear hf4_0); (try clear hf4_1); (try clear hf8_0); (try clear hf8_1); (try clear hf9_0); (try clear hf9_1); (try clear hf11_0); (try clear hf11_1); have hk : Kept w9 w10 (fun q => q = g11) := (by rw [hw]; exact (Kept.setCell (Kept.setCell (Kept.refl w9 (fun q => q = g11)) (p := ⟨g11, 0, none⟩) (.inl rfl) _) (p := ⟨g11, 1, none⟩) (.inl rfl) _)); have HB := Aside0.mk (show Below w.heap.size w w10 from by rw [hw]; exact (below_set (below_set HB.out GE11.out) GE11.out)); have BX3 := Aside0.mk (blk_kept BX3.out hk (by have := NE3_11.out; omega)); have BX4 := Aside0.mk (blk_kept BX4.out hk (by have := NE4_11.out; omega)); have BX8 := Aside0.mk (blk_kept BX8.out hk (by have := NE8_11.out; omega)); have BX9 := Aside0.mk (blk_kept BX9.out hk (by have := NE9_11.out; omega)); have OWr := Aside0.mk (own_kept OWr.out hk (by have := LEr_11.out; omega)); have OWx := Aside0.mk (own_kept OWx.out hk (by have := LEx_11.out; omega)); have BX11 := Aside0.mk (show w10.heap[g11]? = some (.cells #[.int .i64 sz, .slice Bx L.length dx] 32 (0, 0)) from by rw [hw]; exact (blk_put (cs := #[.int .i64 sz, .slice none 0 0]) (blk_put (cs := #[.int .i64 0, .slice none 0 0]) BX11.out 0 _ rfl) 1 _ rfl)); clear hk hw) | (go_at_call 38; refine (laws_toWordS.calls k A2 c2 fs F _ (Kd.C_below HR2.out HB.out) HC2.out ES.out).mono ?_; rintro e w11 ⟨u, rfl, ho, hb⟩; (try clear hz3_0); (try clear hz3_1); (try clear hz4_0); (try clear hz4_1); (try clear hz8_0); (try clear hz8_1); (try clear hz9_0); (try clear hz9_1); (try clear hz11_0); (try clear hz11_1); (try clear hf3_0); (try clear hf3_1); (try clear hf4_0); (try clear hf4_1); (try clear hf8_0); (try clear hf8_1); (try clear hf9_0); (try clear hf9_1); (try clear hf11_0); (try clear hf11_1); obtain ⟨lof, hif, hloe, OWm⟩ := own_ex ho hb; have OWn := Aside0.mk OWm; have LOf := Aside0.mk (show w.heap.size ≤ lof from by have := HB.out.size; omega); have LB3_f := Aside0.mk (show g3 < lof from by have := blk_lt BX3.out; omega); have LB4_f := Aside0.mk (show g4 < lof from by have := blk_lt BX4.out; omega); have LB8_f := Aside0.mk (show g8 < lof from by have := blk_lt BX8.out; omega); have LB9_f := Aside0.mk (show g9 < lof from by have := blk_lt BX9.out; omega); have LB11_f := Aside0.mk (show g11 < lof from by have := blk_lt BX11.out; omega); have LUr_f := Aside0.mk (show hir ≤ lof from by have := OWr.out.2.1; omega); have LUx_f := Aside0.mk (show hix ≤ lof from by have := OWx.out.2.1; omega); clear OWm hloe; have HB := Aside0.mk (below_step HB.out hb); have BX3 := Aside0.mk (blk_below BX3.out hb); have BX4 := Aside0.mk (blk_below BX4.out hb); have BX8 := Aside0.mk (blk_below BX8.out hb); have BX9 := Aside0.mk (blk_below BX9.out hb); have BX11 := Aside0.mk (blk_below BX11.out hb); have OWr := Aside0.mk (own_below OWr.out hb); have OWx := Aside0.mk (own_below OWx.out hb); have OWf := OWn; clear OWn ho; obtain ⟨Bf, df, rfl, hlf, hCf⟩ := own_read OWf.out; clear hlf hCf; clear hb; have hz4_0 : w11.cell? ⟨g4, 0, none⟩ = some (.int .i64 K) := (blk_cell BX4.out 0).trans rfl; have hz4_1 : w11.cell? ⟨g4, 1, none⟩ = some (.int .i64 N) := (blk_cell BX4.out 1).trans rfl; have hz11_0 : w11.cell? ⟨g11, 0, none⟩ = some (.int .i64 sz) := (blk_cell BX11.out 0).trans rfl; have hz11_1 : w11.cell? ⟨g11, 1, none⟩ = some (.slice Bx L.length dx) := (blk_cell BX11.out 1).trans rfl))
    refine region_done (n := 14) (by rfl) (by kernel_rfl) (by kernel_rfl) (fun D a w' => ∃ pa0 pa1 pa2 pa3 pa4 pa5 pa6 pa7 pa8 pb1 pb2 pa13, a = ⟨#[Value.agg #[Value.int .i64 sz, Value.slice A1 l.length c1], Value.agg #[Value.int .i64 K, Value.int .i64 N], Value.slice A2 fs.length c2, Value.pointer (some ⟨g3, 0, none⟩), Value.pointer (some ⟨g4, 0, none⟩), undef, Value.bool false, Value.int .i64 lf2, Value.pointer (some ⟨g8, 0, none⟩), Value.pointer (some ⟨g9, 0, none⟩), Value.bool r5, Value.pointer (some ⟨g11, 0, none⟩), Value.slice Bf F.length df, pb1, pb2, pa13, undef, undef, undef, undef, undef, undef, Value.agg #[Value.int .i64 sz, Value.slice A1 l.length c1], Value.int .i64 1048576, Value.int .i64 lf1, Value.int .i64 lf1, Value.bool false, Value.slice A2 fs.length c2, Value.int .i64 lf1, Value.int .i64 lf2, Value.int .i64 lf2, Value.bool false, a7, a0, a1, a2, a3, a4, a5, a6, Value.agg #[Value.int .i64 r1, Value.slice Br r2.length dr], a9, a10, Value.agg #[Value.int .i64 sz, Value.slice A1 l.length c1], Value.agg #[Value.int .i64 sz, Value.slice Bx L.length dx], Value.slice A2 fs.length c2, Value.slice Bf F.length df, pa5, pa0, pa1, pa2, pa3, pa4, pa6, pa7, pa8, undef, undef, undef, undef, undef, undef, undef, undef, undef, undef, undef, undef, undef, undef, undef, undef, undef, undef, undef, undef, undef, undef, undef, undef, undef, undef, undef, undef, undef, undef, undef, undef, undef, undef, undef, undef, undef, undef, undef, undef, undef, undef, undef, undef, undef, undef, undef, undef, undef, undef, undef, undef, undef, undef, undef, undef, undef, undef, undef, undef, undef, undef, undef, undef, undef, undef, undef, undef, undef, undef, undef, undef, undef, undef, undef, undef, undef, undef, undef, undef, undef, undef, undef, undef, undef, undef, undef, undef, undef, undef, undef, undef, undef, undef, undef], []⟩ ∧ I11 w11 (.agg #[.int .i64 sz, .slice Bx L.length dx]) (.agg #[.int .i64 K, .int .i64 N]) (.slice Bf F.length df) K N r1 r3 r4 r5 r2 D pa0 pa1 pa2 pa3 pa4 pa5 pa6 pa7 pa8 pb1 pb2 pa13 w') ?h0 ?step ?fin
    case h0 => exact ⟨_, _, _, _, _, _, _, _, _, _, _, _, rfl, by constructor <;> first | exact below_drew1 (Below.refl _ _) | exact Below.refl _ _ | exact fun h => h.elim | (intro g h; simp [undef] at h)⟩
    case step =>
      intro i hi o ho D a w1 hn hd hI
      obtain ⟨pa0, pa1, pa2, pa3, pa4, pa5, pa6, pa7, pa8, pb1, pb2, pa13, ha, H⟩ := hI
      dsimp only at ha
      subst ha
      have HE := H.bel
      have hy11_0 : w1.cell? ⟨g11, 0, none⟩ = some (.int .i64 sz) := (blk_cell (blk_below BX11.out HE) 0).trans rfl
      have hy11_1 : w1.cell? ⟨g11, 1, none⟩ = some (.slice Bx L.length dx) := (blk_cell (blk_below BX11.out HE) 1).trans rfl
      have hy4_0 : w1.cell? ⟨g4, 0, none⟩ = some (.int .i64 K) := (blk_cell (blk_below BX4.out HE) 0).trans rfl
      have hy4_1 : w1.cell? ⟨g4, 1, none⟩ = some (.int .i64 N) := (blk_cell (blk_below BX4.out HE) 1).trans rfl
      obtain rfl | rfl | rfl | rfl | rfl | rfl | rfl | rfl | rfl | rfl | rfl | rfl | rfl | rfl : i = 0 ∨ i = 1 ∨ i = 2 ∨ i = 3 ∨ i = 4 ∨ i = 5 ∨ i = 6 ∨ i = 7 ∨ i = 8 ∨ i = 9 ∨ i = 10 ∨ i = 11 ∨ i = 12 ∨ i = 13 := by omega
      · simp only [List.getElem?_toArray, List.getElem?_cons_succ, List.getElem?_cons_zero, Option.some.injEq] at ho
        subst ho
        refine event_step (w1 := w1) (v := (.agg #[.int .i64 sz, .slice Bx L.length dx])) rfl ?_ ⟨_, _, _, _, _, _, _, _, _, _, _, _, rfl, H.s0 rfl⟩
        (first | (go_simp; done) | (go_simp; rfl))
      · simp only [List.getElem?_toArray, List.getElem?_cons_succ, List.getElem?_cons_zero, Option.some.injEq] at ho
        subst ho
        refine event_step (w1 := w1) (v := (.agg #[.int .i64 K, .int .i64 N])) rfl ?_ ⟨_, _, _, _, _, _, _, _, _, _, _, _, rfl, H.s1 rfl⟩
        (first | (go_simp; done) | (go_simp; rfl))
      · simp only [List.getElem?_toArray, List.getElem?_cons_succ, List.getElem?_cons_zero, Option.some.injEq] at ho
        subst ho
        obtain rfl := H.f1 (hd 1 rfl)
        refine call_step (f := 37) rfl Try.func37 (by kernel_rfl) rfl #[(.agg #[.int .i64 K, .int .i64 N])] rfl (by simp only [List.map_toArray, List.map_cons, List.map_nil]; rfl) ?_
        refine (laws_toWord.calls K N K N _ EW.out).mono ?_
        rintro e w2 ⟨rfl, hb⟩
        exact ⟨_, rfl, _, _, _, _, _, _, _, _, _, _, _, _, rfl, (H.up hb).s2 rfl⟩
      · simp only [List.getElem?_toArray, List.getElem?_cons_succ, List.getElem?_cons_zero, Option.some.injEq] at ho
        subst ho
        refine event_step (w1 := w1) (v := (.slice Bf F.length df)) rfl ?_ ⟨_, _, _, _, _, _, _, _, _, _, _, _, rfl, H.s3 rfl⟩
        (first | (go_simp; done) | (go_simp; rfl))
      · simp only [List.getElem?_toArray, List.getElem?_cons_succ, List.getElem?_cons_zero, Option.some.injEq] at ho
        subst ho
        obtain rfl := H.f0 (hd 0 rfl)
        obtain rfl := H.f2 (hd 2 rfl)
        obtain rfl := H.f3 (hd 3 rfl)
        have hx := Kd.R_reads' (own_below OWx.out HE).1
        have hf := Kd.R_reads' (own_below OWf.out HE).1
        refine call_step (f := 39) rfl Try.func39 (by kernel_rfl) rfl #[(.agg #[.int .i64 sz, .slice Bx L.length dx]), .agg #[.int .i64 K, .int .i64 N], (.slice Bf F.length df)] rfl (by simp only [List.map_toArray, List.map_cons, List.map_nil]; rfl) ?_
        refine (impl_Alloc.calls k sz Bx dx L K N Bf df F r1 r2 r3 r4 r5 _ hx.2.2 hx.2.1 hf.2.2 hf.2.1 EIM.out).mono ?_
        rintro e w2 ⟨u, rfl, ho, hb⟩
        exact ⟨_, rfl, _, _, _, _, _, _, _, _, _, _, _, _, rfl, (H.up hb).s4 (Got.made ho hb HE.size H.lt9 H.lt10 rfl)⟩
      · simp only [List.getElem?_toArray, List.getElem?_cons_succ, List.getElem?_cons_zero, Option.some.injEq] at ho
        subst ho
        refine event_step (w1 := w1) (v := pa4) rfl ?_ ⟨_, _, _, _, _, _, _, _, _, _, _, _, rfl, H.s5 (H.f4 (hd 4 rfl))⟩
        (first | (go_simp; done) | (go_simp; rfl))
      · simp only [List.getElem?_toArray, List.getElem?_cons_succ, List.getElem?_cons_zero, Option.some.injEq] at ho
        subst ho
        obtain ⟨u, lo, hi, rfl, hr⟩ := H.f5 (hd 5 rfl)
        refine event_step (w1 := w1) (v := (.agg #[.int .i64 r1, u])) rfl ?_ ⟨_, _, _, _, _, _, _, _, _, _, _, _, rfl, H.s6 hn ⟨u, lo, hi, rfl, hr⟩⟩
        (first | (go_simp; done) | (go_simp; rfl))
      · simp only [List.getElem?_toArray, List.getElem?_cons_succ, List.getElem?_cons_zero, Option.some.injEq] at ho
        subst ho
        obtain ⟨u, lo, hi, rfl, hr⟩ := H.f5 (hd 5 rfl)
        refine event_step (w1 := w1) (v := (.agg #[.int .i64 r3, .int .i64 r4])) rfl ?_ ⟨_, _, _, _, _, _, _, _, _, _, _, _, rfl, H.s7 rfl⟩
        (first | (go_simp; done) | (go_simp; rfl))
      · simp only [List.getElem?_toArray, List.getElem?_cons_succ, List.getElem?_cons_zero, Option.some.injEq] at ho
        subst ho
        obtain ⟨u, lo, hi, rfl, hr⟩ := H.f5 (hd 5 rfl)
        refine event_step (w1 := w1) (v := (.bool r5)) rfl ?_ ⟨_, _, _, _, _, _, _, _, _, _, _, _, rfl, H.s8 rfl⟩
        (first | (go_simp; done) | (go_simp; rfl))
      · simp only [List.getElem?_toArray, List.getElem?_cons_succ, List.getElem?_cons_zero, Option.some.injEq] at ho
        subst ho
        refine box_step rfl (N := 13) rfl (cs := #[.int .i64 0, .slice none 0 0]) (t := 32) ?_ ?_
        · first | (go_simp; done) | (go_simp; rfl)
        rintro g rfl w2 hbox hb
        exact ⟨_, _, _, _, _, _, _, _, _, _, _, _, rfl, H.s9 hn hb hbox⟩
      · simp only [List.getElem?_toArray, List.getElem?_cons_succ, List.getElem?_cons_zero, Option.some.injEq] at ho
        subst ho
        refine box_step rfl (N := 14) rfl (cs := #[.int .i64 0, .int .i64 0]) (t := 67) ?_ ?_
        · first | (go_simp; done) | (go_simp; rfl)
        rintro g rfl w2 hbox hb
        exact ⟨_, _, _, _, _, _, _, _, _, _, _, _, rfl, H.s10 hn hb hbox⟩
      · simp only [List.getElem?_toArray, List.getElem?_cons_succ, List.getElem?_cons_zero, Option.some.injEq] at ho
        subst ho
        obtain ⟨u, lo, hi, rfl, hlo, O1, hr⟩ := H.f6 (hd 6 rfl)
        obtain ⟨B1, d1, rfl, hl1, hC1⟩ := own_read O1
        obtain ⟨g, rfl, hge, cs, hblk, hz, _⟩ := H.f9 (hd 9 rfl)
        obtain rfl := hz hn
        have hf0 := blk_frozen hblk 0
        have hf1 := blk_frozen hblk 1
        have hq0 : w1.cell? ⟨g, 0, none⟩ = some (.int .i64 0) := (blk_cell hblk 0).trans rfl
        have hq1 : w1.cell? ⟨g, 1, none⟩ = some (.slice none 0 0) := (blk_cell hblk 1).trans rfl
        have hk : Kept w1 ((w1.setCell ⟨g, 0, none⟩ (.int .i64 r1)).setCell ⟨g, 1, none⟩ (.slice B1 r2.length d1)) (fun q => q = g) := Kept.setCell (Kept.setCell (Kept.refl w1 (fun q => q = g)) (p := ⟨g, 0, none⟩) (.inl rfl) _) (p := ⟨g, 1, none⟩) (.inl rfl) _
        have hc : (((w1.setCell ⟨g, 0, none⟩ (.int .i64 r1)).setCell ⟨g, 1, none⟩ (.slice B1 r2.length d1))).heap[g]? = some (.cells #[.int .i64 r1, .slice B1 r2.length d1] 32 (0, 0)) := blk_put (cs := #[.int .i64 r1, .slice none 0 0]) (blk_put hblk 0 _ rfl) 1 _ rfl
        have hB := below_set (j := 1) (v := .slice B1 r2.length d1) (below_set (j := 0) (v := .int .i64 r1) HE hge) hge
        have HN := H.s11 (hd 9 rfl) (hd 6 rfl) rfl hB hk hc rfl
        refine skip_step (w1 := ((w1.setCell ⟨g, 0, none⟩ (.int .i64 r1)).setCell ⟨g, 1, none⟩ (.slice B1 r2.length d1))) rfl ?_ ⟨_, _, _, _, _, _, _, _, _, _, _, _, rfl, HN⟩
        go_simp
        first | done | rfl
      · simp only [List.getElem?_toArray, List.getElem?_cons_succ, List.getElem?_cons_zero, Option.some.injEq] at ho
        subst ho
        obtain rfl := H.f7 (hd 7 rfl)
        obtain ⟨g, rfl, hge, cs, hblk, hz, _⟩ := H.f10 (hd 10 rfl)
        obtain rfl := hz hn
        have hf0 := blk_frozen hblk 0
        have hf1 := blk_frozen hblk 1
        have hq0 : w1.cell? ⟨g, 0, none⟩ = some (.int .i64 0) := (blk_cell hblk 0).trans rfl
        have hq1 : w1.cell? ⟨g, 1, none⟩ = some (.int .i64 0) := (blk_cell hblk 1).trans rfl
        have hk : Kept w1 ((w1.setCell ⟨g, 0, none⟩ (.int .i64 r3)).setCell ⟨g, 1, none⟩ (.int .i64 r4)) (fun q => q = g) := Kept.setCell (Kept.setCell (Kept.refl w1 (fun q => q = g)) (p := ⟨g, 0, none⟩) (.inl rfl) _) (p := ⟨g, 1, none⟩) (.inl rfl) _
        have hc : (((w1.setCell ⟨g, 0, none⟩ (.int .i64 r3)).setCell ⟨g, 1, none⟩ (.int .i64 r4))).heap[g]? = some (.cells #[.int .i64 r3, .int .i64 r4] 67 (0, 0)) := blk_put (cs := #[.int .i64 r3, .int .i64 0]) (blk_put hblk 0 _ rfl) 1 _ rfl
        have hB := below_set (j := 1) (v := .int .i64 r4) (below_set (j := 0) (v := .int .i64 r3) HE hge) hge
        have HN := H.s12 (hd 10 rfl) rfl hB hk hc rfl
        refine skip_step (w1 := ((w1.setCell ⟨g, 0, none⟩ (.int .i64 r3)).setCell ⟨g, 1, none⟩ (.int .i64 r4))) rfl ?_ ⟨_, _, _, _, _, _, _, _, _, _, _, _, rfl, HN⟩
        go_simp
        first | done | rfl
      · simp only [List.getElem?_toArray, List.getElem?_cons_succ, List.getElem?_cons_zero, Option.some.injEq] at ho
        subst ho
        obtain rfl := H.f8 (hd 8 rfl)
        refine event_step (w1 := w1) (v := (.bool r5)) rfl ?_ ⟨_, _, _, _, _, _, _, _, _, _, _, _, rfl, H.s13 rfl⟩
        (first | (go_simp; done) | (go_simp; rfl))
    case fin =>
      intro D a w12 hall hI
      obtain ⟨pa0, pa1, pa2, pa3, pa4, pa5, pa6, pa7, pa8, pb1, pb2, pa13, ha, H⟩ := hI
      dsimp only at ha
      subst ha
      have HBr := Aside0.mk H.bel
      obtain ⟨g13, rfl, hga, csa, hca, _, hva⟩ := H.f9 (hall 9 (by decide))
      have hva := hva (hall 11 (by decide))
      obtain ⟨g14, rfl, hgb, csb, hcb, _, hvb⟩ := H.f10 (hall 10 (by decide))
      have hvb := hvb (hall 12 (by decide))
      subst hvb
      obtain ⟨u, log, hig, he, hlo, hO, hxa, hxb⟩ := H.f6 (hall 6 (by decide))
      rw [he] at hva
      injection hva with hva
      subst hva
      subst he
      obtain ⟨Bg, dg, rfl, _, _⟩ := own_read hO
      obtain rfl := H.f13 (hall 13 (by decide))
      have OWg := Aside0.mk hO
      have BX13 := Aside0.mk hca
      have BX14 := Aside0.mk hcb
      have XA := Aside0.mk (hxa g13 rfl)
      have XB := Aside0.mk (hxb g14 rfl)
      have GA := Aside0.mk hga
      have GB := Aside0.mk hgb
      have LOa := Aside0.mk hlo
      have LB3_g := Aside0.mk (show g3 < log from by have := blk_lt BX3.out; have := LOa.out; omega)
      have NE3_13 := Aside0.mk (show g3 ≠ g13 from by have := blk_lt BX3.out; have := GA.out; have := GB.out; omega)
      have NE3_14 := Aside0.mk (show g3 ≠ g14 from by have := blk_lt BX3.out; have := GA.out; have := GB.out; omega)
      have LB4_g := Aside0.mk (show g4 < log from by have := blk_lt BX4.out; have := LOa.out; omega)
      have NE4_13 := Aside0.mk (show g4 ≠ g13 from by have := blk_lt BX4.out; have := GA.out; have := GB.out; omega)
      have NE4_14 := Aside0.mk (show g4 ≠ g14 from by have := blk_lt BX4.out; have := GA.out; have := GB.out; omega)
      have LB8_g := Aside0.mk (show g8 < log from by have := blk_lt BX8.out; have := LOa.out; omega)
      have NE8_13 := Aside0.mk (show g8 ≠ g13 from by have := blk_lt BX8.out; have := GA.out; have := GB.out; omega)
      have NE8_14 := Aside0.mk (show g8 ≠ g14 from by have := blk_lt BX8.out; have := GA.out; have := GB.out; omega)
      have LB9_g := Aside0.mk (show g9 < log from by have := blk_lt BX9.out; have := LOa.out; omega)
      have NE9_13 := Aside0.mk (show g9 ≠ g13 from by have := blk_lt BX9.out; have := GA.out; have := GB.out; omega)
      have NE9_14 := Aside0.mk (show g9 ≠ g14 from by have := blk_lt BX9.out; have := GA.out; have := GB.out; omega)
      have LB11_g := Aside0.mk (show g11 < log from by have := blk_lt BX11.out; have := LOa.out; omega)
      have NE11_13 := Aside0.mk (show g11 ≠ g13 from by have := blk_lt BX11.out; have := GA.out; have := GB.out; omega)
      have NE11_14 := Aside0.mk (show g11 ≠ g14 from by have := blk_lt BX11.out; have := GA.out; have := GB.out; omega)
      have LUr_g := Aside0.mk (show hir ≤ log from by have := OWr.out.2.1; have := LOa.out; omega)
      have LEr_13 := Aside0.mk (show hir ≤ g13 from by have := OWr.out.2.1; have := GA.out; have := GB.out; omega)
      have LEr_14 := Aside0.mk (show hir ≤ g14 from by have := OWr.out.2.1; have := GA.out; have := GB.out; omega)
      have LUx_g := Aside0.mk (show hix ≤ log from by have := OWx.out.2.1; have := LOa.out; omega)
      have LEx_13 := Aside0.mk (show hix ≤ g13 from by have := OWx.out.2.1; have := GA.out; have := GB.out; omega)
      have LEx_14 := Aside0.mk (show hix ≤ g14 from by have := OWx.out.2.1; have := GA.out; have := GB.out; omega)
      have LUf_g := Aside0.mk (show hif ≤ log from by have := OWf.out.2.1; have := LOa.out; omega)
      have LEf_13 := Aside0.mk (show hif ≤ g13 from by have := OWf.out.2.1; have := GA.out; have := GB.out; omega)
      have LEf_14 := Aside0.mk (show hif ≤ g14 from by have := OWf.out.2.1; have := GA.out; have := GB.out; omega)
      have BX3 := Aside0.mk (blk_below BX3.out HBr.out)
      have BX4 := Aside0.mk (blk_below BX4.out HBr.out)
      have BX8 := Aside0.mk (blk_below BX8.out HBr.out)
      have BX9 := Aside0.mk (blk_below BX9.out HBr.out)
      have BX11 := Aside0.mk (blk_below BX11.out HBr.out)
      have OWr := Aside0.mk (own_below OWr.out HBr.out)
      have OWx := Aside0.mk (own_below OWx.out HBr.out)
      have OWf := Aside0.mk (own_below OWf.out HBr.out)
      have NE13_14 := Aside0.mk (blk_ne BX13.out BX14.out (by decide))
      have GE13 := Aside0.mk (Nat.le_trans HB.out.size GA.out)
      have GE14 := Aside0.mk (Nat.le_trans HB.out.size GB.out)
      have LOg := Aside0.mk (Nat.le_trans HB.out.size LOa.out)
      have LX13_g := XA
      have LX14_g := XB
      have HB := Aside0.mk (below_step HB.out HBr.out)
      (try clear hz3_0); (try clear hz3_1); (try clear hz4_0); (try clear hz4_1); (try clear hz8_0); (try clear hz8_1); (try clear hz9_0); (try clear hz9_1); (try clear hz11_0); (try clear hz11_1); (try clear hf3_0); (try clear hf3_1); (try clear hf4_0); (try clear hf4_1); (try clear hf8_0); (try clear hf8_1); (try clear hf9_0); (try clear hf9_1); (try clear hf11_0); (try clear hf11_1)
      clear XA XB H hall hga hgb hxa hxb hca hcb hO hlo GA GB LOa HBr
      have hz8_0 : w12.cell? ⟨g8, 0, none⟩ = some (.int .i64 r1) := (blk_cell BX8.out 0).trans rfl
      have hz8_1 : w12.cell? ⟨g8, 1, none⟩ = some (.slice Br r2.length dr) := (blk_cell BX8.out 1).trans rfl
      have hz9_0 : w12.cell? ⟨g9, 0, none⟩ = some (.int .i64 r3) := (blk_cell BX9.out 0).trans rfl
      have hz9_1 : w12.cell? ⟨g9, 1, none⟩ = some (.int .i64 r4) := (blk_cell BX9.out 1).trans rfl
      have hz13_0 : w12.cell? ⟨g13, 0, none⟩ = some (.int .i64 r1) := (blk_cell BX13.out 0).trans rfl
      have hz13_1 : w12.cell? ⟨g13, 1, none⟩ = some (.slice Bg r2.length dg) := (blk_cell BX13.out 1).trans rfl
      have hz14_0 : w12.cell? ⟨g14, 0, none⟩ = some (.int .i64 r3) := (blk_cell BX14.out 0).trans rfl
      have hz14_1 : w12.cell? ⟨g14, 1, none⟩ = some (.int .i64 r4) := (blk_cell BX14.out 1).trans rfl
      have hne : (r5 != r5) = false := by simp
      go_upto_region 14 with (first | (go_at_call 21; refine (laws_eqHeap.calls k r1 Bg dg r2 r1 Br dr r2 true _ (Kd.R_reads' OWg.out.1).2.2 (Kd.R_reads' OWg.out.1).2.1 (Kd.R_reads' OWr.out.1).2.2 (Kd.R_reads' OWr.out.1).2.1 Q1.out).mono ?_; rintro e w13 ⟨rfl, hb⟩; (try clear hz3_0); (try clear hz3_1); (try clear hz4_0); (try clear hz4_1); (try clear hz8_0); (try clear hz8_1); (try clear hz9_0); (try clear hz9_1); (try clear hz11_0); (try clear hz11_1); (try clear hz13_0); (try clear hz13_1); (try clear hz14_0); (try clear hz14_1); (try clear hf3_0); (try clear hf3_1); (try clear hf4_0); (try clear hf4_1); (try clear hf8_0); (try clear hf8_1); (try clear hf9_0); (try clear hf9_1); (try clear hf11_0); (try clear hf11_1); (try clear hf13_0); (try clear hf13_1); (try clear hf14_0); (try clear hf14_1); have HB := Aside0.mk (below_step HB.out hb); have BX3 := Aside0.mk (blk_below BX3.out hb); have BX4 := Aside0.mk (blk_below BX4.out hb); have BX8 := Aside0.mk (blk_below BX8.out hb); have BX9 := Aside0.mk (blk_below BX9.out hb); have BX11 := Aside0.mk (blk_below BX11.out hb); have BX13 := Aside0.mk (blk_below BX13.out hb); have BX14 := Aside0.mk (blk_below BX14.out hb); have OWr := Aside0.mk (own_below OWr.out hb); have OWx := Aside0.mk (own_below OWx.out hb); have OWf := Aside0.mk (own_below OWf.out hb); have OWg := Aside0.mk (own_below OWg.out hb); clear hb; have hz8_0 : w13.cell? ⟨g8, 0, none⟩ = some (.int .i64 r1) := (blk_cell BX8.out 0).trans rfl; have hz8_1 : w13.cell? ⟨g8, 1, none⟩ = some (.slice Br r2.length dr) := (blk_cell BX8.out 1).trans rfl; have hz9_0 : w13.cell? ⟨g9, 0, none⟩ = some (.int .i64 r3) := (blk_cell BX9.out 0).trans rfl; have hz9_1 : w13.cell? ⟨g9, 1, none⟩ = some (.int .i64 r4) := (blk_cell BX9.out 1).trans rfl; have hz13_0 : w13.cell? ⟨g13, 0, none⟩ = some (.int .i64 r1) := (blk_cell BX13.out 0).trans rfl; have hz13_1 : w13.cell? ⟨g13, 1, none⟩ = some (.slice Bg r2.length dg) := (blk_cell BX13.out 1).trans rfl; have hz14_0 : w13.cell? ⟨g14, 0, none⟩ = some (.int .i64 r3) := (blk_cell BX14.out 0).trans rfl; have hz14_1 : w13.cell? ⟨g14, 1, none⟩ = some (.int .i64 r4) := (blk_cell BX14.out 1).trans rfl) | (go_at_call 40; refine (laws_eqWord.calls r3 r4 r3 r4 true _ Q2.out).mono ?_; rintro e w14 ⟨rfl, hb⟩; (try clear hz3_0); (try clear hz3_1); (try clear hz4_0); (try clear hz4_1); (try clear hz8_0); (try clear hz8_1); (try clear hz9_0); (try clear hz9_1); (try clear hz11_0); (try clear hz11_1); (try clear hz13_0); (try clear hz13_1); (try clear hz14_0); (try clear hz14_1); (try clear hf3_0); (try clear hf3_1); (try clear hf4_0); (try clear hf4_1); (try clear hf8_0); (try clear hf8_1); (try clear hf9_0); (try clear hf9_1); (try clear hf11_0); (try clear hf11_1); (try clear hf13_0); (try clear hf13_1); (try clear hf14_0); (try clear hf14_1); have HB := Aside0.mk (below_step HB.out hb); have BX3 := Aside0.mk (blk_below BX3.out hb); have BX4 := Aside0.mk (blk_below BX4.out hb); have BX8 := Aside0.mk (blk_below BX8.out hb); have BX9 := Aside0.mk (blk_below BX9.out hb); have BX11 := Aside0.mk (blk_below BX11.out hb); have BX13 := Aside0.mk (blk_below BX13.out hb); have BX14 := Aside0.mk (blk_below BX14.out hb); have OWr := Aside0.mk (own_below OWr.out hb); have OWx := Aside0.mk (own_below OWx.out hb); have OWf := Aside0.mk (own_below OWf.out hb); have OWg := Aside0.mk (own_below OWg.out hb); clear hb; have hz3_0 : w14.cell? ⟨g3, 0, none⟩ = some (.int .i64 sz) := (blk_cell BX3.out 0).trans rfl; have hz3_1 : w14.cell? ⟨g3, 1, none⟩ = some (.slice A1 l.length c1) := (blk_cell BX3.out 1).trans rfl; have hz11_0 : w14.cell? ⟨g11, 0, none⟩ = some (.int .i64 sz) := (blk_cell BX11.out 0).trans rfl; have hz11_1 : w14.cell? ⟨g11, 1, none⟩ = some (.slice Bx L.length dx) := (blk_cell BX11.out 1).trans rfl))
      refine region_done (n := 5) (by rfl) (by kernel_rfl) (by kernel_rfl) (fun D a w' => ∃ qa0 qa1 qa2 qa3 qa4, a = ⟨#[Value.agg #[Value.int .i64 sz, Value.slice A1 l.length c1], Value.agg #[Value.int .i64 K, Value.int .i64 N], Value.slice A2 fs.length c2, Value.pointer (some ⟨g3, 0, none⟩), Value.pointer (some ⟨g4, 0, none⟩), undef, Value.bool false, Value.int .i64 lf2, Value.pointer (some ⟨g8, 0, none⟩), Value.pointer (some ⟨g9, 0, none⟩), Value.bool r5, Value.pointer (some ⟨g11, 0, none⟩), Value.slice Bf F.length df, Value.pointer (some ⟨g13, 0, none⟩), Value.pointer (some ⟨g14, 0, none⟩), Value.bool r5, undef, undef, undef, undef, undef, undef, Value.agg #[Value.int .i64 sz, Value.slice A1 l.length c1], Value.int .i64 1048576, Value.int .i64 lf1, Value.int .i64 lf1, Value.bool false, Value.slice A2 fs.length c2, Value.int .i64 lf1, Value.int .i64 lf2, Value.int .i64 lf2, Value.bool false, a7, a0, a1, a2, a3, a4, a5, a6, Value.agg #[Value.int .i64 r1, Value.slice Br r2.length dr], a9, a10, Value.agg #[Value.int .i64 sz, Value.slice A1 l.length c1], Value.agg #[Value.int .i64 sz, Value.slice Bx L.length dx], Value.slice A2 fs.length c2, Value.slice Bf F.length df, pa5, pa0, pa1, pa2, pa3, pa4, Value.agg #[Value.int .i64 r1, Value.slice Bg r2.length dg], pa7, pa8, Value.agg #[Value.int .i64 r1, Value.slice Bg r2.length dg], Value.agg #[Value.int .i64 r1, Value.slice Br r2.length dr], Value.bool true, Value.bool false, Value.bool false, Value.agg #[Value.int .i64 r3, Value.int .i64 r4], Value.agg #[Value.int .i64 r3, Value.int .i64 r4], Value.bool true, Value.bool false, Value.bool false, Value.bool false, Value.bool r5, Value.bool r5, Value.bool false, Value.bool false, qa0, qa1, qa2, qa3, qa4, undef, undef, undef, undef, undef, undef, undef, undef, undef, undef, undef, undef, undef, undef, undef, undef, undef, undef, undef, undef, undef, undef, undef, undef, undef, undef, undef, undef, undef, undef, undef, undef, undef, undef, undef, undef, undef, undef, undef, undef, undef, undef, undef, undef, undef, undef, undef, undef, undef, undef, undef, undef, undef, undef, undef, undef, undef, undef, undef, undef, undef, undef, undef, undef, undef, undef, undef, undef, undef, undef, undef, undef, undef, undef, undef], []⟩ ∧ I14 w14 (.agg #[.int .i64 sz, .slice Bx L.length dx]) (.agg #[.int .i64 sz, .slice A1 l.length c1]) sz L D qa0 qa1 qa2 qa3 qa4 w') ?h0 ?step ?fin
      case h0 => exact ⟨_, _, _, _, _, rfl, by constructor <;> first | exact below_drew1 (Below.refl _ _) | exact Below.refl _ _ | exact fun h => h.elim | (intro g h; simp [undef] at h)⟩
      case step =>
        intro i hi o ho D a w1 hn hd hI
        obtain ⟨qa0, qa1, qa2, qa3, qa4, ha, H⟩ := hI
        dsimp only at ha
        subst ha
        have HE := H.bel
        have hy11_0 : w1.cell? ⟨g11, 0, none⟩ = some (.int .i64 sz) := (blk_cell (blk_below BX11.out HE) 0).trans rfl
        have hy11_1 : w1.cell? ⟨g11, 1, none⟩ = some (.slice Bx L.length dx) := (blk_cell (blk_below BX11.out HE) 1).trans rfl
        have hy3_0 : w1.cell? ⟨g3, 0, none⟩ = some (.int .i64 sz) := (blk_cell (blk_below BX3.out HE) 0).trans rfl
        have hy3_1 : w1.cell? ⟨g3, 1, none⟩ = some (.slice A1 l.length c1) := (blk_cell (blk_below BX3.out HE) 1).trans rfl
        obtain rfl | rfl | rfl | rfl | rfl : i = 0 ∨ i = 1 ∨ i = 2 ∨ i = 3 ∨ i = 4 := by omega
        · simp only [List.getElem?_toArray, List.getElem?_cons_succ, List.getElem?_cons_zero, Option.some.injEq] at ho
          subst ho
          refine event_step (w1 := w1) (v := (.agg #[.int .i64 sz, .slice Bx L.length dx])) rfl ?_ ⟨_, _, _, _, _, rfl, H.s0 rfl⟩
          (first | (go_simp; done) | (go_simp; rfl))
        · simp only [List.getElem?_toArray, List.getElem?_cons_succ, List.getElem?_cons_zero, Option.some.injEq] at ho
          subst ho
          refine event_step (w1 := w1) (v := (.agg #[.int .i64 sz, .slice A1 l.length c1])) rfl ?_ ⟨_, _, _, _, _, rfl, H.s1 rfl⟩
          (first | (go_simp; done) | (go_simp; rfl))
        · simp only [List.getElem?_toArray, List.getElem?_cons_succ, List.getElem?_cons_zero, Option.some.injEq] at ho
          subst ho
          obtain rfl := H.f1 (hd 1 rfl)
          refine call_step (f := 28) rfl Try.func28 (by kernel_rfl) rfl #[(.agg #[.int .i64 sz, .slice A1 l.length c1])] rfl (by simp only [List.map_toArray, List.map_cons, List.map_nil]; rfl) ?_
          refine (laws_toHeap.calls k sz A1 c1 l sz L _ (Kd.C_below HR1.out (below_step HB.out HE)) HC1.out EH.out).mono ?_
          rintro e w2 ⟨u, rfl, ho, hb⟩
          exact ⟨_, rfl, _, _, _, _, _, rfl, (H.up hb).s2 (Got.made ho hb HE.size (by intro g h; cases h) (by intro g h; cases h) rfl)⟩
        · simp only [List.getElem?_toArray, List.getElem?_cons_succ, List.getElem?_cons_zero, Option.some.injEq] at ho
          subst ho
          obtain rfl := H.f0 (hd 0 rfl)
          obtain ⟨u, lo, hi, rfl, _, O1, _, _⟩ := H.f2 (hd 2 rfl)
          obtain ⟨B1, d1, rfl, hl1, hC1⟩ := own_read O1
          have hx := Kd.R_reads' (own_below OWx.out HE).1
          refine call_step (f := 21) rfl Try.func21 (by kernel_rfl) rfl #[(.agg #[.int .i64 sz, .slice Bx L.length dx]), .agg #[.int .i64 sz, .slice B1 L.length d1]] rfl (by simp only [List.map_toArray, List.map_cons, List.map_nil]; rfl) ?_
          refine (laws_eqHeap.calls k sz Bx dx L sz B1 d1 L true _ hx.2.2 hx.2.1 hC1 hl1 Q3.out).mono ?_
          rintro e w2 ⟨rfl, hb⟩
          exact ⟨_, rfl, _, _, _, _, _, rfl, (H.up hb).s3 rfl⟩
        · simp only [List.getElem?_toArray, List.getElem?_cons_succ, List.getElem?_cons_zero, Option.some.injEq] at ho
          subst ho
          obtain rfl := H.f3 (hd 3 rfl)
          refine event_step (w1 := w1) (v := (.bool false)) rfl ?_ ⟨_, _, _, _, _, rfl, H.s4 rfl⟩
          (first | (go_simp; done) | (go_simp; rfl))
      case fin =>
        intro D a w15 hall hI
        obtain ⟨qa0, qa1, qa2, qa3, qa4, ha, H⟩ := hI
        dsimp only at ha
        subst ha
        obtain rfl := H.f4 (hall 4 (by decide))
        have HBr := Aside0.mk H.bel
        clear H hall
        have HB := Aside0.mk (below_step HB.out HBr.out)
        have BX3 := Aside0.mk (blk_below BX3.out HBr.out)
        have BX4 := Aside0.mk (blk_below BX4.out HBr.out)
        have BX8 := Aside0.mk (blk_below BX8.out HBr.out)
        have BX9 := Aside0.mk (blk_below BX9.out HBr.out)
        have BX11 := Aside0.mk (blk_below BX11.out HBr.out)
        have BX13 := Aside0.mk (blk_below BX13.out HBr.out)
        have BX14 := Aside0.mk (blk_below BX14.out HBr.out)
        have OWr := Aside0.mk (own_below OWr.out HBr.out)
        have OWx := Aside0.mk (own_below OWx.out HBr.out)
        have OWf := Aside0.mk (own_below OWf.out HBr.out)
        have OWg := Aside0.mk (own_below OWg.out HBr.out)
        clear HBr
        (try clear hz3_0); (try clear hz3_1); (try clear hz4_0); (try clear hz4_1); (try clear hz8_0); (try clear hz8_1); (try clear hz9_0); (try clear hz9_1); (try clear hz11_0); (try clear hz11_1); (try clear hz13_0); (try clear hz13_1); (try clear hz14_0); (try clear hz14_1); (try clear hf3_0); (try clear hf3_1); (try clear hf4_0); (try clear hf4_1); (try clear hf8_0); (try clear hf8_1); (try clear hf9_0); (try clear hf9_1); (try clear hf11_0); (try clear hf11_1); (try clear hf13_0); (try clear hf13_1); (try clear hf14_0); (try clear hf14_1)
        go_upto_region 19 with (first | (go_at_call 38; refine (laws_toWordS.calls k A2 c2 fs F _ (Kd.C_below HR2.out HB.out) HC2.out ES.out).mono ?_; rintro e w16 ⟨u, rfl, ho, hb⟩; (try clear hz3_0); (try clear hz3_1); (try clear hz4_0); (try clear hz4_1); (try clear hz8_0); (try clear hz8_1); (try clear hz9_0); (try clear hz9_1); (try clear hz11_0); (try clear hz11_1); (try clear hz13_0); (try clear hz13_1); (try clear hz14_0); (try clear hz14_1); (try clear hf3_0); (try clear hf3_1); (try clear hf4_0); (try clear hf4_1); (try clear hf8_0); (try clear hf8_1); (try clear hf9_0); (try clear hf9_1); (try clear hf11_0); (try clear hf11_1); (try clear hf13_0); (try clear hf13_1); (try clear hf14_0); (try clear hf14_1); obtain ⟨lof2, hif2, hloe, OWm⟩ := own_ex ho hb; have OWn := Aside0.mk OWm; have LOf2 := Aside0.mk (show w.heap.size ≤ lof2 from by have := HB.out.size; omega); have LB3_f2 := Aside0.mk (show g3 < lof2 from by have := blk_lt BX3.out; omega); have LB4_f2 := Aside0.mk (show g4 < lof2 from by have := blk_lt BX4.out; omega); have LB8_f2 := Aside0.mk (show g8 < lof2 from by have := blk_lt BX8.out; omega); have LB9_f2 := Aside0.mk (show g9 < lof2 from by have := blk_lt BX9.out; omega); have LB11_f2 := Aside0.mk (show g11 < lof2 from by have := blk_lt BX11.out; omega); have LB13_f2 := Aside0.mk (show g13 < lof2 from by have := blk_lt BX13.out; omega); have LB14_f2 := Aside0.mk (show g14 < lof2 from by have := blk_lt BX14.out; omega); have LUr_f2 := Aside0.mk (show hir ≤ lof2 from by have := OWr.out.2.1; omega); have LUx_f2 := Aside0.mk (show hix ≤ lof2 from by have := OWx.out.2.1; omega); have LUf_f2 := Aside0.mk (show hif ≤ lof2 from by have := OWf.out.2.1; omega); have LUg_f2 := Aside0.mk (show hig ≤ lof2 from by have := OWg.out.2.1; omega); clear OWm hloe; have HB := Aside0.mk (below_step HB.out hb); have BX3 := Aside0.mk (blk_below BX3.out hb); have BX4 := Aside0.mk (blk_below BX4.out hb); have BX8 := Aside0.mk (blk_below BX8.out hb); have BX9 := Aside0.mk (blk_below BX9.out hb); have BX11 := Aside0.mk (blk_below BX11.out hb); have BX13 := Aside0.mk (blk_below BX13.out hb); have BX14 := Aside0.mk (blk_below BX14.out hb); have OWr := Aside0.mk (own_below OWr.out hb); have OWx := Aside0.mk (own_below OWx.out hb); have OWf := Aside0.mk (own_below OWf.out hb); have OWg := Aside0.mk (own_below OWg.out hb); have OWf2 := OWn; clear OWn ho; obtain ⟨Bf2, df2, rfl, hlf2, hCf2⟩ := own_read OWf2.out; clear hlf2 hCf2; clear hb) | (go_at_call 41; refine (laws_eqWordS.calls k Bf df F Bf2 df2 F true _ (Kd.R_reads' OWf.out.1).2.2 (Kd.R_reads' OWf.out.1).2.1 (Kd.R_reads' OWf2.out.1).2.2 (Kd.R_reads' OWf2.out.1).2.1 Q4.out).mono ?_; rintro e w17 ⟨rfl, hb⟩; (try clear hz3_0); (try clear hz3_1); (try clear hz4_0); (try clear hz4_1); (try clear hz8_0); (try clear hz8_1); (try clear hz9_0); (try clear hz9_1); (try clear hz11_0); (try clear hz11_1); (try clear hz13_0); (try clear hz13_1); (try clear hz14_0); (try clear hz14_1); (try clear hf3_0); (try clear hf3_1); (try clear hf4_0); (try clear hf4_1); (try clear hf8_0); (try clear hf8_1); (try clear hf9_0); (try clear hf9_1); (try clear hf11_0); (try clear hf11_1); (try clear hf13_0); (try clear hf13_1); (try clear hf14_0); (try clear hf14_1); have HB := Aside0.mk (below_step HB.out hb); have BX3 := Aside0.mk (blk_below BX3.out hb); have BX4 := Aside0.mk (blk_below BX4.out hb); have BX8 := Aside0.mk (blk_below BX8.out hb); have BX9 := Aside0.mk (blk_below BX9.out hb); have BX11 := Aside0.mk (blk_below BX11.out hb); have BX13 := Aside0.mk (blk_below BX13.out hb); have BX14 := Aside0.mk (blk_below BX14.out hb); have OWr := Aside0.mk (own_below OWr.out hb); have OWx := Aside0.mk (own_below OWx.out hb); have OWf := Aside0.mk (own_below OWf.out hb); have OWg := Aside0.mk (own_below OWg.out hb); have OWf2 := Aside0.mk (own_below OWf2.out hb); clear hb; have hz11_0 : w17.cell? ⟨g11, 0, none⟩ = some (.int .i64 sz) := (blk_cell BX11.out 0).trans rfl; have hz11_1 : w17.cell? ⟨g11, 1, none⟩ = some (.slice Bx L.length dx) := (blk_cell BX11.out 1).trans rfl))
        go_upto_region 20 with (first | (go_at_call 22; refine (laws_markHeap.calls k sz (fun k => lox ≤ k ∧ k < hix) (.slice Bx L.length dx) L 1 m1 L1 w _ HB.out (own_low OWx.out LOx.out) EM1.out).mono ?_; rintro e w18 ⟨rfl, ho, hb, hk⟩; (try clear hz3_0); (try clear hz3_1); (try clear hz4_0); (try clear hz4_1); (try clear hz8_0); (try clear hz8_1); (try clear hz9_0); (try clear hz9_1); (try clear hz11_0); (try clear hz11_1); (try clear hz13_0); (try clear hz13_1); (try clear hz14_0); (try clear hz14_1); (try clear hf3_0); (try clear hf3_1); (try clear hf4_0); (try clear hf4_1); (try clear hf8_0); (try clear hf8_1); (try clear hf9_0); (try clear hf9_1); (try clear hf11_0); (try clear hf11_1); (try clear hf13_0); (try clear hf13_1); (try clear hf14_0); (try clear hf14_1); have HB := Aside0.mk hb; have BX3 := Aside0.mk (blk_kept BX3.out hk (by have := LB3_x.out; omega)); have BX4 := Aside0.mk (blk_kept BX4.out hk (by have := LB4_x.out; omega)); have BX8 := Aside0.mk (blk_kept BX8.out hk (by have := LB8_x.out; omega)); have BX9 := Aside0.mk (blk_kept BX9.out hk (by have := LB9_x.out; omega)); have BX11 := Aside0.mk (blk_kept BX11.out hk (by have := LEx_11.out; omega)); have BX13 := Aside0.mk (blk_kept BX13.out hk (by have := LEx_13.out; omega)); have BX14 := Aside0.mk (blk_kept BX14.out hk (by have := LEx_14.out; omega)); have OWr := Aside0.mk (own_kept OWr.out hk (by have := LUr_x.out; omega)); have OWf := Aside0.mk (own_kept OWf.out hk (by have := LUx_f.out; omega)); have OWg := Aside0.mk (own_kept OWg.out hk (by have := LUx_g.out; omega)); clear OWx; clear ho hb hk))
        go_upto_region 21 with (first | (go_at_call 42; refine (laws_markWordS.calls k (fun k => lof ≤ k ∧ k < hif) (.slice Bf F.length df) F m1 m2 F1 w _ HB.out (own_low OWf.out LOf.out) EM2.out).mono ?_; rintro e w19 ⟨rfl, ho, hb, hk⟩; (try clear hz3_0); (try clear hz3_1); (try clear hz4_0); (try clear hz4_1); (try clear hz8_0); (try clear hz8_1); (try clear hz9_0); (try clear hz9_1); (try clear hz13_0); (try clear hz13_1); (try clear hz14_0); (try clear hz14_1); (try clear hf3_0); (try clear hf3_1); (try clear hf4_0); (try clear hf4_1); (try clear hf8_0); (try clear hf8_1); (try clear hf9_0); (try clear hf9_1); (try clear hf13_0); (try clear hf13_1); (try clear hf14_0); (try clear hf14_1); have HB := Aside0.mk hb; have BX3 := Aside0.mk (blk_kept BX3.out hk (by have := LB3_f.out; omega)); have BX4 := Aside0.mk (blk_kept BX4.out hk (by have := LB4_f.out; omega)); have BX8 := Aside0.mk (blk_kept BX8.out hk (by have := LB8_f.out; omega)); have BX9 := Aside0.mk (blk_kept BX9.out hk (by have := LB9_f.out; omega)); have BX13 := Aside0.mk (blk_kept BX13.out hk (by have := LEf_13.out; omega)); have BX14 := Aside0.mk (blk_kept BX14.out hk (by have := LEf_14.out; omega)); have OWr := Aside0.mk (own_kept OWr.out hk (by have := LUr_f.out; omega)); have OWg := Aside0.mk (own_kept OWg.out hk (by have := LUf_g.out; omega)); clear OWf; clear ho hb hk; have hz8_0 : w19.cell? ⟨g8, 0, none⟩ = some (.int .i64 r1) := (blk_cell BX8.out 0).trans rfl; have hz8_1 : w19.cell? ⟨g8, 1, none⟩ = some (.slice Br r2.length dr) := (blk_cell BX8.out 1).trans rfl; have hz9_0 : w19.cell? ⟨g9, 0, none⟩ = some (.int .i64 r3) := (blk_cell BX9.out 0).trans rfl; have hz9_1 : w19.cell? ⟨g9, 1, none⟩ = some (.int .i64 r4) := (blk_cell BX9.out 1).trans rfl; have hz13_0 : w19.cell? ⟨g13, 0, none⟩ = some (.int .i64 r1) := (blk_cell BX13.out 0).trans rfl; have hz13_1 : w19.cell? ⟨g13, 1, none⟩ = some (.slice Bg r2.length dg) := (blk_cell BX13.out 1).trans rfl; have hz14_0 : w19.cell? ⟨g14, 0, none⟩ = some (.int .i64 r3) := (blk_cell BX14.out 0).trans rfl; have hz14_1 : w19.cell? ⟨g14, 1, none⟩ = some (.int .i64 r4) := (blk_cell BX14.out 1).trans rfl))
        go_upto_region 24 with (first | (go_at_call 21; refine (laws_eqHeap.calls k r1 Bg dg r2 r1 Br dr r2 true _ (Kd.R_reads' OWg.out.1).2.2 (Kd.R_reads' OWg.out.1).2.1 (Kd.R_reads' OWr.out.1).2.2 (Kd.R_reads' OWr.out.1).2.1 Q1.out).mono ?_; rintro e w20 ⟨rfl, hb⟩; (try clear hz3_0); (try clear hz3_1); (try clear hz4_0); (try clear hz4_1); (try clear hz8_0); (try clear hz8_1); (try clear hz9_0); (try clear hz9_1); (try clear hz13_0); (try clear hz13_1); (try clear hz14_0); (try clear hz14_1); (try clear hf3_0); (try clear hf3_1); (try clear hf4_0); (try clear hf4_1); (try clear hf8_0); (try clear hf8_1); (try clear hf9_0); (try clear hf9_1); (try clear hf13_0); (try clear hf13_1); (try clear hf14_0); (try clear hf14_1); have HB := Aside0.mk (below_step HB.out hb); have BX3 := Aside0.mk (blk_below BX3.out hb); have BX4 := Aside0.mk (blk_below BX4.out hb); have BX8 := Aside0.mk (blk_below BX8.out hb); have BX9 := Aside0.mk (blk_below BX9.out hb); have BX13 := Aside0.mk (blk_below BX13.out hb); have BX14 := Aside0.mk (blk_below BX14.out hb); have OWr := Aside0.mk (own_below OWr.out hb); have OWg := Aside0.mk (own_below OWg.out hb); clear hb; have hz8_0 : w20.cell? ⟨g8, 0, none⟩ = some (.int .i64 r1) := (blk_cell BX8.out 0).trans rfl; have hz8_1 : w20.cell? ⟨g8, 1, none⟩ = some (.slice Br r2.length dr) := (blk_cell BX8.out 1).trans rfl; have hz9_0 : w20.cell? ⟨g9, 0, none⟩ = some (.int .i64 r3) := (blk_cell BX9.out 0).trans rfl; have hz9_1 : w20.cell? ⟨g9, 1, none⟩ = some (.int .i64 r4) := (blk_cell BX9.out 1).trans rfl; have hz13_0 : w20.cell? ⟨g13, 0, none⟩ = some (.int .i64 r1) := (blk_cell BX13.out 0).trans rfl; have hz13_1 : w20.cell? ⟨g13, 1, none⟩ = some (.slice Bg r2.length dg) := (blk_cell BX13.out 1).trans rfl; have hz14_0 : w20.cell? ⟨g14, 0, none⟩ = some (.int .i64 r3) := (blk_cell BX14.out 0).trans rfl; have hz14_1 : w20.cell? ⟨g14, 1, none⟩ = some (.int .i64 r4) := (blk_cell BX14.out 1).trans rfl) | (go_at_call 40; refine (laws_eqWord.calls r3 r4 r3 r4 true _ Q2.out).mono ?_; rintro e w21 ⟨rfl, hb⟩; (try clear hz3_0); (try clear hz3_1); (try clear hz4_0); (try clear hz4_1); (try clear hz8_0); (try clear hz8_1); (try clear hz9_0); (try clear hz9_1); (try clear hz13_0); (try clear hz13_1); (try clear hz14_0); (try clear hz14_1); (try clear hf3_0); (try clear hf3_1); (try clear hf4_0); (try clear hf4_1); (try clear hf8_0); (try clear hf8_1); (try clear hf9_0); (try clear hf9_1); (try clear hf13_0); (try clear hf13_1); (try clear hf14_0); (try clear hf14_1); have HB := Aside0.mk (below_step HB.out hb); have BX3 := Aside0.mk (blk_below BX3.out hb); have BX4 := Aside0.mk (blk_below BX4.out hb); have BX8 := Aside0.mk (blk_below BX8.out hb); have BX9 := Aside0.mk (blk_below BX9.out hb); have BX13 := Aside0.mk (blk_below BX13.out hb); have BX14 := Aside0.mk (blk_below BX14.out hb); have OWr := Aside0.mk (own_below OWr.out hb); have OWg := Aside0.mk (own_below OWg.out hb); clear hb; have hz13_0 : w21.cell? ⟨g13, 0, none⟩ = some (.int .i64 r1) := (blk_cell BX13.out 0).trans rfl; have hz13_1 : w21.cell? ⟨g13, 1, none⟩ = some (.slice Bg r2.length dg) := (blk_cell BX13.out 1).trans rfl))
        go_upto_region 26 with (first | (go_at_call 22; refine (laws_markHeap.calls k r1 (fun k => log ≤ k ∧ k < hig) (.slice Bg r2.length dg) r2 1 m3 R1 w _ HB.out (own_low OWg.out LOg.out) EM3.out).mono ?_; rintro e w22 ⟨rfl, ho, hb, hk⟩; (try clear hz3_0); (try clear hz3_1); (try clear hz4_0); (try clear hz4_1); (try clear hz8_0); (try clear hz8_1); (try clear hz9_0); (try clear hz9_1); (try clear hz13_0); (try clear hz13_1); (try clear hz14_0); (try clear hz14_1); (try clear hf3_0); (try clear hf3_1); (try clear hf4_0); (try clear hf4_1); (try clear hf8_0); (try clear hf8_1); (try clear hf9_0); (try clear hf9_1); (try clear hf13_0); (try clear hf13_1); (try clear hf14_0); (try clear hf14_1); have HB := Aside0.mk hb; have BX3 := Aside0.mk (blk_kept BX3.out hk (by have := LB3_g.out; omega)); have BX4 := Aside0.mk (blk_kept BX4.out hk (by have := LB4_g.out; omega)); have BX8 := Aside0.mk (blk_kept BX8.out hk (by have := LB8_g.out; omega)); have BX9 := Aside0.mk (blk_kept BX9.out hk (by have := LB9_g.out; omega)); have BX13 := Aside0.mk (blk_kept BX13.out hk (by have := LX13_g.out; omega)); have BX14 := Aside0.mk (blk_kept BX14.out hk (by have := LX14_g.out; omega)); have OWr := Aside0.mk (own_kept OWr.out hk (by have := LUr_g.out; omega)); obtain ⟨lom, him, OWq, LOq⟩ := own_marked_ex ho hb.size; have OWm := Aside0.mk OWq; have LOm := Aside0.mk LOq; clear OWq LOq OWg; clear ho hb hk; have hz13_0 : w22.cell? ⟨g13, 0, none⟩ = some (.int .i64 r1) := (blk_cell BX13.out 0).trans rfl; have hz13_1 : w22.cell? ⟨g13, 1, none⟩ = some (.slice Bg r2.length dg) := (blk_cell BX13.out 1).trans rfl))
        have HLEN := Aside0.mk (Kd.R_reads' OWm.out.1).1
        have hnm : (m3 != m3) = false := by simp
        go_upto_region 31 with (first | (go_at_call 23; refine (calls_of_args (args' := #[.agg #[.int .i64 r1, .slice Bg R1.length dg], .int .i64 1]) (by rw [← HLEN.out]) (laws_heldHeap.calls k r1 Bg dg R1 1 m3 _ (Kd.R_reads' OWm.out.1).2.2 (Nat.le_trans (Nat.le_of_eq HLEN.out.symm) (Kd.R_reads' OWm.out.1).2.1) ED.out)).mono ?_; rintro e w23 ⟨rfl, hb⟩; (try clear hz3_0); (try clear hz3_1); (try clear hz4_0); (try clear hz4_1); (try clear hz8_0); (try clear hz8_1); (try clear hz9_0); (try clear hz9_1); (try clear hz13_0); (try clear hz13_1); (try clear hz14_0); (try clear hz14_1); (try clear hf3_0); (try clear hf3_1); (try clear hf4_0); (try clear hf4_1); (try clear hf8_0); (try clear hf8_1); (try clear hf9_0); (try clear hf9_1); (try clear hf13_0); (try clear hf13_1); (try clear hf14_0); (try clear hf14_1); have HB := Aside0.mk (below_step HB.out hb); have BX3 := Aside0.mk (blk_below BX3.out hb); have BX4 := Aside0.mk (blk_below BX4.out hb); have BX8 := Aside0.mk (blk_below BX8.out hb); have BX9 := Aside0.mk (blk_below BX9.out hb); have BX13 := Aside0.mk (blk_below BX13.out hb); have BX14 := Aside0.mk (blk_below BX14.out hb); have OWr := Aside0.mk (own_below OWr.out hb); have OWm := Aside0.mk (own_below OWm.out hb); clear hb; have hz3_0 : w23.cell? ⟨g3, 0, none⟩ = some (.int .i64 sz) := (blk_cell BX3.out 0).trans rfl; have hz3_1 : w23.cell? ⟨g3, 1, none⟩ = some (.slice A1 l.length c1) := (blk_cell BX3.out 1).trans rfl; have hz4_0 : w23.cell? ⟨g4, 0, none⟩ = some (.int .i64 K) := (blk_cell BX4.out 0).trans rfl; have hz4_1 : w23.cell? ⟨g4, 1, none⟩ = some (.int .i64 N) := (blk_cell BX4.out 1).trans rfl))
        refine region_done (n := 16) (by rfl) (by kernel_rfl) (by kernel_rfl) (fun D a w' => ∃ ra0 ra1 ra2 ra3 ra4 ra5 ra6 ra7 ra8 ra9 ra10 rb1 rb2 ra15, a = ⟨#[Value.agg #[Value.int .i64 sz, Value.slice A1 l.length c1], Value.agg #[Value.int .i64 K, Value.int .i64 N], Value.slice A2 fs.length c2, Value.pointer (some ⟨g3, 0, none⟩), Value.pointer (some ⟨g4, 0, none⟩), undef, Value.bool false, Value.int .i64 lf2, Value.pointer (some ⟨g8, 0, none⟩), Value.pointer (some ⟨g9, 0, none⟩), Value.bool r5, Value.pointer (some ⟨g11, 0, none⟩), Value.slice Bf F.length df, Value.pointer (some ⟨g13, 0, none⟩), Value.pointer (some ⟨g14, 0, none⟩), Value.bool r5, Value.int .i64 m2, Value.int .i64 m3, Value.int .i64 m3, rb1, rb2, ra15, Value.agg #[Value.int .i64 sz, Value.slice A1 l.length c1], Value.int .i64 1048576, Value.int .i64 lf1, Value.int .i64 lf1, Value.bool false, Value.slice A2 fs.length c2, Value.int .i64 lf1, Value.int .i64 lf2, Value.int .i64 lf2, Value.bool false, a7, a0, a1, a2, a3, a4, a5, a6, Value.agg #[Value.int .i64 r1, Value.slice Br r2.length dr], a9, a10, Value.agg #[Value.int .i64 sz, Value.slice A1 l.length c1], Value.agg #[Value.int .i64 sz, Value.slice Bx L.length dx], Value.slice A2 fs.length c2, Value.slice Bf F.length df, pa5, pa0, pa1, pa2, pa3, pa4, Value.agg #[Value.int .i64 r1, Value.slice Bg r2.length dg], pa7, pa8, Value.agg #[Value.int .i64 r1, Value.slice Bg r2.length dg], Value.agg #[Value.int .i64 r1, Value.slice Br r2.length dr], Value.bool true, Value.bool false, Value.bool false, Value.agg #[Value.int .i64 r3, Value.int .i64 r4], Value.agg #[Value.int .i64 r3, Value.int .i64 r4], Value.bool true, Value.bool false, Value.bool false, Value.bool false, Value.bool r5, Value.bool r5, Value.bool false, Value.bool false, qa0, qa1, qa2, qa3, Value.bool false, Value.slice Bf F.length df, Value.slice A2 fs.length c2, Value.slice Bf2 F.length df2, Value.bool true, Value.bool false, Value.agg #[Value.int .i64 sz, Value.slice Bx L.length dx], Value.int .i64 1, Value.int .i64 m1, Value.slice Bf F.length df, Value.int .i64 m1, Value.int .i64 m2, Value.int .i64 m2, Value.bool false, Value.bool false, Value.agg #[Value.int .i64 r1, Value.slice Bg r2.length dg], Value.agg #[Value.int .i64 r1, Value.slice Br r2.length dr], Value.bool true, Value.bool false, Value.bool false, Value.bool false, Value.agg #[Value.int .i64 r3, Value.int .i64 r4], Value.agg #[Value.int .i64 r3, Value.int .i64 r4], Value.bool true, Value.bool false, Value.bool false, Value.bool false, Value.bool r5, Value.bool r5, Value.bool false, Value.bool false, Value.agg #[Value.int .i64 r1, Value.slice Bg r2.length dg], Value.int .i64 1, Value.int .i64 m3, Value.agg #[Value.int .i64 r1, Value.slice Bg r2.length dg], Value.int .i64 1, Value.int .i64 m3, Value.int .i64 m3, Value.bool false, Value.int .i64 m3, Value.int .i64 m3, Value.bool false, ra7, ra0, ra1, ra2, ra3, ra4, ra5, ra6, ra8, ra9, ra10, undef, undef, undef, undef, undef, undef, undef, undef, undef, undef, undef, undef, undef, undef, undef, undef, undef, undef, undef, undef, undef, undef, undef], []⟩ ∧ I8 w23 (.agg #[.int .i64 sz, .slice A1 l.length c1]) (.agg #[.int .i64 K, .int .i64 N]) (.slice A2 fs.length c2) sz K N r1 r3 r4 r5 L F r2 D ra0 ra1 ra2 ra3 ra4 ra5 ra6 ra7 ra8 ra9 ra10 rb1 rb2 ra15 w') ?h0 ?step ?fin
        case h0 => exact ⟨_, _, _, _, _, _, _, _, _, _, _, _, _, _, rfl, by constructor <;> first | exact below_drew1 (Below.refl _ _) | exact Below.refl _ _ | exact fun h => h.elim | (intro g h; simp [undef] at h)⟩
        case step =>
          intro i hi o ho D a w1 hn hd hI
          obtain ⟨ra0, ra1, ra2, ra3, ra4, ra5, ra6, ra7, ra8, ra9, ra10, rb1, rb2, ra15, ha, H⟩ := hI
          dsimp only at ha
          subst ha
          have HE := H.bel
          have hy0 : w1.cell? ⟨g3, 0, none⟩ = some (.int .i64 sz) := (blk_cell (blk_below BX3.out HE) 0).trans rfl
          have hy1 : w1.cell? ⟨g3, 1, none⟩ = some (.slice A1 l.length c1) := (blk_cell (blk_below BX3.out HE) 1).trans rfl
          have hy2 : w1.cell? ⟨g4, 0, none⟩ = some (.int .i64 K) := (blk_cell (blk_below BX4.out HE) 0).trans rfl
          have hy3 : w1.cell? ⟨g4, 1, none⟩ = some (.int .i64 N) := (blk_cell (blk_below BX4.out HE) 1).trans rfl
          obtain rfl | rfl | rfl | rfl | rfl | rfl | rfl | rfl | rfl | rfl | rfl | rfl | rfl | rfl | rfl | rfl : i = 0 ∨ i = 1 ∨ i = 2 ∨ i = 3 ∨ i = 4 ∨ i = 5 ∨ i = 6 ∨ i = 7 ∨ i = 8 ∨ i = 9 ∨ i = 10 ∨ i = 11 ∨ i = 12 ∨ i = 13 ∨ i = 14 ∨ i = 15 := by omega
          · simp only [List.getElem?_toArray, List.getElem?_cons_succ, List.getElem?_cons_zero, Option.some.injEq] at ho
            subst ho
            refine event_step (w1 := w1) (v := (.agg #[.int .i64 sz, .slice A1 l.length c1])) rfl ?_ ⟨_, _, _, _, _, _, _, _, _, _, _, _, _, _, rfl, H.s0 rfl⟩
            (first | (go_simp; done) | (go_simp; rfl))
          · simp only [List.getElem?_toArray, List.getElem?_cons_succ, List.getElem?_cons_zero, Option.some.injEq] at ho
            subst ho
            obtain rfl := H.f0 (hd 0 rfl)
            refine call_step (f := 28) rfl Try.func28 (by kernel_rfl) rfl #[(.agg #[.int .i64 sz, .slice A1 l.length c1])] rfl (by simp only [List.map_toArray, List.map_cons, List.map_nil]; rfl) ?_
            refine (laws_toHeap.calls k sz A1 c1 l sz L _ (Kd.C_below HR1.out (below_step HB.out HE)) HC1.out EH.out).mono ?_
            rintro e w2 ⟨u, rfl, ho, hb⟩
            exact ⟨_, rfl, _, _, _, _, _, _, _, _, _, _, _, _, _, _, rfl, (H.up hb).s1 (Got.made ho hb HE.size H.lt11 H.lt12 rfl)⟩
          · simp only [List.getElem?_toArray, List.getElem?_cons_succ, List.getElem?_cons_zero, Option.some.injEq] at ho
            subst ho
            refine event_step (w1 := w1) (v := (.agg #[.int .i64 K, .int .i64 N])) rfl ?_ ⟨_, _, _, _, _, _, _, _, _, _, _, _, _, _, rfl, H.s2 rfl⟩
            (first | (go_simp; done) | (go_simp; rfl))
          · simp only [List.getElem?_toArray, List.getElem?_cons_succ, List.getElem?_cons_zero, Option.some.injEq] at ho
            subst ho
            obtain rfl := H.f2 (hd 2 rfl)
            refine call_step (f := 37) rfl Try.func37 (by kernel_rfl) rfl #[(.agg #[.int .i64 K, .int .i64 N])] rfl (by simp only [List.map_toArray, List.map_cons, List.map_nil]; rfl) ?_
            refine (laws_toWord.calls K N K N _ EW.out).mono ?_
            rintro e w2 ⟨rfl, hb⟩
            exact ⟨_, rfl, _, _, _, _, _, _, _, _, _, _, _, _, _, _, rfl, (H.up hb).s3 rfl⟩
          · simp only [List.getElem?_toArray, List.getElem?_cons_succ, List.getElem?_cons_zero, Option.some.injEq] at ho
            subst ho
            refine event_step (w1 := w1) (v := (.slice A2 fs.length c2)) rfl ?_ ⟨_, _, _, _, _, _, _, _, _, _, _, _, _, _, rfl, H.s4 rfl⟩
            (first | (go_simp; done) | (go_simp; rfl))
          · simp only [List.getElem?_toArray, List.getElem?_cons_succ, List.getElem?_cons_zero, Option.some.injEq] at ho
            subst ho
            obtain rfl := H.f4 (hd 4 rfl)
            refine call_step (f := 38) rfl Try.func38 (by kernel_rfl) rfl #[(.slice A2 fs.length c2)] rfl (by simp only [List.map_toArray, List.map_cons, List.map_nil]; rfl) ?_
            refine (laws_toWordS.calls k A2 c2 fs F _ (Kd.C_below HR2.out (below_step HB.out HE)) HC2.out ES.out).mono ?_
            rintro e w2 ⟨u, rfl, ho, hb⟩
            exact ⟨_, rfl, _, _, _, _, _, _, _, _, _, _, _, _, _, _, rfl, (H.up hb).s5 (Got.made ho hb HE.size H.lt11 H.lt12 rfl)⟩
          · simp only [List.getElem?_toArray, List.getElem?_cons_succ, List.getElem?_cons_zero, Option.some.injEq] at ho
            subst ho
            obtain ⟨u1, lo1, hi1, rfl, _, O1, _, _⟩ := H.f1 (hd 1 rfl)
            obtain rfl := H.f3 (hd 3 rfl)
            obtain ⟨u2, lo2, hi2, rfl, _, O2, _, _⟩ := H.f5 (hd 5 rfl)
            obtain ⟨B1, d1, rfl, hl1, hC1⟩ := own_read O1
            obtain ⟨B2, d2, rfl, hl2, hC2⟩ := own_read O2
            refine call_step (f := 39) rfl Try.func39 (by kernel_rfl) rfl #[.agg #[.int .i64 sz, .slice B1 L.length d1], .agg #[.int .i64 K, .int .i64 N], .slice B2 F.length d2] rfl (by simp only [List.map_toArray, List.map_cons, List.map_nil]; rfl) ?_
            refine (impl_Alloc.calls k sz B1 d1 L K N B2 d2 F r1 r2 r3 r4 r5 _ hC1 hl1 hC2 hl2 EIM.out).mono ?_
            rintro e w2 ⟨u, rfl, ho, hb⟩
            exact ⟨_, rfl, _, _, _, _, _, _, _, _, _, _, _, _, _, _, rfl, (H.up hb).s6 (Got.made ho hb HE.size H.lt11 H.lt12 rfl)⟩
          · simp only [List.getElem?_toArray, List.getElem?_cons_succ, List.getElem?_cons_zero, Option.some.injEq] at ho
            subst ho
            refine event_step (w1 := w1) (v := ra6) rfl ?_ ⟨_, _, _, _, _, _, _, _, _, _, _, _, _, _, rfl, H.s7 (H.f6 (hd 6 rfl))⟩
            (first | (go_simp; done) | (go_simp; rfl))
          · simp only [List.getElem?_toArray, List.getElem?_cons_succ, List.getElem?_cons_zero, Option.some.injEq] at ho
            subst ho
            obtain ⟨u, lo, hi, rfl, hr⟩ := H.f7 (hd 7 rfl)
            refine event_step (w1 := w1) (v := (.agg #[.int .i64 r1, u])) rfl ?_ ⟨_, _, _, _, _, _, _, _, _, _, _, _, _, _, rfl, H.s8 hn ⟨u, lo, hi, rfl, hr⟩⟩
            (first | (go_simp; done) | (go_simp; rfl))
          · simp only [List.getElem?_toArray, List.getElem?_cons_succ, List.getElem?_cons_zero, Option.some.injEq] at ho
            subst ho
            obtain ⟨u, lo, hi, rfl, hr⟩ := H.f7 (hd 7 rfl)
            refine event_step (w1 := w1) (v := (.agg #[.int .i64 r3, .int .i64 r4])) rfl ?_ ⟨_, _, _, _, _, _, _, _, _, _, _, _, _, _, rfl, H.s9 rfl⟩
            (first | (go_simp; done) | (go_simp; rfl))
          · simp only [List.getElem?_toArray, List.getElem?_cons_succ, List.getElem?_cons_zero, Option.some.injEq] at ho
            subst ho
            obtain ⟨u, lo, hi, rfl, hr⟩ := H.f7 (hd 7 rfl)
            refine event_step (w1 := w1) (v := (.bool r5)) rfl ?_ ⟨_, _, _, _, _, _, _, _, _, _, _, _, _, _, rfl, H.s10 rfl⟩
            (first | (go_simp; done) | (go_simp; rfl))
          · simp only [List.getElem?_toArray, List.getElem?_cons_succ, List.getElem?_cons_zero, Option.some.injEq] at ho
            subst ho
            refine box_step rfl (N := 19) rfl (cs := #[.int .i64 0, .slice none 0 0]) (t := 32) ?_ ?_
            · first | (go_simp; done) | (go_simp; rfl)
            rintro g rfl w2 hbox hb
            exact ⟨_, _, _, _, _, _, _, _, _, _, _, _, _, _, rfl, H.s11 hn hb hbox⟩
          · simp only [List.getElem?_toArray, List.getElem?_cons_succ, List.getElem?_cons_zero, Option.some.injEq] at ho
            subst ho
            refine box_step rfl (N := 20) rfl (cs := #[.int .i64 0, .int .i64 0]) (t := 67) ?_ ?_
            · first | (go_simp; done) | (go_simp; rfl)
            rintro g rfl w2 hbox hb
            exact ⟨_, _, _, _, _, _, _, _, _, _, _, _, _, _, rfl, H.s12 hn hb hbox⟩
          · simp only [List.getElem?_toArray, List.getElem?_cons_succ, List.getElem?_cons_zero, Option.some.injEq] at ho
            subst ho
            obtain ⟨u, lo, hi, rfl, hlo, O1, hr⟩ := H.f8 (hd 8 rfl)
            obtain ⟨B1, d1, rfl, hl1, hC1⟩ := own_read O1
            obtain ⟨g, rfl, hge, cs, hblk, hz, _⟩ := H.f11 (hd 11 rfl)
            obtain rfl := hz hn
            have hf0 := blk_frozen hblk 0
            have hf1 := blk_frozen hblk 1
            have hq0 : w1.cell? ⟨g, 0, none⟩ = some (.int .i64 0) := (blk_cell hblk 0).trans rfl
            have hq1 : w1.cell? ⟨g, 1, none⟩ = some (.slice none 0 0) := (blk_cell hblk 1).trans rfl
            have hk : Kept w1 ((w1.setCell ⟨g, 0, none⟩ (.int .i64 r1)).setCell ⟨g, 1, none⟩ (.slice B1 r2.length d1)) (fun q => q = g) := Kept.setCell (Kept.setCell (Kept.refl w1 (fun q => q = g)) (p := ⟨g, 0, none⟩) (.inl rfl) _) (p := ⟨g, 1, none⟩) (.inl rfl) _
            have hc : (((w1.setCell ⟨g, 0, none⟩ (.int .i64 r1)).setCell ⟨g, 1, none⟩ (.slice B1 r2.length d1))).heap[g]? = some (.cells #[.int .i64 r1, .slice B1 r2.length d1] 32 (0, 0)) := blk_put (cs := #[.int .i64 r1, .slice none 0 0]) (blk_put hblk 0 _ rfl) 1 _ rfl
            have hB := below_set (j := 1) (v := .slice B1 r2.length d1) (below_set (j := 0) (v := .int .i64 r1) HE hge) hge
            have HN := H.s13 (hd 11 rfl) (hd 8 rfl) rfl hB hk hc rfl
            refine skip_step (w1 := ((w1.setCell ⟨g, 0, none⟩ (.int .i64 r1)).setCell ⟨g, 1, none⟩ (.slice B1 r2.length d1))) rfl ?_ ⟨_, _, _, _, _, _, _, _, _, _, _, _, _, _, rfl, HN⟩
            go_simp
            first | done | rfl
          · simp only [List.getElem?_toArray, List.getElem?_cons_succ, List.getElem?_cons_zero, Option.some.injEq] at ho
            subst ho
            obtain rfl := H.f9 (hd 9 rfl)
            obtain ⟨g, rfl, hge, cs, hblk, hz, _⟩ := H.f12 (hd 12 rfl)
            obtain rfl := hz hn
            have hf0 := blk_frozen hblk 0
            have hf1 := blk_frozen hblk 1
            have hq0 : w1.cell? ⟨g, 0, none⟩ = some (.int .i64 0) := (blk_cell hblk 0).trans rfl
            have hq1 : w1.cell? ⟨g, 1, none⟩ = some (.int .i64 0) := (blk_cell hblk 1).trans rfl
            have hk : Kept w1 ((w1.setCell ⟨g, 0, none⟩ (.int .i64 r3)).setCell ⟨g, 1, none⟩ (.int .i64 r4)) (fun q => q = g) := Kept.setCell (Kept.setCell (Kept.refl w1 (fun q => q = g)) (p := ⟨g, 0, none⟩) (.inl rfl) _) (p := ⟨g, 1, none⟩) (.inl rfl) _
            have hc : (((w1.setCell ⟨g, 0, none⟩ (.int .i64 r3)).setCell ⟨g, 1, none⟩ (.int .i64 r4))).heap[g]? = some (.cells #[.int .i64 r3, .int .i64 r4] 67 (0, 0)) := blk_put (cs := #[.int .i64 r3, .int .i64 0]) (blk_put hblk 0 _ rfl) 1 _ rfl
            have hB := below_set (j := 1) (v := .int .i64 r4) (below_set (j := 0) (v := .int .i64 r3) HE hge) hge
            have HN := H.s14 (hd 12 rfl) rfl hB hk hc rfl
            refine skip_step (w1 := ((w1.setCell ⟨g, 0, none⟩ (.int .i64 r3)).setCell ⟨g, 1, none⟩ (.int .i64 r4))) rfl ?_ ⟨_, _, _, _, _, _, _, _, _, _, _, _, _, _, rfl, HN⟩
            go_simp
            first | done | rfl
          · simp only [List.getElem?_toArray, List.getElem?_cons_succ, List.getElem?_cons_zero, Option.some.injEq] at ho
            subst ho
            obtain rfl := H.f10 (hd 10 rfl)
            refine event_step (w1 := w1) (v := (.bool r5)) rfl ?_ ⟨_, _, _, _, _, _, _, _, _, _, _, _, _, _, rfl, H.s15 rfl⟩
            (first | (go_simp; done) | (go_simp; rfl))
        case fin =>
          intro D a w24 hall hI
          obtain ⟨ra0, ra1, ra2, ra3, ra4, ra5, ra6, ra7, ra8, ra9, ra10, rb1, rb2, ra15, ha, H⟩ := hI
          dsimp only at ha
          subst ha
          have HBr := Aside0.mk H.bel
          obtain ⟨g19, rfl, hga, csa, hca, _, hva⟩ := H.f11 (hall 11 (by decide))
          have hva := hva (hall 13 (by decide))
          obtain ⟨g20, rfl, hgb, csb, hcb, _, hvb⟩ := H.f12 (hall 12 (by decide))
          have hvb := hvb (hall 14 (by decide))
          subst hvb
          obtain ⟨u, loh, hih, he, hlo, hO, hxa, hxb⟩ := H.f8 (hall 8 (by decide))
          rw [he] at hva
          injection hva with hva
          subst hva
          subst he
          obtain ⟨Bh, dh, rfl, _, _⟩ := own_read hO
          obtain rfl := H.f15 (hall 15 (by decide))
          have OWh := Aside0.mk hO
          have BX19 := Aside0.mk hca
          have BX20 := Aside0.mk hcb
          have XA := Aside0.mk (hxa g19 rfl)
          have XB := Aside0.mk (hxb g20 rfl)
          have GA := Aside0.mk hga
          have GB := Aside0.mk hgb
          have LOa := Aside0.mk hlo
          have LB3_h := Aside0.mk (show g3 < loh from by have := blk_lt BX3.out; have := LOa.out; omega)
          have NE3_19 := Aside0.mk (show g3 ≠ g19 from by have := blk_lt BX3.out; have := GA.out; have := GB.out; omega)
          have NE3_20 := Aside0.mk (show g3 ≠ g20 from by have := blk_lt BX3.out; have := GA.out; have := GB.out; omega)
          have LB4_h := Aside0.mk (show g4 < loh from by have := blk_lt BX4.out; have := LOa.out; omega)
          have NE4_19 := Aside0.mk (show g4 ≠ g19 from by have := blk_lt BX4.out; have := GA.out; have := GB.out; omega)
          have NE4_20 := Aside0.mk (show g4 ≠ g20 from by have := blk_lt BX4.out; have := GA.out; have := GB.out; omega)
          have LB8_h := Aside0.mk (show g8 < loh from by have := blk_lt BX8.out; have := LOa.out; omega)
          have NE8_19 := Aside0.mk (show g8 ≠ g19 from by have := blk_lt BX8.out; have := GA.out; have := GB.out; omega)
          have NE8_20 := Aside0.mk (show g8 ≠ g20 from by have := blk_lt BX8.out; have := GA.out; have := GB.out; omega)
          have LB9_h := Aside0.mk (show g9 < loh from by have := blk_lt BX9.out; have := LOa.out; omega)
          have NE9_19 := Aside0.mk (show g9 ≠ g19 from by have := blk_lt BX9.out; have := GA.out; have := GB.out; omega)
          have NE9_20 := Aside0.mk (show g9 ≠ g20 from by have := blk_lt BX9.out; have := GA.out; have := GB.out; omega)
          have LB13_h := Aside0.mk (show g13 < loh from by have := blk_lt BX13.out; have := LOa.out; omega)
          have NE13_19 := Aside0.mk (show g13 ≠ g19 from by have := blk_lt BX13.out; have := GA.out; have := GB.out; omega)
          have NE13_20 := Aside0.mk (show g13 ≠ g20 from by have := blk_lt BX13.out; have := GA.out; have := GB.out; omega)
          have LB14_h := Aside0.mk (show g14 < loh from by have := blk_lt BX14.out; have := LOa.out; omega)
          have NE14_19 := Aside0.mk (show g14 ≠ g19 from by have := blk_lt BX14.out; have := GA.out; have := GB.out; omega)
          have NE14_20 := Aside0.mk (show g14 ≠ g20 from by have := blk_lt BX14.out; have := GA.out; have := GB.out; omega)
          have LUr_h := Aside0.mk (show hir ≤ loh from by have := OWr.out.2.1; have := LOa.out; omega)
          have LEr_19 := Aside0.mk (show hir ≤ g19 from by have := OWr.out.2.1; have := GA.out; have := GB.out; omega)
          have LEr_20 := Aside0.mk (show hir ≤ g20 from by have := OWr.out.2.1; have := GA.out; have := GB.out; omega)
          have LUm_h := Aside0.mk (show him ≤ loh from by have := OWm.out.2.1; have := LOa.out; omega)
          have LEm_19 := Aside0.mk (show him ≤ g19 from by have := OWm.out.2.1; have := GA.out; have := GB.out; omega)
          have LEm_20 := Aside0.mk (show him ≤ g20 from by have := OWm.out.2.1; have := GA.out; have := GB.out; omega)
          have BX3 := Aside0.mk (blk_below BX3.out HBr.out)
          have BX4 := Aside0.mk (blk_below BX4.out HBr.out)
          have BX8 := Aside0.mk (blk_below BX8.out HBr.out)
          have BX9 := Aside0.mk (blk_below BX9.out HBr.out)
          have BX13 := Aside0.mk (blk_below BX13.out HBr.out)
          have BX14 := Aside0.mk (blk_below BX14.out HBr.out)
          have OWr := Aside0.mk (own_below OWr.out HBr.out)
          have OWm := Aside0.mk (own_below OWm.out HBr.out)
          have NE19_20 := Aside0.mk (blk_ne BX19.out BX20.out (by decide))
          have GE19 := Aside0.mk (Nat.le_trans HB.out.size GA.out)
          have GE20 := Aside0.mk (Nat.le_trans HB.out.size GB.out)
          have LOh := Aside0.mk (Nat.le_trans HB.out.size LOa.out)
          have LX19_h := XA
          have LX20_h := XB
          have HB := Aside0.mk (below_step HB.out HBr.out)
          (try clear hz3_0); (try clear hz3_1); (try clear hz4_0); (try clear hz4_1); (try clear hz8_0); (try clear hz8_1); (try clear hz9_0); (try clear hz9_1); (try clear hz13_0); (try clear hz13_1); (try clear hz14_0); (try clear hz14_1); (try clear hf3_0); (try clear hf3_1); (try clear hf4_0); (try clear hf4_1); (try clear hf8_0); (try clear hf8_1); (try clear hf9_0); (try clear hf9_1); (try clear hf13_0); (try clear hf13_1); (try clear hf14_0); (try clear hf14_1)
          clear XA XB H hall hga hgb hxa hxb hca hcb hO hlo GA GB LOa HBr
          have hz8_0 : w24.cell? ⟨g8, 0, none⟩ = some (.int .i64 r1) := (blk_cell BX8.out 0).trans rfl
          have hz8_1 : w24.cell? ⟨g8, 1, none⟩ = some (.slice Br r2.length dr) := (blk_cell BX8.out 1).trans rfl
          have hz9_0 : w24.cell? ⟨g9, 0, none⟩ = some (.int .i64 r3) := (blk_cell BX9.out 0).trans rfl
          have hz9_1 : w24.cell? ⟨g9, 1, none⟩ = some (.int .i64 r4) := (blk_cell BX9.out 1).trans rfl
          have hz19_0 : w24.cell? ⟨g19, 0, none⟩ = some (.int .i64 r1) := (blk_cell BX19.out 0).trans rfl
          have hz19_1 : w24.cell? ⟨g19, 1, none⟩ = some (.slice Bh r2.length dh) := (blk_cell BX19.out 1).trans rfl
          have hz20_0 : w24.cell? ⟨g20, 0, none⟩ = some (.int .i64 r3) := (blk_cell BX20.out 0).trans rfl
          have hz20_1 : w24.cell? ⟨g20, 1, none⟩ = some (.int .i64 r4) := (blk_cell BX20.out 1).trans rfl
          go_wp2_with (first | (go_at_call 21; refine (laws_eqHeap.calls k r1 Bh dh r2 r1 Br dr r2 true _ (Kd.R_reads' OWh.out.1).2.2 (Kd.R_reads' OWh.out.1).2.1 (Kd.R_reads' OWr.out.1).2.2 (Kd.R_reads' OWr.out.1).2.1 Q1.out).mono ?_; rintro e w25 ⟨rfl, hb⟩; (try clear hz3_0); (try clear hz3_1); (try clear hz4_0); (try clear hz4_1); (try clear hz8_0); (try clear hz8_1); (try clear hz9_0); (try clear hz9_1); (try clear hz13_0); (try clear hz13_1); (try clear hz14_0); (try clear hz14_1); (try clear hz19_0); (try clear hz19_1); (try clear hz20_0); (try clear hz20_1); (try clear hf3_0); (try clear hf3_1); (try clear hf4_0); (try clear hf4_1); (try clear hf8_0); (try clear hf8_1); (try clear hf9_0); (try clear hf9_1); (try clear hf13_0); (try clear hf13_1); (try clear hf14_0); (try clear hf14_1); (try clear hf19_0); (try clear hf19_1); (try clear hf20_0); (try clear hf20_1); have HB := Aside0.mk (below_step HB.out hb); have BX3 := Aside0.mk (blk_below BX3.out hb); have BX4 := Aside0.mk (blk_below BX4.out hb); have BX8 := Aside0.mk (blk_below BX8.out hb); have BX9 := Aside0.mk (blk_below BX9.out hb); have BX13 := Aside0.mk (blk_below BX13.out hb); have BX14 := Aside0.mk (blk_below BX14.out hb); have BX19 := Aside0.mk (blk_below BX19.out hb); have BX20 := Aside0.mk (blk_below BX20.out hb); have OWr := Aside0.mk (own_below OWr.out hb); have OWm := Aside0.mk (own_below OWm.out hb); have OWh := Aside0.mk (own_below OWh.out hb); clear hb; have hz8_0 : w25.cell? ⟨g8, 0, none⟩ = some (.int .i64 r1) := (blk_cell BX8.out 0).trans rfl; have hz8_1 : w25.cell? ⟨g8, 1, none⟩ = some (.slice Br r2.length dr) := (blk_cell BX8.out 1).trans rfl; have hz9_0 : w25.cell? ⟨g9, 0, none⟩ = some (.int .i64 r3) := (blk_cell BX9.out 0).trans rfl; have hz9_1 : w25.cell? ⟨g9, 1, none⟩ = some (.int .i64 r4) := (blk_cell BX9.out 1).trans rfl; have hz19_0 : w25.cell? ⟨g19, 0, none⟩ = some (.int .i64 r1) := (blk_cell BX19.out 0).trans rfl; have hz19_1 : w25.cell? ⟨g19, 1, none⟩ = some (.slice Bh r2.length dh) := (blk_cell BX19.out 1).trans rfl; have hz20_0 : w25.cell? ⟨g20, 0, none⟩ = some (.int .i64 r3) := (blk_cell BX20.out 0).trans rfl; have hz20_1 : w25.cell? ⟨g20, 1, none⟩ = some (.int .i64 r4) := (blk_cell BX20.out 1).trans rfl) | (go_at_call 40; refine (laws_eqWord.calls r3 r4 r3 r4 true _ Q2.out).mono ?_; rintro e w26 ⟨rfl, hb⟩; (try clear hz3_0); (try clear hz3_1); (try clear hz4_0); (try clear hz4_1); (try clear hz8_0); (try clear hz8_1); (try clear hz9_0); (try clear hz9_1); (try clear hz13_0); (try clear hz13_1); (try clear hz14_0); (try clear hz14_1); (try clear hz19_0); (try clear hz19_1); (try clear hz20_0); (try clear hz20_1); (try clear hf3_0); (try clear hf3_1); (try clear hf4_0); (try clear hf4_1); (try clear hf8_0); (try clear hf8_1); (try clear hf9_0); (try clear hf9_1); (try clear hf13_0); (try clear hf13_1); (try clear hf14_0); (try clear hf14_1); (try clear hf19_0); (try clear hf19_1); (try clear hf20_0); (try clear hf20_1); have HB := Aside0.mk (below_step HB.out hb); have BX3 := Aside0.mk (blk_below BX3.out hb); have BX4 := Aside0.mk (blk_below BX4.out hb); have BX8 := Aside0.mk (blk_below BX8.out hb); have BX9 := Aside0.mk (blk_below BX9.out hb); have BX13 := Aside0.mk (blk_below BX13.out hb); have BX14 := Aside0.mk (blk_below BX14.out hb); have BX19 := Aside0.mk (blk_below BX19.out hb); have BX20 := Aside0.mk (blk_below BX20.out hb); have OWr := Aside0.mk (own_below OWr.out hb); have OWm := Aside0.mk (own_below OWm.out hb); have OWh := Aside0.mk (own_below OWh.out hb); clear hb; have hz13_0 : w26.cell? ⟨g13, 0, none⟩ = some (.int .i64 r1) := (blk_cell BX13.out 0).trans rfl; have hz13_1 : w26.cell? ⟨g13, 1, none⟩ = some (.slice Bg r2.length dg) := (blk_cell BX13.out 1).trans rfl) | (go_at_call 23; refine (calls_of_args (args' := #[.agg #[.int .i64 r1, .slice Bg R1.length dg], .int .i64 1]) (by rw [← HLEN.out]) (laws_heldHeap.calls k r1 Bg dg R1 1 m3 _ (Kd.R_reads' OWm.out.1).2.2 (Nat.le_trans (Nat.le_of_eq HLEN.out.symm) (Kd.R_reads' OWm.out.1).2.1) ED.out)).mono ?_; rintro e w27 ⟨rfl, hb⟩; (try clear hz3_0); (try clear hz3_1); (try clear hz4_0); (try clear hz4_1); (try clear hz8_0); (try clear hz8_1); (try clear hz9_0); (try clear hz9_1); (try clear hz13_0); (try clear hz13_1); (try clear hz14_0); (try clear hz14_1); (try clear hz19_0); (try clear hz19_1); (try clear hz20_0); (try clear hz20_1); (try clear hf3_0); (try clear hf3_1); (try clear hf4_0); (try clear hf4_1); (try clear hf8_0); (try clear hf8_1); (try clear hf9_0); (try clear hf9_1); (try clear hf13_0); (try clear hf13_1); (try clear hf14_0); (try clear hf14_1); (try clear hf19_0); (try clear hf19_1); (try clear hf20_0); (try clear hf20_1); have HB := Aside0.mk (below_step HB.out hb); have BX3 := Aside0.mk (blk_below BX3.out hb); have BX4 := Aside0.mk (blk_below BX4.out hb); have BX8 := Aside0.mk (blk_below BX8.out hb); have BX9 := Aside0.mk (blk_below BX9.out hb); have BX13 := Aside0.mk (blk_below BX13.out hb); have BX14 := Aside0.mk (blk_below BX14.out hb); have BX19 := Aside0.mk (blk_below BX19.out hb); have BX20 := Aside0.mk (blk_below BX20.out hb); have OWr := Aside0.mk (own_below OWr.out hb); have OWm := Aside0.mk (own_below OWm.out hb); have OWh := Aside0.mk (own_below OWh.out hb); clear hb; have hz3_0 : w27.cell? ⟨g3, 0, none⟩ = some (.int .i64 sz) := (blk_cell BX3.out 0).trans rfl; have hz3_1 : w27.cell? ⟨g3, 1, none⟩ = some (.slice A1 l.length c1) := (blk_cell BX3.out 1).trans rfl; have hz4_0 : w27.cell? ⟨g4, 0, none⟩ = some (.int .i64 K) := (blk_cell BX4.out 0).trans rfl; have hz4_1 : w27.cell? ⟨g4, 1, none⟩ = some (.int .i64 N) := (blk_cell BX4.out 1).trans rfl))
          go_ret
          exact ⟨rfl, HB.out⟩
end Go.Proofs.Ytanobmanpnkccaa.OFnExactAlloc
