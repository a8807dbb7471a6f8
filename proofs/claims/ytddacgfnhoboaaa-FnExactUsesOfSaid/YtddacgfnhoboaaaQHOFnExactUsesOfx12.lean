-- written by wip/tools/prune.py: what this claim reaches of the print's and our texts
import Derived.Test.YtddacgfnhoboaaaQHOFnExactUsesOfx0
import Derived.Test.YtddacgfnhoboaaaQHOFnExactUsesOfx9
import Derived.Test.YtddacgfnhoboaaaQHOFnExactUsesOfx10
import Derived.Test.YtddacgfnhoboaaaQHOFnExactUsesOfx11
namespace Go.Proofs.Ytddacgfnhoboaaa.OFnExactUsesOf
open Go.RowKit Go.Proofs.YtddacgfnhoboaaaW.PrintWords Go.Proofs.YtddacgfnhoboaaaW.PrintLast Go.Proofs.YtddacgfnhoboaaaW.PrintMore
attribute [local go_sem] max2_int min2_int max_two min_two max_three min_three max_four min_four   -- for this text's walks alone
set_option linter.unusedVariables false
set_option linter.unusedSimpArgs false
open Go.Proofs.Ytddacgfnhoboaaa.Mod
set_option maxHeartbeats 1000000 in
set_option maxRecDepth 100000 in
theorem equalF0 (A : Option Addr) (c : Nat) (l : List S32) (w : World) (hr : Kd.C k32 w A l.length l) :
    Calls Try.prog 201 #[.slice A l.length c, .slice none 0 0, .func (.func 200) #[] #[]] w fun e w' => e = .returned (.bool l.isEmpty) ∧ Below w.heap.size w w' := by
  have HB := Aside0.mk (Below.refl w.heap.size w)
  have hm : l.length ≤ 9223372036854775807 := hr.2.1
  clear hr
  cases l with
  | nil =>
    have hl : (([] : List S32).length : Int) = 0 := rfl
    go_enter Try.func201, Try.ntmps201
    go_wp2
    go_loopg [17] (1) (fun kq v17 w' => v17 = .int .i64 0 ∧ kq = 1 ∧ Aside0 (Below w.heap.size w w'))
    case atStart => exact ⟨rfl, rfl, HB⟩
    case round =>
      obtain ⟨rfl, hk, HB⟩ := hrel
      go_wp2
      go_ret
      exact ⟨rfl, HB.out⟩
  | cons x t =>
    have p1 : (((x :: t).length : Int) != 0) = true := by simp; omega
    go_enter Try.func201, Try.ntmps201
    go_wp2
    go_ret
    exact ⟨rfl, HB.out⟩
set_option maxHeartbeats 1000000 in
set_option maxRecDepth 100000 in
theorem sameTy0 (K N : Int) (A : Option Addr) (c : Nat) (l : List S32) (w : World) (hr : Kd.C k32 w A l.length l) (hc : l.length ≤ c) :
    Calls Try.prog 200 #[.agg #[.int .i64 K, .int .i64 N, .slice A l.length c], .agg #[.int .i64 0, .int .i64 0, .slice none 0 0]] w fun e w' => e = .returned (.bool (K == 0 && N == 0 && l.isEmpty)) ∧ Below w.heap.size w w' := by
  have hu32 := Try.underlying32
  have HR := Aside0.mk hr
  have HC := Aside0.mk hc
  clear hr hc
  by_cases h1 : K = 0
  · by_cases h2 : N = 0
    · subst h1 h2
      go_enter Try.func200, Try.ntmps200
      go_wp2_with (first | ((with_reducible refine gate_dst (N := 2) rfl ?_); refine box_event ?hg (N := 2) ?hd (cs := #[.int .i64 0, .int .i64 0, .slice A l.length c]) (t := 32) ?hr ?_; (case hd => rfl); (case hg => rfl); (case hr => first | (go_simp; done) | (go_simp; rfl)); intro g2 hg2 w3 hbox hb3; have HB3 := Aside0.mk hb3; have BK3 := Aside0.mk hbox; clear hb3 hbox hg2) | ((with_reducible refine gate_dst (N := 3) rfl ?_); refine box_event ?hg (N := 3) ?hd (cs := #[.int .i64 0, .int .i64 0, .slice none 0 0]) (t := 32) ?hr ?_; (case hd => rfl); (case hg => rfl); (case hr => first | (go_simp; done) | (go_simp; rfl)); intro g3 hg3 w4 hbox hb4; have HB4 := Aside0.mk (below_step HB3.out hb4); have BK4 := Aside0.mk (blk_below BK3.out hb4); have BL4 := Aside0.mk hbox; have q0 : w4.cell? ⟨g2, 0, none⟩ = some (.int .i64 0) := (blk_cell BK4.out 0).trans rfl; have q1 : w4.cell? ⟨g2, 1, none⟩ = some (.int .i64 0) := (blk_cell BK4.out 1).trans rfl; have q2 : w4.cell? ⟨g2, 2, none⟩ = some (.slice A l.length c) := (blk_cell BK4.out 2).trans rfl; have r0 : w4.cell? ⟨g3, 0, none⟩ = some (.int .i64 0) := (blk_cell BL4.out 0).trans rfl; have r1 : w4.cell? ⟨g3, 1, none⟩ = some (.int .i64 0) := (blk_cell BL4.out 1).trans rfl; have r2 : w4.cell? ⟨g3, 2, none⟩ = some (.slice none 0 0) := (blk_cell BL4.out 2).trans rfl; clear hb4 hbox hg3) | (go_at_call 201; refine (equalF0 A c l _ (Kd.C_below HR.out HB4.out)).mono ?_; rintro e w5 ⟨rfl, hb⟩; have HB5 := Aside0.mk (below_step HB4.out hb); clear hb))
      go_ret
      exact ⟨by simp, HB5.out⟩
    · have k2 : (N == 0) = false := by simpa using h2
      subst h1
      clear h2
      go_enter Try.func200, Try.ntmps200
      go_wp2_with (first | ((with_reducible refine gate_dst (N := 2) rfl ?_); refine box_event ?hg (N := 2) ?hd (cs := #[.int .i64 0, .int .i64 N, .slice A l.length c]) (t := 32) ?hr ?_; (case hd => rfl); (case hg => rfl); (case hr => first | (go_simp; done) | (go_simp; rfl)); intro g2 hg2 w3 hbox hb3; have HB3 := Aside0.mk hb3; have BK3 := Aside0.mk hbox; clear hb3 hbox hg2) | ((with_reducible refine gate_dst (N := 3) rfl ?_); refine box_event ?hg (N := 3) ?hd (cs := #[.int .i64 0, .int .i64 0, .slice none 0 0]) (t := 32) ?hr ?_; (case hd => rfl); (case hg => rfl); (case hr => first | (go_simp; done) | (go_simp; rfl)); intro g3 hg3 w4 hbox hb4; have HB4 := Aside0.mk (below_step HB3.out hb4); have BK4 := Aside0.mk (blk_below BK3.out hb4); have BL4 := Aside0.mk hbox; have q0 : w4.cell? ⟨g2, 0, none⟩ = some (.int .i64 0) := (blk_cell BK4.out 0).trans rfl; have q1 : w4.cell? ⟨g2, 1, none⟩ = some (.int .i64 N) := (blk_cell BK4.out 1).trans rfl; have q2 : w4.cell? ⟨g2, 2, none⟩ = some (.slice A l.length c) := (blk_cell BK4.out 2).trans rfl; have r0 : w4.cell? ⟨g3, 0, none⟩ = some (.int .i64 0) := (blk_cell BL4.out 0).trans rfl; have r1 : w4.cell? ⟨g3, 1, none⟩ = some (.int .i64 0) := (blk_cell BL4.out 1).trans rfl; have r2 : w4.cell? ⟨g3, 2, none⟩ = some (.slice none 0 0) := (blk_cell BL4.out 2).trans rfl; clear hb4 hbox hg3))
      go_ret
      exact ⟨by simp [k2], HB4.out⟩
  · have k1 : (K == 0) = false := by simpa using h1
    clear h1
    go_enter Try.func200, Try.ntmps200
    go_wp2_with (first | ((with_reducible refine gate_dst (N := 2) rfl ?_); refine box_event ?hg (N := 2) ?hd (cs := #[.int .i64 K, .int .i64 N, .slice A l.length c]) (t := 32) ?hr ?_; (case hd => rfl); (case hg => rfl); (case hr => first | (go_simp; done) | (go_simp; rfl)); intro g2 hg2 w3 hbox hb3; have HB3 := Aside0.mk hb3; have BK3 := Aside0.mk hbox; clear hb3 hbox hg2) | ((with_reducible refine gate_dst (N := 3) rfl ?_); refine box_event ?hg (N := 3) ?hd (cs := #[.int .i64 0, .int .i64 0, .slice none 0 0]) (t := 32) ?hr ?_; (case hd => rfl); (case hg => rfl); (case hr => first | (go_simp; done) | (go_simp; rfl)); intro g3 hg3 w4 hbox hb4; have HB4 := Aside0.mk (below_step HB3.out hb4); have BK4 := Aside0.mk (blk_below BK3.out hb4); have BL4 := Aside0.mk hbox; have q0 : w4.cell? ⟨g2, 0, none⟩ = some (.int .i64 K) := (blk_cell BK4.out 0).trans rfl; have r0 : w4.cell? ⟨g3, 0, none⟩ = some (.int .i64 0) := (blk_cell BL4.out 0).trans rfl; clear hb4 hbox hg3))
    go_ret
    exact ⟨by simp [k1], HB4.out⟩
set_option maxHeartbeats 1000000 in
set_option maxRecDepth 100000 in
theorem cloT (k : Nat) (x : S32) (t : Bool) (w : World) (A : Option Addr) (c : Nat) (hr : Kd.C k32 w A x.f2.length x.f2) (hc : x.f2.length ≤ c) (h : impl_TyOk.f k x.f0 x.f1 x.f2 = some t) :
    Calls Try.prog 266 #[.agg #[.int .i64 x.f0, .int .i64 x.f1, .slice A x.f2.length c]] w fun e w' => e = .returned (.bool (!t)) ∧ Below w.heap.size w w' := by
  have hu32 := Try.underlying32
  have HR := Aside0.mk hr
  have HC := Aside0.mk hc
  have A2 := Aside0.mk h
  clear hr hc h
  go_enter Try.func266, Try.ntmps266
  go_wp2_with (go_at_call 264; refine (impl_TyOk.calls k x.f0 x.f1 A c x.f2 t _ (by first | exact HR.out | exact Kd.C_alloc HR.out _) HC.out A2.out).mono ?_; rintro e w' ⟨rfl, hb⟩; have HB := Aside0.mk (below_step (below_alloc (Below.refl w.heap.size w) _) hb); clear hb)
  go_ret
  exact ⟨rfl, HB.out⟩
def anyT (q : S32 → Option Bool) : List S32 → Option Bool
  | [] => some false
  | x :: t => (q x).bind fun b => if b = true then some true else anyT q t
def findT (q : S32 → Option Bool) : List S32 → Int → Option Int
  | [], _ => some (-1)
  | x :: t, i => (q x).bind fun b => if b = true then some i else findT q t (i + 1)
theorem any_findT (q : S32 → Option Bool) : ∀ (l : List S32) (i : Int) (b : Bool), 0 ≤ i → anyT q l = some b → ∃ r, findT q l i = some r ∧ b = decide (0 ≤ r)
  | [], i, b, _, h => ⟨-1, rfl, by simpa [anyT] using h.symm⟩
  | x :: t, i, b, h0, h => by
    unfold anyT at h
    obtain ⟨c, hc, h⟩ := Option.bind_eq_some_iff.1 h
    unfold findT
    rw [hc]
    cases c with
    | true => exact ⟨i, by simp, by simp at h; simp [← h, h0]⟩
    | false =>
      obtain ⟨r, hr, e⟩ := any_findT q t (i + 1) b (by omega) (by simpa using h)
      exact ⟨r, by simpa using hr, e⟩
set_option maxHeartbeats 2000000 in
set_option maxRecDepth 100000 in
theorem indexT (k : Nat) (A0 : Option Addr) (c0 : Nat) (l0 : List S32) (r : Int) (w : World)
    (hr0 : Kd.C k32 w A0 l0.length l0) (hc0 : l0.length ≤ c0) (h : findT (fun x => (impl_TyOk.f k x.f0 x.f1 x.f2).bind fun t => some (!t)) l0 0 = some r) :
    Calls Try.prog 299 #[.slice A0 l0.length c0, .func (.func 266) #[] #[]] w fun e w' => e = .returned (.int .i64 r) ∧ Below w.heap.size w w' := by
  have HR0 := Aside0.mk hr0
  have HC0 := Aside0.mk hc0
  have H' := Aside0.mk h
  clear hr0 hc0 h
  go_enter Try.func299, Try.ntmps299
  go_wp2
  go_loopg [8] (l0.length + 1) (fun kq v8 w' => ∃ i : Nat, v8 = .int .i64 i ∧ Aside0 (i ≤ l0.length ∧ i + kq = l0.length + 1) ∧ Aside0 (findT (fun x => (impl_TyOk.f k x.f0 x.f1 x.f2).bind fun t => some (!t)) (l0.drop i) i = some r) ∧ Aside0 (Below w.heap.size w w'))
  case atStart => exact ⟨0, rfl, ⟨by omega⟩, H', ⟨Below.refl _ _⟩⟩
  case round =>
    clear H'
    obtain ⟨i, rfl, HI, HA, HB⟩ := hrel
    cases gk with
    | zero => exact absurd HI.out (by omega)
    | succ k1 =>
      have hm : l0.length ≤ 9223372036854775807 := HR0.out.2.1
      have hi := HI.out
      by_cases hlt : i < l0.length
      · have hA := HA.out
        rw [List.drop_eq_getElem_cons hlt] at hA
        unfold findT at hA
        obtain ⟨b, hb, hA⟩ := Option.bind_eq_some_iff.1 hA
        obtain ⟨t, ht, hb⟩ := Option.bind_eq_some_iff.1 hb
        have hb2 : (!t) = b := by simpa using hb
        subst hb2
        have hrd : rd_T32 l0 (i : Int) = l0[i] := by simp [rd_T32, List.getD_eq_getElem?_getD, hlt]
        obtain ⟨ad, B2, d2, ex1, hx0, hx1, hx2, hl2, hr2⟩ := at_T32 HR0.out (i : Int) (by omega) (by omega)
        cases ex1
        replace hx0 := pw_cell_below HB.out hx0
        replace hx1 := pw_cell_below HB.out hx1
        replace hx2 := pw_cell_below HB.out hx2
        rw [hrd] at hx0 hx1 hx2 hl2 hr2
        simp only [Int.toNat_natCast] at hx0 hx1 hx2
        have HX := Aside0.mk ht
        have HA2 := Aside0.mk hA
        have LL := Aside0.mk hl2
        have RR := Aside0.mk hr2
        have p1 := eq_true (show (0 : Int) ≤ (i : Int) by omega)
        have p2 := eq_true (show (i : Int) < (l0.length : Int) by omega)
        clear hA hb ht HA hrd hi hl2 hr2
        cases t with
        | false =>
          have hres : (i : Int) = r := by have := HA2.out; simpa using this
          clear HA2
          subst hres
          go_wp2_with (go_at_call 266; refine (cloT k l0[i] false _ B2 d2 (Kd.C_below RR.out HB.out) LL.out HX.out).mono ?_; rintro e w' ⟨rfl, hb⟩; have HB2 := Aside0.mk (below_step HB.out hb); clear hb)
          go_ret
          exact ⟨rfl, HB2.out⟩
        | true =>
          have hres : findT (fun x => (impl_TyOk.f k x.f0 x.f1 x.f2).bind fun t => some (!t)) (List.drop (i + 1) l0) (((i + 1 : Nat) : Int)) = some r := by have := HA2.out; simpa using this
          have H3 := Aside0.mk hres
          clear HA2 hres
          go_wp2_with (go_at_call 266; refine (cloT k l0[i] true _ B2 d2 (Kd.C_below RR.out HB.out) LL.out HX.out).mono ?_; rintro e w' ⟨rfl, hb⟩; have HB2 := Aside0.mk (below_step HB.out hb); clear hb)
          go_roundg k1
          case measure => omega
          case rel => exact ⟨i + 1, by go_num, ⟨by have := HI.out; omega⟩, H3, HB2⟩
      · have hn : i = l0.length := by omega
        have hA := HA.out
        rw [hn, List.drop_length] at hA
        have hres : (-1 : Int) = r := by simpa [findT] using hA
        subst hres
        clear HA hA hi
        have p2 : decide ((i : Int) < (l0.length : Int)) = false := decide_eq_false (by omega)
        go_wp2
        go_ret
        exact ⟨rfl, HB.out⟩
set_option maxHeartbeats 2000000 in
set_option maxRecDepth 100000 in
theorem containsT (k : Nat) (A0 : Option Addr) (c0 : Nat) (l0 : List S32) (b : Bool) (w : World)
    (hr0 : Kd.C k32 w A0 l0.length l0) (hc0 : l0.length ≤ c0) (h : anyT (fun x => (impl_TyOk.f k x.f0 x.f1 x.f2).bind fun t => some (!t)) l0 = some b) :
    Calls Try.prog 265 #[.slice A0 l0.length c0, .func (.func 266) #[] #[]] w fun e w' => e = .returned (.bool b) ∧ Below w.heap.size w w' := by
  obtain ⟨r, hr, rfl⟩ := any_findT _ l0 0 b (by omega) h
  have HC := Aside0.mk (indexT k A0 c0 l0 r w hr0 hc0 hr)
  clear hr0 hc0 h hr
  go_enter Try.func265, Try.ntmps265
  go_wp2_with (go_at_call 299; refine HC.out.mono ?_; rintro e w' ⟨rfl, hb⟩; have HB := Aside0.mk hb; clear hb)
  go_ret
  exact ⟨by simp, HB.out⟩
def fstNot (l : List S35) : Bool := match l with | x :: _ => x.f0 != 4 | [] => false
def headB (K : Int) (ts : List S32) (l : List S35) (hp : Int) (num nm ht tk st ab : Bool) : Bool :=
  !((((((l.length : Int) != hp) || !num) || !nm)) || ((K == 7) && fstNot l)) &&
  !((ht != tk) || (!ht && !st)) && (decide ((ts.length : Int) ≤ (if K = 3 then 2 else 0)) && !ab)
set_option maxHeartbeats 4000000 in
set_option maxRecDepth 100000 in
theorem headOkA (k : Nat) (K N : Int) (S Z : ByteArray) (T : S32) (ts : List S32) (l : List S35) (yy : S35) (tt : List S35) (hp : Int) (num nm ht tk ab : Bool) (w : World) (A6 : Option Addr) (c6 : Nat) (A7 : Option Addr) (c7 : Nat) (ad : Addr) (c8 : Nat)
    (r6 : Kd.C k32 w A6 T.f2.length T.f2) (l6 : T.f2.length ≤ c6) (r7 : Kd.C k32 w A7 ts.length ts) (l7 : ts.length ≤ c7) (r8 : Kd.C k35 w (some ad) l.length l) (l8 : l.length ≤ c8)
    (e1 : impl_parts.f k K = some hp) (e2 : impl_numberOk.f k K N = some num) (e3 : impl_namesOk.f k K S Z = some nm) (e4 : impl_hasT.f K = some ht) (e5 : impl_TyOk.f k T.f0 T.f1 T.f2 = some tk) (e7 : anyT (fun x => (impl_TyOk.f k x.f0 x.f1 x.f2).bind fun t => some (!t)) ts = some ab) (hl : l = yy :: tt) :
    Calls Try.prog 214 #[.agg #[.int .i64 K, .int .i64 N, .string S, .string Z, .int .i64 T.f0, .int .i64 T.f1, .slice A6 T.f2.length c6, .slice A7 ts.length c7, .slice (some ad) l.length c8]] w fun e w' => e = .returned (.bool (headB K ts l hp num nm ht tk (T.f0 == 0 && T.f1 == 0 && T.f2.isEmpty) ab)) ∧ Below w.heap.size w w' := by
  have hu35 := Try.underlying35
  have hu32 := Try.underlying32
  obtain ⟨st, hst⟩ : ∃ st, st = (T.f0 == 0 && T.f1 == 0 && T.f2.isEmpty) := ⟨_, rfl⟩
  rw [← hst]
  have C200 : Aside0 (∀ W, Kd.C k32 W A6 T.f2.length T.f2 → T.f2.length ≤ c6 → Calls Try.prog 200 #[.agg #[.int .i64 T.f0, .int .i64 T.f1, .slice A6 T.f2.length c6], .agg #[.int .i64 0, .int .i64 0, .slice none 0 0]] W fun e w' => e = .returned (.bool st) ∧ Below W.heap.size W w') := ⟨fun W h h2 => by rw [hst]; exact sameTy0 _ _ _ _ _ _ h h2⟩
  clear hst
  have HR6 := Aside0.mk r6
  have HC6 := Aside0.mk l6
  have HR7 := Aside0.mk r7
  have HC7 := Aside0.mk l7
  have HR8 := Aside0.mk r8
  have HC8 := Aside0.mk l8
  have E1 := Aside0.mk e1
  have E2 := Aside0.mk e2
  have E3 := Aside0.mk e3
  have E4 := Aside0.mk e4
  have E5 := Aside0.mk e5
  have E7 := Aside0.mk e7
  have HLL := Aside0.mk hl
  have hpos : 0 < l.length := by rw [hl]; simp
  have HPOS := Aside0.mk hpos
  have hrd : rd_T35 l (((0 : Nat) : Int)) = yy := by rw [hl]; simp [rd_T35]
  obtain ⟨ad', B6, x6, B7, x7, B8, x8, ex1, hx0, hx⟩ := at_T35 HR8.out ((0 : Nat) : Int) (by omega) (by omega)
  cases ex1
  rw [hrd] at hx0
  simp only [Int.toNat_natCast] at hx0
  have ez : ad.add (0 * 9) = ad := by cases ad; simp [Addr.add]
  rw [ez] at hx0
  have HX0 := Aside0.mk hx0
  clear hx hrd ez hx0 hpos hl
  clear r6 l6 r7 l7 r8 l8 e1 e2 e3 e4 e5 e7
  go_enter Try.func214, Try.ntmps214
  go_upto_region 1 with (first | ((with_reducible refine gate_dst (N := 1) rfl ?_); refine box_event ?hg (N := 1) ?hd (cs := #[.int .i64 K, .int .i64 N, .string S, .string Z, .int .i64 T.f0, .int .i64 T.f1, .slice A6 T.f2.length c6, .slice A7 ts.length c7, .slice (some ad) l.length c8]) (t := 35) ?hr ?_; (case hd => rfl); (case hg => rfl); (case hr => first | (go_simp; done) | (go_simp; rfl)); intro gb hgb w3 hbox hb3; have HB := Aside0.mk hb3; have BK := Aside0.mk hbox; clear hb3 hbox hgb))
  (try simp only [Act.put, List.setIfInBounds_toArray, List.set_cons_zero, List.set_cons_succ])
  obtain ⟨uq6, huq6_⟩ : ∃ q : Bool, q = ((((l.length : Int) : Int) != (hp : Int))) := ⟨_, rfl⟩
  have huq6 := Aside0.mk huq6_
  clear huq6_
  obtain ⟨uq14, huq14_⟩ : ∃ q : Bool, q = (uq6 || (!num)) := ⟨_, rfl⟩
  have huq14 := Aside0.mk huq14_
  clear huq14_
  obtain ⟨uq24, huq24_⟩ : ∃ q : Bool, q = (uq14 || (!nm)) := ⟨_, rfl⟩
  have huq24 := Aside0.mk huq24_
  clear huq24_
  obtain ⟨uq28, huq28_⟩ : ∃ q : Bool, q = (((K : Int) == (7 : Int))) := ⟨_, rfl⟩
  have huq28 := Aside0.mk huq28_
  clear huq28_
  obtain ⟨uq35, huq35_⟩ : ∃ q : Bool, q = (((yy.f0 : Int) != (4 : Int))) := ⟨_, rfl⟩
  have huq35 := Aside0.mk huq35_
  clear huq35_
  obtain ⟨uq36, huq36_⟩ : ∃ q : Bool, q = (uq28 && uq35) := ⟨_, rfl⟩
  have huq36 := Aside0.mk huq36_
  clear huq36_
  obtain ⟨uq37, huq37_⟩ : ∃ q : Bool, q = (uq24 || uq36) := ⟨_, rfl⟩
  have huq37 := Aside0.mk huq37_
  clear huq37_
  obtain ⟨ux, uX0, uX1, uX2, uX3, uX4, uX5, uX6, uX7, uX8, uX9, uX10, uX11, uX12, uX13, uX14, uX15, uX16, uX17, uX18, uX19, uX20, uX21, uX22, uX23, uX24, uX25, uX26, uX27, uX28, uX29, uX30, uX31, uX32, uX33, uX34, uX35, uX36, uX37⟩ : ∃ x : Nat → Value, Aside0 (x 0 = (.pointer (some ⟨gb, 8, none⟩))) ∧ Aside0 (x 1 = (.slice (some ad) l.length c8)) ∧ Aside0 (x 2 = (.int .i64 (l.length : Int))) ∧ Aside0 (x 3 = (.pointer (some ⟨gb, 0, none⟩))) ∧ Aside0 (x 4 = (.int .i64 K)) ∧ Aside0 (x 5 = ((.int .i64 hp))) ∧ Aside0 (x 6 = (.bool uq6)) ∧ Aside0 (x 7 = (.bool uq6)) ∧ Aside0 (x 8 = (bif !uq6 then (.pointer (some ⟨gb, 0, none⟩)) else undef)) ∧ Aside0 (x 9 = (bif !uq6 then (.int .i64 K) else undef)) ∧ Aside0 (x 10 = (bif !uq6 then (.pointer (some ⟨gb, 1, none⟩)) else undef)) ∧ Aside0 (x 11 = (bif !uq6 then (.int .i64 N) else undef)) ∧ Aside0 (x 12 = (bif !uq6 then ((.bool num)) else undef)) ∧ Aside0 (x 13 = (bif !uq6 then (.bool (!num)) else undef)) ∧ Aside0 (x 14 = (.bool uq14)) ∧ Aside0 (x 15 = (.bool uq14)) ∧ Aside0 (x 16 = (bif !uq14 then (.pointer (some ⟨gb, 0, none⟩)) else undef)) ∧ Aside0 (x 17 = (bif !uq14 then (.int .i64 K) else undef)) ∧ Aside0 (x 18 = (bif !uq14 then (.pointer (some ⟨gb, 2, none⟩)) else undef)) ∧ Aside0 (x 19 = (bif !uq14 then (.string S) else undef)) ∧ Aside0 (x 20 = (bif !uq14 then (.pointer (some ⟨gb, 3, none⟩)) else undef)) ∧ Aside0 (x 21 = (bif !uq14 then (.string Z) else undef)) ∧ Aside0 (x 22 = (bif !uq14 then ((.bool nm)) else undef)) ∧ Aside0 (x 23 = (bif !uq14 then (.bool (!nm)) else undef)) ∧ Aside0 (x 24 = (.bool uq24)) ∧ Aside0 (x 25 = (.bool uq24)) ∧ Aside0 (x 26 = (bif !uq24 then (.pointer (some ⟨gb, 0, none⟩)) else undef)) ∧ Aside0 (x 27 = (bif !uq24 then (.int .i64 K) else undef)) ∧ Aside0 (x 28 = (bif !uq24 then (.bool uq28) else undef)) ∧ Aside0 (x 29 = (bif !uq24 then (.bool uq28) else undef)) ∧ Aside0 (x 30 = (bif (!uq24 && uq28) then (.pointer (some ⟨gb, 8, none⟩)) else undef)) ∧ Aside0 (x 31 = (bif (!uq24 && uq28) then (.slice (some ad) l.length c8) else undef)) ∧ Aside0 (x 32 = (bif (!uq24 && uq28) then (.pointer (some ad)) else undef)) ∧ Aside0 (x 33 = (bif (!uq24 && uq28) then (.pointer (some ad)) else undef)) ∧ Aside0 (x 34 = (bif (!uq24 && uq28) then (.int .i64 yy.f0) else undef)) ∧ Aside0 (x 35 = (bif (!uq24 && uq28) then (.bool uq35) else undef)) ∧ Aside0 (x 36 = (bif !uq24 then (.bool uq36) else undef)) ∧ Aside0 (x 37 = (.bool uq37)) := ⟨fun j => ([(.pointer (some ⟨gb, 8, none⟩)), (.slice (some ad) l.length c8), (.int .i64 (l.length : Int)), (.pointer (some ⟨gb, 0, none⟩)), (.int .i64 K), ((.int .i64 hp)), (.bool uq6), (.bool uq6), (bif !uq6 then (.pointer (some ⟨gb, 0, none⟩)) else undef), (bif !uq6 then (.int .i64 K) else undef), (bif !uq6 then (.pointer (some ⟨gb, 1, none⟩)) else undef), (bif !uq6 then (.int .i64 N) else undef), (bif !uq6 then ((.bool num)) else undef), (bif !uq6 then (.bool (!num)) else undef), (.bool uq14), (.bool uq14), (bif !uq14 then (.pointer (some ⟨gb, 0, none⟩)) else undef), (bif !uq14 then (.int .i64 K) else undef), (bif !uq14 then (.pointer (some ⟨gb, 2, none⟩)) else undef), (bif !uq14 then (.string S) else undef), (bif !uq14 then (.pointer (some ⟨gb, 3, none⟩)) else undef), (bif !uq14 then (.string Z) else undef), (bif !uq14 then ((.bool nm)) else undef), (bif !uq14 then (.bool (!nm)) else undef), (.bool uq24), (.bool uq24), (bif !uq24 then (.pointer (some ⟨gb, 0, none⟩)) else undef), (bif !uq24 then (.int .i64 K) else undef), (bif !uq24 then (.bool uq28) else undef), (bif !uq24 then (.bool uq28) else undef), (bif (!uq24 && uq28) then (.pointer (some ⟨gb, 8, none⟩)) else undef), (bif (!uq24 && uq28) then (.slice (some ad) l.length c8) else undef), (bif (!uq24 && uq28) then (.pointer (some ad)) else undef), (bif (!uq24 && uq28) then (.pointer (some ad)) else undef), (bif (!uq24 && uq28) then (.int .i64 yy.f0) else undef), (bif (!uq24 && uq28) then (.bool uq35) else undef), (bif !uq24 then (.bool uq36) else undef), (.bool uq37)] : List Value).getD j undef, ⟨rfl⟩, ⟨rfl⟩, ⟨rfl⟩, ⟨rfl⟩, ⟨rfl⟩, ⟨rfl⟩, ⟨rfl⟩, ⟨rfl⟩, ⟨rfl⟩, ⟨rfl⟩, ⟨rfl⟩, ⟨rfl⟩, ⟨rfl⟩, ⟨rfl⟩, ⟨rfl⟩, ⟨rfl⟩, ⟨rfl⟩, ⟨rfl⟩, ⟨rfl⟩, ⟨rfl⟩, ⟨rfl⟩, ⟨rfl⟩, ⟨rfl⟩, ⟨rfl⟩, ⟨rfl⟩, ⟨rfl⟩, ⟨rfl⟩, ⟨rfl⟩, ⟨rfl⟩, ⟨rfl⟩, ⟨rfl⟩, ⟨rfl⟩, ⟨rfl⟩, ⟨rfl⟩, ⟨rfl⟩, ⟨rfl⟩, ⟨rfl⟩, ⟨rfl⟩⟩
  refine region_test (n := 38) (by rfl) (by kernel_rfl) (by kernel_rfl) (fun up => ⟨#[Value.agg #[Value.int .i64 K, Value.int .i64 N, Value.string S, Value.string Z, Value.int .i64 T.f0, Value.int .i64 T.f1, Value.slice A6 T.f2.length c6, Value.slice A7 ts.length c7, Value.slice (some ad) l.length c8], Value.pointer (some ⟨gb, 0, none⟩), Value.bool false, undef, up 0, up 1, up 2, up 3, up 4, up 5, up 6, up 7, up 8, up 9, up 10, up 11, up 12, up 13, up 14, up 15, up 16, up 17, up 18, up 19, up 20, up 21, up 22, up 23, up 24, up 25, up 26, up 27, up 28, up 29, up 30, up 31, up 32, up 33, up 34, up 35, up 36, up 37, undef, undef, undef, undef, undef, undef, undef, undef, undef, undef, undef, undef, undef, undef, undef, undef, undef, undef, undef, undef, undef, undef, undef, undef, undef, undef, undef, undef, undef, undef, undef, undef, undef, undef], []⟩) ux (fun j => ([(undef), (undef), (undef), (undef), (undef), (undef), (undef), (undef), (undef), (undef), (undef), (undef), (undef), (undef), (undef), (undef), (undef), (undef), (undef), (undef), (undef), (undef), (undef), (undef), (undef), (undef), (undef), (undef), (undef), (undef), (undef), (undef), (undef), (undef), (undef), (undef), (undef), (undef)] : List Value).getD j undef) rfl ?hput ?step ?fin
  case hput =>
    intro i hi o ho p v
    obtain rfl | rfl | rfl | rfl | rfl | rfl | rfl | rfl | rfl | rfl | rfl | rfl | rfl | rfl | rfl | rfl | rfl | rfl | rfl | rfl | rfl | rfl | rfl | rfl | rfl | rfl | rfl | rfl | rfl | rfl | rfl | rfl | rfl | rfl | rfl | rfl | rfl | rfl : i = 0 ∨ i = 1 ∨ i = 2 ∨ i = 3 ∨ i = 4 ∨ i = 5 ∨ i = 6 ∨ i = 7 ∨ i = 8 ∨ i = 9 ∨ i = 10 ∨ i = 11 ∨ i = 12 ∨ i = 13 ∨ i = 14 ∨ i = 15 ∨ i = 16 ∨ i = 17 ∨ i = 18 ∨ i = 19 ∨ i = 20 ∨ i = 21 ∨ i = 22 ∨ i = 23 ∨ i = 24 ∨ i = 25 ∨ i = 26 ∨ i = 27 ∨ i = 28 ∨ i = 29 ∨ i = 30 ∨ i = 31 ∨ i = 32 ∨ i = 33 ∨ i = 34 ∨ i = 35 ∨ i = 36 ∨ i = 37 := by omega
    all_goals (simp only [List.getElem?_toArray, List.getElem?_cons_succ, List.getElem?_cons_zero, Option.some.injEq] at ho; subst ho; rfl)
  case step =>
    intro i hi o ho p w' hb hd
    have hb0 : w'.cell? ⟨gb, 0, none⟩ = some (.int .i64 K) := (blk_cell (blk_below BK.out hb) 0).trans rfl
    have hb1 : w'.cell? ⟨gb, 1, none⟩ = some (.int .i64 N) := (blk_cell (blk_below BK.out hb) 1).trans rfl
    have hb2 : w'.cell? ⟨gb, 2, none⟩ = some (.string S) := (blk_cell (blk_below BK.out hb) 2).trans rfl
    have hb3 : w'.cell? ⟨gb, 3, none⟩ = some (.string Z) := (blk_cell (blk_below BK.out hb) 3).trans rfl
    have hb4 : w'.cell? ⟨gb, 4, none⟩ = some (.int .i64 T.f0) := (blk_cell (blk_below BK.out hb) 4).trans rfl
    have hb5 : w'.cell? ⟨gb, 5, none⟩ = some (.int .i64 T.f1) := (blk_cell (blk_below BK.out hb) 5).trans rfl
    have hb6 : w'.cell? ⟨gb, 6, none⟩ = some (.slice A6 T.f2.length c6) := (blk_cell (blk_below BK.out hb) 6).trans rfl
    have hb7 : w'.cell? ⟨gb, 7, none⟩ = some (.slice A7 ts.length c7) := (blk_cell (blk_below BK.out hb) 7).trans rfl
    have hb8 : w'.cell? ⟨gb, 8, none⟩ = some (.slice (some ad) l.length c8) := (blk_cell (blk_below BK.out hb) 8).trans rfl
    have hx0 := pw_cell_below (below_step HB.out hb) HX0.out
    have p3 := eq_true (show (0 : Int) < (l.length : Int) by have := HPOS.out; omega)
    obtain rfl | rfl | rfl | rfl | rfl | rfl | rfl | rfl | rfl | rfl | rfl | rfl | rfl | rfl | rfl | rfl | rfl | rfl | rfl | rfl | rfl | rfl | rfl | rfl | rfl | rfl | rfl | rfl | rfl | rfl | rfl | rfl | rfl | rfl | rfl | rfl | rfl | rfl : i = 0 ∨ i = 1 ∨ i = 2 ∨ i = 3 ∨ i = 4 ∨ i = 5 ∨ i = 6 ∨ i = 7 ∨ i = 8 ∨ i = 9 ∨ i = 10 ∨ i = 11 ∨ i = 12 ∨ i = 13 ∨ i = 14 ∨ i = 15 ∨ i = 16 ∨ i = 17 ∨ i = 18 ∨ i = 19 ∨ i = 20 ∨ i = 21 ∨ i = 22 ∨ i = 23 ∨ i = 24 ∨ i = 25 ∨ i = 26 ∨ i = 27 ∨ i = 28 ∨ i = 29 ∨ i = 30 ∨ i = 31 ∨ i = 32 ∨ i = 33 ∨ i = 34 ∨ i = 35 ∨ i = 36 ∨ i = 37 := by omega
    all_goals (simp only [List.getElem?_toArray, List.getElem?_cons_succ, List.getElem?_cons_zero, Option.some.injEq] at ho; subst ho; dsimp only)
    · rw [uX0.out]
      clear hd
      refine t_run (w := w') (v := (.pointer (some ⟨gb, 8, none⟩))) rfl ?_ rfl hb; first | (go_simp; done) | (go_simp; rfl) | (go_simp; simp [bne]; done) | (simp [*]; done)
    · rw [uX1.out, (hd 0 rfl).trans uX0.out]
      clear hd
      refine t_run (w := w') (v := (.slice (some ad) l.length c8)) rfl ?_ rfl hb; first | (go_simp; done) | (go_simp; rfl) | (go_simp; simp [bne]; done) | (simp [*]; done)
    · rw [uX2.out, (hd 1 rfl).trans uX1.out]
      clear hd
      refine t_run (w := w') (v := (.int .i64 (l.length : Int))) rfl ?_ rfl hb; first | (go_simp; done) | (go_simp; rfl) | (go_simp; simp [bne]; done) | (simp [*]; done)
    · rw [uX3.out]
      clear hd
      refine t_run (w := w') (v := (.pointer (some ⟨gb, 0, none⟩))) rfl ?_ rfl hb; first | (go_simp; done) | (go_simp; rfl) | (go_simp; simp [bne]; done) | (simp [*]; done)
    · rw [uX4.out, (hd 3 rfl).trans uX3.out]
      clear hd
      refine t_run (w := w') (v := (.int .i64 K)) rfl ?_ rfl hb; first | (go_simp; done) | (go_simp; rfl) | (go_simp; simp [bne]; done) | (simp [*]; done)
    · rw [uX5.out, (hd 4 rfl).trans uX4.out]
      clear hd
      (refine t_call (f := 261) rfl Try.func261 (by kernel_rfl) rfl #[(.int .i64 K)] rfl (by simp only [List.map_toArray, List.map_cons, List.map_nil]; rfl) ?_; refine (impl_parts.calls k K hp _ E1.out).mono ?_; rintro e w2 ⟨rfl, hb2⟩; exact ⟨rfl, below_step hb hb2.below⟩)
    · rw [uX6.out, (hd 2 rfl).trans uX2.out, (hd 5 rfl).trans uX5.out]
      clear hd
      refine t_run (w := w') (v := (.bool uq6)) rfl ?_ rfl hb; rw [huq6.out]; first | (go_simp; done) | (go_simp; rfl) | (go_simp; simp [bne]; done) | (simp [*]; done)
    · rw [uX7.out, (hd 6 rfl).trans uX6.out]
      clear hd
      refine t_run (w := w') (v := (.bool uq6)) rfl ?_ rfl hb; first | (go_simp; done) | (go_simp; rfl) | (go_simp; simp [bne]; done) | (simp [*]; done)
    · rw [uX8.out, (hd 7 rfl).trans uX7.out]
      clear hd
      cases uq6 <;> (first | exact t_skip rfl rfl | (refine t_run (w := w') (v := (.pointer (some ⟨gb, 0, none⟩))) rfl ?_ rfl hb; first | (go_simp; done) | (go_simp; rfl) | (go_simp; simp [bne]; done) | (simp [*]; done)))
    · rw [uX9.out, (hd 7 rfl).trans uX7.out, (hd 8 rfl).trans uX8.out]
      clear hd
      cases uq6 <;> (first | exact t_skip rfl rfl | (refine t_run (w := w') (v := (.int .i64 K)) rfl ?_ rfl hb; first | (go_simp; done) | (go_simp; rfl) | (go_simp; simp [bne]; done) | (simp [*]; done)))
    · rw [uX10.out, (hd 7 rfl).trans uX7.out]
      clear hd
      cases uq6 <;> (first | exact t_skip rfl rfl | (refine t_run (w := w') (v := (.pointer (some ⟨gb, 1, none⟩))) rfl ?_ rfl hb; first | (go_simp; done) | (go_simp; rfl) | (go_simp; simp [bne]; done) | (simp [*]; done)))
    · rw [uX11.out, (hd 7 rfl).trans uX7.out, (hd 10 rfl).trans uX10.out]
      clear hd
      cases uq6 <;> (first | exact t_skip rfl rfl | (refine t_run (w := w') (v := (.int .i64 N)) rfl ?_ rfl hb; first | (go_simp; done) | (go_simp; rfl) | (go_simp; simp [bne]; done) | (simp [*]; done)))
    · rw [uX12.out, (hd 7 rfl).trans uX7.out, (hd 9 rfl).trans uX9.out, (hd 11 rfl).trans uX11.out]
      clear hd
      cases uq6 <;> (first | exact t_skip rfl rfl | (refine t_call (f := 262) rfl Try.func262 (by kernel_rfl) rfl #[(.int .i64 K), (.int .i64 N)] rfl (by simp only [List.map_toArray, List.map_cons, List.map_nil]; rfl) ?_; refine (impl_numberOk.calls k K N num _ E2.out).mono ?_; rintro e w2 ⟨rfl, hb2⟩; exact ⟨rfl, below_step hb hb2.below⟩))
    · rw [uX13.out, (hd 7 rfl).trans uX7.out, (hd 12 rfl).trans uX12.out]
      clear hd
      cases uq6 <;> (first | exact t_skip rfl rfl | (refine t_run (w := w') (v := (.bool (!num))) rfl ?_ rfl hb; first | (go_simp; done) | (go_simp; rfl) | (go_simp; simp [bne]; done) | (simp [*]; done)))
    · rw [uX14.out, (hd 7 rfl).trans uX7.out, (hd 13 rfl).trans uX13.out]
      clear hd
      cases uq6 <;> (refine t_run (w := w') (v := (.bool uq14)) rfl ?_ rfl hb; rw [huq14.out]; first | (go_simp; done) | (go_simp; rfl) | (go_simp; simp [bne]; done) | (simp [*]; done))
    · rw [uX15.out, (hd 14 rfl).trans uX14.out]
      clear hd
      refine t_run (w := w') (v := (.bool uq14)) rfl ?_ rfl hb; first | (go_simp; done) | (go_simp; rfl) | (go_simp; simp [bne]; done) | (simp [*]; done)
    · rw [uX16.out, (hd 15 rfl).trans uX15.out]
      clear hd
      cases uq14 <;> (first | exact t_skip rfl rfl | (refine t_run (w := w') (v := (.pointer (some ⟨gb, 0, none⟩))) rfl ?_ rfl hb; first | (go_simp; done) | (go_simp; rfl) | (go_simp; simp [bne]; done) | (simp [*]; done)))
    · rw [uX17.out, (hd 15 rfl).trans uX15.out, (hd 16 rfl).trans uX16.out]
      clear hd
      cases uq14 <;> (first | exact t_skip rfl rfl | (refine t_run (w := w') (v := (.int .i64 K)) rfl ?_ rfl hb; first | (go_simp; done) | (go_simp; rfl) | (go_simp; simp [bne]; done) | (simp [*]; done)))
    · rw [uX18.out, (hd 15 rfl).trans uX15.out]
      clear hd
      cases uq14 <;> (first | exact t_skip rfl rfl | (refine t_run (w := w') (v := (.pointer (some ⟨gb, 2, none⟩))) rfl ?_ rfl hb; first | (go_simp; done) | (go_simp; rfl) | (go_simp; simp [bne]; done) | (simp [*]; done)))
    · rw [uX19.out, (hd 15 rfl).trans uX15.out, (hd 18 rfl).trans uX18.out]
      clear hd
      cases uq14 <;> (first | exact t_skip rfl rfl | (refine t_run (w := w') (v := (.string S)) rfl ?_ rfl hb; first | (go_simp; done) | (go_simp; rfl) | (go_simp; simp [bne]; done) | (simp [*]; done)))
    · rw [uX20.out, (hd 15 rfl).trans uX15.out]
      clear hd
      cases uq14 <;> (first | exact t_skip rfl rfl | (refine t_run (w := w') (v := (.pointer (some ⟨gb, 3, none⟩))) rfl ?_ rfl hb; first | (go_simp; done) | (go_simp; rfl) | (go_simp; simp [bne]; done) | (simp [*]; done)))
    · rw [uX21.out, (hd 15 rfl).trans uX15.out, (hd 20 rfl).trans uX20.out]
      clear hd
      cases uq14 <;> (first | exact t_skip rfl rfl | (refine t_run (w := w') (v := (.string Z)) rfl ?_ rfl hb; first | (go_simp; done) | (go_simp; rfl) | (go_simp; simp [bne]; done) | (simp [*]; done)))
    · rw [uX22.out, (hd 15 rfl).trans uX15.out, (hd 17 rfl).trans uX17.out, (hd 19 rfl).trans uX19.out, (hd 21 rfl).trans uX21.out]
      clear hd
      cases uq14 <;> (first | exact t_skip rfl rfl | (refine t_call (f := 263) rfl Try.func263 (by kernel_rfl) rfl #[(.int .i64 K), (.string S), (.string Z)] rfl (by simp only [List.map_toArray, List.map_cons, List.map_nil]; rfl) ?_; refine (impl_namesOk.calls k K S Z nm _ E3.out).mono ?_; rintro e w2 ⟨rfl, hb2⟩; exact ⟨rfl, below_step hb hb2.below⟩))
    · rw [uX23.out, (hd 15 rfl).trans uX15.out, (hd 22 rfl).trans uX22.out]
      clear hd
      cases uq14 <;> (first | exact t_skip rfl rfl | (refine t_run (w := w') (v := (.bool (!nm))) rfl ?_ rfl hb; first | (go_simp; done) | (go_simp; rfl) | (go_simp; simp [bne]; done) | (simp [*]; done)))
    · rw [uX24.out, (hd 15 rfl).trans uX15.out, (hd 23 rfl).trans uX23.out]
      clear hd
      cases uq14 <;> (refine t_run (w := w') (v := (.bool uq24)) rfl ?_ rfl hb; rw [huq24.out]; first | (go_simp; done) | (go_simp; rfl) | (go_simp; simp [bne]; done) | (simp [*]; done))
    · rw [uX25.out, (hd 24 rfl).trans uX24.out]
      clear hd
      refine t_run (w := w') (v := (.bool uq24)) rfl ?_ rfl hb; first | (go_simp; done) | (go_simp; rfl) | (go_simp; simp [bne]; done) | (simp [*]; done)
    · rw [uX26.out, (hd 25 rfl).trans uX25.out]
      clear hd
      cases uq24 <;> (first | exact t_skip rfl rfl | (refine t_run (w := w') (v := (.pointer (some ⟨gb, 0, none⟩))) rfl ?_ rfl hb; first | (go_simp; done) | (go_simp; rfl) | (go_simp; simp [bne]; done) | (simp [*]; done)))
    · rw [uX27.out, (hd 25 rfl).trans uX25.out, (hd 26 rfl).trans uX26.out]
      clear hd
      cases uq24 <;> (first | exact t_skip rfl rfl | (refine t_run (w := w') (v := (.int .i64 K)) rfl ?_ rfl hb; first | (go_simp; done) | (go_simp; rfl) | (go_simp; simp [bne]; done) | (simp [*]; done)))
    · rw [uX28.out, (hd 25 rfl).trans uX25.out, (hd 27 rfl).trans uX27.out]
      clear hd
      cases uq24 <;> (first | exact t_skip rfl rfl | (refine t_run (w := w') (v := (.bool uq28)) rfl ?_ rfl hb; rw [huq28.out]; first | (go_simp; done) | (go_simp; rfl) | (go_simp; simp [bne]; done) | (simp [*]; done)))
    · rw [uX29.out, (hd 25 rfl).trans uX25.out, (hd 28 rfl).trans uX28.out]
      clear hd
      cases uq24 <;> (first | exact t_skip rfl rfl | (refine t_run (w := w') (v := (.bool uq28)) rfl ?_ rfl hb; first | (go_simp; done) | (go_simp; rfl) | (go_simp; simp [bne]; done) | (simp [*]; done)))
    · rw [uX30.out, (hd 29 rfl).trans uX29.out]
      clear hd
      cases uq24 <;> cases uq28 <;> (first | exact t_skip rfl rfl | (refine t_run (w := w') (v := (.pointer (some ⟨gb, 8, none⟩))) rfl ?_ rfl hb; first | (go_simp; done) | (go_simp; rfl) | (go_simp; simp [bne]; done) | (simp [*]; done)))
    · rw [uX31.out, (hd 29 rfl).trans uX29.out, (hd 30 rfl).trans uX30.out]
      clear hd
      cases uq24 <;> cases uq28 <;> (first | exact t_skip rfl rfl | (refine t_run (w := w') (v := (.slice (some ad) l.length c8)) rfl ?_ rfl hb; first | (go_simp; done) | (go_simp; rfl) | (go_simp; simp [bne]; done) | (simp [*]; done)))
    · rw [uX32.out, (hd 29 rfl).trans uX29.out, (hd 31 rfl).trans uX31.out]
      clear hd
      cases uq24 <;> cases uq28 <;> (first | exact t_skip rfl rfl | (refine t_run (w := w') (v := (.pointer (some ad))) rfl ?_ rfl hb; (go_simp; intro hnil; rw [HLL.out] at hnil; cases hnil)))
    · rw [uX33.out, (hd 29 rfl).trans uX29.out, (hd 32 rfl).trans uX32.out]
      clear hd
      cases uq24 <;> cases uq28 <;> (first | exact t_skip rfl rfl | (refine t_run (w := w') (v := (.pointer (some ad))) rfl ?_ rfl hb; first | (go_simp; done) | (go_simp; rfl) | (go_simp; simp [bne]; done) | (simp [*]; done)))
    · rw [uX34.out, (hd 29 rfl).trans uX29.out, (hd 33 rfl).trans uX33.out]
      clear hd
      cases uq24 <;> cases uq28 <;> (first | exact t_skip rfl rfl | (refine t_run (w := w') (v := (.int .i64 yy.f0)) rfl ?_ rfl hb; first | (go_simp; done) | (go_simp; rfl) | (go_simp; simp [bne]; done) | (simp [*]; done)))
    · rw [uX35.out, (hd 29 rfl).trans uX29.out, (hd 34 rfl).trans uX34.out]
      clear hd
      cases uq24 <;> cases uq28 <;> (first | exact t_skip rfl rfl | (refine t_run (w := w') (v := (.bool uq35)) rfl ?_ rfl hb; rw [huq35.out]; first | (go_simp; done) | (go_simp; rfl) | (go_simp; simp [bne]; done) | (simp [*]; done)))
    · rw [uX36.out, (hd 25 rfl).trans uX25.out, (hd 29 rfl).trans uX29.out, (hd 35 rfl).trans uX35.out]
      clear hd
      cases uq24 <;> cases uq28 <;> (first | exact t_skip rfl rfl | (refine t_run (w := w') (v := (.bool uq36)) rfl ?_ rfl hb; rw [huq36.out]; first | (go_simp; done) | (go_simp; rfl) | (go_simp; simp [bne]; done) | (simp [*]; done)))
    · rw [uX37.out, (hd 25 rfl).trans uX25.out, (hd 36 rfl).trans uX36.out]
      clear hd
      cases uq24 <;> (refine t_run (w := w') (v := (.bool uq37)) rfl ?_ rfl hb; rw [huq37.out]; first | (go_simp; done) | (go_simp; rfl) | (go_simp; simp [bne]; done) | (simp [*]; done))
  case fin =>
    intro up w7 hp_ hb
    have e37 : up 37 = (.bool uq37) := (hp_ 37 (by decide)).trans uX37.out
    have hbad : uq37 = (((((l.length : Int) != hp) || !num) || !nm) || ((K == 7) && (yy.f0 != 4))) := by simp only [huq37.out, huq36.out, huq35.out, huq28.out, huq24.out, huq14.out, huq6.out]
    dsimp only
    rw [e37]
    clear hp_ e37 uX0 uX1 uX2 uX3 uX4 uX5 uX6 uX7 uX8 uX9 uX10 uX11 uX12 uX13 uX14 uX15 uX16 uX17 uX18 uX19 uX20 uX21 uX22 uX23 uX24 uX25 uX26 uX27 uX28 uX29 uX30 uX31 uX32 uX33 uX34 uX35 uX36 uX37
    have HB := Aside0.mk (below_step HB.out hb)
    have BK := Aside0.mk (blk_below BK.out hb)
    clear hb huq6 huq14 huq24 huq28 huq35 huq36
    have HBADu := Aside0.mk hbad
    clear hbad huq37
    cases huu : uq37 with
    | true =>
      rw [huu] at HBADu
      have HTIE : (((((l.length : Int) != hp) || !num) || !nm) || ((K == 7) && fstNot l)) = true := by rw [show fstNot l = (yy.f0 != 4) from by rw [HLL.out]; rfl]; exact HBADu.out.symm
      have HT := Aside0.mk HTIE
      clear HTIE
      go_wp2
      go_ret
      exact ⟨by unfold headB; (try dsimp only); rw [HT.out]; rfl, HB.out⟩
    | false =>
      rw [huu] at HBADu
      have HTIE : (((((l.length : Int) != hp) || !num) || !nm) || ((K == 7) && fstNot l)) = false := by rw [show fstNot l = (yy.f0 != 4) from by rw [HLL.out]; rfl]; exact HBADu.out.symm
      have HT := Aside0.mk HTIE
      clear HTIE huu
      go_upto_region 3 with (fail)
      obtain ⟨vq6, hvq6_⟩ : ∃ q : Bool, q = ((ht != tk)) := ⟨_, rfl⟩
      have hvq6 := Aside0.mk hvq6_
      clear hvq6_
      obtain ⟨vq18, hvq18_⟩ : ∃ q : Bool, q = ((!ht) && (!st)) := ⟨_, rfl⟩
      have hvq18 := Aside0.mk hvq18_
      clear hvq18_
      obtain ⟨vq19, hvq19_⟩ : ∃ q : Bool, q = (vq6 || vq18) := ⟨_, rfl⟩
      have hvq19 := Aside0.mk hvq19_
      clear hvq19_
      obtain ⟨vx, vX0, vX1, vX2, vX3, vX4, vX5, vX6, vX7, vX8, vX9, vX10, vX11, vX12, vX13, vX14, vX15, vX16, vX17, vX18, vX19⟩ : ∃ x : Nat → Value, Aside0 (x 0 = (.pointer (some ⟨gb, 0, none⟩))) ∧ Aside0 (x 1 = (.int .i64 K)) ∧ Aside0 (x 2 = ((.bool ht))) ∧ Aside0 (x 3 = (.pointer (some ⟨gb, 4, none⟩))) ∧ Aside0 (x 4 = (.agg #[.int .i64 T.f0, .int .i64 T.f1, .slice A6 T.f2.length c6])) ∧ Aside0 (x 5 = ((.bool tk))) ∧ Aside0 (x 6 = (.bool vq6)) ∧ Aside0 (x 7 = (.bool vq6)) ∧ Aside0 (x 8 = (bif !vq6 then (.pointer (some ⟨gb, 0, none⟩)) else undef)) ∧ Aside0 (x 9 = (bif !vq6 then (.int .i64 K) else undef)) ∧ Aside0 (x 10 = (bif !vq6 then ((.bool ht)) else undef)) ∧ Aside0 (x 11 = (bif !vq6 then (.bool (!ht)) else undef)) ∧ Aside0 (x 12 = (bif !vq6 then (.bool (!ht)) else undef)) ∧ Aside0 (x 13 = (bif (!vq6 && (!ht)) then (.pointer (some ⟨gb, 4, none⟩)) else undef)) ∧ Aside0 (x 14 = (bif (!vq6 && (!ht)) then (.agg #[.int .i64 T.f0, .int .i64 T.f1, .slice A6 T.f2.length c6]) else undef)) ∧ Aside0 (x 15 = (bif (!vq6 && (!ht)) then (.agg #[.int .i64 0, .int .i64 0, .slice none 0 0]) else undef)) ∧ Aside0 (x 16 = (bif (!vq6 && (!ht)) then ((.bool st)) else undef)) ∧ Aside0 (x 17 = (bif (!vq6 && (!ht)) then (.bool (!st)) else undef)) ∧ Aside0 (x 18 = (bif !vq6 then (.bool vq18) else undef)) ∧ Aside0 (x 19 = (.bool vq19)) := ⟨fun j => ([(.pointer (some ⟨gb, 0, none⟩)), (.int .i64 K), ((.bool ht)), (.pointer (some ⟨gb, 4, none⟩)), (.agg #[.int .i64 T.f0, .int .i64 T.f1, .slice A6 T.f2.length c6]), ((.bool tk)), (.bool vq6), (.bool vq6), (bif !vq6 then (.pointer (some ⟨gb, 0, none⟩)) else undef), (bif !vq6 then (.int .i64 K) else undef), (bif !vq6 then ((.bool ht)) else undef), (bif !vq6 then (.bool (!ht)) else undef), (bif !vq6 then (.bool (!ht)) else undef), (bif (!vq6 && (!ht)) then (.pointer (some ⟨gb, 4, none⟩)) else undef), (bif (!vq6 && (!ht)) then (.agg #[.int .i64 T.f0, .int .i64 T.f1, .slice A6 T.f2.length c6]) else undef), (bif (!vq6 && (!ht)) then (.agg #[.int .i64 0, .int .i64 0, .slice none 0 0]) else undef), (bif (!vq6 && (!ht)) then ((.bool st)) else undef), (bif (!vq6 && (!ht)) then (.bool (!st)) else undef), (bif !vq6 then (.bool vq18) else undef), (.bool vq19)] : List Value).getD j undef, ⟨rfl⟩, ⟨rfl⟩, ⟨rfl⟩, ⟨rfl⟩, ⟨rfl⟩, ⟨rfl⟩, ⟨rfl⟩, ⟨rfl⟩, ⟨rfl⟩, ⟨rfl⟩, ⟨rfl⟩, ⟨rfl⟩, ⟨rfl⟩, ⟨rfl⟩, ⟨rfl⟩, ⟨rfl⟩, ⟨rfl⟩, ⟨rfl⟩, ⟨rfl⟩, ⟨rfl⟩⟩
      refine region_test (n := 20) (by rfl) (by kernel_rfl) (by kernel_rfl) (fun vp => ⟨#[Value.agg #[Value.int .i64 K, Value.int .i64 N, Value.string S, Value.string Z, Value.int .i64 T.f0, Value.int .i64 T.f1, Value.slice A6 T.f2.length c6, Value.slice A7 ts.length c7, Value.slice (some ad) l.length c8], Value.pointer (some ⟨gb, 0, none⟩), Value.bool false, undef, up 0, up 1, up 2, up 3, up 4, up 5, up 6, up 7, up 8, up 9, up 10, up 11, up 12, up 13, up 14, up 15, up 16, up 17, up 18, up 19, up 20, up 21, up 22, up 23, up 24, up 25, up 26, up 27, up 28, up 29, up 30, up 31, up 32, up 33, up 34, up 35, up 36, Value.bool false, vp 0, vp 1, vp 2, vp 3, vp 4, vp 5, vp 6, vp 7, vp 8, vp 9, vp 10, vp 11, vp 12, vp 13, vp 14, vp 15, vp 16, vp 17, vp 18, vp 19, undef, undef, undef, undef, undef, undef, undef, undef, undef, undef, undef, undef, undef, undef], []⟩) vx (fun j => ([(undef), (undef), (undef), (undef), (undef), (undef), (undef), (undef), (undef), (undef), (undef), (undef), (undef), (undef), (undef), (undef), (undef), (undef), (undef), (undef)] : List Value).getD j undef) rfl ?hput ?step ?fin
      case hput =>
        intro i hi o ho p v
        obtain rfl | rfl | rfl | rfl | rfl | rfl | rfl | rfl | rfl | rfl | rfl | rfl | rfl | rfl | rfl | rfl | rfl | rfl | rfl | rfl : i = 0 ∨ i = 1 ∨ i = 2 ∨ i = 3 ∨ i = 4 ∨ i = 5 ∨ i = 6 ∨ i = 7 ∨ i = 8 ∨ i = 9 ∨ i = 10 ∨ i = 11 ∨ i = 12 ∨ i = 13 ∨ i = 14 ∨ i = 15 ∨ i = 16 ∨ i = 17 ∨ i = 18 ∨ i = 19 := by omega
        all_goals (simp only [List.getElem?_toArray, List.getElem?_cons_succ, List.getElem?_cons_zero, Option.some.injEq] at ho; subst ho; rfl)
      case step =>
        intro i hi o ho p w' hb hd
        have hb0 : w'.cell? ⟨gb, 0, none⟩ = some (.int .i64 K) := (blk_cell (blk_below BK.out hb) 0).trans rfl
        have hb1 : w'.cell? ⟨gb, 1, none⟩ = some (.int .i64 N) := (blk_cell (blk_below BK.out hb) 1).trans rfl
        have hb2 : w'.cell? ⟨gb, 2, none⟩ = some (.string S) := (blk_cell (blk_below BK.out hb) 2).trans rfl
        have hb3 : w'.cell? ⟨gb, 3, none⟩ = some (.string Z) := (blk_cell (blk_below BK.out hb) 3).trans rfl
        have hb4 : w'.cell? ⟨gb, 4, none⟩ = some (.int .i64 T.f0) := (blk_cell (blk_below BK.out hb) 4).trans rfl
        have hb5 : w'.cell? ⟨gb, 5, none⟩ = some (.int .i64 T.f1) := (blk_cell (blk_below BK.out hb) 5).trans rfl
        have hb6 : w'.cell? ⟨gb, 6, none⟩ = some (.slice A6 T.f2.length c6) := (blk_cell (blk_below BK.out hb) 6).trans rfl
        have hb7 : w'.cell? ⟨gb, 7, none⟩ = some (.slice A7 ts.length c7) := (blk_cell (blk_below BK.out hb) 7).trans rfl
        have hb8 : w'.cell? ⟨gb, 8, none⟩ = some (.slice (some ad) l.length c8) := (blk_cell (blk_below BK.out hb) 8).trans rfl
        obtain rfl | rfl | rfl | rfl | rfl | rfl | rfl | rfl | rfl | rfl | rfl | rfl | rfl | rfl | rfl | rfl | rfl | rfl | rfl | rfl : i = 0 ∨ i = 1 ∨ i = 2 ∨ i = 3 ∨ i = 4 ∨ i = 5 ∨ i = 6 ∨ i = 7 ∨ i = 8 ∨ i = 9 ∨ i = 10 ∨ i = 11 ∨ i = 12 ∨ i = 13 ∨ i = 14 ∨ i = 15 ∨ i = 16 ∨ i = 17 ∨ i = 18 ∨ i = 19 := by omega
        all_goals (simp only [List.getElem?_toArray, List.getElem?_cons_succ, List.getElem?_cons_zero, Option.some.injEq] at ho; subst ho; dsimp only)
        · rw [vX0.out]
          clear hd
          refine t_run (w := w') (v := (.pointer (some ⟨gb, 0, none⟩))) rfl ?_ rfl hb; first | (go_simp; done) | (go_simp; rfl) | (go_simp; simp [bne]; done) | (simp [*]; done)
        · rw [vX1.out, (hd 0 rfl).trans vX0.out]
          clear hd
          refine t_run (w := w') (v := (.int .i64 K)) rfl ?_ rfl hb; first | (go_simp; done) | (go_simp; rfl) | (go_simp; simp [bne]; done) | (simp [*]; done)
        · rw [vX2.out, (hd 1 rfl).trans vX1.out]
          clear hd
          (refine t_call (f := 252) rfl Try.func252 (by kernel_rfl) rfl #[(.int .i64 K)] rfl (by simp only [List.map_toArray, List.map_cons, List.map_nil]; rfl) ?_; refine (impl_hasT.calls K ht _ E4.out).mono ?_; rintro e w2 ⟨rfl, hb2⟩; exact ⟨rfl, below_step hb hb2.below⟩)
        · rw [vX3.out]
          clear hd
          refine t_run (w := w') (v := (.pointer (some ⟨gb, 4, none⟩))) rfl ?_ rfl hb; first | (go_simp; done) | (go_simp; rfl) | (go_simp; simp [bne]; done) | (simp [*]; done)
        · rw [vX4.out, (hd 3 rfl).trans vX3.out]
          clear hd
          refine t_run (w := w') (v := (.agg #[.int .i64 T.f0, .int .i64 T.f1, .slice A6 T.f2.length c6])) rfl ?_ rfl hb; first | (go_simp; done) | (go_simp; rfl) | (go_simp; simp [bne]; done) | (simp [*]; done)
        · rw [vX5.out, (hd 4 rfl).trans vX4.out]
          clear hd
          (refine t_call (f := 264) rfl Try.func264 (by kernel_rfl) rfl #[(.agg #[.int .i64 T.f0, .int .i64 T.f1, .slice A6 T.f2.length c6])] rfl (by simp only [List.map_toArray, List.map_cons, List.map_nil]; rfl) ?_; refine (impl_TyOk.calls k T.f0 T.f1 A6 c6 T.f2 tk _ (Kd.C_below HR6.out (below_step HB.out hb)) HC6.out E5.out).mono ?_; rintro e w2 ⟨rfl, hb2⟩; exact ⟨rfl, below_step hb hb2⟩)
        · rw [vX6.out, (hd 2 rfl).trans vX2.out, (hd 5 rfl).trans vX5.out]
          clear hd
          refine t_run (w := w') (v := (.bool vq6)) rfl ?_ rfl hb; rw [hvq6.out]; first | (go_simp; done) | (go_simp; rfl) | (go_simp; simp [bne]; done) | (simp [*]; done)
        · rw [vX7.out, (hd 6 rfl).trans vX6.out]
          clear hd
          refine t_run (w := w') (v := (.bool vq6)) rfl ?_ rfl hb; first | (go_simp; done) | (go_simp; rfl) | (go_simp; simp [bne]; done) | (simp [*]; done)
        · rw [vX8.out, (hd 7 rfl).trans vX7.out]
          clear hd
          cases vq6 <;> (first | exact t_skip rfl rfl | (refine t_run (w := w') (v := (.pointer (some ⟨gb, 0, none⟩))) rfl ?_ rfl hb; first | (go_simp; done) | (go_simp; rfl) | (go_simp; simp [bne]; done) | (simp [*]; done)))
        · rw [vX9.out, (hd 7 rfl).trans vX7.out, (hd 8 rfl).trans vX8.out]
          clear hd
          cases vq6 <;> (first | exact t_skip rfl rfl | (refine t_run (w := w') (v := (.int .i64 K)) rfl ?_ rfl hb; first | (go_simp; done) | (go_simp; rfl) | (go_simp; simp [bne]; done) | (simp [*]; done)))
        · rw [vX10.out, (hd 7 rfl).trans vX7.out, (hd 9 rfl).trans vX9.out]
          clear hd
          cases vq6 <;> (first | exact t_skip rfl rfl | (refine t_call (f := 252) rfl Try.func252 (by kernel_rfl) rfl #[(.int .i64 K)] rfl (by simp only [List.map_toArray, List.map_cons, List.map_nil]; rfl) ?_; refine (impl_hasT.calls K ht _ E4.out).mono ?_; rintro e w2 ⟨rfl, hb2⟩; exact ⟨rfl, below_step hb hb2.below⟩))
        · rw [vX11.out, (hd 7 rfl).trans vX7.out, (hd 10 rfl).trans vX10.out]
          clear hd
          cases vq6 <;> (first | exact t_skip rfl rfl | (refine t_run (w := w') (v := (.bool (!ht))) rfl ?_ rfl hb; first | (go_simp; done) | (go_simp; rfl) | (go_simp; simp [bne]; done) | (simp [*]; done)))
        · rw [vX12.out, (hd 7 rfl).trans vX7.out, (hd 11 rfl).trans vX11.out]
          clear hd
          cases vq6 <;> (first | exact t_skip rfl rfl | (refine t_run (w := w') (v := (.bool (!ht))) rfl ?_ rfl hb; first | (go_simp; done) | (go_simp; rfl) | (go_simp; simp [bne]; done) | (simp [*]; done)))
        · rw [vX13.out, (hd 12 rfl).trans vX12.out]
          clear hd
          cases ht <;> cases vq6 <;> (first | exact t_skip rfl rfl | (refine t_run (w := w') (v := (.pointer (some ⟨gb, 4, none⟩))) rfl ?_ rfl hb; first | (go_simp; done) | (go_simp; rfl) | (go_simp; simp [bne]; done) | (simp [*]; done)))
        · rw [vX14.out, (hd 12 rfl).trans vX12.out, (hd 13 rfl).trans vX13.out]
          clear hd
          cases ht <;> cases vq6 <;> (first | exact t_skip rfl rfl | (refine t_run (w := w') (v := (.agg #[.int .i64 T.f0, .int .i64 T.f1, .slice A6 T.f2.length c6])) rfl ?_ rfl hb; first | (go_simp; done) | (go_simp; rfl) | (go_simp; simp [bne]; done) | (simp [*]; done)))
        · rw [vX15.out, (hd 12 rfl).trans vX12.out]
          clear hd
          cases ht <;> cases vq6 <;> (first | exact t_skip rfl rfl | (refine t_run (w := w') (v := (.agg #[.int .i64 0, .int .i64 0, .slice none 0 0])) rfl ?_ rfl hb; first | (go_simp; done) | (go_simp; rfl) | (go_simp; simp [bne]; done) | (simp [*]; done)))
        · rw [vX16.out, (hd 12 rfl).trans vX12.out, (hd 14 rfl).trans vX14.out, (hd 15 rfl).trans vX15.out]
          clear hd
          cases ht <;> cases vq6 <;> (first | exact t_skip rfl rfl | (refine t_call (f := 200) rfl Try.func200 (by kernel_rfl) rfl #[(.agg #[.int .i64 T.f0, .int .i64 T.f1, .slice A6 T.f2.length c6]), (.agg #[.int .i64 0, .int .i64 0, .slice none 0 0])] rfl (by simp only [List.map_toArray, List.map_cons, List.map_nil]; rfl) ?_; refine (C200.out _ (Kd.C_below HR6.out (below_step HB.out hb)) HC6.out).mono ?_; rintro e w2 ⟨rfl, hb2⟩; exact ⟨rfl, below_step hb hb2⟩))
        · rw [vX17.out, (hd 12 rfl).trans vX12.out, (hd 16 rfl).trans vX16.out]
          clear hd
          cases ht <;> cases vq6 <;> (first | exact t_skip rfl rfl | (refine t_run (w := w') (v := (.bool (!st))) rfl ?_ rfl hb; first | (go_simp; done) | (go_simp; rfl) | (go_simp; simp [bne]; done) | (simp [*]; done)))
        · rw [vX18.out, (hd 7 rfl).trans vX7.out, (hd 12 rfl).trans vX12.out, (hd 17 rfl).trans vX17.out]
          clear hd
          cases ht <;> cases vq6 <;> (first | exact t_skip rfl rfl | (refine t_run (w := w') (v := (.bool vq18)) rfl ?_ rfl hb; rw [hvq18.out]; first | (go_simp; done) | (go_simp; rfl) | (go_simp; simp [bne]; done) | (simp [*]; done)))
        · rw [vX19.out, (hd 7 rfl).trans vX7.out, (hd 18 rfl).trans vX18.out]
          clear hd
          cases vq6 <;> (refine t_run (w := w') (v := (.bool vq19)) rfl ?_ rfl hb; rw [hvq19.out]; first | (go_simp; done) | (go_simp; rfl) | (go_simp; simp [bne]; done) | (simp [*]; done))
      case fin =>
        intro vp w8 hp_ hb
        have e19 : vp 19 = (.bool vq19) := (hp_ 19 (by decide)).trans vX19.out
        have hbad : vq19 = ((ht != tk) || (!ht && !st)) := by simp only [hvq19.out, hvq18.out, hvq6.out]
        dsimp only
        rw [e19]
        clear hp_ e19 vX0 vX1 vX2 vX3 vX4 vX5 vX6 vX7 vX8 vX9 vX10 vX11 vX12 vX13 vX14 vX15 vX16 vX17 vX18 vX19
        have HB := Aside0.mk (below_step HB.out hb)
        have BK := Aside0.mk (blk_below BK.out hb)
        clear hb hvq6 hvq18
        have HBADv := Aside0.mk hbad
        clear hbad hvq19
        cases huv : vq19 with
        | true =>
          rw [huv] at HBADv
          go_wp2
          go_ret
          exact ⟨by unfold headB; (try dsimp only); rw [HT.out, ← HBADv.out]; rfl, HB.out⟩
        | false =>
          rw [huv] at HBADv
          clear huv
          have hz0 : w8.cell? ⟨gb, 0, none⟩ = some (.int .i64 K) := (blk_cell BK.out 0).trans rfl
          have hz7 : w8.cell? ⟨gb, 7, none⟩ = some (.slice A7 ts.length c7) := (blk_cell BK.out 7).trans rfl
          have fini : ∀ b, b = (decide ((ts.length : Int) ≤ (if K = 3 then 2 else 0)) && !ab) → headB K ts l hp num nm ht tk st ab = b := by
            intro b hb_
            unfold headB
            (try dsimp only)
            rw [HT.out, ← HBADv.out, hb_]
            simp
          have FIN := Aside0.mk fini
          clear fini
          by_cases hK3 : K = 3
          · have k3 : (K == 3) = true := by simpa using hK3
            have HK3 := Aside0.mk hK3
            clear hK3
            by_cases hle : (ts.length : Int) ≤ 2
            · have p5 : decide ((ts.length : Int) ≤ 2) = true := decide_eq_true hle
              clear hle
              go_wp2_with (go_at_call 265; refine (containsT k A7 c7 ts ab _ (Kd.C_below HR7.out HB.out) HC7.out E7.out).mono ?_; rintro e w9 ⟨rfl, hb⟩; have HB9 := Aside0.mk (below_step HB.out hb); clear hb)
              go_ret
              exact ⟨by rw [FIN.out _ rfl, if_pos HK3.out, p5]; simp, HB9.out⟩
            · have p5 : decide ((ts.length : Int) ≤ 2) = false := decide_eq_false hle
              clear hle
              go_wp2
              go_ret
              exact ⟨by rw [FIN.out _ rfl, if_pos HK3.out, p5]; simp, HB.out⟩
          · have k3 : (K == 3) = false := by simpa using hK3
            have HK3 := Aside0.mk hK3
            clear hK3
            by_cases hle : (ts.length : Int) ≤ 0
            · have p5 : decide ((ts.length : Int) ≤ 0) = true := decide_eq_true hle
              have p6 : (ts = []) = True := eq_true (List.eq_nil_of_length_eq_zero (by omega))
              clear hle
              go_wp2_with (go_at_call 265; refine (containsT k A7 c7 ts ab _ (Kd.C_below HR7.out HB.out) HC7.out E7.out).mono ?_; rintro e w9 ⟨rfl, hb⟩; have HB9 := Aside0.mk (below_step HB.out hb); clear hb)
              go_ret
              exact ⟨by rw [FIN.out _ rfl, if_neg HK3.out, p5]; simp, HB9.out⟩
            · have p5 : decide ((ts.length : Int) ≤ 0) = false := decide_eq_false hle
              have p6 : (ts = []) = False := eq_false (fun h => hle (by rw [h]; simp))
              clear hle
              go_wp2
              go_ret
              exact ⟨by rw [FIN.out _ rfl, if_neg HK3.out, p5]; simp, HB.out⟩
set_option maxHeartbeats 4000000 in
set_option maxRecDepth 100000 in
theorem headOkB (k : Nat) (K N : Int) (S Z : ByteArray) (T : S32) (ts : List S32) (l : List S35) (hp : Int) (num nm ht tk ab : Bool) (w : World) (A6 : Option Addr) (c6 : Nat) (A7 : Option Addr) (c7 : Nat) (A8 : Option Addr) (c8 : Nat)
    (r6 : Kd.C k32 w A6 T.f2.length T.f2) (l6 : T.f2.length ≤ c6) (r7 : Kd.C k32 w A7 ts.length ts) (l7 : ts.length ≤ c7) (r8 : Kd.C k35 w A8 l.length l) (l8 : l.length ≤ c8)
    (e1 : impl_parts.f k K = some hp) (e2 : impl_numberOk.f k K N = some num) (e3 : impl_namesOk.f k K S Z = some nm) (e4 : impl_hasT.f K = some ht) (e5 : impl_TyOk.f k T.f0 T.f1 T.f2 = some tk) (e7 : anyT (fun x => (impl_TyOk.f k x.f0 x.f1 x.f2).bind fun t => some (!t)) ts = some ab) (e8 : K = 7 → hp = 2) (e9 : ¬ (K = 7 ∧ 0 < l.length)) :
    Calls Try.prog 214 #[.agg #[.int .i64 K, .int .i64 N, .string S, .string Z, .int .i64 T.f0, .int .i64 T.f1, .slice A6 T.f2.length c6, .slice A7 ts.length c7, .slice A8 l.length c8]] w fun e w' => e = .returned (.bool (headB K ts l hp num nm ht tk (T.f0 == 0 && T.f1 == 0 && T.f2.isEmpty) ab)) ∧ Below w.heap.size w w' := by
  have hu35 := Try.underlying35
  have hu32 := Try.underlying32
  obtain ⟨st, hst⟩ : ∃ st, st = (T.f0 == 0 && T.f1 == 0 && T.f2.isEmpty) := ⟨_, rfl⟩
  rw [← hst]
  have C200 : Aside0 (∀ W, Kd.C k32 W A6 T.f2.length T.f2 → T.f2.length ≤ c6 → Calls Try.prog 200 #[.agg #[.int .i64 T.f0, .int .i64 T.f1, .slice A6 T.f2.length c6], .agg #[.int .i64 0, .int .i64 0, .slice none 0 0]] W fun e w' => e = .returned (.bool st) ∧ Below W.heap.size W w') := ⟨fun W h h2 => by rw [hst]; exact sameTy0 _ _ _ _ _ _ h h2⟩
  clear hst
  have HR6 := Aside0.mk r6
  have HC6 := Aside0.mk l6
  have HR7 := Aside0.mk r7
  have HC7 := Aside0.mk l7
  have HR8 := Aside0.mk r8
  have HC8 := Aside0.mk l8
  have E1 := Aside0.mk e1
  have E2 := Aside0.mk e2
  have E3 := Aside0.mk e3
  have E4 := Aside0.mk e4
  have E5 := Aside0.mk e5
  have E7 := Aside0.mk e7
  have E8 := Aside0.mk e8
  have E9 := Aside0.mk e9
  clear e8 e9
  clear r6 l6 r7 l7 r8 l8 e1 e2 e3 e4 e5 e7
  go_enter Try.func214, Try.ntmps214
  go_upto_region 1 with (first | ((with_reducible refine gate_dst (N := 1) rfl ?_); refine box_event ?hg (N := 1) ?hd (cs := #[.int .i64 K, .int .i64 N, .string S, .string Z, .int .i64 T.f0, .int .i64 T.f1, .slice A6 T.f2.length c6, .slice A7 ts.length c7, .slice A8 l.length c8]) (t := 35) ?hr ?_; (case hd => rfl); (case hg => rfl); (case hr => first | (go_simp; done) | (go_simp; rfl)); intro gb hgb w3 hbox hb3; have HB := Aside0.mk hb3; have BK := Aside0.mk hbox; clear hb3 hbox hgb))
  (try simp only [Act.put, List.setIfInBounds_toArray, List.set_cons_zero, List.set_cons_succ])
  obtain ⟨uq6, huq6_⟩ : ∃ q : Bool, q = ((((l.length : Int) : Int) != (hp : Int))) := ⟨_, rfl⟩
  have huq6 := Aside0.mk huq6_
  clear huq6_
  obtain ⟨uq14, huq14_⟩ : ∃ q : Bool, q = (uq6 || (!num)) := ⟨_, rfl⟩
  have huq14 := Aside0.mk huq14_
  clear huq14_
  obtain ⟨uq24, huq24_⟩ : ∃ q : Bool, q = (uq14 || (!nm)) := ⟨_, rfl⟩
  have huq24 := Aside0.mk huq24_
  clear huq24_
  obtain ⟨uq28, huq28_⟩ : ∃ q : Bool, q = (((K : Int) == (7 : Int))) := ⟨_, rfl⟩
  have huq28 := Aside0.mk huq28_
  clear huq28_
  obtain ⟨uq35, huq35_⟩ : ∃ q : Bool, q = (false) := ⟨_, rfl⟩
  have huq35 := Aside0.mk huq35_
  clear huq35_
  obtain ⟨uq36, huq36_⟩ : ∃ q : Bool, q = (uq28 && uq35) := ⟨_, rfl⟩
  have huq36 := Aside0.mk huq36_
  clear huq36_
  obtain ⟨uq37, huq37_⟩ : ∃ q : Bool, q = (uq24 || uq36) := ⟨_, rfl⟩
  have huq37 := Aside0.mk huq37_
  clear huq37_
  have hdead : uq24 = false → uq28 = true → False := by
    intro h1 h2
    rw [huq24.out, huq14.out, huq6.out] at h1
    rw [huq28.out] at h2
    have hK : K = 7 := by simpa using h2
    have h3 := E8.out hK
    have h4 := E9.out
    simp only [Bool.or_eq_false_iff, bne_eq_false_iff_eq] at h1
    exact h4 ⟨hK, by omega⟩
  obtain ⟨ux, uX0, uX1, uX2, uX3, uX4, uX5, uX6, uX7, uX8, uX9, uX10, uX11, uX12, uX13, uX14, uX15, uX16, uX17, uX18, uX19, uX20, uX21, uX22, uX23, uX24, uX25, uX26, uX27, uX28, uX29, uX30, uX31, uX32, uX33, uX34, uX35, uX36, uX37⟩ : ∃ x : Nat → Value, Aside0 (x 0 = (.pointer (some ⟨gb, 8, none⟩))) ∧ Aside0 (x 1 = (.slice A8 l.length c8)) ∧ Aside0 (x 2 = (.int .i64 (l.length : Int))) ∧ Aside0 (x 3 = (.pointer (some ⟨gb, 0, none⟩))) ∧ Aside0 (x 4 = (.int .i64 K)) ∧ Aside0 (x 5 = ((.int .i64 hp))) ∧ Aside0 (x 6 = (.bool uq6)) ∧ Aside0 (x 7 = (.bool uq6)) ∧ Aside0 (x 8 = (bif !uq6 then (.pointer (some ⟨gb, 0, none⟩)) else undef)) ∧ Aside0 (x 9 = (bif !uq6 then (.int .i64 K) else undef)) ∧ Aside0 (x 10 = (bif !uq6 then (.pointer (some ⟨gb, 1, none⟩)) else undef)) ∧ Aside0 (x 11 = (bif !uq6 then (.int .i64 N) else undef)) ∧ Aside0 (x 12 = (bif !uq6 then ((.bool num)) else undef)) ∧ Aside0 (x 13 = (bif !uq6 then (.bool (!num)) else undef)) ∧ Aside0 (x 14 = (.bool uq14)) ∧ Aside0 (x 15 = (.bool uq14)) ∧ Aside0 (x 16 = (bif !uq14 then (.pointer (some ⟨gb, 0, none⟩)) else undef)) ∧ Aside0 (x 17 = (bif !uq14 then (.int .i64 K) else undef)) ∧ Aside0 (x 18 = (bif !uq14 then (.pointer (some ⟨gb, 2, none⟩)) else undef)) ∧ Aside0 (x 19 = (bif !uq14 then (.string S) else undef)) ∧ Aside0 (x 20 = (bif !uq14 then (.pointer (some ⟨gb, 3, none⟩)) else undef)) ∧ Aside0 (x 21 = (bif !uq14 then (.string Z) else undef)) ∧ Aside0 (x 22 = (bif !uq14 then ((.bool nm)) else undef)) ∧ Aside0 (x 23 = (bif !uq14 then (.bool (!nm)) else undef)) ∧ Aside0 (x 24 = (.bool uq24)) ∧ Aside0 (x 25 = (.bool uq24)) ∧ Aside0 (x 26 = (bif !uq24 then (.pointer (some ⟨gb, 0, none⟩)) else undef)) ∧ Aside0 (x 27 = (bif !uq24 then (.int .i64 K) else undef)) ∧ Aside0 (x 28 = (bif !uq24 then (.bool uq28) else undef)) ∧ Aside0 (x 29 = (bif !uq24 then (.bool uq28) else undef)) ∧ Aside0 (x 30 = (bif (!uq24 && uq28) then (.pointer (some ⟨gb, 8, none⟩)) else undef)) ∧ Aside0 (x 31 = (bif (!uq24 && uq28) then (.slice A8 l.length c8) else undef)) ∧ Aside0 (x 32 = (bif (!uq24 && uq28) then undef else undef)) ∧ Aside0 (x 33 = (bif (!uq24 && uq28) then undef else undef)) ∧ Aside0 (x 34 = (bif (!uq24 && uq28) then (.int .i64 0) else undef)) ∧ Aside0 (x 35 = (bif (!uq24 && uq28) then (.bool uq35) else undef)) ∧ Aside0 (x 36 = (bif !uq24 then (.bool uq36) else undef)) ∧ Aside0 (x 37 = (.bool uq37)) := ⟨fun j => ([(.pointer (some ⟨gb, 8, none⟩)), (.slice A8 l.length c8), (.int .i64 (l.length : Int)), (.pointer (some ⟨gb, 0, none⟩)), (.int .i64 K), ((.int .i64 hp)), (.bool uq6), (.bool uq6), (bif !uq6 then (.pointer (some ⟨gb, 0, none⟩)) else undef), (bif !uq6 then (.int .i64 K) else undef), (bif !uq6 then (.pointer (some ⟨gb, 1, none⟩)) else undef), (bif !uq6 then (.int .i64 N) else undef), (bif !uq6 then ((.bool num)) else undef), (bif !uq6 then (.bool (!num)) else undef), (.bool uq14), (.bool uq14), (bif !uq14 then (.pointer (some ⟨gb, 0, none⟩)) else undef), (bif !uq14 then (.int .i64 K) else undef), (bif !uq14 then (.pointer (some ⟨gb, 2, none⟩)) else undef), (bif !uq14 then (.string S) else undef), (bif !uq14 then (.pointer (some ⟨gb, 3, none⟩)) else undef), (bif !uq14 then (.string Z) else undef), (bif !uq14 then ((.bool nm)) else undef), (bif !uq14 then (.bool (!nm)) else undef), (.bool uq24), (.bool uq24), (bif !uq24 then (.pointer (some ⟨gb, 0, none⟩)) else undef), (bif !uq24 then (.int .i64 K) else undef), (bif !uq24 then (.bool uq28) else undef), (bif !uq24 then (.bool uq28) else undef), (bif (!uq24 && uq28) then (.pointer (some ⟨gb, 8, none⟩)) else undef), (bif (!uq24 && uq28) then (.slice A8 l.length c8) else undef), (bif (!uq24 && uq28) then undef else undef), (bif (!uq24 && uq28) then undef else undef), (bif (!uq24 && uq28) then (.int .i64 0) else undef), (bif (!uq24 && uq28) then (.bool uq35) else undef), (bif !uq24 then (.bool uq36) else undef), (.bool uq37)] : List Value).getD j undef, ⟨rfl⟩, ⟨rfl⟩, ⟨rfl⟩, ⟨rfl⟩, ⟨rfl⟩, ⟨rfl⟩, ⟨rfl⟩, ⟨rfl⟩, ⟨rfl⟩, ⟨rfl⟩, ⟨rfl⟩, ⟨rfl⟩, ⟨rfl⟩, ⟨rfl⟩, ⟨rfl⟩, ⟨rfl⟩, ⟨rfl⟩, ⟨rfl⟩, ⟨rfl⟩, ⟨rfl⟩, ⟨rfl⟩, ⟨rfl⟩, ⟨rfl⟩, ⟨rfl⟩, ⟨rfl⟩, ⟨rfl⟩, ⟨rfl⟩, ⟨rfl⟩, ⟨rfl⟩, ⟨rfl⟩, ⟨rfl⟩, ⟨rfl⟩, ⟨rfl⟩, ⟨rfl⟩, ⟨rfl⟩, ⟨rfl⟩, ⟨rfl⟩, ⟨rfl⟩⟩
  refine region_test (n := 38) (by rfl) (by kernel_rfl) (by kernel_rfl) (fun up => ⟨#[Value.agg #[Value.int .i64 K, Value.int .i64 N, Value.string S, Value.string Z, Value.int .i64 T.f0, Value.int .i64 T.f1, Value.slice A6 T.f2.length c6, Value.slice A7 ts.length c7, Value.slice A8 l.length c8], Value.pointer (some ⟨gb, 0, none⟩), Value.bool false, undef, up 0, up 1, up 2, up 3, up 4, up 5, up 6, up 7, up 8, up 9, up 10, up 11, up 12, up 13, up 14, up 15, up 16, up 17, up 18, up 19, up 20, up 21, up 22, up 23, up 24, up 25, up 26, up 27, up 28, up 29, up 30, up 31, up 32, up 33, up 34, up 35, up 36, up 37, undef, undef, undef, undef, undef, undef, undef, undef, undef, undef, undef, undef, undef, undef, undef, undef, undef, undef, undef, undef, undef, undef, undef, undef, undef, undef, undef, undef, undef, undef, undef, undef, undef, undef], []⟩) ux (fun j => ([(undef), (undef), (undef), (undef), (undef), (undef), (undef), (undef), (undef), (undef), (undef), (undef), (undef), (undef), (undef), (undef), (undef), (undef), (undef), (undef), (undef), (undef), (undef), (undef), (undef), (undef), (undef), (undef), (undef), (undef), (undef), (undef), (undef), (undef), (undef), (undef), (undef), (undef)] : List Value).getD j undef) rfl ?hput ?step ?fin
  case hput =>
    intro i hi o ho p v
    obtain rfl | rfl | rfl | rfl | rfl | rfl | rfl | rfl | rfl | rfl | rfl | rfl | rfl | rfl | rfl | rfl | rfl | rfl | rfl | rfl | rfl | rfl | rfl | rfl | rfl | rfl | rfl | rfl | rfl | rfl | rfl | rfl | rfl | rfl | rfl | rfl | rfl | rfl : i = 0 ∨ i = 1 ∨ i = 2 ∨ i = 3 ∨ i = 4 ∨ i = 5 ∨ i = 6 ∨ i = 7 ∨ i = 8 ∨ i = 9 ∨ i = 10 ∨ i = 11 ∨ i = 12 ∨ i = 13 ∨ i = 14 ∨ i = 15 ∨ i = 16 ∨ i = 17 ∨ i = 18 ∨ i = 19 ∨ i = 20 ∨ i = 21 ∨ i = 22 ∨ i = 23 ∨ i = 24 ∨ i = 25 ∨ i = 26 ∨ i = 27 ∨ i = 28 ∨ i = 29 ∨ i = 30 ∨ i = 31 ∨ i = 32 ∨ i = 33 ∨ i = 34 ∨ i = 35 ∨ i = 36 ∨ i = 37 := by omega
    all_goals (simp only [List.getElem?_toArray, List.getElem?_cons_succ, List.getElem?_cons_zero, Option.some.injEq] at ho; subst ho; rfl)
  case step =>
    intro i hi o ho p w' hb hd
    have hb0 : w'.cell? ⟨gb, 0, none⟩ = some (.int .i64 K) := (blk_cell (blk_below BK.out hb) 0).trans rfl
    have hb1 : w'.cell? ⟨gb, 1, none⟩ = some (.int .i64 N) := (blk_cell (blk_below BK.out hb) 1).trans rfl
    have hb2 : w'.cell? ⟨gb, 2, none⟩ = some (.string S) := (blk_cell (blk_below BK.out hb) 2).trans rfl
    have hb3 : w'.cell? ⟨gb, 3, none⟩ = some (.string Z) := (blk_cell (blk_below BK.out hb) 3).trans rfl
    have hb4 : w'.cell? ⟨gb, 4, none⟩ = some (.int .i64 T.f0) := (blk_cell (blk_below BK.out hb) 4).trans rfl
    have hb5 : w'.cell? ⟨gb, 5, none⟩ = some (.int .i64 T.f1) := (blk_cell (blk_below BK.out hb) 5).trans rfl
    have hb6 : w'.cell? ⟨gb, 6, none⟩ = some (.slice A6 T.f2.length c6) := (blk_cell (blk_below BK.out hb) 6).trans rfl
    have hb7 : w'.cell? ⟨gb, 7, none⟩ = some (.slice A7 ts.length c7) := (blk_cell (blk_below BK.out hb) 7).trans rfl
    have hb8 : w'.cell? ⟨gb, 8, none⟩ = some (.slice A8 l.length c8) := (blk_cell (blk_below BK.out hb) 8).trans rfl
    obtain rfl | rfl | rfl | rfl | rfl | rfl | rfl | rfl | rfl | rfl | rfl | rfl | rfl | rfl | rfl | rfl | rfl | rfl | rfl | rfl | rfl | rfl | rfl | rfl | rfl | rfl | rfl | rfl | rfl | rfl | rfl | rfl | rfl | rfl | rfl | rfl | rfl | rfl : i = 0 ∨ i = 1 ∨ i = 2 ∨ i = 3 ∨ i = 4 ∨ i = 5 ∨ i = 6 ∨ i = 7 ∨ i = 8 ∨ i = 9 ∨ i = 10 ∨ i = 11 ∨ i = 12 ∨ i = 13 ∨ i = 14 ∨ i = 15 ∨ i = 16 ∨ i = 17 ∨ i = 18 ∨ i = 19 ∨ i = 20 ∨ i = 21 ∨ i = 22 ∨ i = 23 ∨ i = 24 ∨ i = 25 ∨ i = 26 ∨ i = 27 ∨ i = 28 ∨ i = 29 ∨ i = 30 ∨ i = 31 ∨ i = 32 ∨ i = 33 ∨ i = 34 ∨ i = 35 ∨ i = 36 ∨ i = 37 := by omega
    all_goals (simp only [List.getElem?_toArray, List.getElem?_cons_succ, List.getElem?_cons_zero, Option.some.injEq] at ho; subst ho; dsimp only)
    · rw [uX0.out]
      clear hd
      refine t_run (w := w') (v := (.pointer (some ⟨gb, 8, none⟩))) rfl ?_ rfl hb; first | (go_simp; done) | (go_simp; rfl) | (go_simp; simp [bne]; done) | (simp [*]; done)
    · rw [uX1.out, (hd 0 rfl).trans uX0.out]
      clear hd
      refine t_run (w := w') (v := (.slice A8 l.length c8)) rfl ?_ rfl hb; first | (go_simp; done) | (go_simp; rfl) | (go_simp; simp [bne]; done) | (simp [*]; done)
    · rw [uX2.out, (hd 1 rfl).trans uX1.out]
      clear hd
      refine t_run (w := w') (v := (.int .i64 (l.length : Int))) rfl ?_ rfl hb; first | (go_simp; done) | (go_simp; rfl) | (go_simp; simp [bne]; done) | (simp [*]; done)
    · rw [uX3.out]
      clear hd
      refine t_run (w := w') (v := (.pointer (some ⟨gb, 0, none⟩))) rfl ?_ rfl hb; first | (go_simp; done) | (go_simp; rfl) | (go_simp; simp [bne]; done) | (simp [*]; done)
    · rw [uX4.out, (hd 3 rfl).trans uX3.out]
      clear hd
      refine t_run (w := w') (v := (.int .i64 K)) rfl ?_ rfl hb; first | (go_simp; done) | (go_simp; rfl) | (go_simp; simp [bne]; done) | (simp [*]; done)
    · rw [uX5.out, (hd 4 rfl).trans uX4.out]
      clear hd
      (refine t_call (f := 261) rfl Try.func261 (by kernel_rfl) rfl #[(.int .i64 K)] rfl (by simp only [List.map_toArray, List.map_cons, List.map_nil]; rfl) ?_; refine (impl_parts.calls k K hp _ E1.out).mono ?_; rintro e w2 ⟨rfl, hb2⟩; exact ⟨rfl, below_step hb hb2.below⟩)
    · rw [uX6.out, (hd 2 rfl).trans uX2.out, (hd 5 rfl).trans uX5.out]
      clear hd
      refine t_run (w := w') (v := (.bool uq6)) rfl ?_ rfl hb; rw [huq6.out]; first | (go_simp; done) | (go_simp; rfl) | (go_simp; simp [bne]; done) | (simp [*]; done)
    · rw [uX7.out, (hd 6 rfl).trans uX6.out]
      clear hd
      refine t_run (w := w') (v := (.bool uq6)) rfl ?_ rfl hb; first | (go_simp; done) | (go_simp; rfl) | (go_simp; simp [bne]; done) | (simp [*]; done)
    · rw [uX8.out, (hd 7 rfl).trans uX7.out]
      clear hd
      cases uq6 <;> (first | exact t_skip rfl rfl | (refine t_run (w := w') (v := (.pointer (some ⟨gb, 0, none⟩))) rfl ?_ rfl hb; first | (go_simp; done) | (go_simp; rfl) | (go_simp; simp [bne]; done) | (simp [*]; done)))
    · rw [uX9.out, (hd 7 rfl).trans uX7.out, (hd 8 rfl).trans uX8.out]
      clear hd
      cases uq6 <;> (first | exact t_skip rfl rfl | (refine t_run (w := w') (v := (.int .i64 K)) rfl ?_ rfl hb; first | (go_simp; done) | (go_simp; rfl) | (go_simp; simp [bne]; done) | (simp [*]; done)))
    · rw [uX10.out, (hd 7 rfl).trans uX7.out]
      clear hd
      cases uq6 <;> (first | exact t_skip rfl rfl | (refine t_run (w := w') (v := (.pointer (some ⟨gb, 1, none⟩))) rfl ?_ rfl hb; first | (go_simp; done) | (go_simp; rfl) | (go_simp; simp [bne]; done) | (simp [*]; done)))
    · rw [uX11.out, (hd 7 rfl).trans uX7.out, (hd 10 rfl).trans uX10.out]
      clear hd
      cases uq6 <;> (first | exact t_skip rfl rfl | (refine t_run (w := w') (v := (.int .i64 N)) rfl ?_ rfl hb; first | (go_simp; done) | (go_simp; rfl) | (go_simp; simp [bne]; done) | (simp [*]; done)))
    · rw [uX12.out, (hd 7 rfl).trans uX7.out, (hd 9 rfl).trans uX9.out, (hd 11 rfl).trans uX11.out]
      clear hd
      cases uq6 <;> (first | exact t_skip rfl rfl | (refine t_call (f := 262) rfl Try.func262 (by kernel_rfl) rfl #[(.int .i64 K), (.int .i64 N)] rfl (by simp only [List.map_toArray, List.map_cons, List.map_nil]; rfl) ?_; refine (impl_numberOk.calls k K N num _ E2.out).mono ?_; rintro e w2 ⟨rfl, hb2⟩; exact ⟨rfl, below_step hb hb2.below⟩))
    · rw [uX13.out, (hd 7 rfl).trans uX7.out, (hd 12 rfl).trans uX12.out]
      clear hd
      cases uq6 <;> (first | exact t_skip rfl rfl | (refine t_run (w := w') (v := (.bool (!num))) rfl ?_ rfl hb; first | (go_simp; done) | (go_simp; rfl) | (go_simp; simp [bne]; done) | (simp [*]; done)))
    · rw [uX14.out, (hd 7 rfl).trans uX7.out, (hd 13 rfl).trans uX13.out]
      clear hd
      cases uq6 <;> (refine t_run (w := w') (v := (.bool uq14)) rfl ?_ rfl hb; rw [huq14.out]; first | (go_simp; done) | (go_simp; rfl) | (go_simp; simp [bne]; done) | (simp [*]; done))
    · rw [uX15.out, (hd 14 rfl).trans uX14.out]
      clear hd
      refine t_run (w := w') (v := (.bool uq14)) rfl ?_ rfl hb; first | (go_simp; done) | (go_simp; rfl) | (go_simp; simp [bne]; done) | (simp [*]; done)
    · rw [uX16.out, (hd 15 rfl).trans uX15.out]
      clear hd
      cases uq14 <;> (first | exact t_skip rfl rfl | (refine t_run (w := w') (v := (.pointer (some ⟨gb, 0, none⟩))) rfl ?_ rfl hb; first | (go_simp; done) | (go_simp; rfl) | (go_simp; simp [bne]; done) | (simp [*]; done)))
    · rw [uX17.out, (hd 15 rfl).trans uX15.out, (hd 16 rfl).trans uX16.out]
      clear hd
      cases uq14 <;> (first | exact t_skip rfl rfl | (refine t_run (w := w') (v := (.int .i64 K)) rfl ?_ rfl hb; first | (go_simp; done) | (go_simp; rfl) | (go_simp; simp [bne]; done) | (simp [*]; done)))
    · rw [uX18.out, (hd 15 rfl).trans uX15.out]
      clear hd
      cases uq14 <;> (first | exact t_skip rfl rfl | (refine t_run (w := w') (v := (.pointer (some ⟨gb, 2, none⟩))) rfl ?_ rfl hb; first | (go_simp; done) | (go_simp; rfl) | (go_simp; simp [bne]; done) | (simp [*]; done)))
    · rw [uX19.out, (hd 15 rfl).trans uX15.out, (hd 18 rfl).trans uX18.out]
      clear hd
      cases uq14 <;> (first | exact t_skip rfl rfl | (refine t_run (w := w') (v := (.string S)) rfl ?_ rfl hb; first | (go_simp; done) | (go_simp; rfl) | (go_simp; simp [bne]; done) | (simp [*]; done)))
    · rw [uX20.out, (hd 15 rfl).trans uX15.out]
      clear hd
      cases uq14 <;> (first | exact t_skip rfl rfl | (refine t_run (w := w') (v := (.pointer (some ⟨gb, 3, none⟩))) rfl ?_ rfl hb; first | (go_simp; done) | (go_simp; rfl) | (go_simp; simp [bne]; done) | (simp [*]; done)))
    · rw [uX21.out, (hd 15 rfl).trans uX15.out, (hd 20 rfl).trans uX20.out]
      clear hd
      cases uq14 <;> (first | exact t_skip rfl rfl | (refine t_run (w := w') (v := (.string Z)) rfl ?_ rfl hb; first | (go_simp; done) | (go_simp; rfl) | (go_simp; simp [bne]; done) | (simp [*]; done)))
    · rw [uX22.out, (hd 15 rfl).trans uX15.out, (hd 17 rfl).trans uX17.out, (hd 19 rfl).trans uX19.out, (hd 21 rfl).trans uX21.out]
      clear hd
      cases uq14 <;> (first | exact t_skip rfl rfl | (refine t_call (f := 263) rfl Try.func263 (by kernel_rfl) rfl #[(.int .i64 K), (.string S), (.string Z)] rfl (by simp only [List.map_toArray, List.map_cons, List.map_nil]; rfl) ?_; refine (impl_namesOk.calls k K S Z nm _ E3.out).mono ?_; rintro e w2 ⟨rfl, hb2⟩; exact ⟨rfl, below_step hb hb2.below⟩))
    · rw [uX23.out, (hd 15 rfl).trans uX15.out, (hd 22 rfl).trans uX22.out]
      clear hd
      cases uq14 <;> (first | exact t_skip rfl rfl | (refine t_run (w := w') (v := (.bool (!nm))) rfl ?_ rfl hb; first | (go_simp; done) | (go_simp; rfl) | (go_simp; simp [bne]; done) | (simp [*]; done)))
    · rw [uX24.out, (hd 15 rfl).trans uX15.out, (hd 23 rfl).trans uX23.out]
      clear hd
      cases uq14 <;> (refine t_run (w := w') (v := (.bool uq24)) rfl ?_ rfl hb; rw [huq24.out]; first | (go_simp; done) | (go_simp; rfl) | (go_simp; simp [bne]; done) | (simp [*]; done))
    · rw [uX25.out, (hd 24 rfl).trans uX24.out]
      clear hd
      refine t_run (w := w') (v := (.bool uq24)) rfl ?_ rfl hb; first | (go_simp; done) | (go_simp; rfl) | (go_simp; simp [bne]; done) | (simp [*]; done)
    · rw [uX26.out, (hd 25 rfl).trans uX25.out]
      clear hd
      cases uq24 <;> (first | exact t_skip rfl rfl | (refine t_run (w := w') (v := (.pointer (some ⟨gb, 0, none⟩))) rfl ?_ rfl hb; first | (go_simp; done) | (go_simp; rfl) | (go_simp; simp [bne]; done) | (simp [*]; done)))
    · rw [uX27.out, (hd 25 rfl).trans uX25.out, (hd 26 rfl).trans uX26.out]
      clear hd
      cases uq24 <;> (first | exact t_skip rfl rfl | (refine t_run (w := w') (v := (.int .i64 K)) rfl ?_ rfl hb; first | (go_simp; done) | (go_simp; rfl) | (go_simp; simp [bne]; done) | (simp [*]; done)))
    · rw [uX28.out, (hd 25 rfl).trans uX25.out, (hd 27 rfl).trans uX27.out]
      clear hd
      cases uq24 <;> (first | exact t_skip rfl rfl | (refine t_run (w := w') (v := (.bool uq28)) rfl ?_ rfl hb; rw [huq28.out]; first | (go_simp; done) | (go_simp; rfl) | (go_simp; simp [bne]; done) | (simp [*]; done)))
    · rw [uX29.out, (hd 25 rfl).trans uX25.out, (hd 28 rfl).trans uX28.out]
      clear hd
      cases uq24 <;> (first | exact t_skip rfl rfl | (refine t_run (w := w') (v := (.bool uq28)) rfl ?_ rfl hb; first | (go_simp; done) | (go_simp; rfl) | (go_simp; simp [bne]; done) | (simp [*]; done)))
    · rw [uX30.out, (hd 29 rfl).trans uX29.out]
      clear hd
      cases uq24 <;> cases uq28 <;> (first | exact t_skip rfl rfl | (exact (hdead rfl rfl).elim))
    · rw [uX31.out, (hd 29 rfl).trans uX29.out, (hd 30 rfl).trans uX30.out]
      clear hd
      cases uq24 <;> cases uq28 <;> (first | exact t_skip rfl rfl | (exact (hdead rfl rfl).elim))
    · rw [uX32.out, (hd 29 rfl).trans uX29.out, (hd 31 rfl).trans uX31.out]
      clear hd
      cases uq24 <;> cases uq28 <;> (first | exact t_skip rfl rfl | (exact (hdead rfl rfl).elim))
    · rw [uX33.out, (hd 29 rfl).trans uX29.out, (hd 32 rfl).trans uX32.out]
      clear hd
      cases uq24 <;> cases uq28 <;> (first | exact t_skip rfl rfl | (exact (hdead rfl rfl).elim))
    · rw [uX34.out, (hd 29 rfl).trans uX29.out, (hd 33 rfl).trans uX33.out]
      clear hd
      cases uq24 <;> cases uq28 <;> (first | exact t_skip rfl rfl | (exact (hdead rfl rfl).elim))
    · rw [uX35.out, (hd 29 rfl).trans uX29.out, (hd 34 rfl).trans uX34.out]
      clear hd
      cases uq24 <;> cases uq28 <;> (first | exact t_skip rfl rfl | (exact (hdead rfl rfl).elim))
    · rw [uX36.out, (hd 25 rfl).trans uX25.out, (hd 29 rfl).trans uX29.out, (hd 35 rfl).trans uX35.out]
      clear hd
      cases uq24 <;> cases uq28 <;> (first | exact t_skip rfl rfl | (refine t_run (w := w') (v := (.bool uq36)) rfl ?_ rfl hb; rw [huq36.out]; first | (go_simp; done) | (go_simp; rfl) | (go_simp; simp [bne]; done) | (simp [*]; done)))
    · rw [uX37.out, (hd 25 rfl).trans uX25.out, (hd 36 rfl).trans uX36.out]
      clear hd
      cases uq24 <;> (refine t_run (w := w') (v := (.bool uq37)) rfl ?_ rfl hb; rw [huq37.out]; first | (go_simp; done) | (go_simp; rfl) | (go_simp; simp [bne]; done) | (simp [*]; done))
  case fin =>
    intro up w7 hp_ hb
    have e37 : up 37 = (.bool uq37) := (hp_ 37 (by decide)).trans uX37.out
    have hbad : uq37 = (((((l.length : Int) != hp) || !num) || !nm) || ((K == 7) && false)) := by simp only [huq37.out, huq36.out, huq35.out, huq28.out, huq24.out, huq14.out, huq6.out]
    dsimp only
    rw [e37]
    clear hp_ e37 uX0 uX1 uX2 uX3 uX4 uX5 uX6 uX7 uX8 uX9 uX10 uX11 uX12 uX13 uX14 uX15 uX16 uX17 uX18 uX19 uX20 uX21 uX22 uX23 uX24 uX25 uX26 uX27 uX28 uX29 uX30 uX31 uX32 uX33 uX34 uX35 uX36 uX37
    have HB := Aside0.mk (below_step HB.out hb)
    have BK := Aside0.mk (blk_below BK.out hb)
    clear hb huq6 huq14 huq24 huq28 huq35 huq36
    have HBADu := Aside0.mk hbad
    clear hbad huq37 hdead
    cases huu : uq37 with
    | true =>
      rw [huu] at HBADu
      have HTIE : ((((l.length : Int) != hp) || !num || !nm) || ((K == 7) && fstNot l)) = true := by
        have h0 := HBADu.out
        have h9 := E9.out
        cases l with
        | nil => exact h0.symm
        | cons y s =>
          have h7 : (K == 7) = false := by simpa using h9
          rw [h7] at h0 ⊢
          exact h0.symm
      have HT := Aside0.mk HTIE
      clear HTIE
      go_wp2
      go_ret
      exact ⟨by unfold headB; (try dsimp only); rw [HT.out]; rfl, HB.out⟩
    | false =>
      rw [huu] at HBADu
      have HTIE : ((((l.length : Int) != hp) || !num || !nm) || ((K == 7) && fstNot l)) = false := by
        have h0 := HBADu.out
        have h9 := E9.out
        cases l with
        | nil => exact h0.symm
        | cons y s =>
          have h7 : (K == 7) = false := by simpa using h9
          rw [h7] at h0 ⊢
          exact h0.symm
      have HT := Aside0.mk HTIE
      clear HTIE huu
      go_upto_region 3 with (fail)
      obtain ⟨vq6, hvq6_⟩ : ∃ q : Bool, q = ((ht != tk)) := ⟨_, rfl⟩
      have hvq6 := Aside0.mk hvq6_
      clear hvq6_
      obtain ⟨vq18, hvq18_⟩ : ∃ q : Bool, q = ((!ht) && (!st)) := ⟨_, rfl⟩
      have hvq18 := Aside0.mk hvq18_
      clear hvq18_
      obtain ⟨vq19, hvq19_⟩ : ∃ q : Bool, q = (vq6 || vq18) := ⟨_, rfl⟩
      have hvq19 := Aside0.mk hvq19_
      clear hvq19_
      obtain ⟨vx, vX0, vX1, vX2, vX3, vX4, vX5, vX6, vX7, vX8, vX9, vX10, vX11, vX12, vX13, vX14, vX15, vX16, vX17, vX18, vX19⟩ : ∃ x : Nat → Value, Aside0 (x 0 = (.pointer (some ⟨gb, 0, none⟩))) ∧ Aside0 (x 1 = (.int .i64 K)) ∧ Aside0 (x 2 = ((.bool ht))) ∧ Aside0 (x 3 = (.pointer (some ⟨gb, 4, none⟩))) ∧ Aside0 (x 4 = (.agg #[.int .i64 T.f0, .int .i64 T.f1, .slice A6 T.f2.length c6])) ∧ Aside0 (x 5 = ((.bool tk))) ∧ Aside0 (x 6 = (.bool vq6)) ∧ Aside0 (x 7 = (.bool vq6)) ∧ Aside0 (x 8 = (bif !vq6 then (.pointer (some ⟨gb, 0, none⟩)) else undef)) ∧ Aside0 (x 9 = (bif !vq6 then (.int .i64 K) else undef)) ∧ Aside0 (x 10 = (bif !vq6 then ((.bool ht)) else undef)) ∧ Aside0 (x 11 = (bif !vq6 then (.bool (!ht)) else undef)) ∧ Aside0 (x 12 = (bif !vq6 then (.bool (!ht)) else undef)) ∧ Aside0 (x 13 = (bif (!vq6 && (!ht)) then (.pointer (some ⟨gb, 4, none⟩)) else undef)) ∧ Aside0 (x 14 = (bif (!vq6 && (!ht)) then (.agg #[.int .i64 T.f0, .int .i64 T.f1, .slice A6 T.f2.length c6]) else undef)) ∧ Aside0 (x 15 = (bif (!vq6 && (!ht)) then (.agg #[.int .i64 0, .int .i64 0, .slice none 0 0]) else undef)) ∧ Aside0 (x 16 = (bif (!vq6 && (!ht)) then ((.bool st)) else undef)) ∧ Aside0 (x 17 = (bif (!vq6 && (!ht)) then (.bool (!st)) else undef)) ∧ Aside0 (x 18 = (bif !vq6 then (.bool vq18) else undef)) ∧ Aside0 (x 19 = (.bool vq19)) := ⟨fun j => ([(.pointer (some ⟨gb, 0, none⟩)), (.int .i64 K), ((.bool ht)), (.pointer (some ⟨gb, 4, none⟩)), (.agg #[.int .i64 T.f0, .int .i64 T.f1, .slice A6 T.f2.length c6]), ((.bool tk)), (.bool vq6), (.bool vq6), (bif !vq6 then (.pointer (some ⟨gb, 0, none⟩)) else undef), (bif !vq6 then (.int .i64 K) else undef), (bif !vq6 then ((.bool ht)) else undef), (bif !vq6 then (.bool (!ht)) else undef), (bif !vq6 then (.bool (!ht)) else undef), (bif (!vq6 && (!ht)) then (.pointer (some ⟨gb, 4, none⟩)) else undef), (bif (!vq6 && (!ht)) then (.agg #[.int .i64 T.f0, .int .i64 T.f1, .slice A6 T.f2.length c6]) else undef), (bif (!vq6 && (!ht)) then (.agg #[.int .i64 0, .int .i64 0, .slice none 0 0]) else undef), (bif (!vq6 && (!ht)) then ((.bool st)) else undef), (bif (!vq6 && (!ht)) then (.bool (!st)) else undef), (bif !vq6 then (.bool vq18) else undef), (.bool vq19)] : List Value).getD j undef, ⟨rfl⟩, ⟨rfl⟩, ⟨rfl⟩, ⟨rfl⟩, ⟨rfl⟩, ⟨rfl⟩, ⟨rfl⟩, ⟨rfl⟩, ⟨rfl⟩, ⟨rfl⟩, ⟨rfl⟩, ⟨rfl⟩, ⟨rfl⟩, ⟨rfl⟩, ⟨rfl⟩, ⟨rfl⟩, ⟨rfl⟩, ⟨rfl⟩, ⟨rfl⟩, ⟨rfl⟩⟩
      refine region_test (n := 20) (by rfl) (by kernel_rfl) (by kernel_rfl) (fun vp => ⟨#[Value.agg #[Value.int .i64 K, Value.int .i64 N, Value.string S, Value.string Z, Value.int .i64 T.f0, Value.int .i64 T.f1, Value.slice A6 T.f2.length c6, Value.slice A7 ts.length c7, Value.slice A8 l.length c8], Value.pointer (some ⟨gb, 0, none⟩), Value.bool false, undef, up 0, up 1, up 2, up 3, up 4, up 5, up 6, up 7, up 8, up 9, up 10, up 11, up 12, up 13, up 14, up 15, up 16, up 17, up 18, up 19, up 20, up 21, up 22, up 23, up 24, up 25, up 26, up 27, up 28, up 29, up 30, up 31, up 32, up 33, up 34, up 35, up 36, Value.bool false, vp 0, vp 1, vp 2, vp 3, vp 4, vp 5, vp 6, vp 7, vp 8, vp 9, vp 10, vp 11, vp 12, vp 13, vp 14, vp 15, vp 16, vp 17, vp 18, vp 19, undef, undef, undef, undef, undef, undef, undef, undef, undef, undef, undef, undef, undef, undef], []⟩) vx (fun j => ([(undef), (undef), (undef), (undef), (undef), (undef), (undef), (undef), (undef), (undef), (undef), (undef), (undef), (undef), (undef), (undef), (undef), (undef), (undef), (undef)] : List Value).getD j undef) rfl ?hput ?step ?fin
      case hput =>
        intro i hi o ho p v
        obtain rfl | rfl | rfl | rfl | rfl | rfl | rfl | rfl | rfl | rfl | rfl | rfl | rfl | rfl | rfl | rfl | rfl | rfl | rfl | rfl : i = 0 ∨ i = 1 ∨ i = 2 ∨ i = 3 ∨ i = 4 ∨ i = 5 ∨ i = 6 ∨ i = 7 ∨ i = 8 ∨ i = 9 ∨ i = 10 ∨ i = 11 ∨ i = 12 ∨ i = 13 ∨ i = 14 ∨ i = 15 ∨ i = 16 ∨ i = 17 ∨ i = 18 ∨ i = 19 := by omega
        all_goals (simp only [List.getElem?_toArray, List.getElem?_cons_succ, List.getElem?_cons_zero, Option.some.injEq] at ho; subst ho; rfl)
      case step =>
        intro i hi o ho p w' hb hd
        have hb0 : w'.cell? ⟨gb, 0, none⟩ = some (.int .i64 K) := (blk_cell (blk_below BK.out hb) 0).trans rfl
        have hb1 : w'.cell? ⟨gb, 1, none⟩ = some (.int .i64 N) := (blk_cell (blk_below BK.out hb) 1).trans rfl
        have hb2 : w'.cell? ⟨gb, 2, none⟩ = some (.string S) := (blk_cell (blk_below BK.out hb) 2).trans rfl
        have hb3 : w'.cell? ⟨gb, 3, none⟩ = some (.string Z) := (blk_cell (blk_below BK.out hb) 3).trans rfl
        have hb4 : w'.cell? ⟨gb, 4, none⟩ = some (.int .i64 T.f0) := (blk_cell (blk_below BK.out hb) 4).trans rfl
        have hb5 : w'.cell? ⟨gb, 5, none⟩ = some (.int .i64 T.f1) := (blk_cell (blk_below BK.out hb) 5).trans rfl
        have hb6 : w'.cell? ⟨gb, 6, none⟩ = some (.slice A6 T.f2.length c6) := (blk_cell (blk_below BK.out hb) 6).trans rfl
        have hb7 : w'.cell? ⟨gb, 7, none⟩ = some (.slice A7 ts.length c7) := (blk_cell (blk_below BK.out hb) 7).trans rfl
        have hb8 : w'.cell? ⟨gb, 8, none⟩ = some (.slice A8 l.length c8) := (blk_cell (blk_below BK.out hb) 8).trans rfl
        obtain rfl | rfl | rfl | rfl | rfl | rfl | rfl | rfl | rfl | rfl | rfl | rfl | rfl | rfl | rfl | rfl | rfl | rfl | rfl | rfl : i = 0 ∨ i = 1 ∨ i = 2 ∨ i = 3 ∨ i = 4 ∨ i = 5 ∨ i = 6 ∨ i = 7 ∨ i = 8 ∨ i = 9 ∨ i = 10 ∨ i = 11 ∨ i = 12 ∨ i = 13 ∨ i = 14 ∨ i = 15 ∨ i = 16 ∨ i = 17 ∨ i = 18 ∨ i = 19 := by omega
        all_goals (simp only [List.getElem?_toArray, List.getElem?_cons_succ, List.getElem?_cons_zero, Option.some.injEq] at ho; subst ho; dsimp only)
        · rw [vX0.out]
          clear hd
          refine t_run (w := w') (v := (.pointer (some ⟨gb, 0, none⟩))) rfl ?_ rfl hb; first | (go_simp; done) | (go_simp; rfl) | (go_simp; simp [bne]; done) | (simp [*]; done)
        · rw [vX1.out, (hd 0 rfl).trans vX0.out]
          clear hd
          refine t_run (w := w') (v := (.int .i64 K)) rfl ?_ rfl hb; first | (go_simp; done) | (go_simp; rfl) | (go_simp; simp [bne]; done) | (simp [*]; done)
        · rw [vX2.out, (hd 1 rfl).trans vX1.out]
          clear hd
          (refine t_call (f := 252) rfl Try.func252 (by kernel_rfl) rfl #[(.int .i64 K)] rfl (by simp only [List.map_toArray, List.map_cons, List.map_nil]; rfl) ?_; refine (impl_hasT.calls K ht _ E4.out).mono ?_; rintro e w2 ⟨rfl, hb2⟩; exact ⟨rfl, below_step hb hb2.below⟩)
        · rw [vX3.out]
          clear hd
          refine t_run (w := w') (v := (.pointer (some ⟨gb, 4, none⟩))) rfl ?_ rfl hb; first | (go_simp; done) | (go_simp; rfl) | (go_simp; simp [bne]; done) | (simp [*]; done)
        · rw [vX4.out, (hd 3 rfl).trans vX3.out]
          clear hd
          refine t_run (w := w') (v := (.agg #[.int .i64 T.f0, .int .i64 T.f1, .slice A6 T.f2.length c6])) rfl ?_ rfl hb; first | (go_simp; done) | (go_simp; rfl) | (go_simp; simp [bne]; done) | (simp [*]; done)
        · rw [vX5.out, (hd 4 rfl).trans vX4.out]
          clear hd
          (refine t_call (f := 264) rfl Try.func264 (by kernel_rfl) rfl #[(.agg #[.int .i64 T.f0, .int .i64 T.f1, .slice A6 T.f2.length c6])] rfl (by simp only [List.map_toArray, List.map_cons, List.map_nil]; rfl) ?_; refine (impl_TyOk.calls k T.f0 T.f1 A6 c6 T.f2 tk _ (Kd.C_below HR6.out (below_step HB.out hb)) HC6.out E5.out).mono ?_; rintro e w2 ⟨rfl, hb2⟩; exact ⟨rfl, below_step hb hb2⟩)
        · rw [vX6.out, (hd 2 rfl).trans vX2.out, (hd 5 rfl).trans vX5.out]
          clear hd
          refine t_run (w := w') (v := (.bool vq6)) rfl ?_ rfl hb; rw [hvq6.out]; first | (go_simp; done) | (go_simp; rfl) | (go_simp; simp [bne]; done) | (simp [*]; done)
        · rw [vX7.out, (hd 6 rfl).trans vX6.out]
          clear hd
          refine t_run (w := w') (v := (.bool vq6)) rfl ?_ rfl hb; first | (go_simp; done) | (go_simp; rfl) | (go_simp; simp [bne]; done) | (simp [*]; done)
        · rw [vX8.out, (hd 7 rfl).trans vX7.out]
          clear hd
          cases vq6 <;> (first | exact t_skip rfl rfl | (refine t_run (w := w') (v := (.pointer (some ⟨gb, 0, none⟩))) rfl ?_ rfl hb; first | (go_simp; done) | (go_simp; rfl) | (go_simp; simp [bne]; done) | (simp [*]; done)))
        · rw [vX9.out, (hd 7 rfl).trans vX7.out, (hd 8 rfl).trans vX8.out]
          clear hd
          cases vq6 <;> (first | exact t_skip rfl rfl | (refine t_run (w := w') (v := (.int .i64 K)) rfl ?_ rfl hb; first | (go_simp; done) | (go_simp; rfl) | (go_simp; simp [bne]; done) | (simp [*]; done)))
        · rw [vX10.out, (hd 7 rfl).trans vX7.out, (hd 9 rfl).trans vX9.out]
          clear hd
          cases vq6 <;> (first | exact t_skip rfl rfl | (refine t_call (f := 252) rfl Try.func252 (by kernel_rfl) rfl #[(.int .i64 K)] rfl (by simp only [List.map_toArray, List.map_cons, List.map_nil]; rfl) ?_; refine (impl_hasT.calls K ht _ E4.out).mono ?_; rintro e w2 ⟨rfl, hb2⟩; exact ⟨rfl, below_step hb hb2.below⟩))
        · rw [vX11.out, (hd 7 rfl).trans vX7.out, (hd 10 rfl).trans vX10.out]
          clear hd
          cases vq6 <;> (first | exact t_skip rfl rfl | (refine t_run (w := w') (v := (.bool (!ht))) rfl ?_ rfl hb; first | (go_simp; done) | (go_simp; rfl) | (go_simp; simp [bne]; done) | (simp [*]; done)))
        · rw [vX12.out, (hd 7 rfl).trans vX7.out, (hd 11 rfl).trans vX11.out]
          clear hd
          cases vq6 <;> (first | exact t_skip rfl rfl | (refine t_run (w := w') (v := (.bool (!ht))) rfl ?_ rfl hb; first | (go_simp; done) | (go_simp; rfl) | (go_simp; simp [bne]; done) | (simp [*]; done)))
        · rw [vX13.out, (hd 12 rfl).trans vX12.out]
          clear hd
          cases ht <;> cases vq6 <;> (first | exact t_skip rfl rfl | (refine t_run (w := w') (v := (.pointer (some ⟨gb, 4, none⟩))) rfl ?_ rfl hb; first | (go_simp; done) | (go_simp; rfl) | (go_simp; simp [bne]; done) | (simp [*]; done)))
        · rw [vX14.out, (hd 12 rfl).trans vX12.out, (hd 13 rfl).trans vX13.out]
          clear hd
          cases ht <;> cases vq6 <;> (first | exact t_skip rfl rfl | (refine t_run (w := w') (v := (.agg #[.int .i64 T.f0, .int .i64 T.f1, .slice A6 T.f2.length c6])) rfl ?_ rfl hb; first | (go_simp; done) | (go_simp; rfl) | (go_simp; simp [bne]; done) | (simp [*]; done)))
        · rw [vX15.out, (hd 12 rfl).trans vX12.out]
          clear hd
          cases ht <;> cases vq6 <;> (first | exact t_skip rfl rfl | (refine t_run (w := w') (v := (.agg #[.int .i64 0, .int .i64 0, .slice none 0 0])) rfl ?_ rfl hb; first | (go_simp; done) | (go_simp; rfl) | (go_simp; simp [bne]; done) | (simp [*]; done)))
        · rw [vX16.out, (hd 12 rfl).trans vX12.out, (hd 14 rfl).trans vX14.out, (hd 15 rfl).trans vX15.out]
          clear hd
          cases ht <;> cases vq6 <;> (first | exact t_skip rfl rfl | (refine t_call (f := 200) rfl Try.func200 (by kernel_rfl) rfl #[(.agg #[.int .i64 T.f0, .int .i64 T.f1, .slice A6 T.f2.length c6]), (.agg #[.int .i64 0, .int .i64 0, .slice none 0 0])] rfl (by simp only [List.map_toArray, List.map_cons, List.map_nil]; rfl) ?_; refine (C200.out _ (Kd.C_below HR6.out (below_step HB.out hb)) HC6.out).mono ?_; rintro e w2 ⟨rfl, hb2⟩; exact ⟨rfl, below_step hb hb2⟩))
        · rw [vX17.out, (hd 12 rfl).trans vX12.out, (hd 16 rfl).trans vX16.out]
          clear hd
          cases ht <;> cases vq6 <;> (first | exact t_skip rfl rfl | (refine t_run (w := w') (v := (.bool (!st))) rfl ?_ rfl hb; first | (go_simp; done) | (go_simp; rfl) | (go_simp; simp [bne]; done) | (simp [*]; done)))
        · rw [vX18.out, (hd 7 rfl).trans vX7.out, (hd 12 rfl).trans vX12.out, (hd 17 rfl).trans vX17.out]
          clear hd
          cases ht <;> cases vq6 <;> (first | exact t_skip rfl rfl | (refine t_run (w := w') (v := (.bool vq18)) rfl ?_ rfl hb; rw [hvq18.out]; first | (go_simp; done) | (go_simp; rfl) | (go_simp; simp [bne]; done) | (simp [*]; done)))
        · rw [vX19.out, (hd 7 rfl).trans vX7.out, (hd 18 rfl).trans vX18.out]
          clear hd
          cases vq6 <;> (refine t_run (w := w') (v := (.bool vq19)) rfl ?_ rfl hb; rw [hvq19.out]; first | (go_simp; done) | (go_simp; rfl) | (go_simp; simp [bne]; done) | (simp [*]; done))
      case fin =>
        intro vp w8 hp_ hb
        have e19 : vp 19 = (.bool vq19) := (hp_ 19 (by decide)).trans vX19.out
        have hbad : vq19 = ((ht != tk) || (!ht && !st)) := by simp only [hvq19.out, hvq18.out, hvq6.out]
        dsimp only
        rw [e19]
        clear hp_ e19 vX0 vX1 vX2 vX3 vX4 vX5 vX6 vX7 vX8 vX9 vX10 vX11 vX12 vX13 vX14 vX15 vX16 vX17 vX18 vX19
        have HB := Aside0.mk (below_step HB.out hb)
        have BK := Aside0.mk (blk_below BK.out hb)
        clear hb hvq6 hvq18
        have HBADv := Aside0.mk hbad
        clear hbad hvq19
        cases huv : vq19 with
        | true =>
          rw [huv] at HBADv
          go_wp2
          go_ret
          exact ⟨by unfold headB; (try dsimp only); rw [HT.out, ← HBADv.out]; rfl, HB.out⟩
        | false =>
          rw [huv] at HBADv
          clear huv
          have hz0 : w8.cell? ⟨gb, 0, none⟩ = some (.int .i64 K) := (blk_cell BK.out 0).trans rfl
          have hz7 : w8.cell? ⟨gb, 7, none⟩ = some (.slice A7 ts.length c7) := (blk_cell BK.out 7).trans rfl
          have fini : ∀ b, b = (decide ((ts.length : Int) ≤ (if K = 3 then 2 else 0)) && !ab) → headB K ts l hp num nm ht tk st ab = b := by
            intro b hb_
            unfold headB
            (try dsimp only)
            rw [HT.out, ← HBADv.out, hb_]
            simp
          have FIN := Aside0.mk fini
          clear fini
          by_cases hK3 : K = 3
          · have k3 : (K == 3) = true := by simpa using hK3
            have HK3 := Aside0.mk hK3
            clear hK3
            by_cases hle : (ts.length : Int) ≤ 2
            · have p5 : decide ((ts.length : Int) ≤ 2) = true := decide_eq_true hle
              clear hle
              go_wp2_with (go_at_call 265; refine (containsT k A7 c7 ts ab _ (Kd.C_below HR7.out HB.out) HC7.out E7.out).mono ?_; rintro e w9 ⟨rfl, hb⟩; have HB9 := Aside0.mk (below_step HB.out hb); clear hb)
              go_ret
              exact ⟨by rw [FIN.out _ rfl, if_pos HK3.out, p5]; simp, HB9.out⟩
            · have p5 : decide ((ts.length : Int) ≤ 2) = false := decide_eq_false hle
              clear hle
              go_wp2
              go_ret
              exact ⟨by rw [FIN.out _ rfl, if_pos HK3.out, p5]; simp, HB.out⟩
          · have k3 : (K == 3) = false := by simpa using hK3
            have HK3 := Aside0.mk hK3
            clear hK3
            by_cases hle : (ts.length : Int) ≤ 0
            · have p5 : decide ((ts.length : Int) ≤ 0) = true := decide_eq_true hle
              have p6 : (ts = []) = True := eq_true (List.eq_nil_of_length_eq_zero (by omega))
              clear hle
              go_wp2_with (go_at_call 265; refine (containsT k A7 c7 ts ab _ (Kd.C_below HR7.out HB.out) HC7.out E7.out).mono ?_; rintro e w9 ⟨rfl, hb⟩; have HB9 := Aside0.mk (below_step HB.out hb); clear hb)
              go_ret
              exact ⟨by rw [FIN.out _ rfl, if_neg HK3.out, p5]; simp, HB9.out⟩
            · have p5 : decide ((ts.length : Int) ≤ 0) = false := decide_eq_false hle
              have p6 : (ts = []) = False := eq_false (fun h => hle (by rw [h]; simp))
              clear hle
              go_wp2
              go_ret
              exact ⟨by rw [FIN.out _ rfl, if_neg HK3.out, p5]; simp, HB.out⟩
def impl_headOk.f (k : Nat) (a0_0 a0_1 : Int) (a0_2 a0_3 : ByteArray) (a0_4 a0_5 : Int) (l0_6 l0_7 : List S32) (l0_8 : List S35) : Option Bool :=
  (impl_parts.f k a0_0).bind fun hp => (impl_numberOk.f k a0_0 a0_1).bind fun num => (impl_namesOk.f k a0_0 a0_2 a0_3).bind fun nm => (impl_hasT.f a0_0).bind fun ht => (impl_TyOk.f k a0_4 a0_5 l0_6).bind fun tk => (anyT (fun x => (impl_TyOk.f k x.f0 x.f1 x.f2).bind fun t => some (!t)) l0_7).bind fun ab => if a0_0 = 7 ∧ ¬ hp = 2 then none else some (headB a0_0 l0_7 l0_8 hp num nm ht tk (a0_4 == 0 && a0_5 == 0 && l0_6.isEmpty) ab)
theorem impl_headOk.calls (k : Nat) (a0_0 a0_1 : Int) (a0_2 a0_3 : ByteArray) (a0_4 a0_5 : Int) (A0_6 : Option Addr) (c0_6 : Nat) (l0_6 : List S32) (A0_7 : Option Addr) (c0_7 : Nat) (l0_7 : List S32) (A0_8 : Option Addr) (c0_8 : Nat) (l0_8 : List S35) (r : Bool) (w : World) (hr0_6 : Kd.C k32 w A0_6 l0_6.length l0_6) (hc0_6 : l0_6.length ≤ c0_6) (hr0_7 : Kd.C k32 w A0_7 l0_7.length l0_7) (hc0_7 : l0_7.length ≤ c0_7) (hr0_8 : Kd.C k35 w A0_8 l0_8.length l0_8) (hc0_8 : l0_8.length ≤ c0_8) (h : impl_headOk.f k a0_0 a0_1 a0_2 a0_3 a0_4 a0_5 l0_6 l0_7 l0_8 = some r) :
    Calls Try.prog 214 #[.agg #[.int .i64 a0_0, .int .i64 a0_1, .string a0_2, .string a0_3, .int .i64 a0_4, .int .i64 a0_5, .slice A0_6 l0_6.length c0_6, .slice A0_7 l0_7.length c0_7, .slice A0_8 l0_8.length c0_8]] w fun e w' => e = .returned (.bool r) ∧ Below w.heap.size w w' := by
  unfold impl_headOk.f at h
  obtain ⟨hp, e1, h⟩ := Option.bind_eq_some_iff.1 h
  obtain ⟨num, e2, h⟩ := Option.bind_eq_some_iff.1 h
  obtain ⟨nm, e3, h⟩ := Option.bind_eq_some_iff.1 h
  obtain ⟨ht, e4, h⟩ := Option.bind_eq_some_iff.1 h
  obtain ⟨tk, e5, h⟩ := Option.bind_eq_some_iff.1 h
  obtain ⟨ab, e7, h⟩ := Option.bind_eq_some_iff.1 h
  by_cases h7 : a0_0 = 7 ∧ ¬ hp = 2
  · rw [if_pos h7] at h; cases h
  rw [if_neg h7] at h
  obtain rfl := Option.some.inj h
  by_cases hk : a0_0 = 7 ∧ 0 < l0_8.length
  · obtain ⟨ad, rfl, _⟩ := hr0_8.2.2 hk.2
    obtain ⟨yy, tt, hl⟩ : ∃ yy tt, l0_8 = yy :: tt := by
      cases l0_8 with
      | nil => exact absurd hk.2 (by simp)
      | cons y t => exact ⟨y, t, rfl⟩
    exact headOkA k a0_0 a0_1 a0_2 a0_3 ⟨a0_4, a0_5, l0_6⟩ l0_7 l0_8 yy tt hp num nm ht tk ab w A0_6 c0_6 A0_7 c0_7 ad c0_8 hr0_6 hc0_6 hr0_7 hc0_7 hr0_8 hc0_8 e1 e2 e3 e4 e5 e7 hl
  · exact headOkB k a0_0 a0_1 a0_2 a0_3 ⟨a0_4, a0_5, l0_6⟩ l0_7 l0_8 hp num nm ht tk ab w A0_6 c0_6 A0_7 c0_7 A0_8 c0_8 hr0_6 hc0_6 hr0_7 hc0_7 hr0_8 hc0_8 e1 e2 e3 e4 e5 e7 (fun e => by by_cases h2 : hp = 2; exact h2; exact absurd ⟨e, h2⟩ h7) hk
end Go.Proofs.Ytddacgfnhoboaaa.OFnExactUsesOf
