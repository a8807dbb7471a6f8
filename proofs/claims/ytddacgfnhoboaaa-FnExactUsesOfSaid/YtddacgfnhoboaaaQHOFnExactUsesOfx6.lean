-- written by wip/tools/prune.py: what this claim reaches of the print's and our texts
import Derived.Test.YtddacgfnhoboaaaQHOFnExactUsesOfx0
import Derived.Test.YtddacgfnhoboaaaQHOFnExactUsesOfx2
import Derived.Test.YtddacgfnhoboaaaQHOFnExactUsesOfx3
import Derived.Test.YtddacgfnhoboaaaQHOFnExactUsesOfx4
import Derived.Test.YtddacgfnhoboaaaQHOFnExactUsesOfx5
namespace Go.Proofs.Ytddacgfnhoboaaa.OFnExactUsesOf
open Go.RowKit Go.Proofs.YtddacgfnhoboaaaW.PrintWords Go.Proofs.YtddacgfnhoboaaaW.PrintLast Go.Proofs.YtddacgfnhoboaaaW.PrintMore
attribute [local go_sem] max2_int min2_int max_two min_two max_three min_three max_four min_four   -- for this text's walks alone
set_option linter.unusedVariables false
set_option linter.unusedSimpArgs false
open Go.Proofs.Ytddacgfnhoboaaa.Mod
def oneB (K : Int) (S Z : ByteArray) (ts : List S32) (l : List S35) (hp : Int) (hs hz ht num ns nz tk st : Bool) (okT : S32 → Bool) : Bool :=
  !(((l.length : Int) != hp) || !num || (hs != ns) || (!hs && (!S.toList.isEmpty)) || (hz != nz) || (!hz && (!Z.toList.isEmpty)) || (hz && (S.toList == Z.toList))) &&
  !((ht != tk) || (!ht && !st) || decide ((ts.length : Int) > 2) || ((K != 3) && decide ((ts.length : Int) > 0))) && ts.all okT && ((K != 7) || (match l with | x :: _ => x.f0 == 4 | [] => false))
set_option maxHeartbeats 4000000 in
set_option maxRecDepth 100000 in
theorem l2One.calls (k : Nat) (K N : Int) (S Z : ByteArray) (T : S32) (ts : List S32) (l : List S35) (hp hn : Int) (hs hz ht num ns nz tk st : Bool) (okT : S32 → Bool) (w : World) (A6 : Option Addr) (c6 : Nat) (A7 : Option Addr) (c7 : Nat) (A8 : Option Addr) (c8 : Nat)
    (r6 : Kd.C k32 w A6 T.f2.length T.f2) (l6 : T.f2.length ≤ c6) (r7 : Kd.C k32 w A7 ts.length ts) (l7 : ts.length ≤ c7) (r8 : Kd.C k35 w A8 l.length l) (l8 : l.length ≤ c8)
    (e1 : spec_l2Of.f k K = some (hp, hn, hs, hz, ht)) (e2 : spec_l2Number.f k K N S Z T.f0 T.f1 T.f2 ts l = some num) (e3 : spec_l2Name.f k S false = some ns) (e4 : spec_l2Name.f k Z false = some nz) (e5 : spec_TyOk.f T.f0 T.f1 T.f2 = some tk) (e6 : spec_SameTy.f k T.f0 T.f1 T.f2 0 0 [] = some st) (e7 : ∀ x ∈ ts, spec_TyOk.f x.f0 x.f1 x.f2 = some (okT x)) (e8 : K = 7 → hp = 2) :
    Calls Try.prog 213 #[.agg #[.int .i64 K, .int .i64 N, .string S, .string Z, .int .i64 T.f0, .int .i64 T.f1, .slice A6 T.f2.length c6, .slice A7 ts.length c7, .slice A8 l.length c8]] w fun e w' => e = .returned (.bool (oneB K S Z ts l hp hs hz ht num ns nz tk st okT)) ∧ Below w.heap.size w w' := by
  have hu35 := Try.underlying35
  have hu32 := Try.underlying32
  have hu268 := Try.underlying268
  have HR6 := Aside0.mk r6
  have HC6 := Aside0.mk l6
  have HR7 := Aside0.mk r7
  have HC7 := Aside0.mk l7
  have HR8 := Aside0.mk r8
  have HC8 := Aside0.mk l8
  have E1 := Aside0.mk e1
  have E2 := Aside0.mk e2
  have E3 := Aside0.mk e3
  have E4 := Aside0.mk e4
  have E5 := Aside0.mk e5
  have E6 := Aside0.mk e6
  have E7 := Aside0.mk e7
  have E8 := Aside0.mk e8
  clear r6 l6 r7 l7 r8 l8 e1 e2 e3 e4 e5 e6 e7 e8
  go_enter Try.func213, Try.ntmps213
  go_upto_region 2 with (first | ((with_reducible refine gate_dst (N := 1) rfl ?_); refine box_event ?hg (N := 1) ?hd (cs := #[.int .i64 K, .int .i64 N, .string S, .string Z, .int .i64 T.f0, .int .i64 T.f1, .slice A6 T.f2.length c6, .slice A7 ts.length c7, .slice A8 l.length c8]) (t := 35) ?hr ?_; (case hd => rfl); (case hg => rfl); (case hr => first | (go_simp; done) | (go_simp; rfl)); intro gb hgb w3 hbox hb3; have HB3 := Aside0.mk hb3; have BK3 := Aside0.mk hbox; have hz0 : w3.cell? ⟨gb, 0, none⟩ = some (.int .i64 K) := (blk_cell BK3.out 0).trans rfl; clear hb3 hbox hgb) | (go_at_call 259; refine (spec_l2Of.calls k K hp hn hs hz ht _ E1.out).mono ?_; rintro e w4 ⟨rfl, hb⟩; have HB4 := Aside0.mk (below_step HB3.out hb); have BK4 := Aside0.mk (blk_below BK3.out hb); clear hb hz0) | ((with_reducible refine gate_dst (N := 3) rfl ?_); refine box_event ?hg (N := 3) ?hd (cs := #[.int .i64 0, .int .i64 0, .bool false, .bool false, .bool false]) (t := 268) ?hr ?_; (case hd => rfl); (case hg => rfl); (case hr => first | (go_simp; done) | (go_simp; rfl)); intro gh hgh w5 hbox hb5; have HB5 := Aside0.mk (below_step HB4.out hb5); have BK5 := Aside0.mk (blk_below BK4.out hb5); have NE := Aside0.mk (show gh ≠ gb from by have := blk_lt BK4.out; omega); have GH := Aside0.mk (show w.heap.size ≤ gh from by have := HB4.out.size; omega); have HH5 := Aside0.mk hbox; have f0 := blk_frozen HH5.out 0; have f1 := blk_frozen HH5.out 1; have f2 := blk_frozen HH5.out 2; have f3 := blk_frozen HH5.out 3; have f4 := blk_frozen HH5.out 4; have q0 : w5.cell? ⟨gh, 0, none⟩ = some (.int .i64 0) := (blk_cell HH5.out 0).trans rfl; have q1 : w5.cell? ⟨gh, 1, none⟩ = some (.int .i64 0) := (blk_cell HH5.out 1).trans rfl; have q2 : w5.cell? ⟨gh, 2, none⟩ = some (.bool false) := (blk_cell HH5.out 2).trans rfl; have q3 : w5.cell? ⟨gh, 3, none⟩ = some (.bool false) := (blk_cell HH5.out 3).trans rfl; have q4 : w5.cell? ⟨gh, 4, none⟩ = some (.bool false) := (blk_cell HH5.out 4).trans rfl; clear hbox hgh hb5) | ((with_reducible refine gate_store (t := 268) (p := 3) rfl ?_); refine store_event (t := 268) (p := 3) (v := ?vv) (w1 := (((((w5.setCell ⟨gh, 0, none⟩ (.int .i64 hp)).setCell ⟨gh, 1, none⟩ (.int .i64 hn)).setCell ⟨gh, 2, none⟩ (.bool hs)).setCell ⟨gh, 3, none⟩ (.bool hz)).setCell ⟨gh, 4, none⟩ (.bool ht))) ?hg ?ho ?hn ?hr ?_; (case ho => rfl); (case hg => rfl); (case hn => rfl); (case hr => go_simp; first | done | rfl); intro w6 hw; have HH6 := Aside0.mk (show w6.heap[gh]? = some (.cells #[.int .i64 hp, .int .i64 hn, .bool hs, .bool hz, .bool ht] 268 (0, 0)) from by rw [hw]; exact (blk_put (cs := #[.int .i64 hp, .int .i64 hn, .bool hs, .bool hz, .bool false]) (blk_put (cs := #[.int .i64 hp, .int .i64 hn, .bool hs, .bool false, .bool false]) (blk_put (cs := #[.int .i64 hp, .int .i64 hn, .bool false, .bool false, .bool false]) (blk_put (cs := #[.int .i64 hp, .int .i64 0, .bool false, .bool false, .bool false]) (blk_put (cs := #[.int .i64 0, .int .i64 0, .bool false, .bool false, .bool false]) HH5.out 0 _ rfl) 1 _ rfl) 2 _ rfl) 3 _ rfl) 4 _ rfl)); have HB6 := Aside0.mk (show Below w.heap.size w w6 from by rw [hw]; exact (below_set (below_set (below_set (below_set (below_set HB5.out GH.out) GH.out) GH.out) GH.out) GH.out)); have BK6 := Aside0.mk (show w6.heap[gb]? = some (.cells #[.int .i64 K, .int .i64 N, .string S, .string Z, .int .i64 T.f0, .int .i64 T.f1, .slice A6 T.f2.length c6, .slice A7 ts.length c7, .slice A8 l.length c8] 35 (0, 0)) from by rw [hw]; exact (blk_far (blk_far (blk_far (blk_far (blk_far BK5.out (fun e => NE.out e.symm) _) (fun e => NE.out e.symm) _) (fun e => NE.out e.symm) _) (fun e => NE.out e.symm) _) (fun e => NE.out e.symm) _)); clear hw f0 f1 f2 f3 f4 q0 q1 q2 q3 q4))
  (try simp only [Act.put, List.setIfInBounds_toArray, List.set_cons_zero, List.set_cons_succ])
  have BK := BK6
  have HH := HH6
  have HB := HB6
  clear HB6 HB5 HB4 HB3 BK6 BK5 BK4 BK3 HH5 HH6
  obtain ⟨uq5, huq5_⟩ : ∃ q : Bool, q = ((((l.length : Int) : Int) != (hp : Int))) := ⟨_, rfl⟩
  have huq5 := Aside0.mk huq5_
  clear huq5_
  obtain ⟨uq10, huq10_⟩ : ∃ q : Bool, q = (uq5 || (!num)) := ⟨_, rfl⟩
  have huq10 := Aside0.mk huq10_
  clear huq10_
  obtain ⟨uq17, huq17_⟩ : ∃ q : Bool, q = ((hs != ns)) := ⟨_, rfl⟩
  have huq17 := Aside0.mk huq17_
  clear huq17_
  obtain ⟨uq18, huq18_⟩ : ∃ q : Bool, q = (uq10 || uq17) := ⟨_, rfl⟩
  have huq18 := Aside0.mk huq18_
  clear huq18_
  obtain ⟨uq26, huq26_⟩ : ∃ q : Bool, q = ((!(S).toList.isEmpty)) := ⟨_, rfl⟩
  have huq26 := Aside0.mk huq26_
  clear huq26_
  obtain ⟨uq27, huq27_⟩ : ∃ q : Bool, q = ((!hs) && uq26) := ⟨_, rfl⟩
  have huq27 := Aside0.mk huq27_
  clear huq27_
  obtain ⟨uq28, huq28_⟩ : ∃ q : Bool, q = (uq18 || uq27) := ⟨_, rfl⟩
  have huq28 := Aside0.mk huq28_
  clear huq28_
  obtain ⟨uq35, huq35_⟩ : ∃ q : Bool, q = ((hz != nz)) := ⟨_, rfl⟩
  have huq35 := Aside0.mk huq35_
  clear huq35_
  obtain ⟨uq36, huq36_⟩ : ∃ q : Bool, q = (uq28 || uq35) := ⟨_, rfl⟩
  have huq36 := Aside0.mk huq36_
  clear huq36_
  obtain ⟨uq44, huq44_⟩ : ∃ q : Bool, q = ((!(Z).toList.isEmpty)) := ⟨_, rfl⟩
  have huq44 := Aside0.mk huq44_
  clear huq44_
  obtain ⟨uq45, huq45_⟩ : ∃ q : Bool, q = ((!hz) && uq44) := ⟨_, rfl⟩
  have huq45 := Aside0.mk huq45_
  clear huq45_
  obtain ⟨uq46, huq46_⟩ : ∃ q : Bool, q = (uq36 || uq45) := ⟨_, rfl⟩
  have huq46 := Aside0.mk huq46_
  clear huq46_
  obtain ⟨uq55, huq55_⟩ : ∃ q : Bool, q = (((S).toList == (Z).toList)) := ⟨_, rfl⟩
  have huq55 := Aside0.mk huq55_
  clear huq55_
  obtain ⟨uq56, huq56_⟩ : ∃ q : Bool, q = (hz && uq55) := ⟨_, rfl⟩
  have huq56 := Aside0.mk huq56_
  clear huq56_
  obtain ⟨uq57, huq57_⟩ : ∃ q : Bool, q = (uq46 || uq56) := ⟨_, rfl⟩
  have huq57 := Aside0.mk huq57_
  clear huq57_
  obtain ⟨ux, uX0, uX1, uX2, uX3, uX4, uX5, uX6, uX7, uX8, uX9, uX10, uX11, uX12, uX13, uX14, uX15, uX16, uX17, uX18, uX19, uX20, uX21, uX22, uX23, uX24, uX25, uX26, uX27, uX28, uX29, uX30, uX31, uX32, uX33, uX34, uX35, uX36, uX37, uX38, uX39, uX40, uX41, uX42, uX43, uX44, uX45, uX46, uX47, uX48, uX49, uX50, uX51, uX52, uX53, uX54, uX55, uX56, uX57⟩ : ∃ x : Nat → Value, Aside0 (x 0 = (.pointer (some ⟨gb, 8, none⟩))) ∧ Aside0 (x 1 = (.slice A8 l.length c8)) ∧ Aside0 (x 2 = (.int .i64 (l.length : Int))) ∧ Aside0 (x 3 = (.pointer (some ⟨gh, 0, none⟩))) ∧ Aside0 (x 4 = (.int .i64 hp)) ∧ Aside0 (x 5 = (.bool uq5)) ∧ Aside0 (x 6 = (.bool uq5)) ∧ Aside0 (x 7 = (bif !uq5 then (.agg #[.int .i64 K, .int .i64 N, .string S, .string Z, .int .i64 T.f0, .int .i64 T.f1, .slice A6 T.f2.length c6, .slice A7 ts.length c7, .slice A8 l.length c8]) else undef)) ∧ Aside0 (x 8 = (bif !uq5 then ((.bool num)) else undef)) ∧ Aside0 (x 9 = (bif !uq5 then (.bool (!num)) else undef)) ∧ Aside0 (x 10 = (.bool uq10)) ∧ Aside0 (x 11 = (.bool uq10)) ∧ Aside0 (x 12 = (bif !uq10 then (.pointer (some ⟨gh, 2, none⟩)) else undef)) ∧ Aside0 (x 13 = (bif !uq10 then (.bool hs) else undef)) ∧ Aside0 (x 14 = (bif !uq10 then (.pointer (some ⟨gb, 2, none⟩)) else undef)) ∧ Aside0 (x 15 = (bif !uq10 then (.string S) else undef)) ∧ Aside0 (x 16 = (bif !uq10 then ((.bool ns)) else undef)) ∧ Aside0 (x 17 = (bif !uq10 then (.bool uq17) else undef)) ∧ Aside0 (x 18 = (.bool uq18)) ∧ Aside0 (x 19 = (.bool uq18)) ∧ Aside0 (x 20 = (bif !uq18 then (.pointer (some ⟨gh, 2, none⟩)) else undef)) ∧ Aside0 (x 21 = (bif !uq18 then (.bool hs) else undef)) ∧ Aside0 (x 22 = (bif !uq18 then (.bool (!hs)) else undef)) ∧ Aside0 (x 23 = (bif !uq18 then (.bool (!hs)) else undef)) ∧ Aside0 (x 24 = (bif (!uq18 && (!hs)) then (.pointer (some ⟨gb, 2, none⟩)) else undef)) ∧ Aside0 (x 25 = (bif (!uq18 && (!hs)) then (.string S) else undef)) ∧ Aside0 (x 26 = (bif (!uq18 && (!hs)) then (.bool uq26) else undef)) ∧ Aside0 (x 27 = (bif !uq18 then (.bool uq27) else undef)) ∧ Aside0 (x 28 = (.bool uq28)) ∧ Aside0 (x 29 = (.bool uq28)) ∧ Aside0 (x 30 = (bif !uq28 then (.pointer (some ⟨gh, 3, none⟩)) else undef)) ∧ Aside0 (x 31 = (bif !uq28 then (.bool hz) else undef)) ∧ Aside0 (x 32 = (bif !uq28 then (.pointer (some ⟨gb, 3, none⟩)) else undef)) ∧ Aside0 (x 33 = (bif !uq28 then (.string Z) else undef)) ∧ Aside0 (x 34 = (bif !uq28 then ((.bool nz)) else undef)) ∧ Aside0 (x 35 = (bif !uq28 then (.bool uq35) else undef)) ∧ Aside0 (x 36 = (.bool uq36)) ∧ Aside0 (x 37 = (.bool uq36)) ∧ Aside0 (x 38 = (bif !uq36 then (.pointer (some ⟨gh, 3, none⟩)) else undef)) ∧ Aside0 (x 39 = (bif !uq36 then (.bool hz) else undef)) ∧ Aside0 (x 40 = (bif !uq36 then (.bool (!hz)) else undef)) ∧ Aside0 (x 41 = (bif !uq36 then (.bool (!hz)) else undef)) ∧ Aside0 (x 42 = (bif (!uq36 && (!hz)) then (.pointer (some ⟨gb, 3, none⟩)) else undef)) ∧ Aside0 (x 43 = (bif (!uq36 && (!hz)) then (.string Z) else undef)) ∧ Aside0 (x 44 = (bif (!uq36 && (!hz)) then (.bool uq44) else undef)) ∧ Aside0 (x 45 = (bif !uq36 then (.bool uq45) else undef)) ∧ Aside0 (x 46 = (.bool uq46)) ∧ Aside0 (x 47 = (.bool uq46)) ∧ Aside0 (x 48 = (bif !uq46 then (.pointer (some ⟨gh, 3, none⟩)) else undef)) ∧ Aside0 (x 49 = (bif !uq46 then (.bool hz) else undef)) ∧ Aside0 (x 50 = (bif !uq46 then (.bool hz) else undef)) ∧ Aside0 (x 51 = (bif (!uq46 && hz) then (.pointer (some ⟨gb, 2, none⟩)) else undef)) ∧ Aside0 (x 52 = (bif (!uq46 && hz) then (.string S) else undef)) ∧ Aside0 (x 53 = (bif (!uq46 && hz) then (.pointer (some ⟨gb, 3, none⟩)) else undef)) ∧ Aside0 (x 54 = (bif (!uq46 && hz) then (.string Z) else undef)) ∧ Aside0 (x 55 = (bif (!uq46 && hz) then (.bool uq55) else undef)) ∧ Aside0 (x 56 = (bif !uq46 then (.bool uq56) else undef)) ∧ Aside0 (x 57 = (.bool uq57)) := ⟨fun j => ([(.pointer (some ⟨gb, 8, none⟩)), (.slice A8 l.length c8), (.int .i64 (l.length : Int)), (.pointer (some ⟨gh, 0, none⟩)), (.int .i64 hp), (.bool uq5), (.bool uq5), (bif !uq5 then (.agg #[.int .i64 K, .int .i64 N, .string S, .string Z, .int .i64 T.f0, .int .i64 T.f1, .slice A6 T.f2.length c6, .slice A7 ts.length c7, .slice A8 l.length c8]) else undef), (bif !uq5 then ((.bool num)) else undef), (bif !uq5 then (.bool (!num)) else undef), (.bool uq10), (.bool uq10), (bif !uq10 then (.pointer (some ⟨gh, 2, none⟩)) else undef), (bif !uq10 then (.bool hs) else undef), (bif !uq10 then (.pointer (some ⟨gb, 2, none⟩)) else undef), (bif !uq10 then (.string S) else undef), (bif !uq10 then ((.bool ns)) else undef), (bif !uq10 then (.bool uq17) else undef), (.bool uq18), (.bool uq18), (bif !uq18 then (.pointer (some ⟨gh, 2, none⟩)) else undef), (bif !uq18 then (.bool hs) else undef), (bif !uq18 then (.bool (!hs)) else undef), (bif !uq18 then (.bool (!hs)) else undef), (bif (!uq18 && (!hs)) then (.pointer (some ⟨gb, 2, none⟩)) else undef), (bif (!uq18 && (!hs)) then (.string S) else undef), (bif (!uq18 && (!hs)) then (.bool uq26) else undef), (bif !uq18 then (.bool uq27) else undef), (.bool uq28), (.bool uq28), (bif !uq28 then (.pointer (some ⟨gh, 3, none⟩)) else undef), (bif !uq28 then (.bool hz) else undef), (bif !uq28 then (.pointer (some ⟨gb, 3, none⟩)) else undef), (bif !uq28 then (.string Z) else undef), (bif !uq28 then ((.bool nz)) else undef), (bif !uq28 then (.bool uq35) else undef), (.bool uq36), (.bool uq36), (bif !uq36 then (.pointer (some ⟨gh, 3, none⟩)) else undef), (bif !uq36 then (.bool hz) else undef), (bif !uq36 then (.bool (!hz)) else undef), (bif !uq36 then (.bool (!hz)) else undef), (bif (!uq36 && (!hz)) then (.pointer (some ⟨gb, 3, none⟩)) else undef), (bif (!uq36 && (!hz)) then (.string Z) else undef), (bif (!uq36 && (!hz)) then (.bool uq44) else undef), (bif !uq36 then (.bool uq45) else undef), (.bool uq46), (.bool uq46), (bif !uq46 then (.pointer (some ⟨gh, 3, none⟩)) else undef), (bif !uq46 then (.bool hz) else undef), (bif !uq46 then (.bool hz) else undef), (bif (!uq46 && hz) then (.pointer (some ⟨gb, 2, none⟩)) else undef), (bif (!uq46 && hz) then (.string S) else undef), (bif (!uq46 && hz) then (.pointer (some ⟨gb, 3, none⟩)) else undef), (bif (!uq46 && hz) then (.string Z) else undef), (bif (!uq46 && hz) then (.bool uq55) else undef), (bif !uq46 then (.bool uq56) else undef), (.bool uq57)] : List Value).getD j undef, ⟨rfl⟩, ⟨rfl⟩, ⟨rfl⟩, ⟨rfl⟩, ⟨rfl⟩, ⟨rfl⟩, ⟨rfl⟩, ⟨rfl⟩, ⟨rfl⟩, ⟨rfl⟩, ⟨rfl⟩, ⟨rfl⟩, ⟨rfl⟩, ⟨rfl⟩, ⟨rfl⟩, ⟨rfl⟩, ⟨rfl⟩, ⟨rfl⟩, ⟨rfl⟩, ⟨rfl⟩, ⟨rfl⟩, ⟨rfl⟩, ⟨rfl⟩, ⟨rfl⟩, ⟨rfl⟩, ⟨rfl⟩, ⟨rfl⟩, ⟨rfl⟩, ⟨rfl⟩, ⟨rfl⟩, ⟨rfl⟩, ⟨rfl⟩, ⟨rfl⟩, ⟨rfl⟩, ⟨rfl⟩, ⟨rfl⟩, ⟨rfl⟩, ⟨rfl⟩, ⟨rfl⟩, ⟨rfl⟩, ⟨rfl⟩, ⟨rfl⟩, ⟨rfl⟩, ⟨rfl⟩, ⟨rfl⟩, ⟨rfl⟩, ⟨rfl⟩, ⟨rfl⟩, ⟨rfl⟩, ⟨rfl⟩, ⟨rfl⟩, ⟨rfl⟩, ⟨rfl⟩, ⟨rfl⟩, ⟨rfl⟩, ⟨rfl⟩, ⟨rfl⟩, ⟨rfl⟩⟩
  refine region_test (n := 58) (by rfl) (by kernel_rfl) (by kernel_rfl) (fun up => ⟨#[Value.agg #[Value.int .i64 K, Value.int .i64 N, Value.string S, Value.string Z, Value.int .i64 T.f0, Value.int .i64 T.f1, Value.slice A6 T.f2.length c6, Value.slice A7 ts.length c7, Value.slice A8 l.length c8], Value.pointer (some ⟨gb, 0, none⟩), Value.bool false, Value.pointer (some ⟨gh, 0, none⟩), undef, Value.pointer (some ⟨gb, 0, none⟩), Value.int .i64 K, Value.agg #[Value.int .i64 hp, Value.int .i64 hn, Value.bool hs, Value.bool hz, Value.bool ht], up 0, up 1, up 2, up 3, up 4, up 5, up 6, up 7, up 8, up 9, up 10, up 11, up 12, up 13, up 14, up 15, up 16, up 17, up 18, up 19, up 20, up 21, up 22, up 23, up 24, up 25, up 26, up 27, up 28, up 29, up 30, up 31, up 32, up 33, up 34, up 35, up 36, up 37, up 38, up 39, up 40, up 41, up 42, up 43, up 44, up 45, up 46, up 47, up 48, up 49, up 50, up 51, up 52, up 53, up 54, up 55, up 56, up 57, undef, undef, undef, undef, undef, undef, undef, undef, undef, undef, undef, undef, undef, undef, undef, undef, undef, undef, undef, undef, undef, undef, undef, undef, undef, undef, undef, undef, undef, undef, undef, undef, undef, undef, undef, undef, undef, undef, undef, undef, undef, undef, undef, undef, undef, undef, undef, undef, undef, undef, undef, undef, undef, undef, undef, undef, undef, undef, undef, undef], []⟩) ux (fun j => ([(undef), (undef), (undef), (undef), (undef), (undef), (undef), (undef), (undef), (undef), (undef), (undef), (undef), (undef), (undef), (undef), (undef), (undef), (undef), (undef), (undef), (undef), (undef), (undef), (undef), (undef), (undef), (undef), (undef), (undef), (undef), (undef), (undef), (undef), (undef), (undef), (undef), (undef), (undef), (undef), (undef), (undef), (undef), (undef), (undef), (undef), (undef), (undef), (undef), (undef), (undef), (undef), (undef), (undef), (undef), (undef), (undef), (undef)] : List Value).getD j undef) rfl ?hput ?step ?fin
  case hput =>
    intro i hi o ho p v
    obtain rfl | rfl | rfl | rfl | rfl | rfl | rfl | rfl | rfl | rfl | rfl | rfl | rfl | rfl | rfl | rfl | rfl | rfl | rfl | rfl | rfl | rfl | rfl | rfl | rfl | rfl | rfl | rfl | rfl | rfl | rfl | rfl | rfl | rfl | rfl | rfl | rfl | rfl | rfl | rfl | rfl | rfl | rfl | rfl | rfl | rfl | rfl | rfl | rfl | rfl | rfl | rfl | rfl | rfl | rfl | rfl | rfl | rfl : i = 0 ∨ i = 1 ∨ i = 2 ∨ i = 3 ∨ i = 4 ∨ i = 5 ∨ i = 6 ∨ i = 7 ∨ i = 8 ∨ i = 9 ∨ i = 10 ∨ i = 11 ∨ i = 12 ∨ i = 13 ∨ i = 14 ∨ i = 15 ∨ i = 16 ∨ i = 17 ∨ i = 18 ∨ i = 19 ∨ i = 20 ∨ i = 21 ∨ i = 22 ∨ i = 23 ∨ i = 24 ∨ i = 25 ∨ i = 26 ∨ i = 27 ∨ i = 28 ∨ i = 29 ∨ i = 30 ∨ i = 31 ∨ i = 32 ∨ i = 33 ∨ i = 34 ∨ i = 35 ∨ i = 36 ∨ i = 37 ∨ i = 38 ∨ i = 39 ∨ i = 40 ∨ i = 41 ∨ i = 42 ∨ i = 43 ∨ i = 44 ∨ i = 45 ∨ i = 46 ∨ i = 47 ∨ i = 48 ∨ i = 49 ∨ i = 50 ∨ i = 51 ∨ i = 52 ∨ i = 53 ∨ i = 54 ∨ i = 55 ∨ i = 56 ∨ i = 57 := by omega
    all_goals (simp only [List.getElem?_toArray, List.getElem?_cons_succ, List.getElem?_cons_zero, Option.some.injEq] at ho; subst ho; rfl)
  case step =>
    intro i hi o ho p w' hb hd
    have hb0 : w'.cell? ⟨gb, 0, none⟩ = some (.int .i64 K) := (blk_cell (blk_below BK.out hb) 0).trans rfl
    have hb1 : w'.cell? ⟨gb, 1, none⟩ = some (.int .i64 N) := (blk_cell (blk_below BK.out hb) 1).trans rfl
    have hb2 : w'.cell? ⟨gb, 2, none⟩ = some (.string S) := (blk_cell (blk_below BK.out hb) 2).trans rfl
    have hb3 : w'.cell? ⟨gb, 3, none⟩ = some (.string Z) := (blk_cell (blk_below BK.out hb) 3).trans rfl
    have hb4 : w'.cell? ⟨gb, 4, none⟩ = some (.int .i64 T.f0) := (blk_cell (blk_below BK.out hb) 4).trans rfl
    have hb5 : w'.cell? ⟨gb, 5, none⟩ = some (.int .i64 T.f1) := (blk_cell (blk_below BK.out hb) 5).trans rfl
    have hb6 : w'.cell? ⟨gb, 6, none⟩ = some (.slice A6 T.f2.length c6) := (blk_cell (blk_below BK.out hb) 6).trans rfl
    have hb7 : w'.cell? ⟨gb, 7, none⟩ = some (.slice A7 ts.length c7) := (blk_cell (blk_below BK.out hb) 7).trans rfl
    have hb8 : w'.cell? ⟨gb, 8, none⟩ = some (.slice A8 l.length c8) := (blk_cell (blk_below BK.out hb) 8).trans rfl
    have hh0 : w'.cell? ⟨gh, 0, none⟩ = some (.int .i64 hp) := (blk_cell (blk_below HH.out hb) 0).trans rfl
    have hh1 : w'.cell? ⟨gh, 1, none⟩ = some (.int .i64 hn) := (blk_cell (blk_below HH.out hb) 1).trans rfl
    have hh2 : w'.cell? ⟨gh, 2, none⟩ = some (.bool hs) := (blk_cell (blk_below HH.out hb) 2).trans rfl
    have hh3 : w'.cell? ⟨gh, 3, none⟩ = some (.bool hz) := (blk_cell (blk_below HH.out hb) 3).trans rfl
    have hh4 : w'.cell? ⟨gh, 4, none⟩ = some (.bool ht) := (blk_cell (blk_below HH.out hb) 4).trans rfl
    obtain rfl | rfl | rfl | rfl | rfl | rfl | rfl | rfl | rfl | rfl | rfl | rfl | rfl | rfl | rfl | rfl | rfl | rfl | rfl | rfl | rfl | rfl | rfl | rfl | rfl | rfl | rfl | rfl | rfl | rfl | rfl | rfl | rfl | rfl | rfl | rfl | rfl | rfl | rfl | rfl | rfl | rfl | rfl | rfl | rfl | rfl | rfl | rfl | rfl | rfl | rfl | rfl | rfl | rfl | rfl | rfl | rfl | rfl : i = 0 ∨ i = 1 ∨ i = 2 ∨ i = 3 ∨ i = 4 ∨ i = 5 ∨ i = 6 ∨ i = 7 ∨ i = 8 ∨ i = 9 ∨ i = 10 ∨ i = 11 ∨ i = 12 ∨ i = 13 ∨ i = 14 ∨ i = 15 ∨ i = 16 ∨ i = 17 ∨ i = 18 ∨ i = 19 ∨ i = 20 ∨ i = 21 ∨ i = 22 ∨ i = 23 ∨ i = 24 ∨ i = 25 ∨ i = 26 ∨ i = 27 ∨ i = 28 ∨ i = 29 ∨ i = 30 ∨ i = 31 ∨ i = 32 ∨ i = 33 ∨ i = 34 ∨ i = 35 ∨ i = 36 ∨ i = 37 ∨ i = 38 ∨ i = 39 ∨ i = 40 ∨ i = 41 ∨ i = 42 ∨ i = 43 ∨ i = 44 ∨ i = 45 ∨ i = 46 ∨ i = 47 ∨ i = 48 ∨ i = 49 ∨ i = 50 ∨ i = 51 ∨ i = 52 ∨ i = 53 ∨ i = 54 ∨ i = 55 ∨ i = 56 ∨ i = 57 := by omega
    all_goals (simp only [List.getElem?_toArray, List.getElem?_cons_succ, List.getElem?_cons_zero, Option.some.injEq] at ho; subst ho; dsimp only)
    · rw [uX0.out]
      clear hd
      refine t_run (w := w') (v := (.pointer (some ⟨gb, 8, none⟩))) rfl ?_ rfl hb; first | (go_simp; done) | (go_simp; rfl) | (go_simp; simp [bne]; done) | (simp [*]; done)
    · rw [uX1.out, (hd 0 rfl).trans uX0.out]
      clear hd
      refine t_run (w := w') (v := (.slice A8 l.length c8)) rfl ?_ rfl hb; first | (go_simp; done) | (go_simp; rfl) | (go_simp; simp [bne]; done) | (simp [*]; done)
    · rw [uX2.out, (hd 1 rfl).trans uX1.out]
      clear hd
      refine t_run (w := w') (v := (.int .i64 (l.length : Int))) rfl ?_ rfl hb; first | (go_simp; done) | (go_simp; rfl) | (go_simp; simp [bne]; done) | (simp [*]; done)
    · rw [uX3.out]
      clear hd
      refine t_run (w := w') (v := (.pointer (some ⟨gh, 0, none⟩))) rfl ?_ rfl hb; first | (go_simp; done) | (go_simp; rfl) | (go_simp; simp [bne]; done) | (simp [*]; done)
    · rw [uX4.out, (hd 3 rfl).trans uX3.out]
      clear hd
      refine t_run (w := w') (v := (.int .i64 hp)) rfl ?_ rfl hb; first | (go_simp; done) | (go_simp; rfl) | (go_simp; simp [bne]; done) | (simp [*]; done)
    · rw [uX5.out, (hd 2 rfl).trans uX2.out, (hd 4 rfl).trans uX4.out]
      clear hd
      refine t_run (w := w') (v := (.bool uq5)) rfl ?_ rfl hb; rw [huq5.out]; first | (go_simp; done) | (go_simp; rfl) | (go_simp; simp [bne]; done) | (simp [*]; done)
    · rw [uX6.out, (hd 5 rfl).trans uX5.out]
      clear hd
      refine t_run (w := w') (v := (.bool uq5)) rfl ?_ rfl hb; first | (go_simp; done) | (go_simp; rfl) | (go_simp; simp [bne]; done) | (simp [*]; done)
    · rw [uX7.out, (hd 6 rfl).trans uX6.out]
      clear hd
      cases uq5 <;> (first | exact t_skip rfl rfl | (refine t_run (w := w') (v := (.agg #[.int .i64 K, .int .i64 N, .string S, .string Z, .int .i64 T.f0, .int .i64 T.f1, .slice A6 T.f2.length c6, .slice A7 ts.length c7, .slice A8 l.length c8])) rfl ?_ rfl hb; first | (go_simp; done) | (go_simp; rfl) | (go_simp; simp [bne]; done) | (simp [*]; done)))
    · rw [uX8.out, (hd 6 rfl).trans uX6.out, (hd 7 rfl).trans uX7.out]
      clear hd
      cases uq5 <;> (first | exact t_skip rfl rfl | (refine t_call (f := 260) rfl Try.func260 (by kernel_rfl) rfl #[(.agg #[.int .i64 K, .int .i64 N, .string S, .string Z, .int .i64 T.f0, .int .i64 T.f1, .slice A6 T.f2.length c6, .slice A7 ts.length c7, .slice A8 l.length c8])] rfl (by simp only [List.map_toArray, List.map_cons, List.map_nil]; rfl) ?_; refine (spec_l2Number.calls k K N S Z T.f0 T.f1 A6 c6 T.f2 A7 c7 ts A8 c8 l num _ (Kd.C_below HR6.out (below_step HB.out hb)) HC6.out (Kd.C_below HR7.out (below_step HB.out hb)) HC7.out (Kd.C_below HR8.out (below_step HB.out hb)) HC8.out E2.out).mono ?_; rintro e w2 ⟨rfl, hb2⟩; exact ⟨rfl, below_step hb hb2⟩))
    · rw [uX9.out, (hd 6 rfl).trans uX6.out, (hd 8 rfl).trans uX8.out]
      clear hd
      cases uq5 <;> (first | exact t_skip rfl rfl | (refine t_run (w := w') (v := (.bool (!num))) rfl ?_ rfl hb; first | (go_simp; done) | (go_simp; rfl) | (go_simp; simp [bne]; done) | (simp [*]; done)))
    · rw [uX10.out, (hd 6 rfl).trans uX6.out, (hd 9 rfl).trans uX9.out]
      clear hd
      cases uq5 <;> (refine t_run (w := w') (v := (.bool uq10)) rfl ?_ rfl hb; rw [huq10.out]; first | (go_simp; done) | (go_simp; rfl) | (go_simp; simp [bne]; done) | (simp [*]; done))
    · rw [uX11.out, (hd 10 rfl).trans uX10.out]
      clear hd
      refine t_run (w := w') (v := (.bool uq10)) rfl ?_ rfl hb; first | (go_simp; done) | (go_simp; rfl) | (go_simp; simp [bne]; done) | (simp [*]; done)
    · rw [uX12.out, (hd 11 rfl).trans uX11.out]
      clear hd
      cases uq10 <;> (first | exact t_skip rfl rfl | (refine t_run (w := w') (v := (.pointer (some ⟨gh, 2, none⟩))) rfl ?_ rfl hb; first | (go_simp; done) | (go_simp; rfl) | (go_simp; simp [bne]; done) | (simp [*]; done)))
    · rw [uX13.out, (hd 11 rfl).trans uX11.out, (hd 12 rfl).trans uX12.out]
      clear hd
      cases uq10 <;> (first | exact t_skip rfl rfl | (refine t_run (w := w') (v := (.bool hs)) rfl ?_ rfl hb; first | (go_simp; done) | (go_simp; rfl) | (go_simp; simp [bne]; done) | (simp [*]; done)))
    · rw [uX14.out, (hd 11 rfl).trans uX11.out]
      clear hd
      cases uq10 <;> (first | exact t_skip rfl rfl | (refine t_run (w := w') (v := (.pointer (some ⟨gb, 2, none⟩))) rfl ?_ rfl hb; first | (go_simp; done) | (go_simp; rfl) | (go_simp; simp [bne]; done) | (simp [*]; done)))
    · rw [uX15.out, (hd 11 rfl).trans uX11.out, (hd 14 rfl).trans uX14.out]
      clear hd
      cases uq10 <;> (first | exact t_skip rfl rfl | (refine t_run (w := w') (v := (.string S)) rfl ?_ rfl hb; first | (go_simp; done) | (go_simp; rfl) | (go_simp; simp [bne]; done) | (simp [*]; done)))
    · rw [uX16.out, (hd 11 rfl).trans uX11.out, (hd 15 rfl).trans uX15.out]
      clear hd
      cases uq10 <;> (first | exact t_skip rfl rfl | (refine t_call (f := 156) rfl Try.func156 (by kernel_rfl) rfl #[(.string S), (.bool false)] rfl (by simp only [List.map_toArray, List.map_cons, List.map_nil]; rfl) ?_; refine (spec_l2Name.calls k S false ns _ E3.out).mono ?_; rintro e w2 ⟨rfl, hb2⟩; exact ⟨rfl, below_step hb hb2.below⟩))
    · rw [uX17.out, (hd 11 rfl).trans uX11.out, (hd 13 rfl).trans uX13.out, (hd 16 rfl).trans uX16.out]
      clear hd
      cases uq10 <;> (first | exact t_skip rfl rfl | (refine t_run (w := w') (v := (.bool uq17)) rfl ?_ rfl hb; rw [huq17.out]; first | (go_simp; done) | (go_simp; rfl) | (go_simp; simp [bne]; done) | (simp [*]; done)))
    · rw [uX18.out, (hd 11 rfl).trans uX11.out, (hd 17 rfl).trans uX17.out]
      clear hd
      cases uq10 <;> (refine t_run (w := w') (v := (.bool uq18)) rfl ?_ rfl hb; rw [huq18.out]; first | (go_simp; done) | (go_simp; rfl) | (go_simp; simp [bne]; done) | (simp [*]; done))
    · rw [uX19.out, (hd 18 rfl).trans uX18.out]
      clear hd
      refine t_run (w := w') (v := (.bool uq18)) rfl ?_ rfl hb; first | (go_simp; done) | (go_simp; rfl) | (go_simp; simp [bne]; done) | (simp [*]; done)
    · rw [uX20.out, (hd 19 rfl).trans uX19.out]
      clear hd
      cases uq18 <;> (first | exact t_skip rfl rfl | (refine t_run (w := w') (v := (.pointer (some ⟨gh, 2, none⟩))) rfl ?_ rfl hb; first | (go_simp; done) | (go_simp; rfl) | (go_simp; simp [bne]; done) | (simp [*]; done)))
    · rw [uX21.out, (hd 19 rfl).trans uX19.out, (hd 20 rfl).trans uX20.out]
      clear hd
      cases uq18 <;> (first | exact t_skip rfl rfl | (refine t_run (w := w') (v := (.bool hs)) rfl ?_ rfl hb; first | (go_simp; done) | (go_simp; rfl) | (go_simp; simp [bne]; done) | (simp [*]; done)))
    · rw [uX22.out, (hd 19 rfl).trans uX19.out, (hd 21 rfl).trans uX21.out]
      clear hd
      cases uq18 <;> (first | exact t_skip rfl rfl | (refine t_run (w := w') (v := (.bool (!hs))) rfl ?_ rfl hb; first | (go_simp; done) | (go_simp; rfl) | (go_simp; simp [bne]; done) | (simp [*]; done)))
    · rw [uX23.out, (hd 19 rfl).trans uX19.out, (hd 22 rfl).trans uX22.out]
      clear hd
      cases uq18 <;> (first | exact t_skip rfl rfl | (refine t_run (w := w') (v := (.bool (!hs))) rfl ?_ rfl hb; first | (go_simp; done) | (go_simp; rfl) | (go_simp; simp [bne]; done) | (simp [*]; done)))
    · rw [uX24.out, (hd 23 rfl).trans uX23.out]
      clear hd
      cases hs <;> cases uq18 <;> (first | exact t_skip rfl rfl | (refine t_run (w := w') (v := (.pointer (some ⟨gb, 2, none⟩))) rfl ?_ rfl hb; first | (go_simp; done) | (go_simp; rfl) | (go_simp; simp [bne]; done) | (simp [*]; done)))
    · rw [uX25.out, (hd 23 rfl).trans uX23.out, (hd 24 rfl).trans uX24.out]
      clear hd
      cases hs <;> cases uq18 <;> (first | exact t_skip rfl rfl | (refine t_run (w := w') (v := (.string S)) rfl ?_ rfl hb; first | (go_simp; done) | (go_simp; rfl) | (go_simp; simp [bne]; done) | (simp [*]; done)))
    · rw [uX26.out, (hd 23 rfl).trans uX23.out, (hd 25 rfl).trans uX25.out]
      clear hd
      cases hs <;> cases uq18 <;> (first | exact t_skip rfl rfl | (refine t_run (w := w') (v := (.bool uq26)) rfl ?_ rfl hb; rw [huq26.out]; first | (go_simp; done) | (go_simp; rfl) | (go_simp; simp [bne]; done) | (simp [*]; done)))
    · rw [uX27.out, (hd 19 rfl).trans uX19.out, (hd 23 rfl).trans uX23.out, (hd 26 rfl).trans uX26.out]
      clear hd
      cases hs <;> cases uq18 <;> (first | exact t_skip rfl rfl | (refine t_run (w := w') (v := (.bool uq27)) rfl ?_ rfl hb; rw [huq27.out]; first | (go_simp; done) | (go_simp; rfl) | (go_simp; simp [bne]; done) | (simp [*]; done)))
    · rw [uX28.out, (hd 19 rfl).trans uX19.out, (hd 27 rfl).trans uX27.out]
      clear hd
      cases uq18 <;> (refine t_run (w := w') (v := (.bool uq28)) rfl ?_ rfl hb; rw [huq28.out]; first | (go_simp; done) | (go_simp; rfl) | (go_simp; simp [bne]; done) | (simp [*]; done))
    · rw [uX29.out, (hd 28 rfl).trans uX28.out]
      clear hd
      refine t_run (w := w') (v := (.bool uq28)) rfl ?_ rfl hb; first | (go_simp; done) | (go_simp; rfl) | (go_simp; simp [bne]; done) | (simp [*]; done)
    · rw [uX30.out, (hd 29 rfl).trans uX29.out]
      clear hd
      cases uq28 <;> (first | exact t_skip rfl rfl | (refine t_run (w := w') (v := (.pointer (some ⟨gh, 3, none⟩))) rfl ?_ rfl hb; first | (go_simp; done) | (go_simp; rfl) | (go_simp; simp [bne]; done) | (simp [*]; done)))
    · rw [uX31.out, (hd 29 rfl).trans uX29.out, (hd 30 rfl).trans uX30.out]
      clear hd
      cases uq28 <;> (first | exact t_skip rfl rfl | (refine t_run (w := w') (v := (.bool hz)) rfl ?_ rfl hb; first | (go_simp; done) | (go_simp; rfl) | (go_simp; simp [bne]; done) | (simp [*]; done)))
    · rw [uX32.out, (hd 29 rfl).trans uX29.out]
      clear hd
      cases uq28 <;> (first | exact t_skip rfl rfl | (refine t_run (w := w') (v := (.pointer (some ⟨gb, 3, none⟩))) rfl ?_ rfl hb; first | (go_simp; done) | (go_simp; rfl) | (go_simp; simp [bne]; done) | (simp [*]; done)))
    · rw [uX33.out, (hd 29 rfl).trans uX29.out, (hd 32 rfl).trans uX32.out]
      clear hd
      cases uq28 <;> (first | exact t_skip rfl rfl | (refine t_run (w := w') (v := (.string Z)) rfl ?_ rfl hb; first | (go_simp; done) | (go_simp; rfl) | (go_simp; simp [bne]; done) | (simp [*]; done)))
    · rw [uX34.out, (hd 29 rfl).trans uX29.out, (hd 33 rfl).trans uX33.out]
      clear hd
      cases uq28 <;> (first | exact t_skip rfl rfl | (refine t_call (f := 156) rfl Try.func156 (by kernel_rfl) rfl #[(.string Z), (.bool false)] rfl (by simp only [List.map_toArray, List.map_cons, List.map_nil]; rfl) ?_; refine (spec_l2Name.calls k Z false nz _ E4.out).mono ?_; rintro e w2 ⟨rfl, hb2⟩; exact ⟨rfl, below_step hb hb2.below⟩))
    · rw [uX35.out, (hd 29 rfl).trans uX29.out, (hd 31 rfl).trans uX31.out, (hd 34 rfl).trans uX34.out]
      clear hd
      cases uq28 <;> (first | exact t_skip rfl rfl | (refine t_run (w := w') (v := (.bool uq35)) rfl ?_ rfl hb; rw [huq35.out]; first | (go_simp; done) | (go_simp; rfl) | (go_simp; simp [bne]; done) | (simp [*]; done)))
    · rw [uX36.out, (hd 29 rfl).trans uX29.out, (hd 35 rfl).trans uX35.out]
      clear hd
      cases uq28 <;> (refine t_run (w := w') (v := (.bool uq36)) rfl ?_ rfl hb; rw [huq36.out]; first | (go_simp; done) | (go_simp; rfl) | (go_simp; simp [bne]; done) | (simp [*]; done))
    · rw [uX37.out, (hd 36 rfl).trans uX36.out]
      clear hd
      refine t_run (w := w') (v := (.bool uq36)) rfl ?_ rfl hb; first | (go_simp; done) | (go_simp; rfl) | (go_simp; simp [bne]; done) | (simp [*]; done)
    · rw [uX38.out, (hd 37 rfl).trans uX37.out]
      clear hd
      cases uq36 <;> (first | exact t_skip rfl rfl | (refine t_run (w := w') (v := (.pointer (some ⟨gh, 3, none⟩))) rfl ?_ rfl hb; first | (go_simp; done) | (go_simp; rfl) | (go_simp; simp [bne]; done) | (simp [*]; done)))
    · rw [uX39.out, (hd 37 rfl).trans uX37.out, (hd 38 rfl).trans uX38.out]
      clear hd
      cases uq36 <;> (first | exact t_skip rfl rfl | (refine t_run (w := w') (v := (.bool hz)) rfl ?_ rfl hb; first | (go_simp; done) | (go_simp; rfl) | (go_simp; simp [bne]; done) | (simp [*]; done)))
    · rw [uX40.out, (hd 37 rfl).trans uX37.out, (hd 39 rfl).trans uX39.out]
      clear hd
      cases uq36 <;> (first | exact t_skip rfl rfl | (refine t_run (w := w') (v := (.bool (!hz))) rfl ?_ rfl hb; first | (go_simp; done) | (go_simp; rfl) | (go_simp; simp [bne]; done) | (simp [*]; done)))
    · rw [uX41.out, (hd 37 rfl).trans uX37.out, (hd 40 rfl).trans uX40.out]
      clear hd
      cases uq36 <;> (first | exact t_skip rfl rfl | (refine t_run (w := w') (v := (.bool (!hz))) rfl ?_ rfl hb; first | (go_simp; done) | (go_simp; rfl) | (go_simp; simp [bne]; done) | (simp [*]; done)))
    · rw [uX42.out, (hd 41 rfl).trans uX41.out]
      clear hd
      cases hz <;> cases uq36 <;> (first | exact t_skip rfl rfl | (refine t_run (w := w') (v := (.pointer (some ⟨gb, 3, none⟩))) rfl ?_ rfl hb; first | (go_simp; done) | (go_simp; rfl) | (go_simp; simp [bne]; done) | (simp [*]; done)))
    · rw [uX43.out, (hd 41 rfl).trans uX41.out, (hd 42 rfl).trans uX42.out]
      clear hd
      cases hz <;> cases uq36 <;> (first | exact t_skip rfl rfl | (refine t_run (w := w') (v := (.string Z)) rfl ?_ rfl hb; first | (go_simp; done) | (go_simp; rfl) | (go_simp; simp [bne]; done) | (simp [*]; done)))
    · rw [uX44.out, (hd 41 rfl).trans uX41.out, (hd 43 rfl).trans uX43.out]
      clear hd
      cases hz <;> cases uq36 <;> (first | exact t_skip rfl rfl | (refine t_run (w := w') (v := (.bool uq44)) rfl ?_ rfl hb; rw [huq44.out]; first | (go_simp; done) | (go_simp; rfl) | (go_simp; simp [bne]; done) | (simp [*]; done)))
    · rw [uX45.out, (hd 37 rfl).trans uX37.out, (hd 41 rfl).trans uX41.out, (hd 44 rfl).trans uX44.out]
      clear hd
      cases hz <;> cases uq36 <;> (first | exact t_skip rfl rfl | (refine t_run (w := w') (v := (.bool uq45)) rfl ?_ rfl hb; rw [huq45.out]; first | (go_simp; done) | (go_simp; rfl) | (go_simp; simp [bne]; done) | (simp [*]; done)))
    · rw [uX46.out, (hd 37 rfl).trans uX37.out, (hd 45 rfl).trans uX45.out]
      clear hd
      cases uq36 <;> (refine t_run (w := w') (v := (.bool uq46)) rfl ?_ rfl hb; rw [huq46.out]; first | (go_simp; done) | (go_simp; rfl) | (go_simp; simp [bne]; done) | (simp [*]; done))
    · rw [uX47.out, (hd 46 rfl).trans uX46.out]
      clear hd
      refine t_run (w := w') (v := (.bool uq46)) rfl ?_ rfl hb; first | (go_simp; done) | (go_simp; rfl) | (go_simp; simp [bne]; done) | (simp [*]; done)
    · rw [uX48.out, (hd 47 rfl).trans uX47.out]
      clear hd
      cases uq46 <;> (first | exact t_skip rfl rfl | (refine t_run (w := w') (v := (.pointer (some ⟨gh, 3, none⟩))) rfl ?_ rfl hb; first | (go_simp; done) | (go_simp; rfl) | (go_simp; simp [bne]; done) | (simp [*]; done)))
    · rw [uX49.out, (hd 47 rfl).trans uX47.out, (hd 48 rfl).trans uX48.out]
      clear hd
      cases uq46 <;> (first | exact t_skip rfl rfl | (refine t_run (w := w') (v := (.bool hz)) rfl ?_ rfl hb; first | (go_simp; done) | (go_simp; rfl) | (go_simp; simp [bne]; done) | (simp [*]; done)))
    · rw [uX50.out, (hd 47 rfl).trans uX47.out, (hd 49 rfl).trans uX49.out]
      clear hd
      cases uq46 <;> (first | exact t_skip rfl rfl | (refine t_run (w := w') (v := (.bool hz)) rfl ?_ rfl hb; first | (go_simp; done) | (go_simp; rfl) | (go_simp; simp [bne]; done) | (simp [*]; done)))
    · rw [uX51.out, (hd 50 rfl).trans uX50.out]
      clear hd
      cases hz <;> cases uq46 <;> (first | exact t_skip rfl rfl | (refine t_run (w := w') (v := (.pointer (some ⟨gb, 2, none⟩))) rfl ?_ rfl hb; first | (go_simp; done) | (go_simp; rfl) | (go_simp; simp [bne]; done) | (simp [*]; done)))
    · rw [uX52.out, (hd 50 rfl).trans uX50.out, (hd 51 rfl).trans uX51.out]
      clear hd
      cases hz <;> cases uq46 <;> (first | exact t_skip rfl rfl | (refine t_run (w := w') (v := (.string S)) rfl ?_ rfl hb; first | (go_simp; done) | (go_simp; rfl) | (go_simp; simp [bne]; done) | (simp [*]; done)))
    · rw [uX53.out, (hd 50 rfl).trans uX50.out]
      clear hd
      cases hz <;> cases uq46 <;> (first | exact t_skip rfl rfl | (refine t_run (w := w') (v := (.pointer (some ⟨gb, 3, none⟩))) rfl ?_ rfl hb; first | (go_simp; done) | (go_simp; rfl) | (go_simp; simp [bne]; done) | (simp [*]; done)))
    · rw [uX54.out, (hd 50 rfl).trans uX50.out, (hd 53 rfl).trans uX53.out]
      clear hd
      cases hz <;> cases uq46 <;> (first | exact t_skip rfl rfl | (refine t_run (w := w') (v := (.string Z)) rfl ?_ rfl hb; first | (go_simp; done) | (go_simp; rfl) | (go_simp; simp [bne]; done) | (simp [*]; done)))
    · rw [uX55.out, (hd 50 rfl).trans uX50.out, (hd 52 rfl).trans uX52.out, (hd 54 rfl).trans uX54.out]
      clear hd
      cases hz <;> cases uq46 <;> (first | exact t_skip rfl rfl | (refine t_run (w := w') (v := (.bool uq55)) rfl ?_ rfl hb; rw [huq55.out]; first | (go_simp; done) | (go_simp; rfl) | (go_simp; simp [bne]; done) | (simp [*]; done)))
    · rw [uX56.out, (hd 47 rfl).trans uX47.out, (hd 50 rfl).trans uX50.out, (hd 55 rfl).trans uX55.out]
      clear hd
      cases hz <;> cases uq46 <;> (first | exact t_skip rfl rfl | (refine t_run (w := w') (v := (.bool uq56)) rfl ?_ rfl hb; rw [huq56.out]; first | (go_simp; done) | (go_simp; rfl) | (go_simp; simp [bne]; done) | (simp [*]; done)))
    · rw [uX57.out, (hd 47 rfl).trans uX47.out, (hd 56 rfl).trans uX56.out]
      clear hd
      cases uq46 <;> (refine t_run (w := w') (v := (.bool uq57)) rfl ?_ rfl hb; rw [huq57.out]; first | (go_simp; done) | (go_simp; rfl) | (go_simp; simp [bne]; done) | (simp [*]; done))
  case fin =>
    intro up w7 hp_ hb
    have e57 : up 57 = (.bool uq57) := (hp_ 57 (by decide)).trans uX57.out
    have hbad : uq57 = (((((((((l.length : Int) != hp) || !num) || (hs != ns)) || (!hs && !S.toList.isEmpty)) || (hz != nz)) || (!hz && !Z.toList.isEmpty)) || (hz && (S.toList == Z.toList)))) := by simp only [huq57.out, huq56.out, huq55.out, huq46.out, huq45.out, huq44.out, huq36.out, huq35.out, huq28.out, huq27.out, huq26.out, huq18.out, huq17.out, huq10.out, huq5.out]
    dsimp only
    rw [e57]
    clear hp_ e57 uX0 uX1 uX2 uX3 uX4 uX5 uX6 uX7 uX8 uX9 uX10 uX11 uX12 uX13 uX14 uX15 uX16 uX17 uX18 uX19 uX20 uX21 uX22 uX23 uX24 uX25 uX26 uX27 uX28 uX29 uX30 uX31 uX32 uX33 uX34 uX35 uX36 uX37 uX38 uX39 uX40 uX41 uX42 uX43 uX44 uX45 uX46 uX47 uX48 uX49 uX50 uX51 uX52 uX53 uX54 uX55 uX56 uX57
    have HB := Aside0.mk (below_step HB.out hb)
    have BK := Aside0.mk (blk_below BK.out hb)
    have HH := Aside0.mk (blk_below HH.out hb)
    clear hb huq5 huq10 huq17 huq18 huq26 huq27 huq28 huq35 huq36 huq44 huq45 huq46 huq55 huq56
    have HBADu := Aside0.mk hbad
    clear hbad huq57
    cases huu : uq57 with
    | true =>
      rw [huu] at HBADu
      go_wp2
      go_ret
      exact ⟨by unfold oneB; rw [← HBADu.out]; rfl, HB.out⟩
    | false =>
      rw [huu] at HBADu
      clear huu
      go_upto_region 4 with (fail)
      obtain ⟨vq5, hvq5_⟩ : ∃ q : Bool, q = ((ht != tk)) := ⟨_, rfl⟩
      have hvq5 := Aside0.mk hvq5_
      clear hvq5_
      obtain ⟨vq16, hvq16_⟩ : ∃ q : Bool, q = ((!ht) && (!st)) := ⟨_, rfl⟩
      have hvq16 := Aside0.mk hvq16_
      clear hvq16_
      obtain ⟨vq17, hvq17_⟩ : ∃ q : Bool, q = (vq5 || vq16) := ⟨_, rfl⟩
      have hvq17 := Aside0.mk hvq17_
      clear hvq17_
      obtain ⟨vq22, hvq22_⟩ : ∃ q : Bool, q = (decide (((ts.length : Int) : Int) > (2 : Int))) := ⟨_, rfl⟩
      have hvq22 := Aside0.mk hvq22_
      clear hvq22_
      obtain ⟨vq23, hvq23_⟩ : ∃ q : Bool, q = (vq17 || vq22) := ⟨_, rfl⟩
      have hvq23 := Aside0.mk hvq23_
      clear hvq23_
      obtain ⟨vq27, hvq27_⟩ : ∃ q : Bool, q = (((K : Int) != (3 : Int))) := ⟨_, rfl⟩
      have hvq27 := Aside0.mk hvq27_
      clear hvq27_
      obtain ⟨vq32, hvq32_⟩ : ∃ q : Bool, q = (decide (((ts.length : Int) : Int) > (0 : Int))) := ⟨_, rfl⟩
      have hvq32 := Aside0.mk hvq32_
      clear hvq32_
      obtain ⟨vq33, hvq33_⟩ : ∃ q : Bool, q = (vq27 && vq32) := ⟨_, rfl⟩
      have hvq33 := Aside0.mk hvq33_
      clear hvq33_
      obtain ⟨vq34, hvq34_⟩ : ∃ q : Bool, q = (vq23 || vq33) := ⟨_, rfl⟩
      have hvq34 := Aside0.mk hvq34_
      clear hvq34_
      obtain ⟨vx, vX0, vX1, vX2, vX3, vX4, vX5, vX6, vX7, vX8, vX9, vX10, vX11, vX12, vX13, vX14, vX15, vX16, vX17, vX18, vX19, vX20, vX21, vX22, vX23, vX24, vX25, vX26, vX27, vX28, vX29, vX30, vX31, vX32, vX33, vX34⟩ : ∃ x : Nat → Value, Aside0 (x 0 = (.pointer (some ⟨gh, 4, none⟩))) ∧ Aside0 (x 1 = (.bool ht)) ∧ Aside0 (x 2 = (.pointer (some ⟨gb, 4, none⟩))) ∧ Aside0 (x 3 = (.agg #[.int .i64 T.f0, .int .i64 T.f1, .slice A6 T.f2.length c6])) ∧ Aside0 (x 4 = ((.bool tk))) ∧ Aside0 (x 5 = (.bool vq5)) ∧ Aside0 (x 6 = (.bool vq5)) ∧ Aside0 (x 7 = (bif !vq5 then (.pointer (some ⟨gh, 4, none⟩)) else undef)) ∧ Aside0 (x 8 = (bif !vq5 then (.bool ht) else undef)) ∧ Aside0 (x 9 = (bif !vq5 then (.bool (!ht)) else undef)) ∧ Aside0 (x 10 = (bif !vq5 then (.bool (!ht)) else undef)) ∧ Aside0 (x 11 = (bif (!vq5 && (!ht)) then (.pointer (some ⟨gb, 4, none⟩)) else undef)) ∧ Aside0 (x 12 = (bif (!vq5 && (!ht)) then (.agg #[.int .i64 T.f0, .int .i64 T.f1, .slice A6 T.f2.length c6]) else undef)) ∧ Aside0 (x 13 = (bif (!vq5 && (!ht)) then (.agg #[.int .i64 0, .int .i64 0, .slice none 0 0]) else undef)) ∧ Aside0 (x 14 = (bif (!vq5 && (!ht)) then ((.bool st)) else undef)) ∧ Aside0 (x 15 = (bif (!vq5 && (!ht)) then (.bool (!st)) else undef)) ∧ Aside0 (x 16 = (bif !vq5 then (.bool vq16) else undef)) ∧ Aside0 (x 17 = (.bool vq17)) ∧ Aside0 (x 18 = (.bool vq17)) ∧ Aside0 (x 19 = (bif !vq17 then (.pointer (some ⟨gb, 7, none⟩)) else undef)) ∧ Aside0 (x 20 = (bif !vq17 then (.slice A7 ts.length c7) else undef)) ∧ Aside0 (x 21 = (bif !vq17 then (.int .i64 (ts.length : Int)) else undef)) ∧ Aside0 (x 22 = (bif !vq17 then (.bool vq22) else undef)) ∧ Aside0 (x 23 = (.bool vq23)) ∧ Aside0 (x 24 = (.bool vq23)) ∧ Aside0 (x 25 = (bif !vq23 then (.pointer (some ⟨gb, 0, none⟩)) else undef)) ∧ Aside0 (x 26 = (bif !vq23 then (.int .i64 K) else undef)) ∧ Aside0 (x 27 = (bif !vq23 then (.bool vq27) else undef)) ∧ Aside0 (x 28 = (bif !vq23 then (.bool vq27) else undef)) ∧ Aside0 (x 29 = (bif (!vq23 && vq27) then (.pointer (some ⟨gb, 7, none⟩)) else undef)) ∧ Aside0 (x 30 = (bif (!vq23 && vq27) then (.slice A7 ts.length c7) else undef)) ∧ Aside0 (x 31 = (bif (!vq23 && vq27) then (.int .i64 (ts.length : Int)) else undef)) ∧ Aside0 (x 32 = (bif (!vq23 && vq27) then (.bool vq32) else undef)) ∧ Aside0 (x 33 = (bif !vq23 then (.bool vq33) else undef)) ∧ Aside0 (x 34 = (.bool vq34)) := ⟨fun j => ([(.pointer (some ⟨gh, 4, none⟩)), (.bool ht), (.pointer (some ⟨gb, 4, none⟩)), (.agg #[.int .i64 T.f0, .int .i64 T.f1, .slice A6 T.f2.length c6]), ((.bool tk)), (.bool vq5), (.bool vq5), (bif !vq5 then (.pointer (some ⟨gh, 4, none⟩)) else undef), (bif !vq5 then (.bool ht) else undef), (bif !vq5 then (.bool (!ht)) else undef), (bif !vq5 then (.bool (!ht)) else undef), (bif (!vq5 && (!ht)) then (.pointer (some ⟨gb, 4, none⟩)) else undef), (bif (!vq5 && (!ht)) then (.agg #[.int .i64 T.f0, .int .i64 T.f1, .slice A6 T.f2.length c6]) else undef), (bif (!vq5 && (!ht)) then (.agg #[.int .i64 0, .int .i64 0, .slice none 0 0]) else undef), (bif (!vq5 && (!ht)) then ((.bool st)) else undef), (bif (!vq5 && (!ht)) then (.bool (!st)) else undef), (bif !vq5 then (.bool vq16) else undef), (.bool vq17), (.bool vq17), (bif !vq17 then (.pointer (some ⟨gb, 7, none⟩)) else undef), (bif !vq17 then (.slice A7 ts.length c7) else undef), (bif !vq17 then (.int .i64 (ts.length : Int)) else undef), (bif !vq17 then (.bool vq22) else undef), (.bool vq23), (.bool vq23), (bif !vq23 then (.pointer (some ⟨gb, 0, none⟩)) else undef), (bif !vq23 then (.int .i64 K) else undef), (bif !vq23 then (.bool vq27) else undef), (bif !vq23 then (.bool vq27) else undef), (bif (!vq23 && vq27) then (.pointer (some ⟨gb, 7, none⟩)) else undef), (bif (!vq23 && vq27) then (.slice A7 ts.length c7) else undef), (bif (!vq23 && vq27) then (.int .i64 (ts.length : Int)) else undef), (bif (!vq23 && vq27) then (.bool vq32) else undef), (bif !vq23 then (.bool vq33) else undef), (.bool vq34)] : List Value).getD j undef, ⟨rfl⟩, ⟨rfl⟩, ⟨rfl⟩, ⟨rfl⟩, ⟨rfl⟩, ⟨rfl⟩, ⟨rfl⟩, ⟨rfl⟩, ⟨rfl⟩, ⟨rfl⟩, ⟨rfl⟩, ⟨rfl⟩, ⟨rfl⟩, ⟨rfl⟩, ⟨rfl⟩, ⟨rfl⟩, ⟨rfl⟩, ⟨rfl⟩, ⟨rfl⟩, ⟨rfl⟩, ⟨rfl⟩, ⟨rfl⟩, ⟨rfl⟩, ⟨rfl⟩, ⟨rfl⟩, ⟨rfl⟩, ⟨rfl⟩, ⟨rfl⟩, ⟨rfl⟩, ⟨rfl⟩, ⟨rfl⟩, ⟨rfl⟩, ⟨rfl⟩, ⟨rfl⟩, ⟨rfl⟩⟩
      refine region_test (n := 35) (by rfl) (by kernel_rfl) (by kernel_rfl) (fun vp => ⟨#[Value.agg #[Value.int .i64 K, Value.int .i64 N, Value.string S, Value.string Z, Value.int .i64 T.f0, Value.int .i64 T.f1, Value.slice A6 T.f2.length c6, Value.slice A7 ts.length c7, Value.slice A8 l.length c8], Value.pointer (some ⟨gb, 0, none⟩), Value.bool false, Value.pointer (some ⟨gh, 0, none⟩), undef, Value.pointer (some ⟨gb, 0, none⟩), Value.int .i64 K, Value.agg #[Value.int .i64 hp, Value.int .i64 hn, Value.bool hs, Value.bool hz, Value.bool ht], up 0, up 1, up 2, up 3, up 4, up 5, up 6, up 7, up 8, up 9, up 10, up 11, up 12, up 13, up 14, up 15, up 16, up 17, up 18, up 19, up 20, up 21, up 22, up 23, up 24, up 25, up 26, up 27, up 28, up 29, up 30, up 31, up 32, up 33, up 34, up 35, up 36, up 37, up 38, up 39, up 40, up 41, up 42, up 43, up 44, up 45, up 46, up 47, up 48, up 49, up 50, up 51, up 52, up 53, up 54, up 55, up 56, Value.bool false, vp 0, vp 1, vp 2, vp 3, vp 4, vp 5, vp 6, vp 7, vp 8, vp 9, vp 10, vp 11, vp 12, vp 13, vp 14, vp 15, vp 16, vp 17, vp 18, vp 19, vp 20, vp 21, vp 22, vp 23, vp 24, vp 25, vp 26, vp 27, vp 28, vp 29, vp 30, vp 31, vp 32, vp 33, vp 34, undef, undef, undef, undef, undef, undef, undef, undef, undef, undef, undef, undef, undef, undef, undef, undef, undef, undef, undef, undef, undef, undef, undef, undef, undef], []⟩) vx (fun j => ([(undef), (undef), (undef), (undef), (undef), (undef), (undef), (undef), (undef), (undef), (undef), (undef), (undef), (undef), (undef), (undef), (undef), (undef), (undef), (undef), (undef), (undef), (undef), (undef), (undef), (undef), (undef), (undef), (undef), (undef), (undef), (undef), (undef), (undef), (undef)] : List Value).getD j undef) rfl ?hput ?step ?fin
      case hput =>
        intro i hi o ho p v
        obtain rfl | rfl | rfl | rfl | rfl | rfl | rfl | rfl | rfl | rfl | rfl | rfl | rfl | rfl | rfl | rfl | rfl | rfl | rfl | rfl | rfl | rfl | rfl | rfl | rfl | rfl | rfl | rfl | rfl | rfl | rfl | rfl | rfl | rfl | rfl : i = 0 ∨ i = 1 ∨ i = 2 ∨ i = 3 ∨ i = 4 ∨ i = 5 ∨ i = 6 ∨ i = 7 ∨ i = 8 ∨ i = 9 ∨ i = 10 ∨ i = 11 ∨ i = 12 ∨ i = 13 ∨ i = 14 ∨ i = 15 ∨ i = 16 ∨ i = 17 ∨ i = 18 ∨ i = 19 ∨ i = 20 ∨ i = 21 ∨ i = 22 ∨ i = 23 ∨ i = 24 ∨ i = 25 ∨ i = 26 ∨ i = 27 ∨ i = 28 ∨ i = 29 ∨ i = 30 ∨ i = 31 ∨ i = 32 ∨ i = 33 ∨ i = 34 := by omega
        all_goals (simp only [List.getElem?_toArray, List.getElem?_cons_succ, List.getElem?_cons_zero, Option.some.injEq] at ho; subst ho; rfl)
      case step =>
        intro i hi o ho p w' hb hd
        have hb0 : w'.cell? ⟨gb, 0, none⟩ = some (.int .i64 K) := (blk_cell (blk_below BK.out hb) 0).trans rfl
        have hb1 : w'.cell? ⟨gb, 1, none⟩ = some (.int .i64 N) := (blk_cell (blk_below BK.out hb) 1).trans rfl
        have hb2 : w'.cell? ⟨gb, 2, none⟩ = some (.string S) := (blk_cell (blk_below BK.out hb) 2).trans rfl
        have hb3 : w'.cell? ⟨gb, 3, none⟩ = some (.string Z) := (blk_cell (blk_below BK.out hb) 3).trans rfl
        have hb4 : w'.cell? ⟨gb, 4, none⟩ = some (.int .i64 T.f0) := (blk_cell (blk_below BK.out hb) 4).trans rfl
        have hb5 : w'.cell? ⟨gb, 5, none⟩ = some (.int .i64 T.f1) := (blk_cell (blk_below BK.out hb) 5).trans rfl
        have hb6 : w'.cell? ⟨gb, 6, none⟩ = some (.slice A6 T.f2.length c6) := (blk_cell (blk_below BK.out hb) 6).trans rfl
        have hb7 : w'.cell? ⟨gb, 7, none⟩ = some (.slice A7 ts.length c7) := (blk_cell (blk_below BK.out hb) 7).trans rfl
        have hb8 : w'.cell? ⟨gb, 8, none⟩ = some (.slice A8 l.length c8) := (blk_cell (blk_below BK.out hb) 8).trans rfl
        have hh0 : w'.cell? ⟨gh, 0, none⟩ = some (.int .i64 hp) := (blk_cell (blk_below HH.out hb) 0).trans rfl
        have hh1 : w'.cell? ⟨gh, 1, none⟩ = some (.int .i64 hn) := (blk_cell (blk_below HH.out hb) 1).trans rfl
        have hh2 : w'.cell? ⟨gh, 2, none⟩ = some (.bool hs) := (blk_cell (blk_below HH.out hb) 2).trans rfl
        have hh3 : w'.cell? ⟨gh, 3, none⟩ = some (.bool hz) := (blk_cell (blk_below HH.out hb) 3).trans rfl
        have hh4 : w'.cell? ⟨gh, 4, none⟩ = some (.bool ht) := (blk_cell (blk_below HH.out hb) 4).trans rfl
        obtain rfl | rfl | rfl | rfl | rfl | rfl | rfl | rfl | rfl | rfl | rfl | rfl | rfl | rfl | rfl | rfl | rfl | rfl | rfl | rfl | rfl | rfl | rfl | rfl | rfl | rfl | rfl | rfl | rfl | rfl | rfl | rfl | rfl | rfl | rfl : i = 0 ∨ i = 1 ∨ i = 2 ∨ i = 3 ∨ i = 4 ∨ i = 5 ∨ i = 6 ∨ i = 7 ∨ i = 8 ∨ i = 9 ∨ i = 10 ∨ i = 11 ∨ i = 12 ∨ i = 13 ∨ i = 14 ∨ i = 15 ∨ i = 16 ∨ i = 17 ∨ i = 18 ∨ i = 19 ∨ i = 20 ∨ i = 21 ∨ i = 22 ∨ i = 23 ∨ i = 24 ∨ i = 25 ∨ i = 26 ∨ i = 27 ∨ i = 28 ∨ i = 29 ∨ i = 30 ∨ i = 31 ∨ i = 32 ∨ i = 33 ∨ i = 34 := by omega
        all_goals (simp only [List.getElem?_toArray, List.getElem?_cons_succ, List.getElem?_cons_zero, Option.some.injEq] at ho; subst ho; dsimp only)
        · rw [vX0.out]
          clear hd
          refine t_run (w := w') (v := (.pointer (some ⟨gh, 4, none⟩))) rfl ?_ rfl hb; first | (go_simp; done) | (go_simp; rfl) | (go_simp; simp [bne]; done) | (simp [*]; done)
        · rw [vX1.out, (hd 0 rfl).trans vX0.out]
          clear hd
          refine t_run (w := w') (v := (.bool ht)) rfl ?_ rfl hb; first | (go_simp; done) | (go_simp; rfl) | (go_simp; simp [bne]; done) | (simp [*]; done)
        · rw [vX2.out]
          clear hd
          refine t_run (w := w') (v := (.pointer (some ⟨gb, 4, none⟩))) rfl ?_ rfl hb; first | (go_simp; done) | (go_simp; rfl) | (go_simp; simp [bne]; done) | (simp [*]; done)
        · rw [vX3.out, (hd 2 rfl).trans vX2.out]
          clear hd
          refine t_run (w := w') (v := (.agg #[.int .i64 T.f0, .int .i64 T.f1, .slice A6 T.f2.length c6])) rfl ?_ rfl hb; first | (go_simp; done) | (go_simp; rfl) | (go_simp; simp [bne]; done) | (simp [*]; done)
        · rw [vX4.out, (hd 3 rfl).trans vX3.out]
          clear hd
          (refine t_call (f := 249) rfl Try.func249 (by kernel_rfl) rfl #[(.agg #[.int .i64 T.f0, .int .i64 T.f1, .slice A6 T.f2.length c6])] rfl (by simp only [List.map_toArray, List.map_cons, List.map_nil]; rfl) ?_; refine (spec_TyOk.calls T.f0 T.f1 A6 c6 T.f2 tk _ (Kd.C_below HR6.out (below_step HB.out hb)) HC6.out E5.out).mono ?_; rintro e w2 ⟨rfl, hb2⟩; exact ⟨rfl, below_step hb hb2⟩)
        · rw [vX5.out, (hd 1 rfl).trans vX1.out, (hd 4 rfl).trans vX4.out]
          clear hd
          refine t_run (w := w') (v := (.bool vq5)) rfl ?_ rfl hb; rw [hvq5.out]; first | (go_simp; done) | (go_simp; rfl) | (go_simp; simp [bne]; done) | (simp [*]; done)
        · rw [vX6.out, (hd 5 rfl).trans vX5.out]
          clear hd
          refine t_run (w := w') (v := (.bool vq5)) rfl ?_ rfl hb; first | (go_simp; done) | (go_simp; rfl) | (go_simp; simp [bne]; done) | (simp [*]; done)
        · rw [vX7.out, (hd 6 rfl).trans vX6.out]
          clear hd
          cases vq5 <;> (first | exact t_skip rfl rfl | (refine t_run (w := w') (v := (.pointer (some ⟨gh, 4, none⟩))) rfl ?_ rfl hb; first | (go_simp; done) | (go_simp; rfl) | (go_simp; simp [bne]; done) | (simp [*]; done)))
        · rw [vX8.out, (hd 6 rfl).trans vX6.out, (hd 7 rfl).trans vX7.out]
          clear hd
          cases vq5 <;> (first | exact t_skip rfl rfl | (refine t_run (w := w') (v := (.bool ht)) rfl ?_ rfl hb; first | (go_simp; done) | (go_simp; rfl) | (go_simp; simp [bne]; done) | (simp [*]; done)))
        · rw [vX9.out, (hd 6 rfl).trans vX6.out, (hd 8 rfl).trans vX8.out]
          clear hd
          cases vq5 <;> (first | exact t_skip rfl rfl | (refine t_run (w := w') (v := (.bool (!ht))) rfl ?_ rfl hb; first | (go_simp; done) | (go_simp; rfl) | (go_simp; simp [bne]; done) | (simp [*]; done)))
        · rw [vX10.out, (hd 6 rfl).trans vX6.out, (hd 9 rfl).trans vX9.out]
          clear hd
          cases vq5 <;> (first | exact t_skip rfl rfl | (refine t_run (w := w') (v := (.bool (!ht))) rfl ?_ rfl hb; first | (go_simp; done) | (go_simp; rfl) | (go_simp; simp [bne]; done) | (simp [*]; done)))
        · rw [vX11.out, (hd 10 rfl).trans vX10.out]
          clear hd
          cases ht <;> cases vq5 <;> (first | exact t_skip rfl rfl | (refine t_run (w := w') (v := (.pointer (some ⟨gb, 4, none⟩))) rfl ?_ rfl hb; first | (go_simp; done) | (go_simp; rfl) | (go_simp; simp [bne]; done) | (simp [*]; done)))
        · rw [vX12.out, (hd 10 rfl).trans vX10.out, (hd 11 rfl).trans vX11.out]
          clear hd
          cases ht <;> cases vq5 <;> (first | exact t_skip rfl rfl | (refine t_run (w := w') (v := (.agg #[.int .i64 T.f0, .int .i64 T.f1, .slice A6 T.f2.length c6])) rfl ?_ rfl hb; first | (go_simp; done) | (go_simp; rfl) | (go_simp; simp [bne]; done) | (simp [*]; done)))
        · rw [vX13.out, (hd 10 rfl).trans vX10.out]
          clear hd
          cases ht <;> cases vq5 <;> (first | exact t_skip rfl rfl | (refine t_run (w := w') (v := (.agg #[.int .i64 0, .int .i64 0, .slice none 0 0])) rfl ?_ rfl hb; first | (go_simp; done) | (go_simp; rfl) | (go_simp; simp [bne]; done) | (simp [*]; done)))
        · rw [vX14.out, (hd 10 rfl).trans vX10.out, (hd 12 rfl).trans vX12.out, (hd 13 rfl).trans vX13.out]
          clear hd
          cases ht <;> cases vq5 <;> (first | exact t_skip rfl rfl | (refine t_call (f := 199) rfl Try.func199 (by kernel_rfl) rfl #[(.agg #[.int .i64 T.f0, .int .i64 T.f1, .slice A6 T.f2.length c6]), (.agg #[.int .i64 0, .int .i64 0, .slice none 0 0])] rfl (by simp only [List.map_toArray, List.map_cons, List.map_nil]; rfl) ?_; refine (spec_SameTy.calls k T.f0 T.f1 A6 c6 T.f2 0 0 none 0 [] st _ (Kd.C_below HR6.out (below_step HB.out hb)) HC6.out (Kd.C_nil k32 _) (Nat.le_refl _) E6.out).mono ?_; rintro e w2 ⟨rfl, hb2⟩; exact ⟨rfl, below_step hb hb2⟩))
        · rw [vX15.out, (hd 10 rfl).trans vX10.out, (hd 14 rfl).trans vX14.out]
          clear hd
          cases ht <;> cases vq5 <;> (first | exact t_skip rfl rfl | (refine t_run (w := w') (v := (.bool (!st))) rfl ?_ rfl hb; first | (go_simp; done) | (go_simp; rfl) | (go_simp; simp [bne]; done) | (simp [*]; done)))
        · rw [vX16.out, (hd 6 rfl).trans vX6.out, (hd 10 rfl).trans vX10.out, (hd 15 rfl).trans vX15.out]
          clear hd
          cases ht <;> cases vq5 <;> (first | exact t_skip rfl rfl | (refine t_run (w := w') (v := (.bool vq16)) rfl ?_ rfl hb; rw [hvq16.out]; first | (go_simp; done) | (go_simp; rfl) | (go_simp; simp [bne]; done) | (simp [*]; done)))
        · rw [vX17.out, (hd 6 rfl).trans vX6.out, (hd 16 rfl).trans vX16.out]
          clear hd
          cases vq5 <;> (refine t_run (w := w') (v := (.bool vq17)) rfl ?_ rfl hb; rw [hvq17.out]; first | (go_simp; done) | (go_simp; rfl) | (go_simp; simp [bne]; done) | (simp [*]; done))
        · rw [vX18.out, (hd 17 rfl).trans vX17.out]
          clear hd
          refine t_run (w := w') (v := (.bool vq17)) rfl ?_ rfl hb; first | (go_simp; done) | (go_simp; rfl) | (go_simp; simp [bne]; done) | (simp [*]; done)
        · rw [vX19.out, (hd 18 rfl).trans vX18.out]
          clear hd
          cases vq17 <;> (first | exact t_skip rfl rfl | (refine t_run (w := w') (v := (.pointer (some ⟨gb, 7, none⟩))) rfl ?_ rfl hb; first | (go_simp; done) | (go_simp; rfl) | (go_simp; simp [bne]; done) | (simp [*]; done)))
        · rw [vX20.out, (hd 18 rfl).trans vX18.out, (hd 19 rfl).trans vX19.out]
          clear hd
          cases vq17 <;> (first | exact t_skip rfl rfl | (refine t_run (w := w') (v := (.slice A7 ts.length c7)) rfl ?_ rfl hb; first | (go_simp; done) | (go_simp; rfl) | (go_simp; simp [bne]; done) | (simp [*]; done)))
        · rw [vX21.out, (hd 18 rfl).trans vX18.out, (hd 20 rfl).trans vX20.out]
          clear hd
          cases vq17 <;> (first | exact t_skip rfl rfl | (refine t_run (w := w') (v := (.int .i64 (ts.length : Int))) rfl ?_ rfl hb; first | (go_simp; done) | (go_simp; rfl) | (go_simp; simp [bne]; done) | (simp [*]; done)))
        · rw [vX22.out, (hd 18 rfl).trans vX18.out, (hd 21 rfl).trans vX21.out]
          clear hd
          cases vq17 <;> (first | exact t_skip rfl rfl | (refine t_run (w := w') (v := (.bool vq22)) rfl ?_ rfl hb; rw [hvq22.out]; first | (go_simp; done) | (go_simp; rfl) | (go_simp; simp [bne]; done) | (simp [*]; done)))
        · rw [vX23.out, (hd 18 rfl).trans vX18.out, (hd 22 rfl).trans vX22.out]
          clear hd
          cases vq17 <;> (refine t_run (w := w') (v := (.bool vq23)) rfl ?_ rfl hb; rw [hvq23.out]; first | (go_simp; done) | (go_simp; rfl) | (go_simp; simp [bne]; done) | (simp [*]; done))
        · rw [vX24.out, (hd 23 rfl).trans vX23.out]
          clear hd
          refine t_run (w := w') (v := (.bool vq23)) rfl ?_ rfl hb; first | (go_simp; done) | (go_simp; rfl) | (go_simp; simp [bne]; done) | (simp [*]; done)
        · rw [vX25.out, (hd 24 rfl).trans vX24.out]
          clear hd
          cases vq23 <;> (first | exact t_skip rfl rfl | (refine t_run (w := w') (v := (.pointer (some ⟨gb, 0, none⟩))) rfl ?_ rfl hb; first | (go_simp; done) | (go_simp; rfl) | (go_simp; simp [bne]; done) | (simp [*]; done)))
        · rw [vX26.out, (hd 24 rfl).trans vX24.out, (hd 25 rfl).trans vX25.out]
          clear hd
          cases vq23 <;> (first | exact t_skip rfl rfl | (refine t_run (w := w') (v := (.int .i64 K)) rfl ?_ rfl hb; first | (go_simp; done) | (go_simp; rfl) | (go_simp; simp [bne]; done) | (simp [*]; done)))
        · rw [vX27.out, (hd 24 rfl).trans vX24.out, (hd 26 rfl).trans vX26.out]
          clear hd
          cases vq23 <;> (first | exact t_skip rfl rfl | (refine t_run (w := w') (v := (.bool vq27)) rfl ?_ rfl hb; rw [hvq27.out]; first | (go_simp; done) | (go_simp; rfl) | (go_simp; simp [bne]; done) | (simp [*]; done)))
        · rw [vX28.out, (hd 24 rfl).trans vX24.out, (hd 27 rfl).trans vX27.out]
          clear hd
          cases vq23 <;> (first | exact t_skip rfl rfl | (refine t_run (w := w') (v := (.bool vq27)) rfl ?_ rfl hb; first | (go_simp; done) | (go_simp; rfl) | (go_simp; simp [bne]; done) | (simp [*]; done)))
        · rw [vX29.out, (hd 28 rfl).trans vX28.out]
          clear hd
          cases vq23 <;> cases vq27 <;> (first | exact t_skip rfl rfl | (refine t_run (w := w') (v := (.pointer (some ⟨gb, 7, none⟩))) rfl ?_ rfl hb; first | (go_simp; done) | (go_simp; rfl) | (go_simp; simp [bne]; done) | (simp [*]; done)))
        · rw [vX30.out, (hd 28 rfl).trans vX28.out, (hd 29 rfl).trans vX29.out]
          clear hd
          cases vq23 <;> cases vq27 <;> (first | exact t_skip rfl rfl | (refine t_run (w := w') (v := (.slice A7 ts.length c7)) rfl ?_ rfl hb; first | (go_simp; done) | (go_simp; rfl) | (go_simp; simp [bne]; done) | (simp [*]; done)))
        · rw [vX31.out, (hd 28 rfl).trans vX28.out, (hd 30 rfl).trans vX30.out]
          clear hd
          cases vq23 <;> cases vq27 <;> (first | exact t_skip rfl rfl | (refine t_run (w := w') (v := (.int .i64 (ts.length : Int))) rfl ?_ rfl hb; first | (go_simp; done) | (go_simp; rfl) | (go_simp; simp [bne]; done) | (simp [*]; done)))
        · rw [vX32.out, (hd 28 rfl).trans vX28.out, (hd 31 rfl).trans vX31.out]
          clear hd
          cases vq23 <;> cases vq27 <;> (first | exact t_skip rfl rfl | (refine t_run (w := w') (v := (.bool vq32)) rfl ?_ rfl hb; rw [hvq32.out]; first | (go_simp; done) | (go_simp; rfl) | (go_simp; simp [bne]; done) | (simp [*]; done)))
        · rw [vX33.out, (hd 24 rfl).trans vX24.out, (hd 28 rfl).trans vX28.out, (hd 32 rfl).trans vX32.out]
          clear hd
          cases vq23 <;> cases vq27 <;> (first | exact t_skip rfl rfl | (refine t_run (w := w') (v := (.bool vq33)) rfl ?_ rfl hb; rw [hvq33.out]; first | (go_simp; done) | (go_simp; rfl) | (go_simp; simp [bne]; done) | (simp [*]; done)))
        · rw [vX34.out, (hd 24 rfl).trans vX24.out, (hd 33 rfl).trans vX33.out]
          clear hd
          cases vq23 <;> (refine t_run (w := w') (v := (.bool vq34)) rfl ?_ rfl hb; rw [hvq34.out]; first | (go_simp; done) | (go_simp; rfl) | (go_simp; simp [bne]; done) | (simp [*]; done))
      case fin =>
        intro vp w8 hp_ hb
        have e34 : vp 34 = (.bool vq34) := (hp_ 34 (by decide)).trans vX34.out
        have hbad : vq34 = (((((ht != tk) || (!ht && !st)) || decide ((ts.length : Int) > 2)) || ((K != 3) && decide ((ts.length : Int) > 0)))) := by simp only [hvq34.out, hvq33.out, hvq32.out, hvq27.out, hvq23.out, hvq22.out, hvq17.out, hvq16.out, hvq5.out]
        dsimp only
        rw [e34]
        clear hp_ e34 vX0 vX1 vX2 vX3 vX4 vX5 vX6 vX7 vX8 vX9 vX10 vX11 vX12 vX13 vX14 vX15 vX16 vX17 vX18 vX19 vX20 vX21 vX22 vX23 vX24 vX25 vX26 vX27 vX28 vX29 vX30 vX31 vX32 vX33 vX34
        have HB := Aside0.mk (below_step HB.out hb)
        have BK := Aside0.mk (blk_below BK.out hb)
        have HH := Aside0.mk (blk_below HH.out hb)
        clear hb hvq5 hvq16 hvq17 hvq22 hvq23 hvq27 hvq32 hvq33
        have HBADv := Aside0.mk hbad
        clear hbad hvq34
        cases huv : vq34 with
        | true =>
          rw [huv] at HBADv
          go_wp2
          go_ret
          exact ⟨by unfold oneB; rw [← HBADu.out, ← HBADv.out]; rfl, HB.out⟩
        | false =>
          rw [huv] at HBADv
          clear huv
          go_wp2
          go_loopg [4] (ts.length + 1) (fun kq v4 w' => ∃ (i : Nat), v4 = .int .i64 i ∧ Aside0 (i ≤ ts.length ∧ i + kq = ts.length + 1) ∧ Aside0 (ts.all okT = (ts.drop i).all okT) ∧ Aside0 (Below w.heap.size w w') ∧ Aside0 (w'.heap[gb]? = some (.cells #[.int .i64 K, .int .i64 N, .string S, .string Z, .int .i64 T.f0, .int .i64 T.f1, .slice A6 T.f2.length c6, .slice A7 ts.length c7, .slice A8 l.length c8] 35 (0, 0))))
          case atStart => exact ⟨0, rfl, ⟨by omega⟩, ⟨rfl⟩, HB, BK⟩
          case round =>
            clear HB BK HH
            obtain ⟨i, rfl, HJ, HA, HB, BK⟩ := hrel
            cases gk with
            | zero => exact absurd HJ.out (by omega)
            | succ k1 =>
              have hm : ts.length ≤ 9223372036854775807 := HR7.out.2.1
              have hj := HJ.out
              have hz7 : wr.cell? ⟨gb, 7, none⟩ = some (.slice A7 ts.length c7) := (blk_cell BK.out 7).trans rfl
              by_cases hlt : i < ts.length
              · have hA := HA.out
                rw [List.drop_eq_getElem_cons hlt, List.all_cons] at hA
                have hrd : rd_T32 ts (i : Int) = ts[i] := by simp [rd_T32, List.getD_eq_getElem?_getD, hlt]
                obtain ⟨ad, A2, c2, ex1, hx0, hx1, hx2, hl2, hr2⟩ := at_T32 HR7.out (i : Int) (by omega) (by omega)
                cases ex1
                replace hx0 := pw_cell_below HB.out hx0
                replace hx1 := pw_cell_below HB.out hx1
                replace hx2 := pw_cell_below HB.out hx2
                rw [hrd] at hx0 hx1 hx2 hl2 hr2
                simp only [Int.toNat_natCast] at hx0 hx1 hx2
                have p1 := eq_true (show (0 : Int) ≤ (i : Int) by omega)
                have p2 := eq_true (show (i : Int) < (ts.length : Int) by omega)
                have RR := Aside0.mk hr2
                have LL := Aside0.mk hl2
                have EE := Aside0.mk (E7.out ts[i] (List.getElem_mem hlt))
                have HA2 := Aside0.mk hA
                clear hA HA hr2 hl2 hrd hj
                obtain ⟨bb, hbb⟩ : ∃ b, okT ts[i] = b := ⟨_, rfl⟩
                have HBB := Aside0.mk hbb
                clear hbb
                have EE2 := Aside0.mk (EE.out.trans (congrArg some HBB.out))
                cases bb with
                | true =>
                  go_wp2_with (go_at_call 249; refine (spec_TyOk.calls ts[i].f0 ts[i].f1 A2 c2 ts[i].f2 true _ (Kd.C_below RR.out HB.out) LL.out EE2.out).mono ?_; rintro e w9 ⟨rfl, hb⟩; have HB9 := Aside0.mk (below_step HB.out hb); have BK9 := Aside0.mk (blk_below BK.out hb); clear hb)
                  go_roundg k1
                  case measure => omega
                  case rel => exact ⟨i + 1, by go_num, ⟨by have := HJ.out; omega⟩, ⟨by rw [HA2.out, HBB.out, Bool.true_and]⟩, HB9, BK9⟩
                | false =>
                  go_wp2_with (go_at_call 249; refine (spec_TyOk.calls ts[i].f0 ts[i].f1 A2 c2 ts[i].f2 false _ (Kd.C_below RR.out HB.out) LL.out EE2.out).mono ?_; rintro e w9 ⟨rfl, hb⟩; have HB9 := Aside0.mk (below_step HB.out hb); clear hb)
                  go_ret
                  exact ⟨by unfold oneB; rw [HA2.out, HBB.out]; simp, HB9.out⟩
              · have hn : i = ts.length := by omega
                have hA := HA.out
                rw [hn, List.drop_length, List.all_nil] at hA
                have HA2 := Aside0.mk hA
                clear HA hA hj
                have p2 : decide ((i : Int) < (ts.length : Int)) = false := decide_eq_false (by omega)
                have hz0 : wr.cell? ⟨gb, 0, none⟩ = some (.int .i64 K) := (blk_cell BK.out 0).trans rfl
                by_cases hK : K = 7
                · have hlen : l.length = 2 := by
                    have h1 := E8.out hK
                    have h2 := HBADu.out
                    simp only [Bool.false_eq, Bool.or_eq_false_iff, bne_eq_false_iff_eq] at h2
                    omega
                  obtain ⟨x, t, rfl⟩ : ∃ x t, l = x :: t := by
                    cases l with
                    | nil => exact absurd hlen (by simp)
                    | cons x t => exact ⟨x, t, rfl⟩
                  have hz8 : wr.cell? ⟨gb, 8, none⟩ = some (.slice A8 (x :: t).length c8) := (blk_cell BK.out 8).trans rfl
                  have hrd : rd_T35 (x :: t) (((0 : Nat) : Int)) = x := by simp [rd_T35]
                  obtain ⟨ad, B6, x6, B7, x7, B8, x8, ex1, hx0, hx⟩ := at_T35 HR8.out ((0 : Nat) : Int) (by omega) (by simp)
                  cases ex1
                  replace hx0 := pw_cell_below HB.out hx0
                  rw [hrd] at hx0
                  simp only [Int.toNat_natCast] at hx0
                  have ez : ad.add (0 * 9) = ad := by cases ad; simp [Addr.add]
                  rw [ez] at hx0
                  clear hx hrd ez
                  have p3 := eq_true (show (0 : Int) < ((x :: t).length : Int) by simp)
                  have k1_ : (K != 7) = false := by simp [hK]
                  clear hlen
                  have HKK := Aside0.mk hK
                  clear hK
                  go_wp2
                  go_ret
                  refine ⟨?_, HB.out⟩
                  unfold oneB
                  rw [HA2.out, ← HBADu.out, ← HBADv.out, k1_]
                  simp
                · have k1_ : (K != 7) = true := by simpa using hK
                  clear hK
                  go_wp2
                  go_ret
                  exact ⟨by unfold oneB; rw [HA2.out, ← HBADu.out, ← HBADv.out, k1_]; simp, HB.out⟩
mutual
def lookT (one : S35 → Option Bool) : S35 → Int → Int → Option (Bool × Int)
  | ⟨K, N, S, Z, T, ts, l⟩, d, n => if d = 0 ∨ 150 < wrap64 (n + 1) then some (false, wrap64 (n + 1)) else (one ⟨K, N, S, Z, T, ts, l⟩).bind fun b => if b = true then lookTS one l (wrap64 (d - 1)) (wrap64 (n + 1)) else some (false, wrap64 (n + 1))
def lookTS (one : S35 → Option Bool) : List S35 → Int → Int → Option (Bool × Int)
  | [], _, n => some (true, n)
  | x :: l, d, n => (lookT one x d n).bind fun r => if r.1 = true then lookTS one l d r.2 else some (false, r.2)
end
theorem S35.ind {P : S35 → Prop} (h : ∀ a b c d e f l, (∀ y ∈ l, P y) → P ⟨a, b, c, d, e, f, l⟩) (x : S35) : P x :=
  S35.rec (motive_1 := P) (motive_2 := fun l => ∀ y ∈ l, P y) (fun a b c d e f l ih => h a b c d e f l ih) (fun y hy => by cases hy)
    (fun x l hx hl y hy => by cases hy with | head => exact hx | tail _ hy => exact hl y hy) x
theorem lookT_cases (one : S35 → Option Bool) (t : S35) (d n n1 : Int) (q : Bool) (m : Int) (hn : wrap64 (n + 1) = n1) (h : lookT one t d n = some (q, m)) :
    ((d == 0) = true ∧ true = true ∧ (q, m) = (false, n1)) ∨
    ((d == 0) = false ∧ decide (n1 > 150) = true ∧ (q, m) = (false, n1)) ∨
    ((d == 0) = false ∧ decide (n1 > 150) = false ∧ ∃ b, one t = some b ∧ (b = false ∧ (q, m) = (false, n1) ∨ b = true ∧ lookTS one t.f6 (wrap64 (d - 1)) n1 = some (q, m))) := by
  obtain ⟨K, N, S, Z, T, ts, l⟩ := t
  unfold lookT at h
  rw [hn] at h
  by_cases h0 : d = 0
  · left; simp [h0] at h ⊢; first | exact h | exact ⟨h.1, h.2.symm⟩ | exact ⟨h.1.symm, h.2⟩ | exact ⟨h.1.symm, h.2.symm⟩
  · by_cases h1 : 150 < n1
    · right; left; simp [h0, h1] at h ⊢; first | exact h | exact ⟨h.1, h.2.symm⟩ | exact ⟨h.1.symm, h.2⟩ | exact ⟨h.1.symm, h.2.symm⟩
    · right; right
      rw [if_neg (by omega)] at h
      obtain ⟨b, hb, h⟩ := Option.bind_eq_some_iff.1 h
      refine ⟨by simpa using h0, by simpa using h1, b, hb, ?_⟩
      cases b with
      | true => exact .inr ⟨rfl, by simpa using h⟩
      | false => left; simp at h; exact ⟨rfl, by simp [h]⟩
set_option maxHeartbeats 4000000 in
set_option maxRecDepth 100000 in
theorem l2Look.calls (one : S35 → Option Bool)
    (hone : ∀ (t : S35) (b : Bool) (w : World) (A6 : Option Addr) (c6 : Nat) (A7 : Option Addr) (c7 : Nat) (A8 : Option Addr) (c8 : Nat), Kd.C k32 w A6 t.f4.f2.length t.f4.f2 → t.f4.f2.length ≤ c6 → Kd.C k32 w A7 t.f5.length t.f5 → t.f5.length ≤ c7 → Kd.C k35 w A8 t.f6.length t.f6 → t.f6.length ≤ c8 → one t = some b →
      Calls Try.prog 213 #[.agg #[.int .i64 t.f0, .int .i64 t.f1, .string t.f2, .string t.f3, .int .i64 t.f4.f0, .int .i64 t.f4.f1, .slice A6 t.f4.f2.length c6, .slice A7 t.f5.length c7, .slice A8 t.f6.length c8]] w fun e w' => e = .returned (.bool b) ∧ Below w.heap.size w w')
    (t : S35) : ∀ (d n : Int) (q : Bool) (m : Int) (w0 w : World) (g : Nat) (A6 : Option Addr) (c6 : Nat) (A7 : Option Addr) (c7 : Nat) (A8 : Option Addr) (c8 : Nat), Kd.C k32 w0 A6 t.f4.f2.length t.f4.f2 → t.f4.f2.length ≤ c6 → Kd.C k32 w0 A7 t.f5.length t.f5 → t.f5.length ≤ c7 → Kd.C k35 w0 A8 t.f6.length t.f6 → t.f6.length ≤ c8 →
    w0.heap.size ≤ g → Below w0.heap.size w0 w → w.heap[g]? = some (.cells #[.int .i64 n] 3 (0, 0)) → lookT one t d n = some (q, m) →
    Calls Try.prog 141 #[.agg #[.int .i64 t.f0, .int .i64 t.f1, .string t.f2, .string t.f3, .int .i64 t.f4.f0, .int .i64 t.f4.f1, .slice A6 t.f4.f2.length c6, .slice A7 t.f5.length c7, .slice A8 t.f6.length c8], .int .i64 d, .pointer (some ⟨g, 0, none⟩)] w fun e w' => e = .returned (.bool q) ∧ Below w0.heap.size w0 w' ∧ w'.heap[g]? = some (.cells #[.int .i64 m] 3 (0, 0)) ∧ KeepBut w w' g none := by
  have HONE := Aside0.mk hone
  clear hone
  induction t using S35.ind with
  | h K N S Z T ts l ih =>
  intro d n q m w0 w g A6 c6 A7 c7 A8 c8 hr6 hc6 hr7 hc7 hr8 hc8 hg hb hi hq
  have hu35 := Try.underlying35
  have hu32 := Try.underlying32
  have IH := Aside0.mk ih
  have HR6 := Aside0.mk hr6
  have HC6 := Aside0.mk hc6
  have HR7 := Aside0.mk hr7
  have HC7 := Aside0.mk hc7
  have HR := Aside0.mk hr8
  have HC := Aside0.mk hc8
  have HG := Aside0.mk hg
  have HB := Aside0.mk hb
  have HI := Aside0.mk hi
  obtain ⟨n1, hn1⟩ : ∃ n1, wrap64 (n + 1) = n1 := ⟨_, rfl⟩
  have HW := Aside0.mk (lookT_cases one _ d n n1 q m hn1 hq)
  have HN := Aside0.mk hn1
  clear ih hr6 hc6 hr7 hc7 hr8 hc8 hg hb hi hn1 hq
  go_enter Try.func141, Try.ntmps141
  go_upto_region 2 with (first | ((with_reducible refine gate_dst (N := 3) rfl ?_); refine box_event ?hg (N := 3) ?hd (cs := #[.int .i64 K, .int .i64 N, .string S, .string Z, .int .i64 T.f0, .int .i64 T.f1, .slice A6 T.f2.length c6, .slice A7 ts.length c7, .slice A8 l.length c8]) (t := 35) ?hr ?_; (case hd => rfl); (case hg => rfl); (case hr => first | (go_simp; done) | (go_simp; rfl)); intro gb hgb w3 hbox hb3; have HI3 := Aside0.mk (blk_below HI.out hb3); have HB3 := Aside0.mk (below_step HB.out hb3); have HK3 := Aside0.mk (KeepBut.of_below hb3 g none); have BK3 := Aside0.mk hbox; have NE := Aside0.mk (show g ≠ gb from by have := blk_lt HI.out; omega); have GE := Aside0.mk (show w.heap.size ≤ gb from by omega); have hc3 : w3.cell? ⟨g, 0, none⟩ = some (.int .i64 n) := (blk_cell HI3.out 0).trans rfl; have hf3 := blk_frozen HI3.out 0; clear hb3 hbox hgb) | ((with_reducible refine gate_store (t := 3) (p := 13) rfl ?_); refine store_event (t := 3) (p := 13) (v := ?vv) (w1 := w3.setCell ⟨g, 0, none⟩ (.int .i64 n1)) ?hg ?ho ?hn ?hr ?_; (case ho => rfl); (case hg => rfl); (case hn => rfl); (case hr => go_simp; first | done | rfl | (rw [HN.out]; done) | (rw [HN.out]; rfl)); intro w4 hw; have HI4 := Aside0.mk (show w4.heap[g]? = some (.cells #[.int .i64 n1] 3 (0, 0)) from by rw [hw]; exact blk_put HI3.out 0 _ rfl); have HK4 := Aside0.mk (show KeepBut w w4 g none from by rw [hw]; exact KeepBut.set_ HK3.out 0 _); have HB4 := Aside0.mk (show Below w0.heap.size w0 w4 from by rw [hw]; exact below_set HB3.out HG.out); have BK4 := Aside0.mk (show w4.heap[gb]? = some (.cells #[.int .i64 K, .int .i64 N, .string S, .string Z, .int .i64 T.f0, .int .i64 T.f1, .slice A6 T.f2.length c6, .slice A7 ts.length c7, .slice A8 l.length c8] 35 (0, 0)) from by rw [hw]; exact blk_far BK3.out (fun e => NE.out e.symm) _); clear hw hc3 hf3))
  (try simp only [Act.put, List.setIfInBounds_toArray, List.set_cons_zero, List.set_cons_succ])
  go_cut [26] (fun v26 wc => ∃ v : Bool, v26 = .bool v ∧ Aside0 (v = true ∧ (q, m) = (false, n1) ∨ v = false ∧ lookTS one l (wrap64 (d - 1)) n1 = some (q, m)) ∧ Aside0 (Below w0.heap.size w0 wc) ∧ Aside0 (wc.heap[g]? = some (.cells #[.int .i64 n1] 3 (0, 0))) ∧ Aside0 (wc.heap[gb]? = some (.cells #[.int .i64 K, .int .i64 N, .string S, .string Z, .int .i64 T.f0, .int .i64 T.f1, .slice A6 T.f2.length c6, .slice A7 ts.length c7, .slice A8 l.length c8] 35 (0, 0))) ∧ Aside0 (KeepBut w wc g none))
  case first =>
    have hz0 : w4.cell? ⟨gb, 0, none⟩ = some (.int .i64 K) := (blk_cell BK4.out 0).trans rfl
    have hz1 : w4.cell? ⟨gb, 1, none⟩ = some (.int .i64 N) := (blk_cell BK4.out 1).trans rfl
    have hz2 : w4.cell? ⟨gb, 2, none⟩ = some (.string S) := (blk_cell BK4.out 2).trans rfl
    have hz3 : w4.cell? ⟨gb, 3, none⟩ = some (.string Z) := (blk_cell BK4.out 3).trans rfl
    have hz4 : w4.cell? ⟨gb, 4, none⟩ = some (.int .i64 T.f0) := (blk_cell BK4.out 4).trans rfl
    have hz5 : w4.cell? ⟨gb, 5, none⟩ = some (.int .i64 T.f1) := (blk_cell BK4.out 5).trans rfl
    have hz6 : w4.cell? ⟨gb, 6, none⟩ = some (.slice A6 T.f2.length c6) := (blk_cell BK4.out 6).trans rfl
    have hz7 : w4.cell? ⟨gb, 7, none⟩ = some (.slice A7 ts.length c7) := (blk_cell BK4.out 7).trans rfl
    have hz8 : w4.cell? ⟨gb, 8, none⟩ = some (.slice A8 l.length c8) := (blk_cell BK4.out 8).trans rfl
    have hz9 : w4.cell? ⟨g, 0, none⟩ = some (.int .i64 n1) := (blk_cell HI4.out 0).trans rfl
    rcases HW.out with ⟨h0, _, hb⟩ | ⟨h0, h1, hb⟩ | ⟨h0, h1, b, ho, hb⟩
    · have HX := Aside0.mk hb
      clear hb
      go_wp2
      go_meet
      case rel => exact ⟨true, rfl, ⟨.inl ⟨rfl, HX.out⟩⟩, HB4, HI4, BK4, HK4⟩
    · have HX := Aside0.mk hb
      clear hb
      go_wp2
      go_meet
      case rel => exact ⟨true, rfl, ⟨.inl ⟨rfl, HX.out⟩⟩, HB4, HI4, BK4, HK4⟩
    · have HX := Aside0.mk hb
      have HO := Aside0.mk ho
      clear hb ho
      go_wp2_with (go_at_call 213; refine (HONE.out ⟨K, N, S, Z, T, ts, l⟩ b _ A6 c6 A7 c7 A8 c8 (Kd.C_below HR6.out HB4.out) HC6.out (Kd.C_below HR7.out HB4.out) HC7.out (Kd.C_below HR.out HB4.out) HC.out HO.out).mono ?_; rintro e w5 ⟨rfl, hb⟩; have HB5 := Aside0.mk (below_step HB4.out hb); have HI5 := Aside0.mk (blk_below HI4.out hb); have BK5 := Aside0.mk (blk_below BK4.out hb); have HK5 := Aside0.mk (HK4.out.trans (KeepBut.of_below hb g none) (.inl rfl)); clear hb)
      go_meet
      case rel => exact ⟨!b, rfl, ⟨by rcases HX.out with ⟨h, k⟩ | ⟨h, k⟩ <;> subst h <;> simp_all⟩, HB5, HI5, BK5, HK5⟩
  case rest =>
    obtain ⟨v, rfl, HV, HB5, HI5, BK5, HK5⟩ := hcut
    clear HB4 HI4 BK4 HB3 HI3 BK3 HB HI HK3 HK4 HW
    rcases HV.out with ⟨rfl, hv⟩ | ⟨rfl, hv⟩
    · have HX := Aside0.mk hv
      clear hv HV
      go_wp2
      go_ret
      obtain ⟨rfl, rfl⟩ := Prod.mk.inj HX.out
      exact ⟨rfl, HB5.out, HI5.out, HK5.out⟩
    · have HX := Aside0.mk hv
      clear hv HV
      go_wp2
      go_loopg [7] (l.length + 1) (fun kq v7 w' => ∃ (i : Nat) (p : Int), v7 = .int .i64 i ∧ Aside0 (i ≤ l.length ∧ i + kq = l.length + 1) ∧ Aside0 (lookTS one (l.drop i) (wrap64 (d - 1)) p = some (q, m)) ∧ Aside0 (Below w0.heap.size w0 w') ∧ Aside0 (w'.heap[g]? = some (.cells #[.int .i64 p] 3 (0, 0))) ∧ Aside0 (w'.heap[gb]? = some (.cells #[.int .i64 K, .int .i64 N, .string S, .string Z, .int .i64 T.f0, .int .i64 T.f1, .slice A6 T.f2.length c6, .slice A7 ts.length c7, .slice A8 l.length c8] 35 (0, 0))) ∧ Aside0 (KeepBut w w' g none))
      case atStart => exact ⟨0, n1, rfl, ⟨by omega⟩, HX, HB5, HI5, BK5, HK5⟩
      case round =>
        clear HX HB5 HI5 BK5 HK5
        obtain ⟨i, p, rfl, HJ, HA, HB, HI, BK, HK⟩ := hrel
        cases gk with
        | zero => exact absurd HJ.out (by omega)
        | succ k1 =>
          have hm : l.length ≤ 9223372036854775807 := HR.out.2.1
          have hj := HJ.out
          have hz8 : wr.cell? ⟨gb, 8, none⟩ = some (.slice A8 l.length c8) := (blk_cell BK.out 8).trans rfl
          by_cases hlt : i < l.length
          · have hA := HA.out
            rw [List.drop_eq_getElem_cons hlt] at hA
            unfold lookTS at hA
            obtain ⟨⟨q2, m2⟩, hq2, hA⟩ := Option.bind_eq_some_iff.1 hA
            have hrd : rd_T35 l (i : Int) = l[i] := by simp [rd_T35, List.getD_eq_getElem?_getD, hlt]
            obtain ⟨ad, B6, e6, B7, e7, B8, e8, e1, hx0, hx1, hx2, hx3, hx4, hx5, hx6, hx7, hx8, l6, r6, l7, r7, l8, r8⟩ := at_T35 HR.out (i : Int) (by omega) (by omega)
            cases e1
            replace hx0 := pw_cell_below HB.out hx0
            replace hx1 := pw_cell_below HB.out hx1
            replace hx2 := pw_cell_below HB.out hx2
            replace hx3 := pw_cell_below HB.out hx3
            replace hx4 := pw_cell_below HB.out hx4
            replace hx5 := pw_cell_below HB.out hx5
            replace hx6 := pw_cell_below HB.out hx6
            replace hx7 := pw_cell_below HB.out hx7
            replace hx8 := pw_cell_below HB.out hx8
            rw [hrd] at hx0 hx1 hx2 hx3 hx4 hx5 hx6 hx7 hx8 l6 r6 l7 r7 l8 r8
            simp only [Int.toNat_natCast] at hx0 hx1 hx2 hx3 hx4 hx5 hx6 hx7 hx8
            have p1 := eq_true (show (0 : Int) ≤ (i : Int) by omega)
            have p2 := eq_true (show (i : Int) < (l.length : Int) by omega)
            have L6 := Aside0.mk l6
            have L7 := Aside0.mk l7
            have L8 := Aside0.mk l8
            have R6 := Aside0.mk r6
            have R7 := Aside0.mk r7
            have R8 := Aside0.mk r8
            have HM := Aside0.mk (List.getElem_mem hlt)
            have HQ := Aside0.mk hq2
            have HA2 := Aside0.mk hA
            clear hA HA l6 r6 l7 r7 l8 r8 hrd hj hq2
            cases q2 with
            | true =>
              have HA3 := Aside0.mk (show lookTS one (l.drop (i + 1)) (wrap64 (d - 1)) m2 = some (q, m) from HA2.out)
              clear HA2
              go_wp2_with (go_at_call 141; refine (IH.out l[i] HM.out (wrap64 (d - 1)) p true m2 w0 _ g B6 e6 B7 e7 B8 e8 R6.out L6.out R7.out L7.out R8.out L8.out HG.out HB.out HI.out HQ.out).mono ?_; rintro e w6 ⟨rfl, hb, hi, hk⟩; have HB6 := Aside0.mk hb; have HI6 := Aside0.mk hi; have BK6 := Aside0.mk (hk.blk BK.out (fun e => NE.out e.symm) (by simp)); have HK6 := Aside0.mk (HK.out.trans hk (.inl rfl)); clear hb hi hk)
              go_roundg k1
              case measure => omega
              case rel => exact ⟨i + 1, m2, by go_num, ⟨by have := HJ.out; omega⟩, HA3, HB6, HI6, BK6, HK6⟩
            | false =>
              have HA3 := Aside0.mk (show (false, m2) = (q, m) from by have := HA2.out; simpa using this)
              clear HA2
              go_wp2_with (go_at_call 141; refine (IH.out l[i] HM.out (wrap64 (d - 1)) p false m2 w0 _ g B6 e6 B7 e7 B8 e8 R6.out L6.out R7.out L7.out R8.out L8.out HG.out HB.out HI.out HQ.out).mono ?_; rintro e w6 ⟨rfl, hb, hi, hk⟩; have HB6 := Aside0.mk hb; have HI6 := Aside0.mk hi; have HK6 := Aside0.mk (HK.out.trans hk (.inl rfl)); clear hb hi hk)
              go_ret
              obtain ⟨rfl, rfl⟩ := Prod.mk.inj HA3.out
              exact ⟨rfl, HB6.out, HI6.out, HK6.out⟩
          · have hn : i = l.length := by omega
            have hA := HA.out
            rw [hn, List.drop_length] at hA
            unfold lookTS at hA
            have HA2 := Aside0.mk (show (true, p) = (q, m) from by simpa using hA)
            clear HA hA hj
            have p2 : decide ((i : Int) < (l.length : Int)) = false := decide_eq_false (by omega)
            go_wp2
            go_ret
            obtain ⟨rfl, rfl⟩ := Prod.mk.inj HA2.out
            exact ⟨rfl, HB.out, HI.out, HK.out⟩
theorem shape_some (K : Int) : ∃ r, spec_l2Of.f 20 K = some r ∧ (K = 7 → r.1 = 2) := by
  by_cases h1 : K = 1
  · subst h1; exact ⟨_, rfl, by decide⟩
  by_cases h2 : K = 2
  · subst h2; exact ⟨_, rfl, by decide⟩
  by_cases h3 : K = 3
  · subst h3; exact ⟨_, rfl, by decide⟩
  by_cases h4 : K = 4
  · subst h4; exact ⟨_, rfl, by decide⟩
  by_cases h5 : K = 5
  · subst h5; exact ⟨_, rfl, by decide⟩
  by_cases h6 : K = 6
  · subst h6; exact ⟨_, rfl, by decide⟩
  by_cases h7 : K = 7
  · subst h7; exact ⟨_, rfl, by decide⟩
  by_cases h8 : K = 8
  · subst h8; exact ⟨_, rfl, by decide⟩
  by_cases h9 : K = 9
  · subst h9; exact ⟨_, rfl, by decide⟩
  by_cases h10 : K = 10
  · subst h10; exact ⟨_, rfl, by decide⟩
  by_cases h11 : K = 11
  · subst h11; exact ⟨_, rfl, by decide⟩
  by_cases h12 : K = 12
  · subst h12; exact ⟨_, rfl, by decide⟩
  by_cases h13 : K = 13
  · subst h13; exact ⟨_, rfl, by decide⟩
  by_cases h14 : K = 14
  · subst h14; exact ⟨_, rfl, by decide⟩
  by_cases h15 : K = 15
  · subst h15; exact ⟨_, rfl, by decide⟩
  by_cases h16 : K = 16
  · subst h16; exact ⟨_, rfl, by decide⟩
  by_cases h17 : K = 17
  · subst h17; exact ⟨_, rfl, by decide⟩
  have b : ∀ n : Int, ¬ K = n → (K == n) = false := fun n h => by simpa using h
  refine ⟨(-1, 0, false, false, false), ?_, fun h => absurd h h7⟩
  unfold spec_l2Of.f
  simp only [spec_l2Of.j0, spec_l2Of.j1, spec_l2Of.j2, h1, b _ h1, h2, b _ h2, h3, b _ h3, h4, b _ h4, h5, b _ h5, h6, b _ h6, h7, b _ h7, h8, b _ h8, h9, b _ h9, h10, b _ h10, h11, b _ h11, h12, b _ h12, h13, b _ h13, h14, b _ h14, h15, b _ h15, h16, b _ h16, h17, b _ h17, if_false, Bool.false_eq_true]
theorem number_some (K N : Int) (S Z : ByteArray) (T : S32) (ts : List S32) (l : List S35) : ∃ b, spec_l2Number.f 20 K N S Z T.f0 T.f1 T.f2 ts l = some b := by
  unfold spec_l2Number.f
  simp only [spec_l2Number.j0, l1In_f, Option.bind_some]
  repeat' split
  all_goals exact ⟨_, rfl⟩
theorem name_l0 (S : ByteArray) (d : Nat) : ∀ (k i : Nat), S.size ≤ 1000 → i + d = S.size → d < k → ∃ b, spec_l2Name.l0 k S false (i : Int) = some b := by
  induction d with
  | zero =>
    intro k i hs h1 h2
    obtain ⟨k, rfl⟩ : ∃ m, k = m + 1 := ⟨k - 1, by omega⟩
    simp only [spec_l2Name.l0]
    rw [if_neg (by omega)]
    exact ⟨_, rfl⟩
  | succ d ih =>
    intro k i hs h1 h2
    obtain ⟨k, rfl⟩ : ∃ m, k = m + 1 := ⟨k - 1, by omega⟩
    simp only [spec_l2Name.l0, l1In_f, Option.bind_some]
    rw [if_pos (by omega), if_pos (by omega), show wrap64 ((i : Int) + 1) = ((i + 1 : Nat) : Int) from by unfold wrap64; omega]
    obtain ⟨b, hb⟩ := ih k (i + 1) hs (by omega) (by omega)
    rw [hb]
    repeat' split
    all_goals exact ⟨_, rfl⟩
theorem name_some (S : ByteArray) : ∃ b, spec_l2Name.f 20 S false = some b := by
  unfold spec_l2Name.f
  simp only [l1In_f, Option.bind_some, spec_l2Name.j0]
  by_cases h : (1 : Int) ≤ S.size ∧ (S.size : Int) ≤ 8
  · obtain ⟨b, hb⟩ := name_l0 S S.size 19 0 (by omega) (by omega) (by omega)
    have hb' : spec_l2Name.l0 19 S false 0 = some b := hb
    rw [hb', if_pos (by simpa using h), if_pos (by omega)]
    repeat' split
    all_goals exact ⟨_, rfl⟩
  · rw [if_neg (by simpa using h)]
    exact ⟨false, by simp⟩
theorem sameTy_zero' (k : Nat) (K N : Int) (l : List S32) : spec_SameTy.f (k + 3) K N l 0 0 [] = some (K == 0 && N == 0 && l.isEmpty) := by
  rw [spec_SameTy.f]
  by_cases h1 : K = 0
  · by_cases h2 : N = 0
    · rw [if_pos h1, if_pos h2, spec_SameTy.j0]
      cases l with
      | nil =>
        rw [if_neg (by simp), spec_SameTy.l0, if_neg (by simp)]
        simp [h1, h2]
      | cons x t => rw [if_pos (by simp; omega)]; simp
    · rw [if_pos h1, if_neg h2, spec_SameTy.j0, if_pos rfl]; simp [h2]
  · rw [if_neg h1, spec_SameTy.j0, if_pos rfl]; simp [h1]
theorem sameTy_zero (K N : Int) (l : List S32) : ∃ b, spec_SameTy.f 20 K N l 0 0 [] = some b ∧ b = (K == 0 && N == 0 && l.isEmpty) := ⟨_, sameTy_zero' 17 K N l, rfl⟩
def oneC : S35 → Bool
  | ⟨K, N, S, Z, T, ts, l⟩ =>
    let h := (spec_l2Of.f 20 K).getD (0, 0, false, false, false)
    oneB K S Z ts l h.1 h.2.2.1 h.2.2.2.1 h.2.2.2.2 ((spec_l2Number.f 20 K N S Z T.f0 T.f1 T.f2 ts l).getD false) ((spec_l2Name.f 20 S false).getD false) ((spec_l2Name.f 20 Z false).getD false) (look T 6 0).1 (T.f0 == 0 && T.f1 == 0 && T.f2.isEmpty) (fun x => (look x 6 0).1)
def spec_TermOk.f (a0_0 a0_1 : Int) (a0_2 a0_3 : ByteArray) (a0_4 a0_5 : Int) (l0_6 l0_7 : List S32) (l0_8 : List S35) : Option Bool := (lookT (fun t => some (oneC t)) ⟨a0_0, a0_1, a0_2, a0_3, ⟨a0_4, a0_5, l0_6⟩, l0_7, l0_8⟩ 24 0).map (·.1)
theorem oneC_calls (t : S35) (b : Bool) (w : World) (A6 : Option Addr) (c6 : Nat) (A7 : Option Addr) (c7 : Nat) (A8 : Option Addr) (c8 : Nat) (r6 : Kd.C k32 w A6 t.f4.f2.length t.f4.f2) (l6 : t.f4.f2.length ≤ c6) (r7 : Kd.C k32 w A7 t.f5.length t.f5) (l7 : t.f5.length ≤ c7) (r8 : Kd.C k35 w A8 t.f6.length t.f6) (l8 : t.f6.length ≤ c8) (h : some (oneC t) = some b) :
    Calls Try.prog 213 #[.agg #[.int .i64 t.f0, .int .i64 t.f1, .string t.f2, .string t.f3, .int .i64 t.f4.f0, .int .i64 t.f4.f1, .slice A6 t.f4.f2.length c6, .slice A7 t.f5.length c7, .slice A8 t.f6.length c8]] w fun e w' => e = .returned (.bool b) ∧ Below w.heap.size w w' := by
  obtain rfl := Option.some.inj h
  obtain ⟨K, N, S, Z, T, ts, l⟩ := t
  obtain ⟨⟨hp, hn, hs, hz, ht⟩, e1, e8⟩ := shape_some K
  obtain ⟨num, e2⟩ := number_some K N S Z T ts l
  obtain ⟨ns, e3⟩ := name_some S
  obtain ⟨nz, e4⟩ := name_some Z
  obtain ⟨st, e6, rfl⟩ := sameTy_zero T.f0 T.f1 T.f2
  have := l2One.calls 20 K N S Z T ts l hp hn hs hz ht num ns nz (look T 6 0).1 _ (fun x => (look x 6 0).1) w A6 c6 A7 c7 A8 c8 r6 l6 r7 l7 r8 l8 e1 e2 e3 e4 (by obtain ⟨a, b, c⟩ := T; rfl) e6 (fun x _ => by obtain ⟨a, b, c⟩ := x; rfl) e8
  have e : oneC ⟨K, N, S, Z, T, ts, l⟩ = oneB K S Z ts l hp hs hz ht num ns nz (look T 6 0).1 (T.f0 == 0 && T.f1 == 0 && T.f2.isEmpty) (fun x => (look x 6 0).1) := by
    simp only [oneC, e1, e2, e3, e4, Option.getD_some]
  rw [e]
  exact this
set_option maxHeartbeats 4000000 in
set_option maxRecDepth 100000 in
theorem spec_TermOk.calls (a0_0 a0_1 : Int) (a0_2 a0_3 : ByteArray) (a0_4 a0_5 : Int) (A0_6 : Option Addr) (c0_6 : Nat) (l0_6 : List S32) (A0_7 : Option Addr) (c0_7 : Nat) (l0_7 : List S32) (A0_8 : Option Addr) (c0_8 : Nat) (l0_8 : List S35) (r : Bool) (w : World) (hr0_6 : Kd.C k32 w A0_6 l0_6.length l0_6) (hc0_6 : l0_6.length ≤ c0_6) (hr0_7 : Kd.C k32 w A0_7 l0_7.length l0_7) (hc0_7 : l0_7.length ≤ c0_7) (hr0_8 : Kd.C k35 w A0_8 l0_8.length l0_8) (hc0_8 : l0_8.length ≤ c0_8) (h : spec_TermOk.f a0_0 a0_1 a0_2 a0_3 a0_4 a0_5 l0_6 l0_7 l0_8 = some r) :
    Calls Try.prog 69 #[.agg #[.int .i64 a0_0, .int .i64 a0_1, .string a0_2, .string a0_3, .int .i64 a0_4, .int .i64 a0_5, .slice A0_6 l0_6.length c0_6, .slice A0_7 l0_7.length c0_7, .slice A0_8 l0_8.length c0_8]] w fun e w' => e = .returned (.bool r) ∧ Below w.heap.size w w' := by
  have hu35 := Try.underlying35
  have hu32 := Try.underlying32
  unfold spec_TermOk.f at h
  obtain ⟨⟨q, m⟩, hq, h⟩ := Option.map_eq_some_iff.1 h
  subst h
  have HQ := Aside0.mk hq
  have HR6 := Aside0.mk hr0_6
  have HC6 := Aside0.mk hc0_6
  have HR7 := Aside0.mk hr0_7
  have HC7 := Aside0.mk hc0_7
  have HR8 := Aside0.mk hr0_8
  have HC8 := Aside0.mk hc0_8
  clear hr0_6 hc0_6 hr0_7 hc0_7 hr0_8 hc0_8 hq
  go_enter Try.func69, Try.ntmps69
  go_wp2_with (first | ((with_reducible refine gate_dst (N := 1) rfl ?_); refine box_event ?hg (N := 1) ?hd (cs := #[.int .i64 a0_0, .int .i64 a0_1, .string a0_2, .string a0_3, .int .i64 a0_4, .int .i64 a0_5, .slice A0_6 l0_6.length c0_6, .slice A0_7 l0_7.length c0_7, .slice A0_8 l0_8.length c0_8]) (t := 35) ?hr ?_; (case hd => rfl); (case hg => rfl); (case hr => first | (go_simp; done) | (go_simp; rfl)); intro gb hgb w3 hbox hb3; have HB3 := Aside0.mk hb3; have BK3 := Aside0.mk hbox; clear hb3 hbox hgb) | ((with_reducible refine gate_dst (N := 3) rfl ?_); refine box_event ?hg (N := 3) ?hd (cs := #[.int .i64 0]) (t := 3) ?hr ?_; (case hd => rfl); (case hg => rfl); (case hr => first | (go_simp; done) | (go_simp; rfl)); intro g hg w4 hbox hb4; have HB4 := Aside0.mk (below_step HB3.out hb4); have BK4 := Aside0.mk (blk_below BK3.out hb4); have GE4 := Aside0.mk (show w.heap.size ≤ g from by have := HB3.out.size; omega); have HI4 := Aside0.mk hbox; have NE := Aside0.mk (show g ≠ gb from by have := blk_lt BK3.out; omega); have hf4 := blk_frozen HI4.out 0; have hc4 : w4.cell? ⟨g, 0, none⟩ = some (.int .i64 0) := (blk_cell HI4.out 0).trans rfl; clear hb4 hbox hg) | ((with_reducible refine gate_store (t := 3) (p := 3) rfl ?_); refine store_event (t := 3) (p := 3) (v := ?vv) (w1 := w4.setCell ⟨g, 0, none⟩ (.int .i64 0)) ?hg ?ho ?hn ?hr ?_; (case ho => rfl); (case hg => rfl); (case hn => rfl); (case hr => go_simp; first | done | rfl); intro w5 hw; have HI5 := Aside0.mk (show w5.heap[g]? = some (.cells #[.int .i64 0] 3 (0, 0)) from by rw [hw]; exact blk_put HI4.out 0 _ rfl); have HB5 := Aside0.mk (show Below w.heap.size w w5 from by rw [hw]; exact below_set HB4.out GE4.out); have BK5 := Aside0.mk (show w5.heap[gb]? = some (.cells #[.int .i64 a0_0, .int .i64 a0_1, .string a0_2, .string a0_3, .int .i64 a0_4, .int .i64 a0_5, .slice A0_6 l0_6.length c0_6, .slice A0_7 l0_7.length c0_7, .slice A0_8 l0_8.length c0_8] 35 (0, 0)) from by rw [hw]; exact blk_far BK4.out (fun e => NE.out e.symm) _); have hz0 : w5.cell? ⟨gb, 0, none⟩ = some (.int .i64 a0_0) := (blk_cell BK5.out 0).trans rfl; have hz1 : w5.cell? ⟨gb, 1, none⟩ = some (.int .i64 a0_1) := (blk_cell BK5.out 1).trans rfl; have hz2 : w5.cell? ⟨gb, 2, none⟩ = some (.string a0_2) := (blk_cell BK5.out 2).trans rfl; have hz3 : w5.cell? ⟨gb, 3, none⟩ = some (.string a0_3) := (blk_cell BK5.out 3).trans rfl; have hz4 : w5.cell? ⟨gb, 4, none⟩ = some (.int .i64 a0_4) := (blk_cell BK5.out 4).trans rfl; have hz5 : w5.cell? ⟨gb, 5, none⟩ = some (.int .i64 a0_5) := (blk_cell BK5.out 5).trans rfl; have hz6 : w5.cell? ⟨gb, 6, none⟩ = some (.slice A0_6 l0_6.length c0_6) := (blk_cell BK5.out 6).trans rfl; have hz7 : w5.cell? ⟨gb, 7, none⟩ = some (.slice A0_7 l0_7.length c0_7) := (blk_cell BK5.out 7).trans rfl; have hz8 : w5.cell? ⟨gb, 8, none⟩ = some (.slice A0_8 l0_8.length c0_8) := (blk_cell BK5.out 8).trans rfl; clear hw hf4 hc4) | (go_at_call 141; refine (l2Look.calls (fun t => some (oneC t)) oneC_calls ⟨a0_0, a0_1, a0_2, a0_3, ⟨a0_4, a0_5, l0_6⟩, l0_7, l0_8⟩ 24 0 q m w _ g A0_6 c0_6 A0_7 c0_7 A0_8 c0_8 HR6.out HC6.out HR7.out HC7.out HR8.out HC8.out GE4.out HB5.out HI5.out HQ.out).mono ?_; rintro e w6 ⟨rfl, hb, hi, hk⟩; have HB6 := Aside0.mk hb; clear hb hi hk))
  go_ret
  exact ⟨rfl, HB6.out⟩
end Go.Proofs.Ytddacgfnhoboaaa.OFnExactUsesOf
