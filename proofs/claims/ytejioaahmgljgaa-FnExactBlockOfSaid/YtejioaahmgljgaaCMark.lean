import Derived.Test.YtejioaahmgljgaaCTab
set_option linter.unusedVariables false
set_option linter.unusedSimpArgs false
namespace Go.Proofs
open Go Go.Ev
set_option maxRecDepth 100000
abbrev iT (n : Int) : T := .sc (.int .i64 n)
abbrev iA (n : Int) : AV := .t (iT n)
abbrev bA (b : Bool) : AV := .t (.sc (.bool b))
abbrev iR (n : Int) : List T := [iT n]
structure Ins where
  op : Int
  d : Int
  x : Int
  y : Int
  n : Int
  l : List Int
  to_ : Int
  deriving DecidableEq
abbrev Ins.c (o : Bool) (i : Ins) : List T := [iT i.op, iT i.d, iT i.x, iT i.y, iT i.n, .sl o (i.l.map iR), iT i.to_]
abbrev Ins.a (o : Bool) (i : Ins) : AV := .ag [iA i.op, iA i.d, iA i.x, iA i.y, iA i.n, .t (.sl o (i.l.map iR)), iA i.to_]
variable {X : Rel3}
theorem w64 {n : Int} (h0 : -9223372036854775808 ≤ n) (h1 : n ≤ 9223372036854775807) : IntKind.i64.wrap n = n := by
  simp [IntKind.wrap, IntKind.bits, IntKind.signed]; omega
theorem w_succ {k n : Nat} (h : k < n) (hn : n ≤ 9223372036854775807) : IntKind.i64.wrap ((k : Int) + 1) = ((k + 1 : Nat) : Int) := by
  rw [w64] <;> omega

def mk : List Int → Int → List Int × Int
  | [], k => ([], k)
  | _ :: r, k => (k :: (mk r (IntKind.i64.wrap (k + 1))).1, (mk r (IntKind.i64.wrap (k + 1))).2)
theorem mk_snoc (l : List Int) (x k : Int) : mk (l ++ [x]) k = ((mk l k).1 ++ [(mk l k).2], IntKind.i64.wrap ((mk l k).2 + 1)) := by
  induction l generalizing k with
  | nil => rfl
  | cons y l ih => simp [mk, ih]
theorem mk_len (l : List Int) (k : Int) : (mk l k).1.length = l.length := by
  induction l generalizing k with
  | nil => rfl
  | cons y l ih => simp [mk, ih]
theorem markIntS_t (l : List Int) (k : Int) (hl : l.length ≤ 9223372036854775807) : Tells Try.prog E0 X 29 [.t (.sl true (l.map iR)), iA k] (.io [iA (mk l k).2, .t (.sl true ((mk l k).1.map iR)), .u]) := by
  refine Tells.by Try.func29 (by simp [Try.f29]) (Body.i rfl rfl rfl (fun _ => rfl) fun f => ?_)
  repeat' (first
    | refine wp_seq_i ?_ | refine wp_region_i ?_ | refine Run.done rfl ?_ | refine then_n ?_ | refine then_r ?_ | refine then_e ?_ | refine Run.go1 rfl ?_
    | refine wp_skip_i ?_ | refine wp_ret_i ?_ | refine wp_exit_i ?_ | refine wp_block_i ?_ | refine block_n ?_ | refine block_r ?_ | refine block_e ?_ | refine block_o rfl ?_
    | refine wp_cond_t rfl ?_ | refine wp_cond_f rfl ?_
    | (refine wp_cond_i rfl ?_ ?_ <;> intro _))
  refine wp_loop_k (α := Nat × Int × List Int) [.keep [0, 1, 4, 5] [100000]] (fun p => [(1, iA p.2.1), (5, iA p.1)]) (fun _ => []) (fun p => [(100000, ⟨0, some (f 100000)⟩, p.2.2.map iR)]) (fun p => p.1 ≤ l.length ∧ p.2.1 = (mk (l.take p.1) k).2 ∧ p.2.2 = (mk (l.take p.1) k).1 ++ l.drop p.1) (fun p => l.length - p.1) (0, k, l) rfl (fun _ => rfl) rfl ⟨by simp, by simp [mk], by simp [mk]⟩ ?_
  rintro ⟨j, c, m⟩ ⟨hj, hc, hm⟩
  simp only at hj hc hm
  have hml : m.length = l.length := by rw [hm]; simp [mk_len]; omega
  by_cases hlt : j < l.length
  · have ht : l.take (j + 1) = l.take j ++ [l[j]] := by simp
    have hx : (m.map iR)[j]? = some (iR (m[j]'(by omega))) := by simp [hml, hlt]
    repeat' (first
      | refine wp_seq_i ?_ | refine wp_region_i ?_ | refine Run.done rfl ?_ | refine then_n ?_ | refine then_r ?_ | refine then_e ?_ | refine Run.go1 rfl ?_
      | refine wp_skip_i ?_ | refine wp_ret_i ?_ | refine wp_exit_i ?_ | refine wp_block_i ?_ | refine block_n ?_ | refine block_r ?_ | refine block_e ?_ | refine block_o rfl ?_
      | refine wp_cond_t rfl ?_ | refine wp_cond_f rfl ?_ | refine Run.ix rfl rfl rfl rfl rfl rfl rfl hx rfl rfl rfl ?_ | refine Run.str rfl rfl rfl rfl rfl rfl hx rfl rfl ?_
      | (refine wp_cond_i rfl ?_ ?_ <;> intro _))
    · refine back_i [.keep [0, 1, 4, 5] [100000]] (j + 1, IntKind.i64.wrap (c + 1), m.set j c) rfl ?_ ⟨by simp; omega, ?_, ?_⟩ (by simp; omega)
      · simp only [List.map_set, w_succ hlt hl]
      · rw [ht, mk_snoc, hc]
      · rw [ht, mk_snoc, hm, List.drop_eq_getElem_cons hlt, hc]
        rw [List.set_append_right _ _ (by simp [mk_len]; omega)]
        simp only [mk_len, List.length_take, Nat.min_eq_left hj, Nat.sub_self, List.set_cons_zero, List.append_assoc, List.singleton_append]
    · rename_i h; simp [hml, hlt] at h
  · have hjl : j = l.length := by omega
    repeat' (first
      | refine wp_seq_i ?_ | refine wp_region_i ?_ | refine Run.done rfl ?_ | refine then_n ?_ | refine then_r ?_ | refine then_e ?_ | refine Run.go1 rfl ?_
      | refine wp_skip_i ?_ | refine wp_ret_i ?_ | refine wp_exit_i ?_ | refine wp_block_i ?_ | refine block_n ?_ | refine block_r ?_ | refine block_e ?_ | refine block_o rfl ?_
      | refine wp_cond_t rfl ?_ | refine wp_cond_f rfl ?_
      | (refine wp_cond_i rfl ?_ ?_ <;> intro _))
    · rename_i h; simp [hml, hjl] at h
    · refine ret_o [true] [] rfl rfl rfl ⟨rfl, trivial⟩ ?_
      subst hjl
      simp [hc, hm]
end Go.Proofs
