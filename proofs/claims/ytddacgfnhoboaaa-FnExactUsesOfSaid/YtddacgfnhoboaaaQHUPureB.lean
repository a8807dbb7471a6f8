-- written by wip/tools/prune.py: what this claim reaches of the print's and our texts
import Derived.Test.YtddacgfnhoboaaaQHOFnExactUsesOfx4
import Derived.Test.YtddacgfnhoboaaaQHUPureEv
namespace Go.Proofs.Ytddacgfnhoboaaa.Pure
open Go.RowKit Go.Proofs.Ytddacgfnhoboaaa.OFnExactUsesOf Go.Proofs.YtddacgfnhoboaaaW.PrintWords Go.Proofs.YtddacgfnhoboaaaW.PrintLast Go.Proofs.YtddacgfnhoboaaaW.PrintMore
set_option linter.unusedVariables false
set_option linter.unusedSimpArgs false
theorem rd32' (l : List S32) (i : Nat) (h : i < l.length) : rd_T32 l (i : Int) = l[i] := by simp [rd_T32, List.getD_eq_getElem?_getD, h]
theorem rd35' (l : List S35) (i : Nat) (h : i < l.length) : rd_T35 l (i : Int) = l[i] := by simp [rd_T35, List.getD_eq_getElem?_getD, h]
mutual
def nd : S32 → Nat
  | ⟨_, _, l⟩ => 1 + ndS l
def ndS : List S32 → Nat
  | [] => 0
  | x :: l => nd x + ndS l
end
mutual
def dp : S32 → Nat
  | ⟨_, _, l⟩ => dpS l + 1
def dpS : List S32 → Nat
  | [] => 0
  | x :: l => max (dp x) (dpS l)
end
def hdT (K N : Int) (m : Nat) : Bool := decide ((m : Int) = nArgs K) && (if K = 3 then decide (0 ≤ N ∧ N ≤ 1) else decide (N = 0))
mutual
def okT : S32 → Bool
  | ⟨K, N, l⟩ => hdT K N l.length && okS l
def okS : List S32 → Bool
  | [] => true
  | x :: l => okT x && okS l
end
theorem nd_pos (x : S32) : 1 ≤ nd x := by obtain ⟨a, b, l⟩ := x; simp only [nd]; omega
theorem nd_le {l : List S32} : ∀ {y : S32}, y ∈ l → nd y ≤ ndS l := by
  induction l with
  | nil => intro y h; cases h
  | cons x l ih =>
    intro y h
    simp only [ndS]
    cases h with
    | head => omega
    | tail _ h => have := ih h; omega
theorem len_nd (l : List S32) : l.length ≤ ndS l := by
  induction l with
  | nil => simp [ndS]
  | cons x l ih => simp only [ndS, List.length_cons]; have := nd_pos x; omega
def LookP (x : S32) : Prop := ∀ d n : Int, 0 ≤ d → d ≤ 1000 → 0 ≤ n → n + nd x ≤ 4000000000 → (OFnExactUsesOf.look x d n).1 = (okT x && (decide ((dp x : Int) ≤ d) && decide (n + nd x ≤ 60))) ∧ ((OFnExactUsesOf.look x d n).1 = true → (OFnExactUsesOf.look x d n).2 = n + nd x)
theorem lookS_p (l : List S32) : (∀ y ∈ l, LookP y) → ∀ d n : Int, 0 ≤ d → d ≤ 1000 → 0 ≤ n → n ≤ 60 → n + ndS l ≤ 4000000000 → (OFnExactUsesOf.lookS l d n).1 = (okS l && (decide ((dpS l : Int) ≤ d) && decide (n + ndS l ≤ 60))) ∧ ((OFnExactUsesOf.lookS l d n).1 = true → (OFnExactUsesOf.lookS l d n).2 = n + ndS l) := by
  induction l with
  | nil => intro _ d n h0 _ _ h1 _; simp [OFnExactUsesOf.lookS, okS, dpS, ndS, h0, h1]
  | cons x l ih =>
    intro hP d n h0 h1 h2 h3 h4
    simp only [ndS] at h4
    obtain ⟨e1, e2⟩ := hP x (List.mem_cons_self ..) d n h0 h1 h2 (by omega)
    simp only [OFnExactUsesOf.lookS, okS, dpS, ndS]
    by_cases hx : (OFnExactUsesOf.look x d n).1 = true
    · rw [if_pos hx, e2 hx]
      have hx' := hx
      rw [e1] at hx'
      simp only [Bool.and_eq_true, decide_eq_true_eq] at hx'
      obtain ⟨o1, o2, o3⟩ := hx'
      obtain ⟨f1, f2⟩ := ih (fun y hy => hP y (List.mem_cons_of_mem _ hy)) d (n + nd x) h0 h1 (by omega) o3 (by omega)
      refine ⟨?_, fun h => by rw [f2 h]; omega⟩
      rw [f1, o1, Bool.true_and]
      congr 1
      congr 1
      · exact decide_eq_decide.2 (by omega)
      · exact decide_eq_decide.2 (by omega)
    · rw [if_neg hx]
      refine ⟨?_, fun h => by cases h⟩
      rw [e1] at hx
      simp only [Bool.and_eq_true, decide_eq_true_eq] at hx
      symm
      rw [Bool.eq_false_iff]
      intro h
      simp only [Bool.and_eq_true, decide_eq_true_eq] at h
      obtain ⟨⟨g1, _⟩, g2, g3⟩ := h
      replace g2 := of_decide_eq_true g2
      replace g3 := of_decide_eq_true g3
      have g4 := Nat.le_max_left (dp x) (dpS l)
      exact hx ⟨g1, by omega, by omega⟩
theorem look_p (x : S32) : LookP x := by
  induction x using S32.ind with
  | h K N l ih =>
    intro d n h0 h1 h2 h3
    simp only [nd] at h3
    have w1 : wrap64 (n + 1) = n + 1 := w64 (by omega) (by omega)
    have w2 : wrap64 (d - 1) = d - 1 := w64 (by omega) (by omega)
    rw [look_eq, w1, w2]
    simp only [okT, dp, nd]
    by_cases hb : bad K N l.length d (n + 1) = true
    · rw [if_pos hb]
      refine ⟨?_, fun h => by cases h⟩
      unfold bad at hb
      rw [decide_eq_true_eq] at hb
      symm
      rw [Bool.eq_false_iff]
      intro h
      simp only [Bool.and_eq_true, decide_eq_true_eq, hdT] at h
      obtain ⟨⟨⟨a1, a2⟩, _⟩, b1, b2⟩ := h
      replace b1 := of_decide_eq_true b1
      replace b2 := of_decide_eq_true b2
      have b3 : (dpS l : Int) + 1 ≤ d := by omega
      have b4 : n + (1 + (ndS l : Int)) ≤ 60 := by omega
      rcases hb with hb | hb | hb | ⟨hb, hc⟩ | ⟨hb, hc⟩
      · omega
      · omega
      · exact hb a1
      · rw [if_pos hb, decide_eq_true_eq] at a2; exact hc a2
      · rw [if_neg hb, decide_eq_true_eq] at a2; exact hc a2
    · rw [if_neg hb]
      unfold bad at hb
      rw [decide_eq_true_eq] at hb
      have c0 : ¬ d = 0 := fun e => hb (.inl e)
      have c1 : n + 1 ≤ 60 := by
        rcases Int.lt_or_le 60 (n + 1) with h | h
        · exact absurd (.inr (.inl h)) hb
        · exact h
      have c2 : hdT K N l.length = true := by
        simp only [hdT, Bool.and_eq_true, decide_eq_true_eq]
        refine ⟨Classical.byContradiction fun h => hb (.inr (.inr (.inl h))), ?_⟩
        by_cases h3 : K = 3
        · rw [if_pos h3, decide_eq_true_eq]; exact Classical.byContradiction fun h => hb (.inr (.inr (.inr (.inl ⟨h3, h⟩))))
        · rw [if_neg h3, decide_eq_true_eq]; exact Classical.byContradiction fun h => hb (.inr (.inr (.inr (.inr ⟨h3, h⟩))))
      obtain ⟨f1, f2⟩ := lookS_p l ih (d - 1) (n + 1) (by omega) (by omega) (by omega) c1 (by omega)
      refine ⟨?_, fun h => by rw [f2 h]; omega⟩
      rw [f1, c2, Bool.true_and]
      congr 1
      congr 1
      · exact decide_eq_decide.2 (by omega)
      · exact decide_eq_decide.2 (by omega)
def tyB (T : S32) : Bool := okT T && (decide ((dp T : Int) ≤ 6) && decide ((0 : Int) + nd T ≤ 60))
theorem look_B (T : S32) (h : nd T ≤ 3000000000) : (OFnExactUsesOf.look T 6 0).1 = tyB T := (look_p T 6 0 (by omega) (by omega) (by omega) (by omega)).1
theorem tyParts_f (K : Int) : Ev (fun k => impl_tyParts.f k K) (nArgs K) := by
  refine ⟨1, fun k hk => ?_⟩
  obtain ⟨k, rfl⟩ : ∃ m, k = m + 1 := ⟨k - 1, by omega⟩
  unfold impl_tyParts.f nArgs
  simp only [impl_tyParts.j0]
  by_cases h1 : K = 1
  · simp [h1]
  · by_cases h2 : K = 2
    · simp [h2]
    · by_cases h3 : K = 3
      · simp [h3]
      · by_cases h6 : K = 6
        · simp [h6]
        · by_cases h4 : K = 4
          · simp [h4]
          · by_cases h5 : K = 5
            · simp [h5]
            · simp [h1, h2, h3, h4, h5, h6]
def MeasP (x : S32) : Prop := nd x ≤ 3000000000 → Ev (fun k => impl_measure.f k x.f0 x.f1 x.f2) (cond (okT x) ((dp x : Int), (nd x : Int), true) (0, 0, false))
theorem mx_max (a b : Nat) : mx (a : Int) (b : Int) = ((max a b : Nat) : Int) := by
  unfold mx
  split <;> omega
theorem meas_l0 (l : List S32) (hl : ndS l ≤ 3000000000) (hP : ∀ y ∈ l, MeasP y) (c : Nat) : ∀ (i d n : Nat), i + c = l.length → n + ndS (l.drop i) ≤ 3000000001 →
    Ev (fun k => impl_measure.l0 k (d : Int) (n : Int) l (l.length : Int) (i : Int)) (cond (okS (l.drop i)) (wrap64 (((max d (dpS (l.drop i)) : Nat) : Int) + 1), ((n + ndS (l.drop i) : Nat) : Int), true) (0, 0, false)) := by
  have hlen := len_nd l
  induction c with
  | zero =>
    intro i d n h1 h2
    have hn : i = l.length := by omega
    subst hn
    rw [List.drop_length]
    simp only [okS, dpS, ndS, cond_true]
    refine Ev.succ ?_
    simp only [impl_measure.l0]
    exact Ev.neg (by omega) (Ev.of (by simp))
  | succ c ih =>
    intro i d n h1 h2
    have hi : i < l.length := by omega
    have hm := List.getElem_mem hi
    have hnd := nd_le hm
    rw [List.drop_eq_getElem_cons hi] at h2 ⊢
    simp only [ndS] at h2
    simp only [okS, dpS, ndS]
    refine Ev.succ ?_
    simp only [impl_measure.l0]
    rw [rd32' l i hi, show wrap64 ((i : Int) + 1) = ((i + 1 : Nat) : Int) from by rw [w64 (by omega) (by omega)]; omega]
    have hb := hP _ hm (by omega)
    refine Ev.pos (by omega) (Ev.pos (by omega) (Ev.pos (by omega) ?_))
    cases ho : okT l[i] with
    | true =>
      rw [ho] at hb
      simp only [cond_true] at hb
      refine Ev.bind hb (Ev.pos rfl ?_)
      rw [mx_max]
      rw [w64 (n := (n : Int) + (nd l[i] : Int)) (by omega) (by omega), show (n : Int) + (nd l[i] : Int) = ((n + nd l[i] : Nat) : Int) from by omega]
      have := ih (i + 1) (max d (dp l[i])) (n + nd l[i]) (by omega) (by omega)
      rw [Bool.true_and, show max d (max (dp l[i]) (dpS (List.drop (i + 1) l))) = max (max d (dp l[i])) (dpS (List.drop (i + 1) l)) from by omega, show n + (nd l[i] + ndS (List.drop (i + 1) l)) = n + nd l[i] + ndS (List.drop (i + 1) l) from by omega]
      exact this
    | false =>
      rw [ho] at hb
      simp only [cond_false] at hb
      rw [Bool.false_and]
      exact Ev.bind hb (Ev.neg (by simp) (Ev.of rfl))
theorem dpS_nd (l : List S32) : dpS l ≤ ndS l ∧ ∀ x : S32, x ∈ l → dp x ≤ nd x := by
  have key : ∀ x : S32, dp x ≤ nd x := by
    intro x
    induction x using S32.ind with
    | h a b l ih =>
      simp only [dp, nd]
      have : ∀ m : List S32, (∀ y ∈ m, dp y ≤ nd y) → dpS m ≤ ndS m := by
        intro m
        induction m with
        | nil => intro _; simp [dpS, ndS]
        | cons y m ihm =>
          intro h
          simp only [dpS, ndS]
          have h1 := h y (List.mem_cons_self ..)
          have h2 := ihm (fun z hz => h z (List.mem_cons_of_mem _ hz))
          omega
      have := this l ih
      omega
  refine ⟨?_, fun x _ => key x⟩
  induction l with
  | nil => simp [dpS, ndS]
  | cons y m ihm => simp only [dpS, ndS]; have := key y; omega
theorem meas_p (x : S32) : MeasP x := by
  induction x using S32.ind with
  | h K N l ih =>
    intro hn
    simp only [nd] at hn
    simp only [okT, dp, nd]
    have hd := (dpS_nd l).1
    have hl := meas_l0 l (by omega) ih l.length 0 0 1 (by omega) (by rw [List.drop_zero]; omega)
    rw [List.drop_zero] at hl
    have jt : Ev (fun k => impl_measure.j0 k true K N l) (0, 0, false) := by
      refine Ev.succ ?_
      simp only [impl_measure.j0]
      first | exact Ev.pos rfl (Ev.of rfl) | exact Ev.pos trivial (Ev.of rfl) | exact Ev.of rfl
    have jf : Ev (fun k => impl_measure.j0 k false K N l) (cond (okS l) (((dpS l + 1 : Nat) : Int), ((1 + ndS l : Nat) : Int), true) (0, 0, false)) := by
      refine Ev.succ ?_
      simp only [impl_measure.j0]
      refine Ev.neg (by simp) ?_
      rw [show max 0 (dpS l) = dpS l from by omega, w64 (n := ((dpS l : Nat) : Int) + 1) (by omega) (by omega)] at hl
      exact hl
    refine Ev.succ ?_
    simp only [impl_measure.f]
    refine Ev.bind (tyParts_f K) ?_
    by_cases h1 : (l.length : Int) = nArgs K
    · refine Ev.pos h1 ?_
      by_cases h0 : N = 0
      · refine Ev.pos h0 ?_
        have : hdT K N l.length = true := by simp [hdT, h1, h0]
        rw [this, Bool.true_and]
        exact jf
      · refine Ev.neg h0 ?_
        by_cases h3 : K = 3
        · refine Ev.pos h3 ?_
          by_cases h4 : N = 1
          · have : hdT K N l.length = true := by simp only [hdT, Bool.and_eq_true, decide_eq_true_eq]; exact ⟨h1, by rw [if_pos h3, decide_eq_true_eq]; omega⟩
            rw [this, Bool.true_and, h4, show ((1 : Int) != 1) = false from rfl]
            rw [h4] at jf
            exact jf
          · have : ¬ hdT K N l.length = true := by simp only [hdT, Bool.and_eq_true, decide_eq_true_eq]; rintro ⟨_, h⟩; rw [if_pos h3, decide_eq_true_eq] at h; omega
            rw [show hdT K N l.length = false from by simpa using this, Bool.false_and, show (N != 1) = true from by simpa using h4]
            exact jt
        · refine Ev.neg h3 ?_
          have : ¬ hdT K N l.length = true := by simp only [hdT, Bool.and_eq_true, decide_eq_true_eq]; rintro ⟨_, h⟩; rw [if_neg h3, decide_eq_true_eq] at h; exact h0 h
          rw [show hdT K N l.length = false from by simpa using this, Bool.false_and]
          exact jt
    · refine Ev.neg h1 ?_
      have : ¬ hdT K N l.length = true := by simp only [hdT, Bool.and_eq_true, decide_eq_true_eq]; exact fun h => h1 h.1
      rw [show hdT K N l.length = false from by simpa using this, Bool.false_and]
      exact jt
theorem tyOk_impl (T : S32) (h : nd T ≤ 3000000000) : Ev (fun k => impl_TyOk.f k T.f0 T.f1 T.f2) (tyB T) := by
  unfold impl_TyOk.f
  have hb := meas_p T h
  cases ho : okT T with
  | true =>
    rw [ho] at hb
    simp only [cond_true] at hb
    refine Ev.bind hb (Ev.pos rfl ?_)
    by_cases h6 : ((dp T : Nat) : Int) ≤ 6
    · exact Ev.pos h6 (Ev.of (by simp [tyB, ho, h6]))
    · exact Ev.neg h6 (Ev.of (by simp [tyB, ho, h6]))
  | false =>
    rw [ho] at hb
    simp only [cond_false] at hb
    exact Ev.bind hb (Ev.neg (by simp) (Ev.of (by simp [tyB, ho])))
end Go.Proofs.Ytddacgfnhoboaaa.Pure
