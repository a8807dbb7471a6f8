-- written by wip/tools/prune.py: what this claim reaches of the print's and our texts
import Derived.Test.YtddacgfnhoboaaaQHOFnExactUsesOfx14
import Derived.Test.YtddacgfnhoboaaaQHOFnExactUsesOfx15
import Derived.Test.YtddacgfnhoboaaaQHOFnExactUsesOfx16
import Derived.Test.YtddacgfnhoboaaaQHUPureD
namespace Go.Proofs.Ytddacgfnhoboaaa.Pure
open Go.RowKit Go.Proofs.Ytddacgfnhoboaaa.OFnExactUsesOf Go.Proofs.YtddacgfnhoboaaaW.PrintWords Go.Proofs.YtddacgfnhoboaaaW.PrintLast Go.Proofs.YtddacgfnhoboaaaW.PrintMore
set_option linter.unusedVariables false
set_option linter.unusedSimpArgs false
def hasB (L : List ByteArray) (s : ByteArray) : Bool := L.any (fun x => x.toList == s.toList)
theorem hasB_cons (x : ByteArray) (t : List ByteArray) (s : ByteArray) : hasB (x :: t) s = ((x.toList == s.toList) || hasB t s) := by simp only [hasB, List.any_cons]
theorem rdB (L : List ByteArray) (i : Nat) (h : i < L.length) : rdOf ByteArray.empty L (i : Int) = L[i] := by simp [rdOf, List.getD_eq_getElem?_getD, h]
theorem l2Has_l0 (L : List ByteArray) (s : ByteArray) (hl : L.length ≤ 1000) (d : Nat) : ∀ i : Nat, i + d = L.length → Ev (fun k => spec_l2Has.l0 k L s (i : Int)) (hasB (L.drop i) s) := by
  induction d with
  | zero =>
    intro i h
    refine Ev.succ ?_
    simp only [spec_l2Has.l0]
    refine Ev.neg (by omega) (Ev.of ?_)
    rw [List.drop_eq_nil_of_le (by omega)]
    rfl
  | succ d ih =>
    intro i h
    have hi : i < L.length := by omega
    refine Ev.succ ?_
    simp only [spec_l2Has.l0]
    rw [rdB L i hi, show wrap64 ((i : Int) + 1) = ((i + 1 : Nat) : Int) from by rw [w64 (by omega) (by omega)]; omega, List.drop_eq_getElem_cons hi]
    refine Ev.pos (by omega) (Ev.pos (by omega) ?_)
    by_cases he : L[i].toList = s.toList
    · exact Ev.pos he (Ev.of (by rw [hasB_cons, beq_iff_eq.mpr he, Bool.true_or]))
    · refine Ev.neg he ?_
      have := ih (i + 1) (by omega)
      have e : hasB (L[i] :: L.drop (i + 1)) s = hasB (L.drop (i + 1)) s := by rw [hasB_cons, show (L[i].toList == s.toList) = false from by simpa using he, Bool.false_or]
      rw [e]
      exact this
theorem l2Has_B (L : List ByteArray) (s : ByteArray) (hl : L.length ≤ 1000) : Ev (fun k => spec_l2Has.f k L s) (hasB L s) := by
  unfold spec_l2Has.f
  have := l2Has_l0 L s hl L.length 0 (by omega)
  rwa [List.drop_zero] at this
theorem index_l0 (L : List ByteArray) (s : ByteArray) (hl : L.length ≤ 1000) (d : Nat) : ∀ i : Nat, i + d = L.length → ∃ r : Int, Ev (fun k => slices_Index_string_string.l0 k L s (L.length : Int) (i : Int)) r ∧ decide (r ≥ 0) = hasB (L.drop i) s := by
  induction d with
  | zero =>
    intro i h
    refine ⟨-1, Ev.succ ?_, ?_⟩
    · simp only [slices_Index_string_string.l0]
      exact Ev.neg (by omega) (Ev.of rfl)
    · rw [List.drop_eq_nil_of_le (by omega)]
      rfl
  | succ d ih =>
    intro i h
    have hi : i < L.length := by omega
    by_cases he : L[i].toList = s.toList
    · refine ⟨(i : Int), Ev.succ ?_, ?_⟩
      · simp only [slices_Index_string_string.l0]
        rw [rdB L i hi]
        exact Ev.pos (by omega) (Ev.pos (by omega) (Ev.pos (by omega) (Ev.pos he.symm (Ev.of rfl))))
      · rw [List.drop_eq_getElem_cons hi, hasB_cons, beq_iff_eq.mpr he, Bool.true_or]
        exact decide_eq_true (by omega)
    · obtain ⟨r, h1, h2⟩ := ih (i + 1) (by omega)
      refine ⟨r, Ev.succ ?_, ?_⟩
      · simp only [slices_Index_string_string.l0]
        rw [rdB L i hi, show wrap64 ((i : Int) + 1) = ((i + 1 : Nat) : Int) from by rw [w64 (by omega) (by omega)]; omega]
        exact Ev.pos (by omega) (Ev.pos (by omega) (Ev.pos (by omega) (Ev.neg (fun e => he e.symm) h1)))
      · rw [h2, List.drop_eq_getElem_cons hi, hasB_cons, show (L[i].toList == s.toList) = false from by simpa using he, Bool.false_or]
theorem contains_B (L : List ByteArray) (s : ByteArray) (hl : L.length ≤ 1000) : Ev (fun k => slices_Contains_string_string.f k L s) (hasB L s) := by
  unfold slices_Contains_string_string.f slices_Index_string_string.f
  obtain ⟨r, h1, h2⟩ := index_l0 L s hl L.length 0 (by omega)
  rw [List.drop_zero] at h2
  exact Ev.bind h1 (Ev.of (by rw [h2]))
def bndC (K : Int) (S Z : ByteArray) (i : Int) : List ByteArray := if K = 4 ∨ K = 7 ∨ (K = 6 ∧ i = 1) ∨ (K = 17 ∧ i = 1) then [S] else if K = 14 ∧ i = 2 then [S, Z] else []
theorem bnd_len (K : Int) (S Z : ByteArray) (i : Int) : (bndC K S Z i).length ≤ 1000 := by
  unfold bndC
  split
  · simp
  · split <;> simp
theorem l2Binds_C (K N : Int) (S Z : ByteArray) (a b : Int) (c ts : List S32) (l : List S35) (i : Int) : Ev (fun k => spec_l2Binds.f k K N S Z a b c ts l i) (bndC K S Z i) := by
  refine ⟨1, fun k hk => ?_⟩
  obtain ⟨k, rfl⟩ : ∃ m, k = m + 1 := ⟨k - 1, by omega⟩
  unfold spec_l2Binds.f bndC
  simp only [spec_l2Binds.j0]
  by_cases h4 : K = 4
  · simp [h4]
  · by_cases h7 : K = 7
    · simp [h7]
    · by_cases h6 : K = 6
      · by_cases hi : i = 1 <;> simp [h6, hi]
      · by_cases h17 : K = 17
        · by_cases hi : i = 1 <;> simp [h17, hi]
        · by_cases h14 : K = 14
          · by_cases hi : i = 2 <;> simp [h14, hi]
          · simp [h4, h7, h6, h17, h14]
theorem boundIn_C (K N : Int) (S Z : ByteArray) (a b : Int) (c ts : List S32) (l : List S35) (i : Int) : Ev (fun k => impl_boundIn.f k K N S Z a b c ts l i) (bndC K S Z i) := by
  refine ⟨1, fun k hk => ?_⟩
  obtain ⟨k, rfl⟩ : ∃ m, k = m + 1 := ⟨k - 1, by omega⟩
  unfold impl_boundIn.f bndC
  simp only [impl_boundIn.j0]
  by_cases h4 : K = 4
  · simp [h4]
  · by_cases h7 : K = 7
    · simp [h7]
    · by_cases h6 : K = 6
      · by_cases hi : i = 1 <;> simp [h6, hi]
      · by_cases h17 : K = 17
        · by_cases hi : i = 1 <;> simp [h17, hi]
        · by_cases h14 : K = 14
          · by_cases hi : i = 2 <;> simp [h14, hi]
          · simp [h4, h7, h6, h17, h14]
mutual
def us (s : ByteArray) : S35 → Int
  | ⟨K, _, S, Z, _, _, l⟩ => if K = 3 ∧ S.toList = s.toList then 1 else usS s K S Z l 0 0
def usS (s : ByteArray) (K : Int) (S Z : ByteArray) : List S35 → Int → Nat → Int
  | [], acc, _ => acc
  | x :: l, acc, i => if hasB (bndC K S Z (i : Int)) s = true then usS s K S Z l acc (i + 1) else usS s K S Z l (wrap64 (acc + us s x)) (i + 1)
end
def UsP (s : ByteArray) (x : S35) : Prop := nm x ≤ 3000000000 → Ev (fun k => spec_l18Uses.f k x.f0 x.f1 x.f2 x.f3 x.f4.f0 x.f4.f1 x.f4.f2 x.f5 x.f6 s) (us s x) ∧ Ev (fun k => impl_usesIn.f k x.f0 x.f1 x.f2 x.f3 x.f4.f0 x.f4.f1 x.f4.f2 x.f5 x.f6 s) (us s x)
theorem us_l0 (s : ByteArray) (K N : Int) (S Z : ByteArray) (a b : Int) (c ts : List S32) (l : List S35) (hl : nmS l ≤ 3000000000) (hP : ∀ y ∈ l, UsP s y) (d : Nat) : ∀ (i : Nat) (acc : Int), i + d = l.length →
    Ev (fun k => spec_l18Uses.l0 k s acc (i : Int) K N S Z a b c ts l) (usS s K S Z (l.drop i) acc i) ∧ Ev (fun k => impl_usesIn.l0 k s acc l (l.length : Int) (i : Int) K N S Z a b c ts l) (usS s K S Z (l.drop i) acc i) := by
  have hlen := len_nm l
  induction d with
  | zero =>
    intro i acc h
    rw [List.drop_eq_nil_of_le (by omega)]
    simp only [usS]
    constructor
    · refine Ev.succ ?_
      simp only [spec_l18Uses.l0]
      exact Ev.neg (by omega) (Ev.of rfl)
    · refine Ev.succ ?_
      simp only [impl_usesIn.l0]
      exact Ev.neg (by omega) (Ev.of rfl)
  | succ d ih =>
    intro i acc h
    have hi : i < l.length := by omega
    have hm := List.getElem_mem hi
    have hnd := nm_le hm
    obtain ⟨u1, u2⟩ := hP _ hm (by omega)
    have hw : wrap64 ((i : Int) + 1) = ((i + 1 : Nat) : Int) := by rw [w64 (by omega) (by omega)]; omega
    rw [List.drop_eq_getElem_cons hi]
    simp only [usS]
    have hn := bnd_len K S Z (i : Int)
    by_cases hh : hasB (bndC K S Z (i : Int)) s = true
    · rw [if_pos hh]
      obtain ⟨v1, v2⟩ := ih (i + 1) acc (by omega)
      constructor
      · refine Ev.succ ?_
        simp only [spec_l18Uses.l0]
        rw [hw]
        refine Ev.pos (by omega) (Ev.bind (l2Binds_C K N S Z a b c ts l (i : Int)) (Ev.bind (l2Has_B _ s hn) (Ev.pos hh v1)))
      · refine Ev.succ ?_
        simp only [impl_usesIn.l0]
        rw [hw]
        refine Ev.pos (by omega) (Ev.pos (by omega) (Ev.pos (by omega) (Ev.bind (boundIn_C K N S Z a b c ts l (i : Int)) (Ev.bind (contains_B _ s hn) (Ev.pos hh v2)))))
    · rw [if_neg hh]
      obtain ⟨v1, v2⟩ := ih (i + 1) (wrap64 (acc + us s l[i])) (by omega)
      constructor
      · refine Ev.succ ?_
        simp only [spec_l18Uses.l0]
        rw [hw, rd35' l i hi]
        refine Ev.pos (by omega) (Ev.bind (l2Binds_C K N S Z a b c ts l (i : Int)) (Ev.bind (l2Has_B _ s hn) (Ev.neg hh (Ev.pos (by omega) (Ev.bind u1 v1)))))
      · refine Ev.succ ?_
        simp only [impl_usesIn.l0]
        rw [hw, rd35' l i hi]
        refine Ev.pos (by omega) (Ev.pos (by omega) (Ev.pos (by omega) (Ev.bind (boundIn_C K N S Z a b c ts l (i : Int)) (Ev.bind (contains_B _ s hn) (Ev.neg hh (Ev.bind u2 v2))))))
theorem us_p (s : ByteArray) (x : S35) : UsP s x := by
  induction x using OFnExactUsesOf.S35.ind with
  | h K N S Z T ts l ih =>
    intro hn
    obtain ⟨a, b, c⟩ := T
    simp only [nm] at hn
    obtain ⟨v1, v2⟩ := us_l0 s K N S Z a b c ts l (by omega) ih l.length 0 0 (by omega)
    rw [List.drop_zero] at v1 v2
    simp only [us]
    by_cases h3 : K = 3
    · by_cases hs : S.toList = s.toList
      · rw [if_pos ⟨h3, hs⟩]
        constructor
        · refine Ev.succ ?_
          simp only [spec_l18Uses.f]
          refine Ev.pos h3 (Ev.succ ?_)
          simp only [spec_l18Uses.j0]
          exact Ev.pos (by simpa using hs) (Ev.of rfl)
        · refine Ev.succ ?_
          simp only [impl_usesIn.f]
          refine Ev.pos h3 (Ev.succ ?_)
          simp only [impl_usesIn.j0]
          exact Ev.pos (by simpa using hs) (Ev.of rfl)
      · rw [if_neg (fun h => hs h.2)]
        constructor
        · refine Ev.succ ?_
          simp only [spec_l18Uses.f]
          refine Ev.pos h3 (Ev.succ ?_)
          simp only [spec_l18Uses.j0]
          exact Ev.neg (by simpa using hs) v1
        · refine Ev.succ ?_
          simp only [impl_usesIn.f]
          refine Ev.pos h3 (Ev.succ ?_)
          simp only [impl_usesIn.j0]
          exact Ev.neg (by simpa using hs) v2
    · rw [if_neg (fun h => h3 h.1)]
      constructor
      · refine Ev.succ ?_
        simp only [spec_l18Uses.f]
        refine Ev.neg h3 (Ev.succ ?_)
        simp only [spec_l18Uses.j0]
        exact Ev.neg (by simp) v1
      · refine Ev.succ ?_
        simp only [impl_usesIn.f]
        refine Ev.neg h3 (Ev.succ ?_)
        simp only [impl_usesIn.j0]
        exact Ev.neg (by simp) v2
theorem usesOf_B (s : ByteArray) (x : S35) (hs : Sm x) (h : nm x ≤ 3000000000) : ∃ r, Ev (fun k => spec_UsesOf.f k x.f0 x.f1 x.f2 x.f3 x.f4.f0 x.f4.f1 x.f4.f2 x.f5 x.f6 s) r ∧ Ev (fun k => impl_UsesOf.f k x.f0 x.f1 x.f2 x.f3 x.f4.f0 x.f4.f1 x.f4.f2 x.f5 x.f6 s) r := by
  obtain ⟨v1, v2⟩ := us_p s x h
  cases hb : tmB x with
  | true =>
    refine ⟨us s x, ?_, ?_⟩
    · unfold spec_UsesOf.f
      exact Ev.obind (by rw [spec_TermOk_B x h, hb]) (Ev.pos rfl (Ev.bind v1 (Ev.of rfl)))
    · unfold impl_UsesOf.f
      have := impl_TermOk_B x hs h
      rw [hb] at this
      exact Ev.bind this (Ev.pos rfl (Ev.bind v2 (Ev.of rfl)))
  | false =>
    refine ⟨0, ?_, ?_⟩
    · unfold spec_UsesOf.f
      exact Ev.obind (by rw [spec_TermOk_B x h, hb]) (Ev.neg (by simp) (Ev.of rfl))
    · unfold impl_UsesOf.f
      have := impl_TermOk_B x hs h
      rw [hb] at this
      exact Ev.bind this (Ev.neg (by simp) (Ev.of rfl))
end Go.Proofs.Ytddacgfnhoboaaa.Pure
