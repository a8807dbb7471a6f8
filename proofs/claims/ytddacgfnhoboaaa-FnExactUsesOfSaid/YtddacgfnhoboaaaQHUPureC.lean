-- written by wip/tools/prune.py: what this claim reaches of the print's and our texts
import Derived.Test.YtddacgfnhoboaaaQHOFnExactUsesOfx12
import Derived.Test.YtddacgfnhoboaaaQHOFnExactUsesOfx6
import Derived.Test.YtddacgfnhoboaaaQHUPureEv
namespace Go.Proofs.Ytddacgfnhoboaaa.Pure
open Go.RowKit Go.Proofs.Ytddacgfnhoboaaa.OFnExactUsesOf Go.Proofs.YtddacgfnhoboaaaW.PrintWords Go.Proofs.YtddacgfnhoboaaaW.PrintLast Go.Proofs.YtddacgfnhoboaaaW.PrintMore
set_option linter.unusedVariables false
set_option linter.unusedSimpArgs false
theorem in_f (a b c : Int) : impl_in.f a b c = some (decide (b ≤ a ∧ a ≤ c)) := by
  unfold impl_in.f
  by_cases h : b ≤ a <;> simp [h]
def numC (K N : Int) : Bool := if K = 1 then decide (-1000000 ≤ N ∧ N ≤ 1000000) else if K = 2 then decide (0 ≤ N ∧ N ≤ 1) else if K = 6 ∨ K = 7 then decide (0 ≤ N ∧ N ≤ 2) else if K = 15 then decide (1 ≤ N ∧ N ≤ 5) else N == 0
theorem number_C (K N : Int) (S Z : ByteArray) (T : S32) (ts : List S32) (l : List S35) : spec_l2Number.f 20 K N S Z T.f0 T.f1 T.f2 ts l = some (numC K N) := by
  unfold spec_l2Number.f numC
  simp only [spec_l2Number.j0, l1In_f, Option.bind_some]
  by_cases h1 : K = 1
  · simp [h1]
  · by_cases h2 : K = 2
    · simp [h2]
    · by_cases h6 : K = 6
      · simp [h6]
      · by_cases h7 : K = 7
        · simp [h7]
        · by_cases h15 : K = 15
          · simp [h15]
          · simp [h1, h2, h6, h7, h15]
theorem numberOk_C (K N : Int) : Ev (fun k => impl_numberOk.f k K N) (numC K N) := by
  refine ⟨1, fun k hk => ?_⟩
  obtain ⟨k, rfl⟩ : ∃ m, k = m + 1 := ⟨k - 1, by omega⟩
  unfold impl_numberOk.f numC
  simp only [impl_numberOk.j0, in_f, Option.bind_some]
  by_cases h1 : K = 1
  · simp [h1]
  · by_cases h2 : K = 2
    · simp [h2]
    · by_cases h6 : K = 6
      · simp [h6]
      · by_cases h7 : K = 7
        · simp [h7]
        · by_cases h15 : K = 15
          · simp [h15]
          · simp [h1, h2, h6, h7, h15]
def ltr (b : Int) : Bool := decide (97 ≤ b ∧ b ≤ 122)
def okc (b : Int) : Bool := ltr b || (decide (48 ≤ b ∧ b ≤ 57) || b == 46)
def tailB (S : ByteArray) : Nat → Nat → Bool
  | _, 0 => true
  | i, d + 1 => okc (bt S (i : Int)) && tailB S (i + 1) d
def nameB (S : ByteArray) : Bool := decide ((1 : Int) ≤ S.size ∧ (S.size : Int) ≤ 8) && (ltr (bt S 0) && tailB S 0 S.size)
theorem wbt (S : ByteArray) (i : Int) : wrap64 (bt S i) = bt S i := by
  have h : 0 ≤ bt S i ∧ bt S i ≤ 255 := by
    unfold bt
    split
    · rename_i h
      have := (S[i.toNat]'h).toNat_lt
      omega
    · omega
  exact w64 (by omega) (by omega)
theorem l2Name_l0 (S : ByteArray) (hs : S.size ≤ 1000000000) (d : Nat) : ∀ (k i : Nat), i + d = S.size → d < k → spec_l2Name.l0 k S false (i : Int) = some (tailB S i d) := by
  induction d with
  | zero =>
    intro k i h1 h2
    obtain ⟨k, rfl⟩ : ∃ m, k = m + 1 := ⟨k - 1, by omega⟩
    simp only [spec_l2Name.l0, tailB]
    rw [if_neg (by omega)]
  | succ d ih =>
    intro k i h1 h2
    obtain ⟨k, rfl⟩ : ∃ m, k = m + 1 := ⟨k - 1, by omega⟩
    have e := ih k (i + 1) (by omega) (by omega)
    simp only [spec_l2Name.l0, l1In_f, Option.bind_some, wbt, tailB, okc, ltr]
    rw [if_pos (by omega), if_pos (by omega), show wrap64 ((i : Int) + 1) = ((i + 1 : Nat) : Int) from by rw [w64 (by omega) (by omega)]; omega, e]
    by_cases a1 : 97 ≤ bt S (i : Int) ∧ bt S (i : Int) ≤ 122
    · simp [a1]
    · by_cases a2 : 48 ≤ bt S (i : Int) ∧ bt S (i : Int) ≤ 57
      · simp [a1, a2]
      · by_cases a3 : bt S (i : Int) = 46
        · simp [a3]
        · simp [a1, a2, a3]
theorem l2Name_B (S : ByteArray) : spec_l2Name.f 20 S false = some (nameB S) := by
  unfold spec_l2Name.f nameB
  simp only [l1In_f, Option.bind_some, spec_l2Name.j0, wbt, ltr]
  by_cases h : (1 : Int) ≤ S.size ∧ (S.size : Int) ≤ 8
  · have e : spec_l2Name.l0 19 S false 0 = some (tailB S 0 S.size) := l2Name_l0 S (by omega) S.size 19 0 (by omega) (by omega)
    rw [e, if_pos (by simpa using h), if_pos (by omega)]
    by_cases a : 97 ≤ bt S 0 ∧ bt S 0 ≤ 122
    · simp [h, a]
    · simp [a]
  · rw [if_neg (by simpa using h)]
    simp [h]
theorem isName_l0 (S : ByteArray) (hs : S.size ≤ 1000000000) (d : Nat) : ∀ i : Nat, i + d = S.size → 1 ≤ i → Ev (fun k => impl_isName.l0 k S (S.size : Int) (i : Int)) (tailB S i d && decide ((1 : Int) ≤ S.size ∧ (S.size : Int) ≤ 8)) := by
  induction d with
  | zero =>
    intro i h1 h2
    refine Ev.succ ?_
    simp only [impl_isName.l0, in_f]
    refine Ev.neg (by omega) (Ev.of ?_)
    simp [tailB]
  | succ d ih =>
    intro i h1 h2
    have e := ih (i + 1) (by omega) (by omega)
    refine Ev.succ ?_
    simp only [impl_isName.l0, in_f]
    rw [show wrap64 ((i : Int) + 1) = ((i + 1 : Nat) : Int) from by rw [w64 (by omega) (by omega)]; omega]
    refine Ev.pos (by omega) (Ev.pos (by omega) (Ev.pos (by omega) ?_))
    simp only [tailB]
    have hi0 : ¬ (i : Int) = 0 := by omega
    have rest : ¬ (97 ≤ bt S (i : Int) ∧ bt S (i : Int) ≤ 122) → Ev (fun k => if (i : Int) = 0 then some false else (if (bt S (i : Int)) < 48 then (if (bt S (i : Int)) = 46 then (impl_isName.l0 k S (S.size : Int) ((i + 1 : Nat) : Int)) else (some false)) else (if (bt S (i : Int)) > 57 then (if (bt S (i : Int)) = 46 then (impl_isName.l0 k S (S.size : Int) ((i + 1 : Nat) : Int)) else (some false)) else (impl_isName.l0 k S (S.size : Int) ((i + 1 : Nat) : Int))))) ((okc (bt S (i : Int)) && tailB S (i + 1) d) && decide ((1 : Int) ≤ S.size ∧ (S.size : Int) ≤ 8)) := by
      intro a1
      refine Ev.neg hi0 ?_
      by_cases a2 : bt S (i : Int) < 48
      · refine Ev.pos a2 ?_
        by_cases a3 : bt S (i : Int) = 46
        · refine Ev.pos a3 ?_
          have : okc (bt S (i : Int)) = true := by simp [okc, a3]
          rw [this, Bool.true_and]
          exact e
        · refine Ev.neg a3 (Ev.of ?_)
          have : okc (bt S (i : Int)) = false := by simp [okc, ltr, a3]; omega
          rw [this]; simp
      · refine Ev.neg a2 ?_
        by_cases a4 : bt S (i : Int) > 57
        · refine Ev.pos a4 ?_
          have a3 : ¬ bt S (i : Int) = 46 := by omega
          refine Ev.neg a3 (Ev.of ?_)
          have : okc (bt S (i : Int)) = false := by simp [okc, ltr, a3]; omega
          rw [this]; simp
        · refine Ev.neg a4 ?_
          have : okc (bt S (i : Int)) = true := by simp [okc]; omega
          rw [this, Bool.true_and]
          exact e
    by_cases b1 : bt S (i : Int) ≥ 97
    · refine Ev.pos b1 ?_
      by_cases b2 : bt S (i : Int) ≤ 122
      · refine Ev.pos b2 ?_
        have : okc (bt S (i : Int)) = true := by simp [okc, ltr]; omega
        rw [this, Bool.true_and]
        exact e
      · exact Ev.neg b2 (rest (by omega))
    · exact Ev.neg b1 (rest (by omega))
theorem isName_B (S : ByteArray) (hs : S.size ≤ 1000000000) : Ev (fun k => impl_isName.f k S) (nameB S) := by
  unfold impl_isName.f
  refine Ev.succ ?_
  simp only [impl_isName.l0, in_f]
  by_cases h0 : S.size = 0
  · refine Ev.neg (by omega) (Ev.of ?_)
    simp [nameB, h0]
  · refine Ev.pos (by omega) (Ev.pos (by omega) (Ev.pos (by omega) ?_))
    obtain ⟨n, hn⟩ : ∃ n, S.size = n + 1 := ⟨S.size - 1, by omega⟩
    have e := isName_l0 S hs n 1 (by omega) (by omega)
    rw [show wrap64 ((0 : Int) + 1) = ((1 : Nat) : Int) from by rw [w64 (by omega) (by omega)]; omega]
    have rest : ¬ (97 ≤ bt S 0 ∧ bt S 0 ≤ 122) → nameB S = false := by
      intro a
      simp [nameB, ltr]
      intro _ _ h1 h2
      omega
    by_cases b1 : bt S 0 ≥ 97
    · refine Ev.pos b1 ?_
      by_cases b2 : bt S 0 ≤ 122
      · refine Ev.pos b2 ?_
        have hl : ltr (bt S 0) = true := by simp [ltr]; omega
        have : nameB S = (tailB S 1 n && decide ((1 : Int) ≤ S.size ∧ (S.size : Int) ≤ 8)) := by
          have ht : tailB S 0 S.size = tailB S 1 n := by rw [hn]; simp [tailB, okc, hl]
          rw [nameB, hl, ht, Bool.true_and, Bool.and_comm]
        rw [this]
        exact e
      · refine Ev.neg b2 (Ev.pos trivial (Ev.of ?_))
        rw [rest (by omega)]
    · refine Ev.neg b1 (Ev.pos trivial (Ev.of ?_))
      rw [rest (by omega)]
theorem loop_len (S : ByteArray) (d : Nat) : ∀ (i : Nat) (r : List UInt8), i + d = S.size → (ByteArray.toList.loop S i r).length = r.length + d := by
  induction d with
  | zero =>
    intro i r h
    rw [ByteArray.toList.loop, if_neg (by omega)]
    simp
  | succ d ih =>
    intro i r h
    rw [ByteArray.toList.loop, if_pos (by omega), ih (i + 1) _ (by omega)]
    simp only [List.length_cons]
    omega
theorem toList_len (S : ByteArray) : S.toList.length = S.size := by
  unfold ByteArray.toList
  rw [loop_len S S.size 0 [] (by omega)]
  simp
theorem nameB_nil (S : ByteArray) (h : S.toList = []) : nameB S = false := by
  have : S.size = 0 := by
    have h2 : S.toList.length = S.size := toList_len S
    rw [h] at h2
    simpa using h2.symm
  simp [nameB, this]
theorem kinds (K : Int) : ∃ hp hn hs hz ht b, spec_l2Of.f 20 K = some (hp, hn, hs, hz, ht) ∧ Ev (fun k => impl_parts.f k K) hp ∧ impl_hasT.f K = some ht ∧ impl_bindsS.f K = some b ∧ hs = (b || K == 3) ∧ hz = decide (K = 14) ∧ (K = 7 → hp = 2) := by
  by_cases h1 : K = 1
  · subst h1; exact ⟨0, 1, false, false, false, false, rfl, ⟨5, fun k hk => by obtain ⟨k, rfl⟩ : ∃ m, k = m + 5 := ⟨k - 5, by omega⟩; rfl⟩, rfl, rfl, rfl, rfl, by decide⟩
  by_cases h2 : K = 2
  · subst h2; exact ⟨0, 1, false, false, false, false, rfl, ⟨5, fun k hk => by obtain ⟨k, rfl⟩ : ∃ m, k = m + 5 := ⟨k - 5, by omega⟩; rfl⟩, rfl, rfl, rfl, rfl, by decide⟩
  by_cases h3 : K = 3
  · subst h3; exact ⟨0, 0, true, false, false, false, rfl, ⟨5, fun k hk => by obtain ⟨k, rfl⟩ : ∃ m, k = m + 5 := ⟨k - 5, by omega⟩; rfl⟩, rfl, rfl, rfl, rfl, by decide⟩
  by_cases h4 : K = 4
  · subst h4; exact ⟨1, 0, true, false, true, true, rfl, ⟨5, fun k hk => by obtain ⟨k, rfl⟩ : ∃ m, k = m + 5 := ⟨k - 5, by omega⟩; rfl⟩, rfl, rfl, rfl, rfl, by decide⟩
  by_cases h5 : K = 5
  · subst h5; exact ⟨2, 0, false, false, false, false, rfl, ⟨5, fun k hk => by obtain ⟨k, rfl⟩ : ∃ m, k = m + 5 := ⟨k - 5, by omega⟩; rfl⟩, rfl, rfl, rfl, rfl, by decide⟩
  by_cases h6 : K = 6
  · subst h6; exact ⟨2, 1, true, false, false, true, rfl, ⟨5, fun k hk => by obtain ⟨k, rfl⟩ : ∃ m, k = m + 5 := ⟨k - 5, by omega⟩; rfl⟩, rfl, rfl, rfl, rfl, by decide⟩
  by_cases h7 : K = 7
  · subst h7; exact ⟨2, 1, true, false, true, true, rfl, ⟨5, fun k hk => by obtain ⟨k, rfl⟩ : ∃ m, k = m + 5 := ⟨k - 5, by omega⟩; rfl⟩, rfl, rfl, rfl, rfl, by decide⟩
  by_cases h8 : K = 8
  · subst h8; exact ⟨3, 0, false, false, false, false, rfl, ⟨5, fun k hk => by obtain ⟨k, rfl⟩ : ∃ m, k = m + 5 := ⟨k - 5, by omega⟩; rfl⟩, rfl, rfl, rfl, rfl, by decide⟩
  by_cases h9 : K = 9
  · subst h9; exact ⟨2, 0, false, false, false, false, rfl, ⟨5, fun k hk => by obtain ⟨k, rfl⟩ : ∃ m, k = m + 5 := ⟨k - 5, by omega⟩; rfl⟩, rfl, rfl, rfl, rfl, by decide⟩
  by_cases h10 : K = 10
  · subst h10; exact ⟨1, 0, false, false, false, false, rfl, ⟨5, fun k hk => by obtain ⟨k, rfl⟩ : ∃ m, k = m + 5 := ⟨k - 5, by omega⟩; rfl⟩, rfl, rfl, rfl, rfl, by decide⟩
  by_cases h11 : K = 11
  · subst h11; exact ⟨1, 0, false, false, false, false, rfl, ⟨5, fun k hk => by obtain ⟨k, rfl⟩ : ∃ m, k = m + 5 := ⟨k - 5, by omega⟩; rfl⟩, rfl, rfl, rfl, rfl, by decide⟩
  by_cases h12 : K = 12
  · subst h12; exact ⟨0, 0, false, false, true, false, rfl, ⟨5, fun k hk => by obtain ⟨k, rfl⟩ : ∃ m, k = m + 5 := ⟨k - 5, by omega⟩; rfl⟩, rfl, rfl, rfl, rfl, by decide⟩
  by_cases h13 : K = 13
  · subst h13; exact ⟨2, 0, false, false, false, false, rfl, ⟨5, fun k hk => by obtain ⟨k, rfl⟩ : ∃ m, k = m + 5 := ⟨k - 5, by omega⟩; rfl⟩, rfl, rfl, rfl, rfl, by decide⟩
  by_cases h14 : K = 14
  · subst h14; exact ⟨3, 0, true, true, false, true, rfl, ⟨5, fun k hk => by obtain ⟨k, rfl⟩ : ∃ m, k = m + 5 := ⟨k - 5, by omega⟩; rfl⟩, rfl, rfl, rfl, rfl, by decide⟩
  by_cases h15 : K = 15
  · subst h15; exact ⟨2, 1, false, false, false, false, rfl, ⟨5, fun k hk => by obtain ⟨k, rfl⟩ : ∃ m, k = m + 5 := ⟨k - 5, by omega⟩; rfl⟩, rfl, rfl, rfl, rfl, by decide⟩
  by_cases h16 : K = 16
  · subst h16; exact ⟨1, 0, false, false, true, false, rfl, ⟨5, fun k hk => by obtain ⟨k, rfl⟩ : ∃ m, k = m + 5 := ⟨k - 5, by omega⟩; rfl⟩, rfl, rfl, rfl, rfl, by decide⟩
  by_cases h17 : K = 17
  · subst h17; exact ⟨2, 0, true, false, false, true, rfl, ⟨5, fun k hk => by obtain ⟨k, rfl⟩ : ∃ m, k = m + 5 := ⟨k - 5, by omega⟩; rfl⟩, rfl, rfl, rfl, rfl, by decide⟩
  have b : ∀ n : Int, ¬ K = n → (K == n) = false := fun n h => by simpa using h
  refine ⟨-1, 0, false, false, false, false, ?_, ⟨5, fun k hk => ?_⟩, ?_, ?_, ?_, ?_, fun h => absurd h h7⟩
  · unfold spec_l2Of.f
    simp only [spec_l2Of.j0, spec_l2Of.j1, spec_l2Of.j2, h1, b _ h1, h2, b _ h2, h3, b _ h3, h4, b _ h4, h5, b _ h5, h6, b _ h6, h7, b _ h7, h8, b _ h8, h9, b _ h9, h10, b _ h10, h11, b _ h11, h12, b _ h12, h13, b _ h13, h14, b _ h14, h15, b _ h15, h16, b _ h16, h17, b _ h17, if_false, Bool.false_eq_true]
  · obtain ⟨k, rfl⟩ : ∃ m, k = m + 5 := ⟨k - 5, by omega⟩
    unfold impl_parts.f
    simp only [impl_parts.j0, impl_parts.j1, impl_parts.j2, h1, b _ h1, h2, b _ h2, h3, b _ h3, h4, b _ h4, h5, b _ h5, h6, b _ h6, h7, b _ h7, h8, b _ h8, h9, b _ h9, h10, b _ h10, h11, b _ h11, h12, b _ h12, h13, b _ h13, h14, b _ h14, h15, b _ h15, h16, b _ h16, h17, b _ h17, if_false, Bool.false_eq_true]
  · unfold impl_hasT.f
    simp only [h1, b _ h1, h2, b _ h2, h3, b _ h3, h4, b _ h4, h5, b _ h5, h6, b _ h6, h7, b _ h7, h8, b _ h8, h9, b _ h9, h10, b _ h10, h11, b _ h11, h12, b _ h12, h13, b _ h13, h14, b _ h14, h15, b _ h15, h16, b _ h16, h17, b _ h17, if_false]
  · unfold impl_bindsS.f
    simp only [h1, b _ h1, h2, b _ h2, h3, b _ h3, h4, b _ h4, h5, b _ h5, h6, b _ h6, h7, b _ h7, h8, b _ h8, h9, b _ h9, h10, b _ h10, h11, b _ h11, h12, b _ h12, h13, b _ h13, h14, b _ h14, h15, b _ h15, h16, b _ h16, h17, b _ h17, if_false]
  · rw [b _ h3]; rfl
  · rw [decide_eq_false h14]
def nmC (K : Int) (b : Bool) (S Z : ByteArray) : Bool := if K = 14 then nameB S && (nameB Z && (S.toList != Z.toList)) else Z.toList.isEmpty && ((nameB S == (b || K == 3)) && (S.toList.isEmpty || nameB S))
theorem namesOk_C (K : Int) (b : Bool) (S Z : ByteArray) (hs : S.size ≤ 1000000000) (hz : Z.size ≤ 1000000000) (hb : impl_bindsS.f K = some b) (hb4 : K = 14 → b = true) (h3 : b = true → ¬ K = 3) : Ev (fun k => impl_namesOk.f k K S Z) (nmC K b S Z) := by
  unfold impl_namesOk.f nmC
  by_cases h14 : K = 14
  · rw [if_pos h14]
    refine Ev.pos h14 (Ev.bind (isName_B S hs) ?_)
    cases nameB S with
    | true =>
      refine Ev.pos rfl (Ev.bind (isName_B Z hz) ?_)
      cases nameB Z with
      | true => exact Ev.pos rfl (Ev.of (by simp))
      | false => exact Ev.neg (by simp) (Ev.of (by simp))
    | false => exact Ev.neg (by simp) (Ev.of (by simp))
  · rw [if_neg h14]
    refine Ev.neg h14 ?_
    by_cases hz0 : Z.toList = []
    · refine Ev.pos hz0 (Ev.bind (isName_B S hs) (Ev.obind hb ?_))
      rw [show Z.toList.isEmpty = true from by rw [hz0]; rfl, Bool.true_and]
      have fin : ∀ q : Bool, (nameB S == q) = true → Ev (fun k => if S.toList = [] then some true else (impl_isName.f k S).bind fun t => some t) ((nameB S == q) && (S.toList.isEmpty || nameB S)) := by
        intro q hq
        rw [hq, Bool.true_and]
        by_cases hs0 : S.toList = []
        · exact Ev.pos hs0 (Ev.of (by rw [hs0]; rfl))
        · refine Ev.neg hs0 (Ev.bind (isName_B S hs) (Ev.of ?_))
          rw [show S.toList.isEmpty = false from by simpa using hs0, Bool.false_or]
      cases b with
      | true =>
        refine Ev.pos rfl ?_
        rw [Bool.true_or]
        by_cases hq : (nameB S == true) = true
        · exact Ev.pos hq (fin true hq)
        · refine Ev.neg hq (Ev.of ?_)
          rw [show (nameB S == true) = false from by simpa using hq]; rfl
      | false =>
        refine Ev.neg (by simp) ?_
        rw [Bool.false_or]
        by_cases hq : (nameB S == (K == 3)) = true
        · exact Ev.pos hq (fin _ hq)
        · refine Ev.neg hq (Ev.of ?_)
          rw [show (nameB S == (K == 3)) = false from by simpa using hq]; rfl
    · refine Ev.neg hz0 (Ev.of ?_)
      rw [show Z.toList.isEmpty = false from by simpa using hz0]; rfl
theorem anyT_C (k : Nat) (ts : List S32) (f : S32 → Bool) (h : ∀ x ∈ ts, impl_TyOk.f k x.f0 x.f1 x.f2 = some (f x)) : OFnExactUsesOf.anyT (fun x => (impl_TyOk.f k x.f0 x.f1 x.f2).bind fun t => some (!t)) ts = some (!ts.all f) := by
  induction ts with
  | nil => rfl
  | cons x t ih =>
    have ih := ih (fun y hy => h y (List.mem_cons_of_mem _ hy))
    simp only [OFnExactUsesOf.anyT, h x (List.mem_cons_self ..), Option.bind_some, ih, List.all_cons]
    cases f x <;> simp
theorem head_eq (K : Int) (S Z : ByteArray) (ts : List S32) (l : List S35) (hp : Int) (hs hz ht num tk st b : Bool) (okT : S32 → Bool) (e1 : hs = (b || K == 3)) (e2 : hz = decide (K = 14)) (e3 : K = 7 → hp = 2) (e4 : K = 14 → b = true) :
    oneB K S Z ts l hp hs hz ht num (nameB S) (nameB Z) tk st okT = headB K ts l hp num (nmC K b S Z) ht tk st (!ts.all okT) := by
  have n1 := nameB_nil S
  have n2 := nameB_nil Z
  have p1 : ((hs != nameB S) || (!hs && !S.toList.isEmpty) || (hz != nameB Z) || (!hz && !Z.toList.isEmpty) || (hz && (S.toList == Z.toList))) = !nmC K b S Z := by
    unfold nmC
    by_cases h14 : K = 14
    · rw [if_pos h14, e1, e2, e4 h14]
      simp only [h14, decide_true, Bool.true_or, Bool.not_true, Bool.false_and, Bool.or_false, Bool.true_and]
      cases nameB S <;> cases nameB Z <;> simp [bne]
    · rw [if_neg h14, ← e1, e2]
      simp only [h14, decide_false, Bool.not_false, Bool.true_and, Bool.false_and, Bool.or_false]
      by_cases hz0 : Z.toList = []
      · rw [n2 hz0]
        by_cases hs0 : S.toList = []
        · rw [n1 hs0]; simp [hz0, hs0]
        · simp only [hz0, show S.toList.isEmpty = false from by simpa using hs0]
          cases nameB S <;> cases hs <;> simp
      · simp only [show Z.toList.isEmpty = false from by simpa using hz0]
        simp
  have p2 : (decide ((ts.length : Int) > 2) || ((K != 3) && decide ((ts.length : Int) > 0))) = !decide ((ts.length : Int) ≤ (if K = 3 then 2 else 0)) := by
    by_cases h3 : K = 3
    · rw [if_pos h3, show (K != 3) = false from by simp [h3], Bool.false_and, Bool.or_false, ← decide_not]
      exact decide_eq_decide.2 (by omega)
    · rw [if_neg h3, show (K != 3) = true from by simpa using h3, Bool.true_and, ← decide_not, ← Bool.decide_or]
      exact decide_eq_decide.2 (by omega)
  unfold oneB headB
  by_cases hA : ((l.length : Int) != hp) = true
  · simp [hA]
  · have hA' : (l.length : Int) = hp := by simpa using hA
    rw [show ((l.length : Int) != hp) = false from by simpa using hA]
    have fin : ∀ m fn : Bool, ((K != 7) || m) = (!((K == 7) && fn)) →
        (!(false || !num || (hs != nameB S) || (!hs && !S.toList.isEmpty) || (hz != nameB Z) || (!hz && !Z.toList.isEmpty) || (hz && (S.toList == Z.toList))) && !((ht != tk) || (!ht && !st) || decide ((ts.length : Int) > 2) || ((K != 3) && decide ((ts.length : Int) > 0))) && ts.all okT && ((K != 7) || m)) =
        (!((((false || !num) || !nmC K b S Z)) || ((K == 7) && fn)) && !((ht != tk) || (!ht && !st)) && (decide ((ts.length : Int) ≤ (if K = 3 then 2 else 0)) && !(!ts.all okT))) := by
      intro m fn p3
      rw [p3]
      generalize hq : nmC K b S Z = nm at p1 ⊢
      have p1' : nm = !((hs != nameB S) || (!hs && !S.toList.isEmpty) || (hz != nameB Z) || (!hz && !Z.toList.isEmpty) || (hz && (S.toList == Z.toList))) := by rw [p1, Bool.not_not]
      have p2' : decide ((ts.length : Int) ≤ (if K = 3 then 2 else 0)) = !(decide ((ts.length : Int) > 2) || ((K != 3) && decide ((ts.length : Int) > 0))) := by rw [p2, Bool.not_not]
      rw [p1', p2']
      generalize (hs != nameB S) = q1
      generalize (!hs && !S.toList.isEmpty) = q2
      generalize (hz != nameB Z) = q3
      generalize (!hz && !Z.toList.isEmpty) = q4
      generalize (hz && (S.toList == Z.toList)) = q5
      generalize decide ((ts.length : Int) > 2) = q6
      generalize ((K != 3) && decide ((ts.length : Int) > 0)) = q7
      generalize ((K == 7) && fn) = q8
      generalize (ht != tk) = q9
      generalize (!ht && !st) = q10
      generalize ts.all okT = q11
      cases q1 <;> cases q2 <;> cases q3 <;> cases q4 <;> cases q5 <;> cases num <;> simp
      all_goals cases q6 <;> cases q7 <;> cases q8 <;> cases q9 <;> cases q10 <;> simp
    cases l with
    | nil =>
      have h7 : ¬ K = 7 := fun h => by have := e3 h; simp at hA'; omega
      exact fin false false (by simp [h7, bne])
    | cons x t => exact fin (x.f0 == 4) (x.f0 != 4) (by cases hk : (K == 7) <;> simp [bne, hk])
end Go.Proofs.Ytddacgfnhoboaaa.Pure
