/- The program's PutNum returns what the reference's returns, for all bytes (at most 2^20 of them; beyond that the law holds at once) and all numbers. -/
import Derived.Test.YtanobmanpnkccaaOFnExactPutNumx2
namespace Go.Proofs.Ytanobmanpnkccaa.Pure
open Go.RowKit Go.Proofs.Ytanobmanpnkccaa.OFnExactPutNum Go.Proofs.YtanobmanpnkccaaW.PrintWords Go.Proofs.YtanobmanpnkccaaW.PrintLast Go.Proofs.YtanobmanpnkccaaW.PrintMore

theorem w64 {n : Int} (h0 : -9223372036854775808 ≤ n) (h1 : n < 9223372036854775808) : wrap64 n = n := by
  unfold wrap64; omega

theorem take_set_succ {α : Type} (l x : List α) (d : α) (i : Nat) (hl : x.length = l.length) (hi : i < l.length) (h : x.take i = l.take i) :
    (x.set i (l.getD i d)).take (i + 1) = l.take (i + 1) := by
  rw [List.take_succ_eq_append_getElem (by simpa [hl] using hi), List.take_succ_eq_append_getElem hi]
  rw [List.take_set_of_le (by omega), h]
  simp [List.getD_eq_getElem?_getD, List.getElem?_eq_getElem hi]

theorem toByteS_l0 (l : List Int) (hl : l.length ≤ 2000000) (d : Nat) : ∀ (k : Nat) (x : List Int) (i : Int), 0 ≤ i → i + d = l.length → d < k → x.length = l.length →
    x.take i.toNat = l.take i.toNat → laws_toByteS.l0 k l x i = some l := by
  induction d with
  | zero =>
    intro k x i h0 h1 hk hx ht
    obtain ⟨k, rfl⟩ : ∃ m, k = m + 1 := ⟨k - 1, by omega⟩
    simp only [laws_toByteS.l0]
    rw [if_neg (by omega)]
    have e : i.toNat = l.length := by omega
    rw [e, List.take_of_length_le (by omega), List.take_of_length_le (by omega)] at ht
    rw [ht]
  | succ d ih =>
    intro k x i h0 h1 hk hx ht
    obtain ⟨k, rfl⟩ : ∃ m, k = m + 1 := ⟨k - 1, by omega⟩
    simp only [laws_toByteS.l0]
    rw [if_pos (by omega), if_pos h0, if_pos (by omega), w64 (by omega) (by omega)]
    refine ih k _ (i + 1) (by omega) (by omega) (by omega) (by simpa using hx) ?_
    have e : (i + 1).toNat = i.toNat + 1 := by omega
    rw [e]
    exact take_set_succ l x 0 i.toNat hx (by omega) ht

theorem toByteS (l : List Int) (hl : l.length ≤ 2000000) (k : Nat) (hk : l.length < k) : laws_toByteS.f k l = some l := by
  unfold laws_toByteS.f
  rw [if_pos (by omega), if_pos (by omega)]
  exact toByteS_l0 l hl l.length k _ 0 (by omega) (by omega) hk (by simp) (by simp)

theorem eqByteS_l0 (l : List Int) (hl : l.length ≤ 2000000) (d : Nat) : ∀ (k : Nat) (i : Int), 0 ≤ i → i + d = l.length → d < k →
    laws_eqByteS.l0 k l l i = some true := by
  induction d with
  | zero =>
    intro k i h0 h1 hk
    obtain ⟨k, rfl⟩ : ∃ m, k = m + 1 := ⟨k - 1, by omega⟩
    simp only [laws_eqByteS.l0]
    rw [if_neg (by omega)]
  | succ d ih =>
    intro k i h0 h1 hk
    obtain ⟨k, rfl⟩ : ∃ m, k = m + 1 := ⟨k - 1, by omega⟩
    simp only [laws_eqByteS.l0]
    rw [if_pos (by omega), if_pos h0, if_pos (by omega), if_pos trivial, w64 (by omega) (by omega)]
    exact ih k (i + 1) (by omega) (by omega) (by omega)

theorem eqByteS (l : List Int) (hl : l.length ≤ 2000000) (k : Nat) (hk : l.length < k) : laws_eqByteS.f k l l = some true := by
  unfold laws_eqByteS.f
  rw [if_pos rfl]
  exact eqByteS_l0 l hl l.length k 0 (by omega) (by omega) hk

/-- What marking leaves in a row of bytes. -/
def marks : Nat → Int → List Int
  | 0, _ => []
  | d + 1, m => (m % 256) :: marks d (m + 1)

theorem marks_length : ∀ (d : Nat) (m : Int), (marks d m).length = d
  | 0, _ => rfl
  | d + 1, m => by simp [marks, marks_length d]

theorem drop_cons {l : List Int} {i : Int} {a : Int} {t : List Int} (h : l.drop i.toNat = a :: t) : rd l i = a ∧ l.drop (i.toNat + 1) = t := by
  constructor
  · unfold rd
    have e : l[i.toNat]? = some a := by
      have := congrArg List.head? h
      simpa [List.head?_drop] using this
    simp [List.getD_eq_getElem?_getD, e]
  · have := congrArg List.tail h
    simpa [List.tail_drop] using this

theorem markByteS_l0 (d : Nat) : ∀ (k : Nat) (x : List Int) (m i : Int), 0 ≤ i → i + d = x.length → d < k → x.length ≤ 2000000 → 0 ≤ m → m + d ≤ 4000000 →
    laws_markByteS.l0 k x m i = some (m + d, x.take i.toNat ++ marks d m) := by
  induction d with
  | zero =>
    intro k x m i h0 h1 hk hx hm hm2
    obtain ⟨k, rfl⟩ : ∃ q, k = q + 1 := ⟨k - 1, by omega⟩
    simp only [laws_markByteS.l0]
    rw [if_neg (by omega), List.take_of_length_le (by omega)]
    simp [marks]
  | succ d ih =>
    intro k x m i h0 h1 hk hx hm hm2
    obtain ⟨k, rfl⟩ : ∃ q, k = q + 1 := ⟨k - 1, by omega⟩
    simp only [laws_markByteS.l0]
    rw [if_pos (by omega), if_pos h0, w64 (by omega) (by omega), w64 (by omega) (by omega)]
    rw [ih k _ (m + 1) (i + 1) (by omega) (by simp; omega) (by omega) (by simpa using hx) (by omega) (by omega)]
    have e : (i + 1).toNat = i.toNat + 1 := by omega
    have hi : i.toNat < x.length := by omega
    rw [e, List.take_succ_eq_append_getElem (by simpa using hi), List.take_set_of_le (by omega)]
    simp [marks]
    omega

theorem markByteS (x : List Int) (k : Nat) (hk : x.length < k) (hx : x.length ≤ 2000000) : laws_markByteS.f k x 1 = some (1 + (x.length : Int), marks x.length 1) := by
  unfold laws_markByteS.f
  rw [markByteS_l0 x.length k x 1 0 (by omega) (by omega) hk hx (by omega) (by omega)]
  simp

theorem heldByteS_l0 (d : Nat) : ∀ (k : Nat) (x : List Int) (m i : Int), 0 ≤ i → i + d = x.length → d < k → x.length ≤ 2000000 → 0 ≤ m → m + d ≤ 4000000 →
    x.drop i.toNat = marks d m → laws_heldByteS.l0 k x m i = some (m + d) := by
  induction d with
  | zero =>
    intro k x m i h0 h1 hk hx hm hm2 _
    obtain ⟨k, rfl⟩ : ∃ q, k = q + 1 := ⟨k - 1, by omega⟩
    simp only [laws_heldByteS.l0]
    rw [if_neg (by omega)]
    simp
  | succ d ih =>
    intro k x m i h0 h1 hk hx hm hm2 hd
    obtain ⟨k, rfl⟩ : ∃ q, k = q + 1 := ⟨k - 1, by omega⟩
    obtain ⟨ha, ht⟩ := drop_cons hd
    simp only [laws_heldByteS.l0]
    rw [if_pos (by omega), if_pos h0, if_pos ha, w64 (by omega) (by omega), w64 (by omega) (by omega)]
    have e : (i + 1).toNat = i.toNat + 1 := by omega
    rw [ih k x (m + 1) (i + 1) (by omega) (by omega) (by omega) hx (by omega) (by omega) (by rw [e]; exact ht)]
    congr 1
    omega

theorem heldByteS (n : Nat) (k : Nat) (hk : n < k) (hx : n ≤ 2000000) : laws_heldByteS.f k (marks n 1) 1 = some (1 + (n : Int)) := by
  unfold laws_heldByteS.f
  exact heldByteS_l0 n k _ 1 0 (by omega) (by rw [marks_length]; omega) hk (by rw [marks_length]; exact hx) (by omega) (by omega) (by simp)

theorem loops_eq : ∀ k l m, spec_PutNum.l0 k l m = impl_PutNum.l0 k l m := by
  intro k
  induction k with
  | zero => intro l m; rfl
  | succ k ih =>
    intro l m
    simp only [spec_PutNum.l0, impl_PutNum.l0, ih]

theorem loop_some (d : Nat) : ∀ (k : Nat) (l : List Int) (m : Int), 0 ≤ m → m < 128 ^ (d + 1) → d < k → l.length + d ≤ 1048600 → ∃ r, impl_PutNum.l0 k l m = some r ∧ r.length ≤ l.length + d + 1 := by
  induction d with
  | zero =>
    intro k l m h0 h1 hk hl
    obtain ⟨k, rfl⟩ : ∃ q, k = q + 1 := ⟨k - 1, by omega⟩
    simp only [impl_PutNum.l0]
    rw [if_neg (by omega), if_pos (by omega)]
    exact ⟨_, rfl, by simp⟩
  | succ d ih =>
    intro k l m h0 h1 hk hl
    obtain ⟨k, rfl⟩ : ∃ q, k = q + 1 := ⟨k - 1, by omega⟩
    simp only [impl_PutNum.l0]
    by_cases h : m > 127
    · rw [if_pos h, if_pos (by omega)]
      have hp : (128 : Int) ^ (d + 1 + 1) = 128 ^ (d + 1) * 128 := Int.pow_succ _ _
      obtain ⟨r, hr, hr2⟩ := ih k (l ++ [(Go.bits .or .i64 (Go.bits .and .i64 m 127) 128) % 256]) (m / 128) (by omega) (by omega) (by omega) (by simp; omega)
      exact ⟨r, hr, by simp at hr2; omega⟩
    · rw [if_neg h, if_pos (by omega)]
      exact ⟨_, rfl, by simp⟩

theorem both (l : List Int) (hl : l.length ≤ 1048576) (a : Int) (k : Nat) (hk : 12 ≤ k) (hw : -9223372036854775808 ≤ a ∧ a < 9223372036854775808) :
    ∃ r, spec_PutNum.f k l a = some r ∧ impl_PutNum.f k l a = some r ∧ r.length ≤ 1048600 := by
  have hc : ∃ n : Int, -1000000000 ≤ n ∧ n ≤ 1000000000 ∧ mx (-1000000000) (mn a 1000000000) = n ∧ n = (if a > 1000000000 then 1000000000 else if a < -1000000000 then -1000000000 else a) := by
    unfold mx mn
    refine ⟨_, ?_, ?_, rfl, ?_⟩ <;> (repeat' split) <;> omega
  obtain ⟨n, n0, n1, hn, hn2⟩ := hc
  obtain ⟨k, rfl⟩ : ∃ q, k = q + 4 := ⟨k - 4, by omega⟩
  have hm : ∃ m : Int, 0 ≤ m ∧ m < 128 ^ 6 ∧ m = (if n < 0 then -2 * n - 1 else 2 * n) := ⟨_, by split <;> omega, by split <;> omega, rfl⟩
  obtain ⟨m, m0, m1, hm⟩ := hm
  obtain ⟨r, hr, hrl⟩ := loop_some 5 k l m m0 m1 (by omega) (by omega)
  have hr1 : impl_PutNum.l0 (k + 1) l m = some r := by
    have h1 := impl_PutNum.mono_l
    exact at_rounds (g := fun q => impl_PutNum.l0 q l m) (fun q => by first | exact (h1 q).2 l m | exact (h1 q).1 l m) (by omega) hr
  have hr3 : impl_PutNum.l0 (k + 3) l m = some r := by
    have h1 := impl_PutNum.mono_l
    exact at_rounds (g := fun q => impl_PutNum.l0 q l m) (fun q => by first | exact (h1 q).2 l m | exact (h1 q).1 l m) (by omega) hr
  refine ⟨r, ?_, ?_, by omega⟩
  · unfold spec_PutNum.f
    have h2 : spec_PutNum.l0 (k + 1) l m = some r := by rw [loops_eq]; exact hr1
    simp only [Option.bind_some, List.nil_append, List.length_nil]
    rw [if_pos (by omega)]
    have e : ∀ q : Int, spec_PutNum.j0 (k + 4) q l = spec_PutNum.j1 (k + 3) (if q < -1000000000 then -1000000000 else q) l := by
      intro q
      simp only [spec_PutNum.j0]
      split <;> rfl
    have e2 : spec_PutNum.j1 (k + 3) n l = some r := by
      simp only [spec_PutNum.j1]
      by_cases h : n < 0
      · rw [if_pos h] at hm ⊢
        rw [w64 (n := (-2) * n) (by omega) (by omega), w64 (by omega) (by omega), ← hm]
        simp only [spec_PutNum.j2]
        exact h2
      · rw [if_neg h] at hm ⊢
        rw [w64 (by omega) (by omega), ← hm]
        simp only [spec_PutNum.j2]
        exact h2
    by_cases h : a > 1000000000
    · rw [if_pos h] at hn2 ⊢
      rw [e, if_neg (by omega), ← hn2]
      exact e2
    · rw [if_neg h] at hn2 ⊢
      rw [e, ← hn2]
      exact e2
  · unfold impl_PutNum.f slices_Clone_byte_byte.f
    rw [if_pos (by omega), hn]
    simp only [Option.bind_some]
    by_cases h : n < 0
    · rw [if_pos h] at hm ⊢
      rw [← hm]
      simp only [impl_PutNum.j0]
      exact hr3
    · rw [if_neg h] at hm ⊢
      rw [← hm]
      simp only [impl_PutNum.j0]
      exact hr3

theorem FnExactPutNum : laws_FnExactPutNum.Pure := by
  intro l a _ _ _ ha
  have hwa : -9223372036854775808 ≤ a ∧ a < 9223372036854775808 := by
    have h := ha
    simp [Lit.wf, IntKind.min, IntKind.max, IntKind.signed, IntKind.bits] at h
    omega
  refine ⟨1048600 + 12, ?_⟩
  unfold laws_FnExactPutNum.f
  by_cases hbig : (l.length : Int) > 1048576
  · rw [if_pos hbig]
  · rw [if_neg hbig]
    obtain ⟨r, hs, hi, hr⟩ := both l (by omega) a (1048600 + 12) (by omega) hwa
    obtain ⟨r', hs', hi', hr'⟩ := both l (by omega) a (1048600 + 11) (by omega) hwa
    have hrr : r' = r := by
      have h1 := impl_PutNum.mono l a (1048600 + 11) r' hi'
      have h2 : impl_PutNum.f (1048600 + 11 + 1) l a = some r := hi
      rw [h2] at h1
      exact (Option.some.inj h1).symm
    subst hrr
    rw [toByteS l (by omega) _ (by omega)]
    simp only [Option.bind_some]
    rw [hs]
    simp only [Option.bind_some]
    rw [hi]
    simp only [Option.bind_some]
    rw [eqByteS r' (by omega) _ (by omega)]
    simp only [Option.bind_some, if_true]
    rw [eqByteS l (by omega) _ (by omega)]
    simp only [Option.bind_some, if_true]
    rw [markByteS l _ (by omega) (by omega)]
    simp only [Option.bind_some]
    rw [if_neg (by omega)]
    simp only [laws_FnExactPutNum.j0, Bool.not_true]
    rw [if_neg (by decide)]
    rw [markByteS r' _ (by omega) (by omega)]
    simp only [Option.bind_some]
    rw [heldByteS _ _ (by omega) (by omega)]
    simp only [Option.bind_some]
    rw [if_neg (by omega), if_pos trivial, toByteS l (by omega) _ (by omega)]
    simp only [Option.bind_some]
    rw [hi']
    simp only [Option.bind_some]
    rw [eqByteS r' (by omega) _ (by omega)]
    simp only [Option.bind_some, if_true]
    rw [if_neg (by omega)]

end Go.Proofs.Ytanobmanpnkccaa.Pure
