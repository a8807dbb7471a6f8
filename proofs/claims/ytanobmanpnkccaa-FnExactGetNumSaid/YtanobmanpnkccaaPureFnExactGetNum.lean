/- The program's GetNum returns what the reference's returns, for all bytes (at most 2^20 of them; beyond that the law holds at once) and all places. -/
import Derived.Test.YtanobmanpnkccaaPFnExactGetNumx2
namespace Go.Proofs.Ytanobmanpnkccaa.Pure
open Go.RowKit Go.Proofs.Ytanobmanpnkccaa.PFnExactGetNum Go.Proofs.YtanobmanpnkccaaW.PrintWords Go.Proofs.YtanobmanpnkccaaW.PrintLast Go.Proofs.YtanobmanpnkccaaW.PrintMore

theorem w64 {n : Int} (h0 : -9223372036854775808 ≤ n) (h1 : n < 9223372036854775808) : wrap64 n = n := by
  unfold wrap64; omega

theorem u64w {n : Int} (h0 : 0 ≤ n) (h1 : n < 9223372036854775808) : IntKind.u64.wrap n = n := by
  simp [IntKind.wrap, IntKind.bits, IntKind.signed]; omega

theorem i64_small (n : Int) (h0 : 0 ≤ n) (h1 : n < 2 ^ 63) : IntKind.i64.wrap n = n := by
  rw [IntKind.wrap_i64]; omega

theorem rd_mem {xs : List Int} {i : Int} (h0 : 0 ≤ i) (h1 : i < (xs.length : Int)) : rd xs i ∈ xs := by
  unfold rd
  have h : i.toNat < xs.length := by omega
  rw [List.getD_eq_getElem?_getD, List.getElem?_eq_getElem h]
  exact List.getElem_mem h

theorem take_set_succ {α : Type} (l x : List α) (d : α) (i : Nat) (hl : x.length = l.length) (hi : i < l.length) (h : x.take i = l.take i) :
    (x.set i (l.getD i d)).take (i + 1) = l.take (i + 1) := by
  rw [List.take_succ_eq_append_getElem (by simpa [hl] using hi), List.take_succ_eq_append_getElem hi]
  rw [List.take_set_of_le (by omega), h]
  simp [List.getD_eq_getElem?_getD, List.getElem?_eq_getElem hi]

theorem toByteS_l0 (l : List Int) (hl : l.length ≤ 1048576) (d : Nat) : ∀ (k : Nat) (x : List Int) (i : Int), 0 ≤ i → i + d = l.length → d < k → x.length = l.length →
    x.take i.toNat = l.take i.toNat → laws_toByteS.l0 k l x i = some l := by
  induction d with
  | zero =>
    intro k x i h0 h1 hk hx ht
    obtain ⟨k, rfl⟩ : ∃ m, k = m + 1 := ⟨k - 1, by omega⟩
    simp only [laws_toByteS.l0]
    rw [if_neg (by omega)]
    have e : i.toNat = l.length := by omega
    rw [e, List.take_of_length_le (by omega), List.take_of_length_le (by omega)] at ht
    rw [ht]
  | succ d ih =>
    intro k x i h0 h1 hk hx ht
    obtain ⟨k, rfl⟩ : ∃ m, k = m + 1 := ⟨k - 1, by omega⟩
    simp only [laws_toByteS.l0]
    rw [if_pos (by omega), if_pos h0, if_pos (by omega), w64 (by omega) (by omega)]
    refine ih k _ (i + 1) (by omega) (by omega) (by omega) (by simpa using hx) ?_
    have e : (i + 1).toNat = i.toNat + 1 := by omega
    rw [e]
    exact take_set_succ l x 0 i.toNat hx (by omega) ht

theorem toByteS (l : List Int) (hl : l.length ≤ 1048576) (k : Nat) (hk : l.length < k) : laws_toByteS.f k l = some l := by
  unfold laws_toByteS.f
  rw [if_pos (by omega), if_pos (by omega)]
  exact toByteS_l0 l hl l.length k _ 0 (by omega) (by omega) hk (by simp) (by simp)

theorem eqByteS_l0 (l : List Int) (hl : l.length ≤ 1048576) (d : Nat) : ∀ (k : Nat) (i : Int), 0 ≤ i → i + d = l.length → d < k →
    laws_eqByteS.l0 k l l i = some true := by
  induction d with
  | zero =>
    intro k i h0 h1 hk
    obtain ⟨k, rfl⟩ : ∃ m, k = m + 1 := ⟨k - 1, by omega⟩
    simp only [laws_eqByteS.l0]
    rw [if_neg (by omega)]
  | succ d ih =>
    intro k i h0 h1 hk
    obtain ⟨k, rfl⟩ : ∃ m, k = m + 1 := ⟨k - 1, by omega⟩
    simp only [laws_eqByteS.l0]
    rw [if_pos (by omega), if_pos h0, if_pos (by omega), if_pos trivial, w64 (by omega) (by omega)]
    exact ih k (i + 1) (by omega) (by omega) (by omega)

theorem eqByteS (l : List Int) (hl : l.length ≤ 1048576) (k : Nat) (hk : l.length < k) : laws_eqByteS.f k l l = some true := by
  unfold laws_eqByteS.f
  rw [if_pos rfl]
  exact eqByteS_l0 l hl l.length k 0 (by omega) (by omega) hk

theorem in_eq (a b c : Int) : impl_in.f a b c = spec_l1In.f a b c := rfl

theorem in_some (a b c : Int) : ∃ r, spec_l1In.f a b c = some r := by
  unfold spec_l1In.f; split <;> exact ⟨_, rfl⟩

/-- What a round puts into the number: its bounds. -/
theorem or_bound (x c : Int) (j : Nat) (hj : j ≤ 28) (h0 : 0 ≤ x) (h1 : x < 2 ^ j) (c0 : 0 ≤ c) (c1 : c < 256) :
    0 ≤ Go.bits .or .i64 x (shl .i64 (Go.bits .and .i64 c 127) (j : Int)) ∧ Go.bits .or .i64 x (shl .i64 (Go.bits .and .i64 c 127) (j : Int)) < 2 ^ (j + 7) := by
  have hm : Go.bits .and .i64 c 127 = c % 128 := bits_mask .i64 63 (by decide) i64_small 7 (by decide) c c0 (by omega)
  rw [hm]
  have hb : (c % 128) * 2 ^ j < 2 ^ (j + 7) := by
    rw [Int.pow_add, Int.mul_comm]
    exact Int.mul_lt_mul_of_pos_left (by omega) (Int.pow_pos (by decide))
  have hb0 : 0 ≤ (c % 128) * 2 ^ j := Int.mul_nonneg (by omega) (Int.le_of_lt (Int.pow_pos (by decide)))
  have hp : (2 : Int) ^ (j + 7) ≤ 2 ^ 35 := by exact_mod_cast Nat.pow_le_pow_right (by decide : 0 < 2) (by omega : j + 7 ≤ 35)
  have hs : shl .i64 (c % 128) (j : Int) = (c % 128) * 2 ^ j := by
    unfold shl
    rw [Int.toNat_natCast, Nat.min_eq_left (show j ≤ IntKind.i64.bits by simp [IntKind.bits]; omega)]
    exact i64_small _ hb0 (by omega)
  rw [hs]
  obtain ⟨a, ha⟩ := Int.eq_ofNat_of_zero_le h0
  obtain ⟨b, hb'⟩ := Int.eq_ofNat_of_zero_le hb0
  have hx2 : (2 : Int) ^ j ≤ 2 ^ (j + 7) := by exact_mod_cast Nat.pow_le_pow_right (by decide : 0 < 2) (by omega : j ≤ j + 7)
  rw [ha] at h1 ⊢
  rw [hb'] at hb ⊢
  have ha7 : a < 2 ^ (j + 7) := by exact_mod_cast Int.lt_of_lt_of_le h1 hx2
  have hb7 : b < 2 ^ (j + 7) := by exact_mod_cast hb
  have hle : 2 ^ (j + 7) ≤ 2 ^ 63 := Nat.pow_le_pow_right (by decide) (by omega)
  rw [(bits_nat .i64 63 (by decide) i64_small a b (by omega) (by omega)).2]
  have := Nat.or_lt_two_pow ha7 hb7
  exact ⟨Int.natCast_nonneg _, by exact_mod_cast this⟩

theorem and_one (m : Int) (h0 : 0 ≤ m) (h1 : m < 2 ^ 63) : Go.bits .and .i64 m 1 = m % 2 := bits_mask .i64 63 (by decide) i64_small 1 (by decide) m h0 h1

theorem wraps (m : Int) (h0 : 0 ≤ m) (h1 : m < 2 ^ 35) (hodd : m % 2 = 1) :
    wrap64 ((wrap64 (-(m / 2))) - 1) = wrap64 (Int.tdiv (wrap64 (-(wrap64 (m + 1)))) 2) := by
  rw [w64 (n := -(m / 2)) (by omega) (by omega), w64 (n := m + 1) (by omega) (by omega), w64 (n := -(m + 1)) (by omega) (by omega)]
  rw [Int.neg_tdiv, Int.tdiv_eq_ediv_of_nonneg (by omega)]
  rw [w64 (by omega) (by omega), w64 (by omega) (by omega)]
  omega

theorem wraps_even (m : Int) (h0 : 0 ≤ m) (h1 : m < 2 ^ 35) : m / 2 = wrap64 (Int.tdiv m 2) := by
  rw [Int.tdiv_eq_ediv_of_nonneg (by omega), w64 (by omega) (by omega)]

theorem loops (l : List Int) (hl : l.length ≤ 1048576) (hb : ∀ x ∈ l, 0 ≤ x ∧ x < 256) (at_ : Int) (ha : 0 ≤ at_) (hal : at_ < l.length) (d : Nat) :
    ∀ (k j : Nat) (x : Int), j + d = 5 → 2 * d + 2 ≤ k → 0 ≤ x → x < 2 ^ (7 * j) →
    ∃ r, spec_GetNum.l0 k l at_ x j = some r ∧ impl_GetNum.l0 k l at_ x j = some r := by
  induction d with
  | zero =>
    intro k j x hj hk h0 h1
    obtain ⟨k, rfl⟩ : ∃ m, k = m + 2 := ⟨k - 2, by omega⟩
    refine ⟨(0, 0, false), ?_, ?_⟩
    · simp only [spec_GetNum.l0]
      rw [if_neg (by omega)]
      simp [spec_GetNum.j1]
    · simp only [impl_GetNum.l0]
      rw [if_pos (by omega), if_neg (by omega)]
      simp [impl_GetNum.j1]
  | succ d ih =>
    intro k j x hj hk h0 h1
    obtain ⟨k, rfl⟩ : ∃ m, k = m + 2 := ⟨k - 2, by omega⟩
    simp only [spec_GetNum.l0, impl_GetNum.l0]
    rw [if_pos (by omega), if_pos (by omega), if_pos (by omega), if_pos (by omega), if_pos (by omega)]
    rw [w64 (n := at_ + j) (by omega) (by omega), w64 (n := (l.length : Int) - at_) (by omega) (by omega)]
    by_cases hlt : at_ + j < l.length
    · rw [decide_eq_true hlt, decide_eq_true (show (j : Int) < (l.length : Int) - at_ by omega)]
      simp only [spec_GetNum.j1, impl_GetNum.j1]
      rw [if_pos trivial, if_pos trivial]
      rw [w64 (n := at_ + j) (by omega) (by omega), w64 (n := 7 * (j : Int)) (by omega) (by omega), u64w (n := 7 * (j : Int)) (by omega) (by omega)]
      rw [if_pos (show (0 : Int) ≤ at_ + j by omega), if_pos hlt, if_pos (show (0 : Int) ≤ 7 * (j : Int) by omega), if_pos (show (0 : Int) ≤ at_ + j by omega), if_pos hlt, if_pos (show (0 : Int) ≤ 7 * (j : Int) by omega)]
      obtain ⟨c0, c1⟩ := hb _ (rd_mem (xs := l) (i := at_ + j) (by omega) hlt)
      rw [w64 (n := rd l (at_ + j)) (by omega) (by omega)]
      generalize hc : rd l (at_ + j) = c at c0 c1 ⊢
      obtain ⟨m0, m1⟩ := or_bound x c (7 * j) (by omega) h0 h1 c0 c1
      have e7 : ((7 * j : Nat) : Int) = 7 * (j : Int) := by omega
      rw [e7] at m0 m1
      generalize hm : Go.bits .or .i64 x (shl .i64 (Go.bits .and .i64 c 127) (7 * (j : Int))) = m at m0 m1 ⊢
      have hp : (2 : Int) ^ (7 * j + 7) ≤ 2 ^ 35 := by exact_mod_cast Nat.pow_le_pow_right (by decide : 0 < 2) (by omega : 7 * j + 7 ≤ 35)
      have m2 : m < 2 ^ 35 := by omega
      by_cases hcc : c > 127
      · rw [if_pos hcc, if_pos hcc, w64 (n := (j : Int) + 1) (by omega) (by omega)]
        have e : (j : Int) + 1 = ((j + 1 : Nat) : Int) := by omega
        rw [e]
        exact ih k (j + 1) m (by omega) (by omega) m0 (by rw [show 7 * (j + 1) = 7 * j + 7 by omega]; exact m1)
      · rw [if_neg hcc, if_neg hcc, and_one m m0 (by omega)]
        simp only [in_eq]
        have et : Int.tmod m 2 = m % 2 := Int.tmod_eq_emod_of_nonneg m0
        rw [et]
        by_cases hodd : m % 2 = 1
        · rw [if_pos hodd, if_pos hodd, wraps m m0 m2 hodd]
          obtain ⟨b, hb1⟩ := in_some (wrap64 (Int.tdiv (wrap64 (-(wrap64 (m + 1)))) 2)) (-1000000000) 1000000000
          rw [hb1]
          by_cases hc0 : c = 0
          · by_cases hj0 : (j : Int) > 0
            · have hj1 : ¬ (j = 0) := by omega
              exact ⟨(0, 0, false), by simp [hc0, hj1], by simp [hc0, hj1]⟩
            · simp only [hc0, hj0]; cases b <;> simp
          · by_cases hj0 : (j : Int) > 0
            · simp only [hc0, hj0]; cases b <;> simp
            · simp only [hc0, hj0]; cases b <;> simp
        · rw [if_neg hodd, if_neg hodd, ← wraps_even m m0 m2]
          obtain ⟨b, hb1⟩ := in_some (m / 2) (-1000000000) 1000000000
          rw [hb1]
          by_cases hc0 : c = 0
          · by_cases hj0 : (j : Int) > 0
            · have hj1 : ¬ (j = 0) := by omega
              exact ⟨(0, 0, false), by simp [hc0, hj1], by simp [hc0, hj1]⟩
            · simp only [hc0, hj0]; cases b <;> simp
          · by_cases hj0 : (j : Int) > 0
            · simp only [hc0, hj0]; cases b <;> simp
            · simp only [hc0, hj0]; cases b <;> simp
    · refine ⟨(0, 0, false), ?_, ?_⟩
      · rw [decide_eq_false hlt]; simp [spec_GetNum.j1]
      · rw [decide_eq_false (show ¬ (j : Int) < (l.length : Int) - at_ by omega)]; simp [impl_GetNum.j1]

theorem both (l : List Int) (hl : l.length ≤ 1048576) (hb : ∀ x ∈ l, 0 ≤ x ∧ x < 256) (at_ : Int) (k : Nat) (hk : 12 ≤ k) (hw : -9223372036854775808 ≤ at_ ∧ at_ < 9223372036854775808) :
    ∃ r, spec_GetNum.f k l at_ = some r ∧ impl_GetNum.f k l at_ = some r := by
  unfold spec_GetNum.f impl_GetNum.f
  by_cases h : 0 ≤ at_ ∧ at_ < l.length
  · exact loops l hl hb at_ h.1 h.2 5 k 0 0 (by omega) (by omega) (by omega) (by decide)
  · obtain ⟨k, rfl⟩ : ∃ m, k = m + 2 := ⟨k - 2, by omega⟩
    refine ⟨(0, 0, false), ?_, ?_⟩
    · simp only [spec_GetNum.l0]
      rw [if_pos (by omega)]
      by_cases h0 : at_ ≥ 0
      · rw [if_pos h0, if_neg (by omega)]; simp [spec_GetNum.j1]
      · rw [if_neg h0]; simp [spec_GetNum.j1]
    · simp only [impl_GetNum.l0]
      by_cases h0 : at_ ≥ 0
      · rw [if_pos h0, if_pos (by omega), w64 (by omega) (by omega), decide_eq_false (by omega)]; simp [impl_GetNum.j1]
      · rw [if_neg h0]; simp [impl_GetNum.j1]

theorem FnExactGetNum : laws_FnExactGetNum.Pure := by
  intro l at_ _ _ hw ha
  have hwa : -9223372036854775808 ≤ at_ ∧ at_ < 9223372036854775808 := by
    have h := ha
    simp [Lit.wf, IntKind.min, IntKind.max, IntKind.signed, IntKind.bits] at h
    omega
  have hb : ∀ x ∈ l, 0 ≤ x ∧ x < 256 := by
    intro x hx
    have h := hw x hx
    simp [Lit.wf, IntKind.min, IntKind.max, IntKind.signed, IntKind.bits] at h
    omega
  refine ⟨1048576 + 12, ?_⟩
  unfold laws_FnExactGetNum.f
  by_cases hbig : (l.length : Int) > 1048576
  · rw [if_pos hbig]
  · rw [if_neg hbig]
    obtain ⟨⟨r1, r2, r3⟩, hs, hi⟩ := both l (by omega) hb at_ (1048576 + 12) (by omega) hwa
    rw [toByteS l (by omega) _ (by omega)]
    simp only [Option.bind_some]
    rw [hs]
    simp only [Option.bind_some]
    rw [hi]
    simp only [Option.bind_some]
    rw [if_pos trivial, if_pos trivial]
    simp only [laws_FnExactGetNum.j0, bne_self_eq_false]
    rw [if_neg (by decide), toByteS l (by omega) _ (by omega)]
    simp only [Option.bind_some]
    rw [eqByteS l (by omega) _ (by omega)]
    simp

end Go.Proofs.Ytanobmanpnkccaa.Pure
