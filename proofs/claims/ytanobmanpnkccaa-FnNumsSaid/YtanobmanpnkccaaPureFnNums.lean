/- A drawn number, or the nearest that is kept, comes back of its bytes; cut by one byte it does not. For all drawings (at most 2^20 bytes of them; beyond that the law holds at once). -/
import Derived.Test.YtanobmanpnkccaaOFnNumsx2
namespace Go.Proofs.Ytanobmanpnkccaa.Pure
open Go.RowKit Go.Proofs.Ytanobmanpnkccaa.OFnNums Go.Proofs.YtanobmanpnkccaaW.PrintWords Go.Proofs.YtanobmanpnkccaaW.PrintLast Go.Proofs.YtanobmanpnkccaaW.PrintMore

theorem w64 {n : Int} (h0 : -9223372036854775808 ≤ n) (h1 : n < 9223372036854775808) : wrap64 n = n := by
  unfold wrap64; omega

theorem i64_small (n : Int) (h0 : 0 ≤ n) (h1 : n < 2 ^ 63) : IntKind.i64.wrap n = n := by
  rw [IntKind.wrap_i64]; omega

/-- An 'and' with 255, of whatever number. -/
theorem and_255 (x : Int) : 0 ≤ Go.bits .and .i64 x 255 ∧ Go.bits .and .i64 x 255 ≤ 255 := by
  have h : (BitVec.ofInt 64 x &&& BitVec.ofInt 64 255).toNat ≤ 255 := by
    rw [BitVec.toNat_and]
    have e : (BitVec.ofInt 64 255).toNat = 255 := by decide
    rw [e]
    exact Nat.and_le_right
  have e : Go.bits .and .i64 x 255 = ((BitVec.ofInt 64 x &&& BitVec.ofInt 64 255).toNat : Int) := by
    change IntKind.i64.wrap (((BitVec.ofInt 64 x &&& BitVec.ofInt 64 255).toNat : Nat) : Int) = _
    exact i64_small _ (by omega) (by omega)
  rw [e]
  omega

theorem l1Byte_some (s0 : List Int) (s1 s2 : Int) (h : 0 ≤ s1) (hl : s0.length ≤ 1048576) : ∃ v a b, spec_l1Byte.f s0 s1 s2 = some (v, a, b) ∧ 0 ≤ v ∧ v ≤ 255 ∧ 0 ≤ a := by
  unfold spec_l1Byte.f
  by_cases h1 : s1 < (s0.length : Int)
  · rw [if_pos h1, if_pos h]
    refine ⟨_, _, _, rfl, (and_255 _).1, (and_255 _).2, ?_⟩
    rw [w64 (by omega) (by omega)]
    omega
  · rw [if_neg h1]
    exact ⟨_, _, _, rfl, (and_255 _).1, (and_255 _).2, h⟩

theorem l1Below_some (s0 : List Int) (s1 s2 n : Int) (h : 0 ≤ s1) (hl : s0.length ≤ 1048576) (hn : n ≤ 1000000) :
    ∃ v a b, spec_l1Below.f s0 s1 s2 n = some (v, a, b) ∧ 0 ≤ v ∧ (0 < n → v < n) ∧ (n ≤ 0 → v = 0) ∧ 0 ≤ a := by
  unfold spec_l1Below.f
  by_cases h0 : n ≤ 0
  · rw [if_pos h0]
    exact ⟨0, s1, s2, rfl, by omega, by omega, by omega, h⟩
  · rw [if_neg h0]
    by_cases h1 : n ≤ 256
    · rw [if_pos h1]
      obtain ⟨v, a, b, e, v0, v1, ha⟩ := l1Byte_some s0 s1 s2 h hl
      rw [e]
      simp only [Option.bind_some]
      rw [if_neg (by omega)]
      refine ⟨_, _, _, rfl, ?_, fun hp => ?_, by omega, ha⟩
      · rw [Int.tmod_eq_emod_of_nonneg v0]; exact Int.emod_nonneg _ (by omega)
      · rw [Int.tmod_eq_emod_of_nonneg v0]; exact Int.emod_lt_of_pos _ hp
    · rw [if_neg h1]
      obtain ⟨v, a, b, e, v0, v1, ha⟩ := l1Byte_some s0 s1 s2 h hl
      rw [e]
      simp only [Option.bind_some]
      obtain ⟨v', a', b', e', v0', v1', ha'⟩ := l1Byte_some s0 a b ha hl
      rw [e']
      simp only [Option.bind_some]
      obtain ⟨v2, a2, b2, e2, v02, v12, ha2⟩ := l1Byte_some s0 a' b' ha' hl
      rw [e2]
      simp only [Option.bind_some]
      rw [if_neg (by omega), w64 (n := v * 65536) (by omega) (by omega), w64 (n := v' * 256) (by omega) (by omega), w64 (n := v * 65536 + v' * 256) (by omega) (by omega), w64 (by omega) (by omega)]
      refine ⟨_, _, _, rfl, ?_, fun hp => ?_, by omega, ha2⟩
      · rw [Int.tmod_eq_emod_of_nonneg (by omega)]; exact Int.emod_nonneg _ (by omega)
      · rw [Int.tmod_eq_emod_of_nonneg (by omega)]; exact Int.emod_lt_of_pos _ hp

theorem l1New_l0 (l : List Int) (hl : l.length ≤ 1048576) (d : Nat) : ∀ (k : Nat) (h i : Int), 0 ≤ i → i + d = l.length → d < k → ∃ v, spec_l1New.l0 k l h i = some (l, 0, v) := by
  induction d with
  | zero =>
    intro k h i h0 h1 hk
    obtain ⟨k, rfl⟩ : ∃ m, k = m + 1 := ⟨k - 1, by omega⟩
    simp only [spec_l1New.l0]
    rw [if_neg (by omega)]
    exact ⟨_, rfl⟩
  | succ d ih =>
    intro k h i h0 h1 hk
    obtain ⟨k, rfl⟩ : ∃ m, k = m + 1 := ⟨k - 1, by omega⟩
    simp only [spec_l1New.l0]
    rw [if_pos (by omega)]
    by_cases h4 : i < 4000
    · rw [if_pos h4, if_pos h0, w64 (n := i + 1) (by omega) (by omega)]
      exact ih k _ (i + 1) (by omega) (by omega) (by omega)
    · rw [if_neg h4]
      exact ⟨_, rfl⟩

theorem l1New_some (l : List Int) (hl : l.length ≤ 1048576) (k : Nat) (hk : l.length < k) : ∃ v, spec_l1New.f k l = some (l, 0, v) := by
  unfold spec_l1New.f
  exact l1New_l0 l hl l.length k _ 0 (by omega) (by omega) hk

theorem l1Bytes_l0 (s0 : List Int) (hl : s0.length ≤ 1048576) (n : Int) (hn : n ≤ 100) (d : Nat) : ∀ (k : Nat) (x : List Int) (i s1 s2 : Int), 0 ≤ i → i + d = n → d < k → 0 ≤ s1 → (x.length : Int) = i →
    ∃ y a b, spec_l1Bytes.l0 k n x i s0 s1 s2 = some (y, a, b) ∧ 0 ≤ a ∧ (y.length : Int) = n := by
  induction d with
  | zero =>
    intro k x i s1 s2 h0 h1 hk hs hx
    obtain ⟨k, rfl⟩ : ∃ m, k = m + 1 := ⟨k - 1, by omega⟩
    simp only [spec_l1Bytes.l0]
    rw [if_neg (by omega)]
    exact ⟨_, _, _, rfl, hs, by omega⟩
  | succ d ih =>
    intro k x i s1 s2 h0 h1 hk hs hx
    obtain ⟨k, rfl⟩ : ∃ m, k = m + 1 := ⟨k - 1, by omega⟩
    simp only [spec_l1Bytes.l0]
    rw [if_pos (by omega)]
    obtain ⟨v, a, b, e, v0, v1, ha⟩ := l1Byte_some s0 s1 s2 hs hl
    rw [e]
    simp only [Option.bind_some]
    rw [if_pos (by omega), w64 (n := i + 1) (by omega) (by omega)]
    exact ih k _ (i + 1) a b (by omega) (by omega) (by omega) ha (by simp; omega)

theorem draw_some (l : List Int) (hl : l.length ≤ 1048576) (k : Nat) (hk : l.length + 10 < k) :
    ∃ b n, spec_DrawPutNum.f k l = some (b, n) ∧ b.length ≤ 3 ∧ -9223372036854775808 ≤ n ∧ n < 9223372036854775808 := by
  unfold spec_DrawPutNum.f
  obtain ⟨h, e⟩ := l1New_some l hl k (by omega)
  rw [e]
  simp only [Option.bind_some]
  obtain ⟨v, a, b, e, v0, v1, _, ha⟩ := l1Below_some l 0 h 4 (by omega) hl (by omega)
  rw [e]
  simp only [Option.bind_some]
  have hb : ∃ y a' b', spec_l1Bytes.f k l a b v = some (y, a', b') ∧ 0 ≤ a' ∧ (y.length : Int) = v := by
    unfold spec_l1Bytes.f
    exact l1Bytes_l0 l hl v (by omega) v.toNat k [] 0 a b (by omega) (by omega) (by omega) ha (by simp)
  obtain ⟨y, a', b', e, ha', hy⟩ := hb
  rw [e]
  simp only [Option.bind_some]
  obtain ⟨u, a2, b2, e, u0, u1, _, ha2⟩ := l1Below_some l a' b' 100000 ha' hl (by omega)
  rw [e]
  simp only [Option.bind_some]
  unfold spec_l1Int.f
  simp only [List.length_cons, List.length_nil, Nat.zero_add, Nat.reduceAdd]
  have e14 : ((14 : Nat) : Int) = 14 := rfl
  simp only [e14]
  obtain ⟨j, a3, b3, e, j0, j1, _, ha3⟩ := l1Below_some l a2 b2 14 ha2 hl (by omega)
  rw [e]
  simp only [Option.bind_some]
  have j2 := j1 (by omega)
  rw [if_pos j0, if_pos j2]
  refine ⟨y, _, rfl, by omega, ?_⟩
  have hj : j = 0 ∨ j = 1 ∨ j = 2 ∨ j = 3 ∨ j = 4 ∨ j = 5 ∨ j = 6 ∨ j = 7 ∨ j = 8 ∨ j = 9 ∨ j = 10 ∨ j = 11 ∨ j = 12 ∨ j = 13 := by omega
  have u2 := u1 (by omega)
  rcases hj with rfl | rfl | rfl | rfl | rfl | rfl | rfl | rfl | rfl | rfl | rfl | rfl | rfl | rfl <;> simp [rd] <;> omega

/-- The groups of seven bits of a number, the lowest first. -/
def enc : Nat → Int → List Int
  | 0, m => [m]
  | d + 1, m => if m > 127 then (m % 128 + 128) :: enc d (m / 128) else [m]

theorem enc_ne (d : Nat) (m : Int) : enc d m ≠ [] := by
  cases d with
  | zero => simp [enc]
  | succ d => unfold enc; split <;> simp

theorem enc_length (d : Nat) : ∀ m : Int, (enc d m).length ≤ d + 1 := by
  induction d with
  | zero => intro m; simp [enc]
  | succ d ih =>
    intro m
    unfold enc
    split
    · simp; exact ih _
    · simp

theorem put_byte (m : Int) (h0 : 0 ≤ m) (h1 : m < 2 ^ 40) : (Go.bits .or .i64 (Go.bits .and .i64 m 127) 128) % 256 = m % 128 + 128 := by
  have hm : Go.bits .and .i64 m 127 = m % 128 := bits_mask .i64 63 (by decide) i64_small 7 (by decide) m h0 (by omega)
  rw [hm]
  have ho : Go.bits .or .i64 128 (m % 128) = 128 + m % 128 := bits_join .i64 63 (by decide) i64_small 7 128 (m % 128) (by omega) (by omega) (by omega) (by omega) (by omega) (by omega)
  have hc : Go.bits .or .i64 (m % 128) 128 = Go.bits .or .i64 128 (m % 128) := by
    simp only [Go.bits]
    rw [BitVec.or_comm]
  rw [hc, ho]
  omega

theorem put_loop (d : Nat) : ∀ (k : Nat) (l : List Int) (m : Int), 0 ≤ m → m < 128 ^ (d + 1) → d ≤ 4 → d < k → l.length + d ≤ 1048600 → impl_PutNum.l0 k l m = some (l ++ enc d m) := by
  induction d with
  | zero =>
    intro k l m h0 h1 _ hk hl
    obtain ⟨k, rfl⟩ : ∃ q, k = q + 1 := ⟨k - 1, by omega⟩
    simp only [impl_PutNum.l0]
    rw [if_neg (by omega), if_pos (by omega)]
    simp only [enc]
    rw [Int.emod_eq_of_lt h0 (by omega)]
  | succ d ih =>
    intro k l m h0 h1 hd hk hl
    obtain ⟨k, rfl⟩ : ∃ q, k = q + 1 := ⟨k - 1, by omega⟩
    simp only [impl_PutNum.l0, enc]
    have hp : (128 : Int) ^ (d + 1 + 1) = 128 ^ (d + 1) * 128 := Int.pow_succ _ _
    have hq : (128 : Int) ^ (d + 1) ≤ 128 ^ 4 := by exact_mod_cast Nat.pow_le_pow_right (by decide : 0 < 128) (by omega : d + 1 ≤ 4)
    by_cases h : m > 127
    · rw [if_pos h, if_pos h, if_pos (by omega), put_byte m h0 (by omega)]
      rw [ih k _ (m / 128) (by omega) (by omega) (by omega) (by omega) (by simp; omega)]
      simp
    · rw [if_neg h, if_neg h, if_pos (by omega), Int.emod_eq_of_lt h0 (by omega)]

theorem drop_cons {l : List Int} {i : Nat} {a : Int} {t : List Int} (h : l.drop i = a :: t) : l.getD i 0 = a ∧ l.drop (i + 1) = t ∧ i < l.length := by
  refine ⟨?_, ?_, ?_⟩
  · have e : l[i]? = some a := by
      have := congrArg List.head? h
      simpa [List.head?_drop] using this
    simp [List.getD_eq_getElem?_getD, e]
  · have := congrArg List.tail h
    simpa [List.tail_drop] using this
  · have := congrArg List.length h
    simp at this
    omega

/-- A group goes above what is there. -/
theorem join_bits (x c : Int) (j : Nat) (hj : j ≤ 28) (h0 : 0 ≤ x) (h1 : x < 2 ^ j) (c0 : 0 ≤ c) (c1 : c < 256) :
    Go.bits .or .i64 x (shl .i64 (Go.bits .and .i64 c 127) (j : Int)) = x + (c % 128) * 2 ^ j := by
  have hm : Go.bits .and .i64 c 127 = c % 128 := bits_mask .i64 63 (by decide) i64_small 7 (by decide) c c0 (by omega)
  rw [hm]
  have hb : (c % 128) * 2 ^ j < 2 ^ (j + 7) := by
    rw [Int.pow_add, Int.mul_comm]
    exact Int.mul_lt_mul_of_pos_left (by omega) (Int.pow_pos (by decide))
  have hb0 : 0 ≤ (c % 128) * 2 ^ j := Int.mul_nonneg (by omega) (Int.le_of_lt (Int.pow_pos (by decide)))
  have hp : (2 : Int) ^ (j + 7) ≤ 2 ^ 35 := by exact_mod_cast Nat.pow_le_pow_right (by decide : 0 < 2) (by omega : j + 7 ≤ 35)
  have hp2 : (2 : Int) ^ j ≤ 2 ^ 28 := by exact_mod_cast Nat.pow_le_pow_right (by decide : 0 < 2) (by omega : j ≤ 28)
  have hs : shl .i64 (c % 128) (j : Int) = (c % 128) * 2 ^ j := by
    unfold shl
    rw [Int.toNat_natCast, Nat.min_eq_left (show j ≤ IntKind.i64.bits by simp [IntKind.bits]; omega)]
    exact i64_small _ hb0 (by omega)
  rw [hs]
  have hc : Go.bits .or .i64 x (c % 128 * 2 ^ j) = Go.bits .or .i64 (c % 128 * 2 ^ j) x := by
    simp only [Go.bits]
    rw [BitVec.or_comm]
  rw [hc, bits_join .i64 63 (by decide) i64_small j _ x hb0 (by rw [Int.mul_comm]; exact Int.mul_emod_right _ _) (by omega) h0 h1 (by omega)]
  omega

/-- The number that is kept as m. -/
def dec (m : Int) : Int := if m % 2 = 1 then -((m + 1) / 2) else m / 2

theorem in_true (n : Int) (h : -1000000000 ≤ n ∧ n ≤ 1000000000) : impl_in.f n (-1000000000) 1000000000 = some true := by
  unfold impl_in.f
  rw [if_pos (by omega), decide_eq_true (by omega)]

theorem get_loop (l : List Int) (hl : l.length ≤ 1048600) (at_ : Nat) (m0 : Int) (hm0 : 0 ≤ m0 ∧ m0 ≤ 2000000000) (d : Nat) :
    ∀ (k j : Nat) (x m : Int), j + d = 4 → 2 * d + 3 ≤ k → 0 ≤ x → x < 2 ^ (7 * j) → 0 ≤ m → (j = 0 ∨ 0 < m) → m < 128 ^ (d + 1) → x + m * 2 ^ (7 * j) = m0 → l.drop (at_ + j) = enc d m →
    impl_GetNum.l0 k l at_ x j = some (dec m0, (l.length : Int), true) := by
  have last : ∀ (k j : Nat) (x m : Int), j ≤ 4 → 3 ≤ k → 0 ≤ x → x < 2 ^ (7 * j) → 0 ≤ m → m ≤ 127 → (j = 0 ∨ 0 < m) → x + m * 2 ^ (7 * j) = m0 → l.drop (at_ + j) = [m] →
      impl_GetNum.l0 k l at_ x j = some (dec m0, (l.length : Int), true) := by
    intro k j x m hj hk x0 x1 hm hm1 hz he hd
    obtain ⟨k, rfl⟩ : ∃ q, k = q + 2 := ⟨k - 2, by omega⟩
    obtain ⟨hg, ht, hlt⟩ := drop_cons hd
    have hlen : l.length = at_ + j + 1 := by
      have := congrArg List.length ht
      simp at this
      omega
    simp only [impl_GetNum.l0]
    rw [if_pos (by omega), if_pos (by omega), w64 (n := (l.length : Int) - at_) (by omega) (by omega), decide_eq_true (by omega)]
    simp only [impl_GetNum.j1]
    rw [if_pos trivial, w64 (n := (at_ : Int) + j) (by omega) (by omega), w64 (n := 7 * (j : Int)) (by omega) (by omega)]
    have hr : rd l ((at_ : Int) + j) = m := by
      unfold rd
      rw [show ((at_ : Int) + (j : Int)).toNat = at_ + j by omega]
      exact hg
    rw [hr, w64 (n := m) (by omega) (by omega), if_pos (by omega), if_pos (by omega), if_pos (by omega), if_neg (by omega)]
    have e7 : (7 * (j : Int)) = ((7 * j : Nat) : Int) := by omega
    rw [e7, join_bits x m (7 * j) (by omega) x0 x1 hm (by omega), Int.emod_eq_of_lt hm (by omega), he]
    rw [Int.tmod_eq_emod_of_nonneg hm0.1]
    rw [w64 (n := (at_ : Int) + j + 1) (by omega) (by omega)]
    have en : (at_ : Int) + j + 1 = l.length := by omega
    rw [en]
    by_cases ho : m0 % 2 = 1
    · rw [if_pos ho, w64 (n := m0 + 1) (by omega) (by omega), w64 (n := -(m0 + 1)) (by omega) (by omega), Int.neg_tdiv, Int.tdiv_eq_ediv_of_nonneg (by omega), w64 (by omega) (by omega), in_true _ (by omega)]
      have ed : dec m0 = -((m0 + 1) / 2) := by unfold dec; rw [if_pos ho]
      rw [ed]
      by_cases hm2 : m = 0
      · rw [if_pos hm2, if_neg (by omega)]; simp
      · rw [if_neg hm2]; simp
    · rw [if_neg ho, Int.tdiv_eq_ediv_of_nonneg (by omega), w64 (by omega) (by omega), in_true _ (by omega)]
      have ed : dec m0 = m0 / 2 := by unfold dec; rw [if_neg ho]
      rw [ed]
      by_cases hm2 : m = 0
      · rw [if_pos hm2, if_neg (by omega)]; simp
      · rw [if_neg hm2]; simp
  induction d with
  | zero =>
    intro k j x m hj hk x0 x1 hm hz hm1 he hd
    exact last k j x m (by omega) (by omega) x0 x1 hm (by omega) hz he hd
  | succ d ih =>
    intro k j x m hj hk x0 x1 hm hz hm1 he hd
    simp only [enc] at hd
    by_cases h : m > 127
    · rw [if_pos h] at hd
      obtain ⟨k, rfl⟩ : ∃ q, k = q + 2 := ⟨k - 2, by omega⟩
      obtain ⟨hg, ht, hlt⟩ := drop_cons hd
      have hlen : at_ + j + 1 < l.length := by
        have := congrArg List.length ht
        have h2 := List.length_pos_iff.mpr (enc_ne d (m / 128))
        simp at this
        omega
      simp only [impl_GetNum.l0]
      rw [if_pos (by omega), if_pos (by omega), w64 (n := (l.length : Int) - at_) (by omega) (by omega), decide_eq_true (by omega)]
      simp only [impl_GetNum.j1]
      rw [if_pos trivial, w64 (n := (at_ : Int) + j) (by omega) (by omega), w64 (n := 7 * (j : Int)) (by omega) (by omega)]
      have hr : rd l ((at_ : Int) + j) = m % 128 + 128 := by
        unfold rd
        rw [show ((at_ : Int) + (j : Int)).toNat = at_ + j by omega]
        exact hg
      rw [hr, w64 (n := m % 128 + 128) (by omega) (by omega), if_pos (by omega), if_pos (by omega), if_pos (by omega), if_pos (by omega)]
      have e7 : (7 * (j : Int)) = ((7 * j : Nat) : Int) := by omega
      rw [e7, join_bits x (m % 128 + 128) (7 * j) (by omega) x0 x1 (by omega) (by omega), w64 (n := (j : Int) + 1) (by omega) (by omega)]
      have em : (m % 128 + 128) % 128 = m % 128 := by omega
      rw [em]
      have ej : (j : Int) + 1 = ((j + 1 : Nat) : Int) := by omega
      rw [ej]
      have hp7 : (2 : Int) ^ (7 * (j + 1)) = 2 ^ (7 * j) * 128 := by
        rw [show 7 * (j + 1) = 7 * j + 7 by omega, Int.pow_add]
        rfl
      have hpos : (0 : Int) < 2 ^ (7 * j) := Int.pow_pos (by decide)
      have hmod : m % 128 * 2 ^ (7 * j) ≤ 127 * 2 ^ (7 * j) := Int.mul_le_mul_of_nonneg_right (by omega) (by omega)
      have hmod0 : 0 ≤ m % 128 * 2 ^ (7 * j) := Int.mul_nonneg (by omega) (by omega)
      have hsplit : m * 2 ^ (7 * j) = m % 128 * 2 ^ (7 * j) + m / 128 * (2 ^ (7 * j) * 128) := by
        have hdm : m = m % 128 + m / 128 * 128 := by omega
        conv => lhs; rw [hdm]
        rw [Int.add_mul, Int.mul_assoc, Int.mul_comm 128]
      have hpw : (128 : Int) ^ (d + 1 + 1) = 128 ^ (d + 1) * 128 := Int.pow_succ _ _
      refine ih k (j + 1) (x + m % 128 * 2 ^ (7 * j)) (m / 128) (by omega) (by omega) (by omega) (by rw [hp7]; omega) (by omega) (by omega) (by omega) ?_ ?_
      · rw [hp7, ← he, hsplit]
        omega
      · rw [← ht]
        rfl
    · rw [if_neg h] at hd
      exact last k j x m (by omega) (by omega) x0 x1 hm (by omega) hz he hd

theorem cut_loop (l : List Int) (hl : l.length ≤ 1048600) (at_ : Nat) (d : Nat) :
    ∀ (k j : Nat) (x m : Int), j + d = 4 → 2 * d + 3 ≤ k → 0 ≤ m → m < 128 ^ (d + 1) → l.drop (at_ + j) = (enc d m).dropLast → (at_ + j ≤ l.length) →
    impl_GetNum.l0 k l at_ x j = some (0, 0, false) := by
  have stop : ∀ (k j : Nat) (x : Int), j ≤ 4 → 3 ≤ k → l.drop (at_ + j) = [] → at_ + j ≤ l.length → impl_GetNum.l0 k l at_ x j = some (0, 0, false) := by
    intro k j x hj hk hd hle
    obtain ⟨k, rfl⟩ : ∃ q, k = q + 2 := ⟨k - 2, by omega⟩
    have hlen : l.length = at_ + j := by
      have := congrArg List.length hd
      simp at this
      omega
    simp only [impl_GetNum.l0]
    rw [if_pos (by omega), if_pos (by omega), w64 (n := (l.length : Int) - at_) (by omega) (by omega), decide_eq_false (by omega)]
    simp [impl_GetNum.j1]
  induction d with
  | zero =>
    intro k j x m hj hk hm hm1 hd hle
    exact stop k j x (by omega) (by omega) (by simpa [enc] using hd) hle
  | succ d ih =>
    intro k j x m hj hk hm hm1 hd hle
    simp only [enc] at hd
    by_cases h : m > 127
    · rw [if_pos h, List.dropLast_cons_of_ne_nil (enc_ne _ _)] at hd
      obtain ⟨k, rfl⟩ : ∃ q, k = q + 2 := ⟨k - 2, by omega⟩
      obtain ⟨hg, ht, hlt⟩ := drop_cons hd
      simp only [impl_GetNum.l0]
      rw [if_pos (by omega), if_pos (by omega), w64 (n := (l.length : Int) - at_) (by omega) (by omega), decide_eq_true (by omega)]
      simp only [impl_GetNum.j1]
      rw [if_pos trivial, w64 (n := (at_ : Int) + j) (by omega) (by omega), w64 (n := 7 * (j : Int)) (by omega) (by omega)]
      have hr : rd l ((at_ : Int) + j) = m % 128 + 128 := by
        unfold rd
        rw [show ((at_ : Int) + (j : Int)).toNat = at_ + j by omega]
        exact hg
      rw [hr, w64 (n := m % 128 + 128) (by omega) (by omega), if_pos (by omega), if_pos (by omega), if_pos (by omega), if_pos (by omega), w64 (n := (j : Int) + 1) (by omega) (by omega)]
      have ej : (j : Int) + 1 = ((j + 1 : Nat) : Int) := by omega
      rw [ej]
      have hpw : (128 : Int) ^ (d + 1 + 1) = 128 ^ (d + 1) * 128 := Int.pow_succ _ _
      exact ih k (j + 1) _ (m / 128) (by omega) (by omega) (by omega) (by omega) (by rw [← ht]; rfl) (by omega)
    · rw [if_neg h] at hd
      exact stop k j x (by omega) (by omega) (by simpa using hd) hle

/-- What is put of a number, and what is got of that. -/
theorem put_get (b : List Int) (hb : b.length ≤ 3) (a : Int) (hw : -9223372036854775808 ≤ a ∧ a < 9223372036854775808) (k : Nat) (hk : 20 ≤ k) :
    ∃ p, impl_PutNum.f k b a = some p ∧ 0 < p.length ∧ p.length ≤ 100 ∧ impl_GetNum.f k p b.length = some ((if a > 1000000000 then 1000000000 else if a < -1000000000 then -1000000000 else a), (p.length : Int), true) ∧
      impl_GetNum.f k (p.take (p.length - 1)) b.length = some (0, 0, false) := by
  have hc : ∃ n : Int, -1000000000 ≤ n ∧ n ≤ 1000000000 ∧ mx (-1000000000) (mn a 1000000000) = n ∧ n = (if a > 1000000000 then 1000000000 else if a < -1000000000 then -1000000000 else a) := by
    unfold mx mn
    refine ⟨_, ?_, ?_, rfl, ?_⟩ <;> (repeat' split) <;> omega
  obtain ⟨n, n0, n1, hn, hn2⟩ := hc
  have hm : ∃ m : Int, 0 ≤ m ∧ m ≤ 2000000000 ∧ m = (if n < 0 then -2 * n - 1 else 2 * n) := ⟨_, by split <;> omega, by split <;> omega, rfl⟩
  obtain ⟨m, m0, m1, hm⟩ := hm
  have hmp : m < 128 ^ (4 + 1) := by omega
  have hp := put_loop 4 (k - 1) b m m0 hmp (by omega) (by omega) (by omega)
  have hdec : dec m = n := by
    unfold dec
    rw [hm]
    by_cases h : n < 0
    · rw [if_pos h, if_pos (by omega)]; omega
    · rw [if_neg h, if_neg (by omega)]; omega
  have hlen := enc_length 4 m
  have hpos := List.length_pos_iff.mpr (enc_ne 4 m)
  refine ⟨b ++ enc 4 m, ?_, by simp; omega, by simp; omega, ?_, ?_⟩
  · unfold impl_PutNum.f slices_Clone_byte_byte.f
    rw [if_pos (by omega), hn]
    simp only [Option.bind_some]
    obtain ⟨k, rfl⟩ : ∃ q, k = q + 1 := ⟨k - 1, by omega⟩
    by_cases h : n < 0
    · rw [if_pos h] at hm ⊢
      rw [← hm]
      simp only [impl_PutNum.j0]
      exact hp
    · rw [if_neg h] at hm ⊢
      rw [← hm]
      simp only [impl_PutNum.j0]
      exact hp
  · unfold impl_GetNum.f
    rw [← hn2, ← hdec]
    exact get_loop (b ++ enc 4 m) (by simp; omega) b.length m ⟨m0, m1⟩ 4 k 0 0 m (by omega) (by omega) (by omega) (by omega) m0 (.inl rfl) hmp (by simp) (by simp)
  · unfold impl_GetNum.f
    have e : (b ++ enc 4 m).take ((b ++ enc 4 m).length - 1) = b ++ (enc 4 m).dropLast := by
      rw [← List.dropLast_eq_take, List.dropLast_append_of_ne_nil (enc_ne 4 m)]
    rw [e]
    exact cut_loop (b ++ (enc 4 m).dropLast) (by simp; omega) b.length 4 k 0 0 m (by omega) (by omega) m0 hmp (by simp) (by simp)

theorem FnNums : laws_FnNums.Pure := by
  intro l _ _ _
  refine ⟨1048600 + 20, ?_⟩
  unfold laws_FnNums.f laws_big.f
  simp only [Option.bind_some]
  by_cases hbig : (l.length : Int) > 1048576
  · rw [decide_eq_true hbig, if_pos rfl]
  · rw [decide_eq_false hbig, if_neg (by decide)]
    obtain ⟨b, n, hd, hb, n0, n1⟩ := draw_some l (by omega) (1048600 + 20) (by omega)
    rw [hd]
    simp only [Option.bind_some]
    obtain ⟨p, hp, p0, p1, hg, hcut⟩ := put_get b hb n ⟨n0, n1⟩ (1048600 + 20) (by omega)
    rw [hp]
    simp only [Option.bind_some]
    rw [hg]
    simp only [Option.bind_some]
    rw [w64 (n := (p.length : Int) - 1) (by omega) (by omega)]
    have e : ((p.length : Int) - 1).toNat = p.length - 1 := by omega
    rw [e, hcut]
    simp only [Option.bind_some]
    by_cases h1 : n > 1000000000
    · rw [if_pos h1, if_pos (by omega), if_pos (by omega)]
      simp [h1]
    · rw [if_neg h1]
      by_cases h2 : n < -1000000000
      · rw [if_pos h2, if_pos (by omega), if_pos (by omega)]
        simp [h1, h2]
      · rw [if_neg h2, if_pos (by omega), if_pos (by omega)]
        simp [h1, h2]

end Go.Proofs.Ytanobmanpnkccaa.Pure
