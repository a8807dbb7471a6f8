/- The program's HeapOk returns what the reference's returns, for all heaps (of at most 2^20 words; beyond that the law holds at once). -/
import Derived.Test.YtanobmanpnkccaaOFnExactHeapOkY
namespace Go.Proofs.Ytanobmanpnkccaa.Pure
open Go.RowKit Go.Proofs.Ytanobmanpnkccaa.OFnExactHeapOk Go.Proofs.YtanobmanpnkccaaW.PrintWords Go.Proofs.YtanobmanpnkccaaW.PrintLast Go.Proofs.YtanobmanpnkccaaW.PrintMore

theorem w64 {n : Int} (h0 : -9223372036854775808 ≤ n) (h1 : n < 9223372036854775808) : wrap64 n = n := by
  unfold wrap64; omega

theorem take_set_succ {α : Type} (l x : List α) (a : α) (i : Nat) (hl : x.length = l.length) (hi : i < l.length) (ha : l[i]? = some a) (h : x.take i = l.take i) :
    (x.set i a).take (i + 1) = l.take (i + 1) := by
  rw [List.take_succ_eq_append_getElem (by simpa [hl] using hi), List.take_succ_eq_append_getElem hi]
  rw [List.take_set_of_le (by omega), h]
  have : l[i] = a := by rw [List.getElem?_eq_getElem hi] at ha; exact Option.some.inj ha
  simp [this]

def conv (x : S65) : S67 := ⟨x.f0, x.f1⟩

theorem rd65 (l : List S65) (i : Nat) (h : i < l.length) : rd_T65 l (i : Int) = l[i] := by
  simp [rd_T65, List.getD_eq_getElem?_getD, h]

theorem rd67 (l : List S67) (i : Nat) (h : i < l.length) : rd_T67 l (i : Int) = l[i] := by
  simp [rd_T67, List.getD_eq_getElem?_getD, h]

theorem toWordS_l0 (l : List S65) (hl : l.length ≤ 2000000) (d : Nat) : ∀ (k : Nat) (x : List S67) (i : Nat), i + d = l.length → d < k → x.length = l.length →
    x.take i = (l.map conv).take i → laws_toWordS.l0 k l x i = some (l.map conv) := by
  induction d with
  | zero =>
    intro k x i h1 hk hx ht
    obtain ⟨k, rfl⟩ : ∃ m, k = m + 1 := ⟨k - 1, by omega⟩
    simp only [laws_toWordS.l0]
    rw [if_neg (by omega)]
    rw [List.take_of_length_le (by omega), List.take_of_length_le (by simp; omega)] at ht
    rw [ht]
  | succ d ih =>
    intro k x i h1 hk hx ht
    obtain ⟨k, rfl⟩ : ∃ m, k = m + 1 := ⟨k - 1, by omega⟩
    simp only [laws_toWordS.l0]
    rw [if_pos (by omega), if_pos (by omega), rd65 l i (by omega)]
    simp only [laws_toWord.f, Option.bind_some]
    rw [if_pos (by omega), w64 (by omega) (by omega)]
    have e : (i : Int) + 1 = ((i + 1 : Nat) : Int) := by omega
    rw [e, Int.toNat_natCast]
    refine ih k _ (i + 1) (by omega) (by omega) (by simpa using hx) ?_
    exact take_set_succ (l.map conv) x (conv l[i]) i (by simpa using hx) (by simp; omega) (by simp [List.getElem?_eq_getElem (show i < l.length by omega)]) ht

theorem toWordS (l : List S65) (hl : l.length ≤ 2000000) (k : Nat) (hk : l.length < k) : laws_toWordS.f k l = some (l.map conv) := by
  unfold laws_toWordS.f
  rw [if_pos (by omega), if_pos (by omega)]
  exact toWordS_l0 l hl l.length k _ 0 (by omega) hk (by simp) (by simp)

theorem eqWordS_l0 (l : List S67) (hl : l.length ≤ 2000000) (d : Nat) : ∀ (k : Nat) (i : Nat), i + d = l.length → d < k → laws_eqWordS.l0 k l l i = some true := by
  induction d with
  | zero =>
    intro k i h1 hk
    obtain ⟨k, rfl⟩ : ∃ m, k = m + 1 := ⟨k - 1, by omega⟩
    simp only [laws_eqWordS.l0]
    rw [if_neg (by omega)]
  | succ d ih =>
    intro k i h1 hk
    obtain ⟨k, rfl⟩ : ∃ m, k = m + 1 := ⟨k - 1, by omega⟩
    simp only [laws_eqWordS.l0, laws_eqWord.f]
    rw [if_pos (by omega), if_pos (by omega), if_pos (by omega), w64 (by omega) (by omega)]
    simp only [if_true, Option.bind_some]
    exact ih k (i + 1) (by omega) (by omega)

theorem eqWordS (l : List S67) (hl : l.length ≤ 2000000) (k : Nat) (hk : l.length < k) : laws_eqWordS.f k l l = some true := by
  unfold laws_eqWordS.f
  rw [if_pos rfl]
  exact eqWordS_l0 l hl l.length k 0 (by omega) hk

theorem in_eq (a b c : Int) : impl_in.f a b c = some (decide (b ≤ a ∧ a ≤ c)) := by
  unfold impl_in.f
  by_cases h : b ≤ a <;> simp [h]

theorem l1In_eq (a b c : Int) : spec_l1In.f a b c = some (decide (b ≤ a ∧ a ≤ c)) := by
  unfold spec_l1In.f
  by_cases h : b ≤ a <;> simp [h]

/-- How many fields a head has. -/
def fld (w : S67) : Int := if (w.f0 = 5 ∨ w.f0 = 6) ∧ w.f1 = 0 then 2 else if w.f0 = 7 ∧ 0 ≤ w.f1 ∧ w.f1 ≤ 14999 then w.f1 % 100 else -1

theorem fld_bounds (w : S67) : fld w = -1 ∨ 0 ≤ fld w ∧ fld w < 100 := by
  unfold fld
  split
  · omega
  · split <;> omega

theorem spec_fields (w : S67) (k : Nat) (hk : 0 < k) : spec_l12Fields.f k w.f0 w.f1 = some (fld w) := by
  obtain ⟨k, rfl⟩ : ∃ m, k = m + 1 := ⟨k - 1, by omega⟩
  unfold spec_l12Fields.f fld
  simp only [spec_l12Fields.j0, l1In_eq, Option.bind_some]
  by_cases h5 : w.f0 = 5
  · by_cases h0 : w.f1 = 0 <;> simp [h5, h0]
  · by_cases h6 : w.f0 = 6
    · by_cases h0 : w.f1 = 0 <;> simp [h6, h0]
    · by_cases h7 : w.f0 = 7
      · by_cases hr : 0 ≤ w.f1 ∧ w.f1 ≤ 14999
        · simp [h7, hr, Int.tmod_eq_emod_of_nonneg hr.1]
        · simp [h7, hr]
      · simp [h5, h6, h7]

theorem impl_fields (w : S67) (k : Nat) (hk : 0 < k) (hw : w.f1 < 9223372036854775808) : impl_fieldsOf.f k w.f0 w.f1 = some (fld w) := by
  obtain ⟨k, rfl⟩ : ∃ m, k = m + 1 := ⟨k - 1, by omega⟩
  unfold impl_fieldsOf.f fld
  simp only [impl_fieldsOf.j0]
  by_cases h5 : w.f0 = 5
  · by_cases h0 : w.f1 = 0 <;> simp [h5, h0]
  · by_cases h6 : w.f0 = 6
    · by_cases h0 : w.f1 = 0 <;> simp [h6, h0]
    · by_cases h7 : w.f0 = 7
      · by_cases hr : 0 ≤ w.f1
        · rw [Int.tdiv_eq_ediv_of_nonneg hr, w64 (by omega) (by omega), Int.tmod_eq_emod_of_nonneg hr]
          by_cases hr2 : w.f1 ≤ 14999
          · have h3 : w.f1 / 100 < 150 := by omega
            simp [h7, hr, hr2, h3]
          · have h3 : ¬ w.f1 / 100 < 150 := by omega
            simp [h7, hr, hr2, h3]
        · simp [h7, hr]
      · simp [h5, h6, h7]

theorem heads_l0 (l : List S67) (hl : l.length ≤ 2000000) (hw : ∀ x ∈ l, x.f1 < 9223372036854775808) (sz : Int) (d : Nat) : ∀ (k : Nat) (hs : List Bool) (i : Nat), i ≤ l.length → l.length - i ≤ d → d + 1 < k → hs.length = l.length →
    (∃ hs', spec_l12Heads.l0 k l hs i = some (hs', true) ∧ impl_headsOf.l0 k hs i sz l = some (hs', true) ∧ hs'.length = l.length) ∨
    (∃ a b, spec_l12Heads.l0 k l hs i = some (a, false) ∧ impl_headsOf.l0 k hs i sz l = some (b, false)) := by
  induction d with
  | zero =>
    intro k hs i hi h1 hk hx
    obtain ⟨k, rfl⟩ : ∃ m, k = m + 1 := ⟨k - 1, by omega⟩
    simp only [spec_l12Heads.l0, impl_headsOf.l0]
    rw [if_neg (by omega), if_neg (by omega)]
    exact .inl ⟨hs, rfl, rfl, hx⟩
  | succ d ih =>
    intro k hs i hi h1 hk hx
    obtain ⟨k, rfl⟩ : ∃ m, k = m + 1 := ⟨k - 1, by omega⟩
    simp only [spec_l12Heads.l0, impl_headsOf.l0]
    by_cases hlt : i < l.length
    · have a1 : (i : Int) < (l.length : Int) := by omega
      have a2 : (0 : Int) ≤ (i : Int) := by omega
      have a3 : (i : Int) < (hs.length : Int) := by omega
      simp only [a1, a2, a3, if_true]
      rw [rd67 l i hlt]
      rw [spec_fields _ k (by omega), impl_fields _ k (by omega) (hw _ (List.getElem_mem hlt))]
      simp only [Option.bind_some]
      have hb := fld_bounds l[i]
      generalize fld l[i] = n at hb
      by_cases hn : n < 0
      · rw [if_pos hn, if_pos hn]
        exact .inr ⟨_, _, rfl, rfl⟩
      · rw [if_neg hn, if_neg hn, w64 (n := (i : Int) + n) (by omega) (by omega), w64 (n := (l.length : Int) - i) (by omega) (by omega)]
        by_cases hge : (i : Int) + n ≥ l.length
        · rw [if_pos hge, if_pos (by omega)]
          exact .inr ⟨_, _, rfl, rfl⟩
        · rw [if_neg hge, if_neg (by omega)]
          rw [w64 (n := (i : Int) + n + 1) (by omega) (by omega), w64 (n := n + 1) (by omega) (by omega), w64 (n := (i : Int) + (n + 1)) (by omega) (by omega)]
          have e : (i : Int) + n + 1 = ((i + n.toNat + 1 : Nat) : Int) := by omega
          have e2 : (i : Int) + (n + 1) = ((i + n.toNat + 1 : Nat) : Int) := by omega
          rw [e, e2]
          exact ih k _ (i + n.toNat + 1) (by omega) (by omega) (by omega) (by simpa using hx)
    · rw [if_neg (by omega), if_neg (by omega)]
      exact .inl ⟨hs, rfl, rfl, hx⟩

theorem heads (l : List S67) (hl : l.length ≤ 2000000) (hw : ∀ x ∈ l, x.f1 < 9223372036854775808) (sz : Int) (k : Nat) (hk : l.length + 1 < k) :
    (∃ hs', spec_l12Heads.f k l = some (hs', true) ∧ impl_headsOf.f k sz l = some (hs', true) ∧ hs'.length = l.length) ∨
    (∃ a b, spec_l12Heads.f k l = some (a, false) ∧ impl_headsOf.f k sz l = some (b, false)) := by
  unfold spec_l12Heads.f impl_headsOf.f
  rw [if_pos (by omega), if_pos (by omega), if_pos (by omega), if_pos (by omega)]
  exact heads_l0 l hl hw sz l.length k _ 0 (by omega) (by omega) hk (by simp)

theorem words (hs : List Bool) (hl : hs.length ≤ 2000000) (w : S67) : ∃ b, spec_l12Word.f hs w.f0 w.f1 = some b ∧ impl_wordOk.f w.f0 w.f1 hs = some b := by
  unfold spec_l12Word.f impl_wordOk.f
  simp only [l1In_eq, in_eq, Option.bind_some]
  rw [w64 (by omega) (by omega)]
  by_cases h4 : w.f0 = 4
  · by_cases hr : 0 ≤ w.f1 ∧ w.f1 ≤ (hs.length : Int) - 1
    · have h2 : w.f1 < (hs.length : Int) := by omega
      exact ⟨_, by simp [h4, hr, h2]; rfl, by simp [h4, hr, h2]⟩
    · exact ⟨false, by simp [h4, hr], by simp [h4, hr]⟩
  · by_cases h1 : w.f0 = 1
    · exact ⟨_, by simp [h1]; rfl, by simp [h1]⟩
    · by_cases h2 : w.f0 = 2
      · exact ⟨_, by simp [h2]; rfl, by simp [h2]⟩
      · by_cases h3 : w.f0 = 3
        · exact ⟨_, by simp [h3]; rfl, by simp [h3]⟩
        · exact ⟨false, by simp [h1, h2, h3, h4], by simp [h1, h2, h3, h4]⟩

theorem ok_l0 (l : List S67) (hl : l.length ≤ 2000000) (hs : List Bool) (hhs : hs.length = l.length) (sz : Int) (d : Nat) : ∀ (k i : Nat), i + d = l.length → d + 1 < k →
    ∃ b, spec_HeapOk.l0 k hs true i sz l = some b ∧ impl_HeapOk.l0 k hs l (l.length : Int) i = some b := by
  induction d with
  | zero =>
    intro k i hi hk
    obtain ⟨k, rfl⟩ : ∃ m, k = m + 1 := ⟨k - 1, by omega⟩
    simp only [spec_HeapOk.l0, impl_HeapOk.l0]
    rw [if_neg (by omega), if_neg (by omega)]
    exact ⟨true, rfl, rfl⟩
  | succ d ih =>
    intro k i hi hk
    obtain ⟨k, rfl⟩ : ∃ m, k = m + 2 := ⟨k - 2, by omega⟩
    obtain ⟨b, hb, hb2⟩ := ih (k + 1) (i + 1) (by omega) (by omega)
    have e : (i : Int) + 1 = ((i + 1 : Nat) : Int) := by omega
    rw [spec_HeapOk.l0, impl_HeapOk.l0]
    have a1 : (i : Int) < (l.length : Int) := by omega
    have a2 : (0 : Int) ≤ (i : Int) := by omega
    have a3 : (i : Int) < (hs.length : Int) := by omega
    simp only [a1, a2, a3, if_true]
    rw [w64 (by omega) (by omega), e, rd67 l i (by omega)]
    by_cases hh : rdOf false hs (i : Int) = true
    · rw [if_pos hh, if_pos hh]
      exact ⟨b, hb, hb2⟩
    · rw [if_neg hh, if_neg hh]
      obtain ⟨t, ht, ht2⟩ := words hs (by omega) l[i]
      rw [ht, ht2]
      simp only [Option.bind_some]
      cases t with
      | true => exact ⟨b, hb, by rw [if_pos rfl]; exact hb2⟩
      | false =>
        refine ⟨false, ?_, by simp⟩
        rw [spec_HeapOk.l0]
        split
        · rfl
        · rfl

theorem heapOk (l : List S67) (hl : l.length ≤ 2000000) (hw : ∀ x ∈ l, x.f1 < 9223372036854775808) (sz : Int) (k : Nat) (hk : l.length + 5 < k) :
    ∃ b, spec_HeapOk.f k sz l = some b ∧ impl_HeapOk.f k sz l = some b := by
  obtain ⟨k, rfl⟩ : ∃ m, k = m + 2 := ⟨k - 2, by omega⟩
  unfold spec_HeapOk.f impl_HeapOk.f
  simp only [l1In_eq, in_eq, Option.bind_some]
  have e1 : ∀ q : Bool, spec_HeapOk.j0 (k + 2) q sz l = if q = true then some false else ((spec_l12Heads.f (k + 1) l).bind fun bt => spec_HeapOk.l0 (k + 1) bt.1 bt.2 0 sz l) := fun q => by simp only [spec_HeapOk.j0]
  have e2 : ∀ (h : List Bool) (q : Bool), impl_HeapOk.j0 (k + 2) h q sz l = if q = true then some false else impl_HeapOk.l0 (k + 1) h l (l.length : Int) 0 := fun h q => by simp only [impl_HeapOk.j0]
  simp only [e1, e2]
  rcases heads l hl hw sz (k + 2) (by omega) with ⟨hs, h1, h2, h3⟩ | ⟨a, b, h1, h2⟩
  · rw [h2]
    simp only [Option.bind_some, if_true]
    by_cases hs0 : 0 ≤ sz ∧ sz ≤ 5000
    · rw [decide_eq_true hs0, if_pos rfl, if_pos rfl]
      by_cases hg : (l.length : Int) > sz
      · rw [decide_eq_true hg]
        exact ⟨false, by simp, by simp⟩
      · rw [decide_eq_false hg]
        obtain ⟨hs', q, g1, g2⟩ : ∃ hs' q, spec_l12Heads.f (k + 1) l = some (hs', q) ∧ (hs', q) = (hs, true) := by
          rcases heads l hl hw sz (k + 1) (by omega) with ⟨hs', g1, g2, g3⟩ | ⟨a, b, g1, g2⟩
          · refine ⟨hs', true, g1, ?_⟩
            have := spec_l12Heads.mono l (k + 1) _ g1
            rw [h1] at this
            exact (Option.some.inj this).symm
          · have := spec_l12Heads.mono l (k + 1) _ g1
            rw [h1] at this
            have := Option.some.inj this
            simp at this
        rw [g1, g2]
        simp only [Option.bind_some, if_neg (show ¬ (false = true) by decide)]
        exact ok_l0 l hl hs h3 sz l.length (k + 1) 0 (by omega) (by omega)
    · rw [decide_eq_false hs0]
      exact ⟨false, by simp, by simp⟩
  · rw [h2]
    simp only [Option.bind_some]
    by_cases hs0 : 0 ≤ sz ∧ sz ≤ 5000
    · rw [decide_eq_true hs0, if_pos rfl]
      by_cases hg : (l.length : Int) > sz
      · rw [decide_eq_true hg]
        exact ⟨false, by simp, by simp⟩
      · rw [decide_eq_false hg]
        obtain ⟨a', g1⟩ : ∃ a', spec_l12Heads.f (k + 1) l = some (a', false) := by
          rcases heads l hl hw sz (k + 1) (by omega) with ⟨hs', g1, g2, g3⟩ | ⟨a', b', g1, g2⟩
          · have := spec_l12Heads.mono l (k + 1) _ g1
            rw [h1] at this
            have := Option.some.inj this
            simp at this
          · exact ⟨a', g1⟩
        rw [g1]
        refine ⟨false, ?_, by simp⟩
        simp only [Option.bind_some, if_neg (show ¬ (false = true) by decide)]
        rw [spec_HeapOk.l0]
        split <;> rfl
    · rw [decide_eq_false hs0]
      exact ⟨false, by simp, by simp⟩

theorem FnExactHeapOk : laws_FnExactHeapOk.PureO := by
  intro x hx
  obtain ⟨_, hlen, hwf⟩ := hx
  refine ⟨2000100, ?_⟩
  unfold laws_FnExactHeapOk.f laws_szHeap.f laws_szWordS.f
  have hm : x.f1.length ≤ 9223372036854775807 := by simpa [maxLen] using hlen
  rw [w64 (by omega) (by omega)]
  by_cases hbig : 1048576 - (x.f1.length : Int) < 0
  · rw [if_pos hbig]
    simp
  · rw [if_neg hbig]
    simp only [Option.bind_some, if_neg hbig]
    have hw : ∀ y ∈ x.f1.map conv, y.f1 < 9223372036854775808 := by
      intro y hy
      obtain ⟨z, hz, rfl⟩ := List.mem_map.1 hy
      have h := (hwf z hz).2
      simp [Lit.wf, IntKind.min, IntKind.max, IntKind.signed, IntKind.bits] at h
      simp only [conv]
      omega
    unfold laws_toHeap.f
    rw [toWordS x.f1 (by omega) _ (by omega)]
    simp only [Option.bind_some]
    obtain ⟨b, hb, hb2⟩ := heapOk (x.f1.map conv) (by simp; omega) hw x.f0 2000100 (by simp; omega)
    rw [hb]
    simp only [Option.bind_some]
    rw [hb2]
    simp only [Option.bind_some, bne_self_eq_false]
    rw [if_neg (by decide)]
    unfold laws_eqHeap.f
    rw [if_pos rfl, eqWordS _ (by simp; omega) _ (by simp; omega)]
    simp

end Go.Proofs.Ytanobmanpnkccaa.Pure
