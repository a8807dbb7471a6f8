-- written by wip/tools/prune.py: what this claim reaches of the print's and our texts
import Derived.Test.YtanobmanpnkccaaQHOFnHeapsx9
namespace Go.Proofs.Ytanobmanpnkccaa.Pure
open Go.RowKit Go.Proofs.Ytanobmanpnkccaa.OFnHeaps Go.Proofs.YtanobmanpnkccaaW.PrintWords Go.Proofs.YtanobmanpnkccaaW.PrintLast
set_option linter.unusedVariables false
set_option linter.unusedSimpArgs false
def Ev {α : Type} (g : Nat → Option α) (r : α) : Prop := ∃ K, ∀ k, K ≤ k → g k = some r
theorem Ev.of {α : Type} {g : Option α} {a : α} (h : g = some a) : Ev (fun _ => g) a := ⟨0, fun _ _ => h⟩
theorem Ev.bind {α β : Type} {g : Nat → Option α} {f : Nat → α → Option β} {a : α} {b : β} (h : Ev g a) (h2 : Ev (fun k => f k a) b) : Ev (fun k => (g k).bind (f k)) b := by
  obtain ⟨K, e⟩ := h
  obtain ⟨L, e2⟩ := h2
  exact ⟨K + L, fun k hk => by simp only [e k (by omega), Option.bind_some]; exact e2 k (by omega)⟩
theorem Ev.obind {α β : Type} {g : Option α} {f : Nat → α → Option β} {a : α} {b : β} (h : g = some a) (h2 : Ev (fun k => f k a) b) : Ev (fun k => g.bind (f k)) b := by
  subst h; exact h2
theorem Ev.succ {α : Type} {g : Nat → Option α} {a : α} (h : Ev (fun k => g (k + 1)) a) : Ev g a := by
  obtain ⟨K, e⟩ := h
  exact ⟨K + 1, fun k hk => by have := e (k - 1) (by omega); simp only at this; rwa [show k - 1 + 1 = k from by omega] at this⟩
theorem Ev.pos {α : Type} {c : Prop} [Decidable c] {f g : Nat → Option α} {a : α} (hc : c) (h : Ev f a) : Ev (fun k => if c then f k else g k) a := by
  simp only [if_pos hc]; exact h
theorem Ev.neg {α : Type} {c : Prop} [Decidable c] {f g : Nat → Option α} {a : α} (hc : ¬ c) (h : Ev g a) : Ev (fun k => if c then f k else g k) a := by
  simp only [if_neg hc]; exact h
theorem w64 {n : Int} (h0 : -9223372036854775808 ≤ n) (h1 : n < 9223372036854775808) : wrap64 n = n := by
  unfold wrap64; omega
theorem i64_small (n : Int) (h0 : 0 ≤ n) (h1 : n < 2 ^ 63) : IntKind.i64.wrap n = n := by
  rw [IntKind.wrap_i64]; omega
theorem and_255 (x : Int) : 0 ≤ Go.bits .and .i64 x 255 ∧ Go.bits .and .i64 x 255 ≤ 255 := by
  have h : (BitVec.ofInt 64 x &&& BitVec.ofInt 64 255).toNat ≤ 255 := by
    rw [BitVec.toNat_and]
    have e : (BitVec.ofInt 64 255).toNat = 255 := by decide
    rw [e]
    exact Nat.and_le_right
  have e : Go.bits .and .i64 x 255 = ((BitVec.ofInt 64 x &&& BitVec.ofInt 64 255).toNat : Int) := by
    change IntKind.i64.wrap (((BitVec.ofInt 64 x &&& BitVec.ofInt 64 255).toNat : Nat) : Int) = _
    exact i64_small _ (by omega) (by omega)
  rw [e]
  omega
theorem l1Byte_some (s0 : List Int) (s1 s2 : Int) (h : 0 ≤ s1) (hl : s0.length ≤ 1048576) : ∃ v a b, spec_l1Byte.f s0 s1 s2 = some (v, a, b) ∧ 0 ≤ v ∧ v ≤ 255 ∧ 0 ≤ a := by
  unfold spec_l1Byte.f
  by_cases h1 : s1 < (s0.length : Int)
  · rw [if_pos h1, if_pos h]
    refine ⟨_, _, _, rfl, (and_255 _).1, (and_255 _).2, ?_⟩
    rw [w64 (by omega) (by omega)]
    omega
  · rw [if_neg h1]
    exact ⟨_, _, _, rfl, (and_255 _).1, (and_255 _).2, h⟩
theorem l1Below_some (s0 : List Int) (s1 s2 n : Int) (h : 0 ≤ s1) (hl : s0.length ≤ 1048576) (hn : n ≤ 1000000) :
    ∃ v a b, spec_l1Below.f s0 s1 s2 n = some (v, a, b) ∧ 0 ≤ v ∧ (0 < n → v < n) ∧ (n ≤ 0 → v = 0) ∧ 0 ≤ a := by
  unfold spec_l1Below.f
  by_cases h0 : n ≤ 0
  · rw [if_pos h0]
    exact ⟨0, s1, s2, rfl, by omega, by omega, by omega, h⟩
  · rw [if_neg h0]
    by_cases h1 : n ≤ 256
    · rw [if_pos h1]
      obtain ⟨v, a, b, e, v0, v1, ha⟩ := l1Byte_some s0 s1 s2 h hl
      rw [e]
      simp only [Option.bind_some]
      rw [if_neg (by omega)]
      refine ⟨_, _, _, rfl, ?_, fun hp => ?_, by omega, ha⟩
      · rw [Int.tmod_eq_emod_of_nonneg v0]; exact Int.emod_nonneg _ (by omega)
      · rw [Int.tmod_eq_emod_of_nonneg v0]; exact Int.emod_lt_of_pos _ hp
    · rw [if_neg h1]
      obtain ⟨v, a, b, e, v0, v1, ha⟩ := l1Byte_some s0 s1 s2 h hl
      rw [e]
      simp only [Option.bind_some]
      obtain ⟨v', a', b', e', v0', v1', ha'⟩ := l1Byte_some s0 a b ha hl
      rw [e']
      simp only [Option.bind_some]
      obtain ⟨v2, a2, b2, e2, v02, v12, ha2⟩ := l1Byte_some s0 a' b' ha' hl
      rw [e2]
      simp only [Option.bind_some]
      rw [if_neg (by omega), w64 (n := v * 65536) (by omega) (by omega), w64 (n := v' * 256) (by omega) (by omega), w64 (n := v * 65536 + v' * 256) (by omega) (by omega), w64 (by omega) (by omega)]
      refine ⟨_, _, _, rfl, ?_, fun hp => ?_, by omega, ha2⟩
      · rw [Int.tmod_eq_emod_of_nonneg (by omega)]; exact Int.emod_nonneg _ (by omega)
      · rw [Int.tmod_eq_emod_of_nonneg (by omega)]; exact Int.emod_lt_of_pos _ hp
theorem l1New_l0 (l : List Int) (hl : l.length ≤ 1048576) (d : Nat) : ∀ (h i : Int), 0 ≤ i → i + d = l.length → ∃ v, Ev (fun k => spec_l1New.l0 k l h i) (l, 0, v) := by
  induction d with
  | zero =>
    intro h i h0 h1
    refine ⟨h, Ev.succ ?_⟩
    simp only [spec_l1New.l0]
    exact Ev.neg (by omega) (Ev.of rfl)
  | succ d ih =>
    intro h i h0 h1
    by_cases h4 : i < 4000
    · obtain ⟨v, hv⟩ := ih (Go.bits .and .i64 (wrap64 ((wrap64 ((wrap64 (h * 137)) + (wrap64 (rd l i)))) + 11)) 1073741823) (i + 1) (by omega) (by omega)
      refine ⟨v, Ev.succ ?_⟩
      simp only [spec_l1New.l0]
      rw [w64 (n := i + 1) (by omega) (by omega)]
      exact Ev.pos (by omega) (Ev.pos h4 (Ev.pos h0 hv))
    · refine ⟨h, Ev.succ ?_⟩
      simp only [spec_l1New.l0]
      exact Ev.pos (by omega) (Ev.neg h4 (Ev.of rfl))
theorem in_eq (a b c : Int) : impl_in.f a b c = some (decide (b ≤ a ∧ a ≤ c)) := by
  unfold impl_in.f
  by_cases h : b ≤ a <;> simp [h]
theorem l1In_eq (a b c : Int) : spec_l1In.f a b c = some (decide (b ≤ a ∧ a ≤ c)) := by
  unfold spec_l1In.f
  by_cases h : b ≤ a <;> simp [h]
theorem rd67 (l : List S67) (i : Nat) (h : i < l.length) : rd_T67 l (i : Int) = l[i] := by
  simp [rd_T67, List.getD_eq_getElem?_getD, h]
def fld (w : S67) : Int := if (w.f0 = 5 ∨ w.f0 = 6) ∧ w.f1 = 0 then 2 else if w.f0 = 7 ∧ 0 ≤ w.f1 ∧ w.f1 ≤ 14999 then w.f1 % 100 else -1
theorem fld_bounds (w : S67) : fld w = -1 ∨ 0 ≤ fld w ∧ fld w < 100 := by
  unfold fld
  split
  · omega
  · split <;> omega
theorem spec_fields (w : S67) : Ev (fun k => spec_l12Fields.f k w.f0 w.f1) (fld w) := by
  refine ⟨1, fun k hk => ?_⟩
  obtain ⟨k, rfl⟩ : ∃ m, k = m + 1 := ⟨k - 1, by omega⟩
  unfold spec_l12Fields.f fld
  simp only [spec_l12Fields.j0, l1In_eq, Option.bind_some]
  by_cases h5 : w.f0 = 5
  · by_cases h0 : w.f1 = 0 <;> simp [h5, h0]
  · by_cases h6 : w.f0 = 6
    · by_cases h0 : w.f1 = 0 <;> simp [h6, h0]
    · by_cases h7 : w.f0 = 7
      · by_cases hr : 0 ≤ w.f1 ∧ w.f1 ≤ 14999
        · simp [h7, hr, Int.tmod_eq_emod_of_nonneg hr.1]
        · simp [h7, hr]
      · simp [h5, h6, h7]
theorem impl_fields (w : S67) (hw : w.f1 < 9223372036854775808) : Ev (fun k => impl_fieldsOf.f k w.f0 w.f1) (fld w) := by
  refine ⟨1, fun k hk => ?_⟩
  obtain ⟨k, rfl⟩ : ∃ m, k = m + 1 := ⟨k - 1, by omega⟩
  unfold impl_fieldsOf.f fld
  simp only [impl_fieldsOf.j0]
  by_cases h5 : w.f0 = 5
  · by_cases h0 : w.f1 = 0 <;> simp [h5, h0]
  · by_cases h6 : w.f0 = 6
    · by_cases h0 : w.f1 = 0 <;> simp [h6, h0]
    · by_cases h7 : w.f0 = 7
      · by_cases hr : 0 ≤ w.f1
        · rw [Int.tdiv_eq_ediv_of_nonneg hr, w64 (by omega) (by omega), Int.tmod_eq_emod_of_nonneg hr]
          by_cases hr2 : w.f1 ≤ 14999
          · have h3 : w.f1 / 100 < 150 := by omega
            simp [h7, hr, hr2, h3]
          · have h3 : ¬ w.f1 / 100 < 150 := by omega
            simp [h7, hr, hr2, h3]
        · simp [h7, hr]
      · simp [h5, h6, h7]
inductive Bl : List S67 → List Bool → Prop
  | nil : Bl [] []
  | blk (w : S67) (fs rest : List S67) (hs : List Bool) (h : fld w = fs.length) (hr : Bl rest hs) : Bl (w :: (fs ++ rest)) (true :: (List.replicate fs.length false ++ hs))
theorem Bl.len {l : List S67} {hs : List Bool} (h : Bl l hs) : hs.length = l.length := by
  induction h with
  | nil => rfl
  | blk w fs rest hs h hr ih => simp [ih]
theorem Bl.append {l m : List S67} {hs ms : List Bool} (h : Bl l hs) (hm : Bl m ms) : Bl (l ++ m) (hs ++ ms) := by
  induction h with
  | nil => exact hm
  | blk w fs rest hs h hr ih =>
    have := Bl.blk w fs (rest ++ m) (hs ++ ms) h ih
    simpa [List.append_assoc] using this
theorem Bl.one (w : S67) (fs : List S67) (h : fld w = fs.length) : Bl (w :: fs) (true :: List.replicate fs.length false) := by
  have := Bl.blk w fs [] [] h Bl.nil
  simpa using this
theorem Bl.inv {w : S67} {t : List S67} {hs : List Bool} (h : Bl (w :: t) hs) : ∃ n : Nat, fld w = n ∧ n ≤ t.length ∧ ∃ ms, Bl (t.drop n) ms ∧ hs = true :: (List.replicate n false ++ ms) := by
  generalize hl : w :: t = l at h
  cases h with
  | nil => cases hl
  | blk w' fs rest ms h hr =>
    injection hl with e1 e2
    subst e1 e2
    exact ⟨fs.length, h, by simp, ms, by simpa using hr, rfl⟩
theorem take_drop_set {x : List Bool} {i n N : Nat} (hx : x.length = N) (hi : i + n < N) (hd : x.drop i = List.replicate (N - i) false) :
    (x.set i true).drop (i + n + 1) = List.replicate (N - (i + n + 1)) false ∧ (x.set i true).take (i + n + 1) = x.take i ++ (true :: List.replicate n false) := by
  have h1 : ∀ j (hj : j < x.length), i ≤ j → x[j] = false := by
    intro j hj hij
    have : (x.drop i)[j - i]? = some x[j] := by rw [List.getElem?_drop, show i + (j - i) = j from by omega, List.getElem?_eq_getElem hj]
    rw [hd, List.getElem?_replicate] at this
    split at this
    · exact (Option.some.inj this).symm
    · cases this
  constructor
  · apply List.ext_getElem
    · simp; omega
    · intro j h2 h3
      simp only [List.getElem_drop, List.getElem_replicate, List.getElem_set]
      rw [if_neg (by omega)]
      exact h1 _ (by simp at h2; omega) (by omega)
  · apply List.ext_getElem
    · simp; omega
    · intro j h2 h3
      simp only [List.getElem_take, List.getElem_set, List.getElem_append, List.length_take, List.getElem_cons, List.getElem_replicate]
      simp at h2 h3
      by_cases c1 : i = j
      · subst c1
        rw [if_pos rfl, dif_neg (by omega), dif_pos (by omega)]
      · rw [if_neg c1]
        by_cases c2 : j < i
        · rw [dif_pos (by omega)]
        · rw [dif_neg (by omega), dif_neg (by omega)]
          exact h1 j (by omega) (by omega)
theorem heads_l0 (l : List S67) (hl : l.length ≤ 2000000) (hw : ∀ x ∈ l, x.f1 < 9223372036854775808) (sz : Int) (d : Nat) : ∀ (x : List Bool) (i : Nat), i ≤ l.length → l.length - i ≤ d → x.length = l.length → x.drop i = List.replicate (l.length - i) false →
    (∀ hs, Bl (l.drop i) hs → Ev (fun k => spec_l12Heads.l0 k l x i) (x.take i ++ hs, true) ∧ Ev (fun k => impl_headsOf.l0 k x i sz l) (x.take i ++ hs, true)) ∧
    ((¬ ∃ hs, Bl (l.drop i) hs) → ∃ a b, a.length = l.length ∧ Ev (fun k => spec_l12Heads.l0 k l x i) (a, false) ∧ Ev (fun k => impl_headsOf.l0 k x i sz l) (b, false)) := by
  induction d with
  | zero =>
    intro x i hi h1 hx hd
    have hn : l.drop i = [] := List.drop_of_length_le (by omega)
    rw [hn]
    refine ⟨fun hs hb => ?_, fun h => absurd ⟨[], Bl.nil⟩ h⟩
    have : hs = [] := by cases hb; rfl
    subst this
    have ht : x.take i ++ [] = x := by rw [List.append_nil, List.take_of_length_le (by omega)]
    rw [ht]
    refine ⟨Ev.succ ?_, Ev.succ ?_⟩
    · simp only [spec_l12Heads.l0]
      exact Ev.neg (by omega) (Ev.of rfl)
    · simp only [impl_headsOf.l0]
      exact Ev.neg (by omega) (Ev.of rfl)
  | succ d ih =>
    intro x i hi h1 hx hd
    by_cases hlt : i < l.length
    case neg =>
      have hn : l.drop i = [] := List.drop_of_length_le (by omega)
      rw [hn]
      refine ⟨fun hs hb => ?_, fun h => absurd ⟨[], Bl.nil⟩ h⟩
      have : hs = [] := by cases hb; rfl
      subst this
      have ht : x.take i ++ [] = x := by rw [List.append_nil, List.take_of_length_le (by omega)]
      rw [ht]
      refine ⟨Ev.succ ?_, Ev.succ ?_⟩
      · simp only [spec_l12Heads.l0]
        exact Ev.neg (by omega) (Ev.of rfl)
      · simp only [impl_headsOf.l0]
        exact Ev.neg (by omega) (Ev.of rfl)
    have hc : l.drop i = l[i] :: l.drop (i + 1) := List.drop_eq_getElem_cons hlt
    have hb := fld_bounds l[i]
    have eS := spec_fields l[i]
    have eI := impl_fields l[i] (hw _ (List.getElem_mem hlt))
    by_cases hn : 0 ≤ fld l[i] ∧ (i : Int) + fld l[i] < l.length
    · obtain ⟨n, en⟩ : ∃ n : Nat, fld l[i] = n := ⟨(fld l[i]).toNat, by omega⟩
      obtain ⟨g1, g2⟩ := take_drop_set (n := n) hx (by omega) hd
      obtain ⟨i1, i2⟩ := ih (x.set i true) (i + n + 1) (by omega) (by omega) (by simpa using hx) g1
      rw [g2] at i1
      have red : ∀ r, Ev (fun k => spec_l12Heads.l0 k l (x.set i true) ((i + n + 1 : Nat) : Int)) r → Ev (fun k => spec_l12Heads.l0 k l x i) r := by
        intro r hr
        refine Ev.succ ?_
        simp only [spec_l12Heads.l0]
        rw [rd67 l i hlt]
        refine Ev.pos (by omega) (Ev.pos (by omega) (Ev.bind eS (Ev.neg (by omega) ?_)))
        rw [w64 (n := (i : Int) + fld l[i]) (by omega) (by omega), w64 (by omega) (by omega), Int.toNat_natCast, show (i : Int) + fld l[i] + 1 = ((i + n + 1 : Nat) : Int) from by omega]
        exact Ev.neg (by omega) (Ev.pos (by omega) hr)
      have redI : ∀ r, Ev (fun k => impl_headsOf.l0 k (x.set i true) ((i + n + 1 : Nat) : Int) sz l) r → Ev (fun k => impl_headsOf.l0 k x i sz l) r := by
        intro r hr
        refine Ev.succ ?_
        simp only [impl_headsOf.l0]
        rw [rd67 l i hlt]
        refine Ev.pos (by omega) (Ev.pos (by omega) (Ev.bind eI (Ev.neg (by omega) ?_)))
        rw [w64 (n := (l.length : Int) - i) (by omega) (by omega), w64 (n := fld l[i] + 1) (by omega) (by omega), w64 (by omega) (by omega), Int.toNat_natCast, show (i : Int) + (fld l[i] + 1) = ((i + n + 1 : Nat) : Int) from by omega]
        exact Ev.neg (by omega) (Ev.pos (by omega) hr)
      constructor
      · intro hs hbl
        rw [hc] at hbl
        obtain ⟨m, em, hm, ms, hms, rfl⟩ := hbl.inv
        obtain rfl : m = n := by omega
        rw [List.drop_drop] at hms
        obtain ⟨p, q⟩ := i1 ms (by rw [show i + m + 1 = i + 1 + m from by omega]; exact hms)
        have e : x.take i ++ (true :: List.replicate m false) ++ ms = x.take i ++ (true :: (List.replicate m false ++ ms)) := by simp
        rw [e] at p q
        exact ⟨red _ p, redI _ q⟩
      · intro hno
        obtain ⟨a, b, ha, p, q⟩ := i2 (fun ⟨ms, hms⟩ => hno ⟨_, by
          rw [hc]
          have hlen : n ≤ (l.drop (i + 1)).length := by simp; omega
          have := Bl.blk l[i] ((l.drop (i + 1)).take n) ((l.drop (i + 1)).drop n) ms (by rw [List.length_take]; omega) (by rw [List.drop_drop, show i + 1 + n = i + n + 1 from by omega]; exact hms)
          rw [List.take_append_drop] at this
          exact this⟩)
        exact ⟨a, b, ha, red _ p, redI _ q⟩
    · constructor
      · intro hs hbl
        rw [hc] at hbl
        obtain ⟨m, em, hm, _⟩ := hbl.inv
        have : (l.drop (i + 1)).length = l.length - (i + 1) := by simp
        omega
      · intro _
        refine ⟨x, if fld l[i] < 0 then [] else [], hx, Ev.succ ?_, Ev.succ ?_⟩
        · simp only [spec_l12Heads.l0]
          rw [rd67 l i hlt]
          refine Ev.pos (by omega) (Ev.pos (by omega) (Ev.bind eS ?_))
          by_cases hng : fld l[i] < 0
          · exact Ev.pos hng (Ev.of rfl)
          · refine Ev.neg hng ?_
            rw [w64 (n := (i : Int) + fld l[i]) (by omega) (by omega)]
            exact Ev.pos (by omega) (Ev.of rfl)
        · simp only [impl_headsOf.l0]
          rw [rd67 l i hlt]
          have e0 : (if fld l[i] < 0 then ([] : List Bool) else []) = [] := by split <;> rfl
          rw [e0]
          refine Ev.pos (by omega) (Ev.pos (by omega) (Ev.bind eI ?_))
          by_cases hng : fld l[i] < 0
          · exact Ev.pos hng (Ev.of rfl)
          · refine Ev.neg hng ?_
            rw [w64 (n := (l.length : Int) - i) (by omega) (by omega)]
            exact Ev.pos (by omega) (Ev.of rfl)
def Small (l : List S67) : Prop := l.length ≤ 1000000 ∧ ∀ x ∈ l, x.f1 < 9223372036854775808
theorem heads_yes {l : List S67} (hl : Small l) (sz : Int) {hs : List Bool} (hb : Bl l hs) : Ev (fun k => spec_l12Heads.f k l) (hs, true) ∧ Ev (fun k => impl_headsOf.f k sz l) (hs, true) := by
  have h := (heads_l0 l (by have := hl.1; omega) hl.2 sz l.length (List.replicate l.length false) 0 (by omega) (by omega) (by simp) (by simp)).1 hs (by simpa using hb)
  have hl1 := hl.1
  simp only [List.take_zero, List.nil_append] at h
  unfold spec_l12Heads.f impl_headsOf.f
  exact ⟨Ev.pos (by omega) (Ev.pos (by omega) h.1), Ev.pos (by omega) (Ev.pos (by omega) h.2)⟩
theorem heads_no {l : List S67} (hl : Small l) (sz : Int) (hb : ¬ ∃ hs, Bl l hs) : ∃ a b, a.length = l.length ∧ Ev (fun k => spec_l12Heads.f k l) (a, false) ∧ Ev (fun k => impl_headsOf.f k sz l) (b, false) := by
  obtain ⟨a, b, ha, h⟩ := (heads_l0 l (by have := hl.1; omega) hl.2 sz l.length (List.replicate l.length false) 0 (by omega) (by omega) (by simp) (by simp)).2 (by simpa using hb)
  have hl1 := hl.1
  unfold spec_l12Heads.f impl_headsOf.f
  exact ⟨a, b, ha, Ev.pos (by omega) (Ev.pos (by omega) h.1), Ev.pos (by omega) (Ev.pos (by omega) h.2)⟩
theorem heads_any {l : List S67} (hl : Small l) : ∃ a b, a.length = l.length ∧ Ev (fun k => spec_l12Heads.f k l) (a, b) := by
  by_cases h : ∃ hs, Bl l hs
  · obtain ⟨hs, hb⟩ := h
    exact ⟨hs, true, hb.len, (heads_yes hl 0 hb).1⟩
  · obtain ⟨a, b, ha, h, _⟩ := heads_no hl 0 h
    exact ⟨a, false, ha, h⟩
def wOk (hs : List Bool) (w : S67) : Bool :=
  if w.f0 = 1 then decide (-1000000 ≤ w.f1 ∧ w.f1 ≤ 1000000) else if w.f0 = 2 then decide (0 ≤ w.f1 ∧ w.f1 ≤ 1) else if w.f0 = 3 then w.f1 == 0
  else if w.f0 = 4 then decide (0 ≤ w.f1 ∧ w.f1 < hs.length) && hs.getD w.f1.toNat false else false
theorem rdOf_get (hs : List Bool) (i : Int) : rdOf false hs i = hs.getD i.toNat false := by
  simp [rdOf]
theorem words (hs : List Bool) (hl : hs.length ≤ 2000000) (w : S67) : spec_l12Word.f hs w.f0 w.f1 = some (wOk hs w) ∧ impl_wordOk.f w.f0 w.f1 hs = some (wOk hs w) := by
  unfold spec_l12Word.f impl_wordOk.f wOk
  simp only [l1In_eq, in_eq, Option.bind_some]
  rw [w64 (by omega) (by omega)]
  by_cases h4 : w.f0 = 4
  · by_cases hr : 0 ≤ w.f1 ∧ w.f1 < (hs.length : Int)
    · have h2 : w.f1 ≤ (hs.length : Int) - 1 := by omega
      simp [h4, hr, h2, rdOf_get]
    · have h2 : ¬ (0 ≤ w.f1 ∧ w.f1 ≤ (hs.length : Int) - 1) := by omega
      simp [h4, hr, h2]
  · by_cases h1 : w.f0 = 1
    · simp [h1]
    · by_cases h2 : w.f0 = 2
      · simp [h2]
      · by_cases h3 : w.f0 = 3
        · simp [h3]
        · simp [h1, h2, h3, h4]
theorem wOk_append (hs ms : List Bool) (w : S67) (h : wOk hs w = true) : wOk (hs ++ ms) w = true := by
  unfold wOk at *
  by_cases h1 : w.f0 = 1
  · simpa [h1] using h
  · by_cases h2 : w.f0 = 2
    · simpa [h2] using h
    · by_cases h3 : w.f0 = 3
      · simpa [h3] using h
      · by_cases h4 : w.f0 = 4
        · simp only [h4] at h ⊢
          simp at h ⊢
          obtain ⟨⟨a, b⟩, c⟩ := h
          refine ⟨⟨a, by omega⟩, ?_⟩
          rw [List.getElem?_append_left (by omega)]
          exact c
        · simp [h1, h2, h3, h4] at h
def okH (sz : Int) (l : List S67) : Prop := (0 ≤ sz ∧ sz ≤ 5000) ∧ (l.length : Int) ≤ sz ∧ ∃ hs, Bl l hs ∧ ∀ i (hi : i < l.length), hs.getD i false = true ∨ wOk hs l[i] = true
theorem Bl.det {l : List S67} {hs ms : List Bool} (h : Bl l hs) : Bl l ms → hs = ms := by
  intro g
  induction h generalizing ms with
  | nil => cases g; rfl
  | blk w fs rest hs h hr ih =>
    obtain ⟨n, en, hn, ns, hns, rfl⟩ := g.inv
    obtain rfl : n = fs.length := by omega
    rw [List.drop_left] at hns
    rw [ih hns]
theorem ok_l0 (l : List S67) (hl : l.length ≤ 2000000) (hs : List Bool) (hhs : hs.length = l.length) (sz : Int) (d : Nat) : ∀ (i : Nat), i + d = l.length →
    ∃ b, Ev (fun k => spec_HeapOk.l0 k hs true i sz l) b ∧ Ev (fun k => impl_HeapOk.l0 k hs l (l.length : Int) i) b ∧ (b = true ↔ ∀ j (hj : j < l.length), i ≤ j → hs.getD j false = true ∨ wOk hs l[j] = true) := by
  induction d with
  | zero =>
    intro i hi
    refine ⟨true, Ev.succ ?_, Ev.succ ?_, ⟨fun _ j hj hij => by omega, fun _ => rfl⟩⟩
    · simp only [spec_HeapOk.l0]; exact Ev.neg (by omega) (Ev.of rfl)
    · simp only [impl_HeapOk.l0]; exact Ev.neg (by omega) (Ev.of rfl)
  | succ d ih =>
    intro i hi
    obtain ⟨b, e1, e2, hb⟩ := ih (i + 1) (by omega)
    have hlt : i < l.length := by omega
    obtain ⟨ws, wi⟩ := words hs (by omega) l[i]
    have ei : (i : Int) + 1 = ((i + 1 : Nat) : Int) := by omega
    have step : ∀ q : Bool, (q = true → hs.getD i false = true ∨ wOk hs l[i] = true) → (q = false → ¬ (hs.getD i false = true ∨ wOk hs l[i] = true)) → ((q && b) = true ↔ ∀ j (hj : j < l.length), i ≤ j → hs.getD j false = true ∨ wOk hs l[j] = true) := by
      intro q h1 h2
      constructor
      · intro h j hj hij
        simp at h
        by_cases e : i = j
        · subst e; exact h1 h.1
        · exact hb.1 h.2 j hj (by omega)
      · intro h
        have hq : q = true := by
          cases q with
          | true => rfl
          | false => exact absurd (h i hlt (by omega)) (h2 rfl)
        simp [hq, hb.2 (fun j hj hij => h j hj (by omega))]
    by_cases hh : rdOf false hs (i : Int) = true
    · have hg : hs.getD i false = true := by rw [rdOf_get] at hh; simpa using hh
      refine ⟨true && b, Ev.succ ?_, Ev.succ ?_, step true (fun _ => .inl hg) (fun h => by cases h)⟩
      · simp only [spec_HeapOk.l0]
        rw [w64 (by omega) (by omega), ei]
        exact Ev.pos (by omega) (Ev.pos (by simp) (Ev.pos (by omega) (Ev.pos (by omega) (Ev.pos hh (by simpa using e1)))))
      · simp only [impl_HeapOk.l0]
        rw [w64 (by omega) (by omega), ei]
        exact Ev.pos (by omega) (Ev.pos (by omega) (Ev.pos (by omega) (Ev.pos (by omega) (Ev.pos hh (by simpa using e2)))))
    · have hg : ¬ hs.getD i false = true := by rw [rdOf_get] at hh; simpa using hh
      refine ⟨wOk hs l[i] && b, Ev.succ ?_, Ev.succ ?_, step _ (fun h => .inr h) (fun h => by rintro (g | g); exact hg g; rw [h] at g; cases g)⟩
      · simp only [spec_HeapOk.l0]
        rw [w64 (by omega) (by omega), ei, rd67 l i hlt]
        refine Ev.pos (by omega) (Ev.pos (by simp) (Ev.pos (by omega) (Ev.pos (by omega) (Ev.neg hh (Ev.obind ws ?_)))))
        cases hw : wOk hs l[i] with
        | true => simpa using e1
        | false =>
          refine Ev.succ ?_
          simp only [spec_HeapOk.l0, Bool.false_and]
          by_cases hlast : ((i + 1 : Nat) : Int) < (l.length : Int)
          · exact Ev.pos hlast (Ev.neg (by simp) (Ev.of rfl))
          · exact Ev.neg hlast (Ev.of rfl)
      · simp only [impl_HeapOk.l0]
        rw [w64 (by omega) (by omega), ei, rd67 l i hlt]
        refine Ev.pos (by omega) (Ev.pos (by omega) (Ev.pos (by omega) (Ev.pos (by omega) (Ev.neg hh (Ev.obind wi ?_)))))
        cases hw : wOk hs l[i] with
        | true => exact Ev.pos (by simp) (by simpa using e2)
        | false => exact Ev.neg (by simp) (Ev.of (by simp))
theorem heapOk (l : List S67) (hl : Small l) (sz : Int) : ∃ b, Ev (fun k => spec_HeapOk.f k sz l) b ∧ Ev (fun k => impl_HeapOk.f k sz l) b ∧ (b = true ↔ okH sz l) := by
  have hl1 := hl.1
  by_cases h0 : 0 ≤ sz ∧ sz ≤ 5000
  case neg =>
    refine ⟨false, ?_, ?_, by constructor; intro h; cases h; intro h; exact absurd h.1 h0⟩
    · unfold spec_HeapOk.f
      simp only [l1In_eq, Option.bind_some, decide_eq_false h0]
      refine Ev.neg (by simp) (Ev.succ ?_)
      simp only [spec_HeapOk.j0]
      exact Ev.pos (by simp) (Ev.of rfl)
    · unfold impl_HeapOk.f
      simp only [in_eq, Option.bind_some, decide_eq_false h0]
      by_cases h : ∃ hs, Bl l hs
      · obtain ⟨hs, hb⟩ := h
        refine Ev.bind (heads_yes hl sz hb).2 (Ev.pos (by simp) (Ev.neg (by simp) (Ev.succ ?_)))
        simp only [impl_HeapOk.j0]
        exact Ev.pos (by simp) (Ev.of rfl)
      · obtain ⟨a, b, _, _, q⟩ := heads_no hl sz h
        refine Ev.bind q (Ev.neg (by simp) (Ev.succ ?_))
        simp only [impl_HeapOk.j0]
        exact Ev.pos (by simp) (Ev.of rfl)
  by_cases hg : (l.length : Int) > sz
  · refine ⟨false, ?_, ?_, by constructor; intro h; cases h; intro h; have := h.2.1; omega⟩
    · unfold spec_HeapOk.f
      simp only [l1In_eq, Option.bind_some, decide_eq_true h0, decide_eq_true hg]
      refine Ev.pos (by simp) (Ev.succ ?_)
      simp only [spec_HeapOk.j0]
      exact Ev.pos (by simp) (Ev.of rfl)
    · unfold impl_HeapOk.f
      simp only [in_eq, Option.bind_some, decide_eq_true h0, decide_eq_true hg]
      by_cases h : ∃ hs, Bl l hs
      · obtain ⟨hs, hb⟩ := h
        refine Ev.bind (heads_yes hl sz hb).2 (Ev.pos (by simp) (Ev.pos (by simp) (Ev.succ ?_)))
        simp only [impl_HeapOk.j0]
        exact Ev.pos (by simp) (Ev.of rfl)
      · obtain ⟨a, b, _, _, q⟩ := heads_no hl sz h
        refine Ev.bind q (Ev.neg (by simp) (Ev.succ ?_))
        simp only [impl_HeapOk.j0]
        exact Ev.pos (by simp) (Ev.of rfl)
  by_cases h : ∃ hs, Bl l hs
  · obtain ⟨hs, hb⟩ := h
    obtain ⟨b, e1, e2, hbb⟩ := ok_l0 l (by omega) hs hb.len sz l.length 0 (by omega)
    refine ⟨b, ?_, ?_, hbb.trans ⟨fun g => ⟨h0, by omega, hs, hb, fun i hi => g i hi (by omega)⟩, fun ⟨_, _, ms, hm, g⟩ j hj _ => by rw [hb.det hm]; exact g j hj⟩⟩
    · unfold spec_HeapOk.f
      simp only [l1In_eq, Option.bind_some, decide_eq_true h0, decide_eq_false hg]
      refine Ev.pos (by simp) (Ev.succ ?_)
      simp only [spec_HeapOk.j0]
      exact Ev.neg (by simp) (Ev.bind (heads_yes hl sz hb).1 e1)
    · unfold impl_HeapOk.f
      simp only [in_eq, Option.bind_some, decide_eq_true h0, decide_eq_false hg]
      refine Ev.bind (heads_yes hl sz hb).2 (Ev.pos (by simp) (Ev.pos (by simp) (Ev.succ ?_)))
      simp only [impl_HeapOk.j0]
      exact Ev.neg (by simp) e2
  · obtain ⟨a, b, _, p, q⟩ := heads_no hl sz h
    refine ⟨false, ?_, ?_, by constructor; intro h; cases h; intro h'; obtain ⟨_, _, hs, hb, _⟩ := h'; exact absurd ⟨hs, hb⟩ h⟩
    · unfold spec_HeapOk.f
      simp only [l1In_eq, Option.bind_some, decide_eq_true h0, decide_eq_false hg]
      refine Ev.pos (by simp) (Ev.succ ?_)
      simp only [spec_HeapOk.j0]
      refine Ev.neg (by simp) (Ev.bind p (Ev.succ ?_))
      simp only [spec_HeapOk.l0]
      by_cases hz : (0 : Int) < (l.length : Int)
      · exact Ev.pos hz (Ev.neg (by simp) (Ev.of rfl))
      · exact Ev.neg hz (Ev.of rfl)
    · unfold impl_HeapOk.f
      simp only [in_eq, Option.bind_some]
      refine Ev.bind q (Ev.neg (by simp) (Ev.succ ?_))
      simp only [impl_HeapOk.j0]
      exact Ev.pos (by simp) (Ev.of rfl)
theorem any_all (hs : List Bool) (q : S67 → Option Bool) (hq : ∀ w, q w = some (!wOk hs w)) : ∀ l, anyF q l = some (!(l.all (wOk hs)))
  | [] => rfl
  | x :: l => by
    unfold anyF
    rw [hq]
    simp only [Option.bind_some, List.all_cons]
    cases wOk hs x with
    | true => simp [any_all hs q hq l]
    | false => simp
theorem specAlloc_l0 (fs l l' : List S67) (hs : List Bool) (sz sz' a b : Int) (hh : hs.length ≤ 2000000) (hf : fs.length ≤ 2000000) (hl : l'.length ≤ 2000000) (d : Nat) : ∀ i : Nat, i + d = fs.length →
    Ev (fun k => spec_Alloc.l0 k fs hs i sz l a b sz' l') (if (fs.drop i).all (wOk hs) = true then (sz', l' ++ [(⟨a, b⟩ : S67)] ++ fs, 4, (l.length : Int), true) else (sz', l', 0, 0, false)) := by
  induction d with
  | zero =>
    intro i hi
    rw [List.drop_of_length_le (by omega)]
    simp only [List.all_nil, if_true]
    refine Ev.succ ?_
    simp only [spec_Alloc.l0]
    refine Ev.neg (by omega) (Ev.pos (by omega) (Ev.obind rfl (Ev.pos (by simp; omega) (Ev.of rfl))))
  | succ d ih =>
    intro i hi
    have hlt : i < fs.length := by omega
    have e := ih (i + 1) (by omega)
    rw [List.drop_eq_getElem_cons hlt, List.all_cons]
    refine Ev.succ ?_
    simp only [spec_Alloc.l0]
    rw [rd67 fs i hlt, w64 (by omega) (by omega), show (i : Int) + 1 = ((i + 1 : Nat) : Int) from by omega]
    refine Ev.pos (by omega) (Ev.pos (by omega) (Ev.obind (words hs hh fs[i]).1 ?_))
    cases wOk hs fs[i] with
    | true => simpa using e
    | false => exact Ev.neg (by simp) (Ev.of (by simp))
def Put (sz : Int) (l : List S67) (hd : S67) (fs : List S67) (r : Int × List S67 × Int × Int × Bool) : Prop :=
  r = (sz, l, 0, 0, false) ∨ (r = (sz, l ++ [hd] ++ fs, 4, (l.length : Int), true) ∧ okH sz l ∧ fld hd = fs.length ∧ (l.length : Int) + fs.length + 1 ≤ sz ∧ ∃ hs, Bl l hs ∧ fs.all (wOk hs) = true)
theorem alloc (sz : Int) (l fs : List S67) (hd : S67) (hl : Small l) (hf : Small fs) (hh : hd.f1 < 9223372036854775808) :
    ∃ r, Ev (fun k => spec_Alloc.f k sz l hd.f0 hd.f1 fs) r ∧ Ev (fun k => impl_Alloc.f k sz l hd.f0 hd.f1 fs) r ∧ Put sz l hd fs r := by
  have hl1 := hl.1
  have hf1 := hf.1
  obtain ⟨b, e1, e2, hb⟩ := heapOk l hl sz
  have ecopy : spec_l12Copy.f sz l = some (sz, l) := by
    unfold spec_l12Copy.f
    simp only [Option.bind_some, List.nil_append, List.length_nil]
    rw [if_pos (by omega)]
  have eclone : impl_cloneHeap.f sz l = some (sz, l) := by
    unfold impl_cloneHeap.f impl_Word_78.f
    rw [if_pos (by omega)]
    rfl
  have jt : ∀ x, Ev (fun k => spec_Alloc.j0 k fs true sz l hd.f0 hd.f1 x l) (x, l, 0, 0, false) := fun x => by
    refine Ev.succ ?_
    simp only [spec_Alloc.j0]
    exact Ev.pos (by simp) (Ev.of rfl)
  by_cases hbt : b = true
  case neg =>
    refine ⟨(sz, l, 0, 0, false), ?_, ?_, .inl rfl⟩
    · unfold spec_Alloc.f
      exact Ev.obind ecopy (Ev.bind e1 (Ev.neg hbt (jt sz)))
    · unfold impl_Alloc.f
      exact Ev.obind eclone (Ev.bind e2 (Ev.neg hbt (Ev.of rfl)))
  have hok := hb.1 hbt
  by_cases hn : fld hd = (fs.length : Int)
  case neg =>
    refine ⟨(sz, l, 0, 0, false), ?_, ?_, .inl rfl⟩
    · unfold spec_Alloc.f
      exact Ev.obind ecopy (Ev.bind e1 (Ev.pos hbt (Ev.bind (spec_fields hd) (Ev.neg hn (jt sz)))))
    · unfold impl_Alloc.f
      exact Ev.obind eclone (Ev.bind e2 (Ev.pos hbt (Ev.bind (impl_fields hd hh) (Ev.neg hn (Ev.of rfl)))))
  obtain ⟨⟨s0, s1⟩, hlen, hs, hbl, hws⟩ := hok
  have hhs := hbl.len
  have ew : Ev (fun k => impl_wordsOk.f k sz l fs) (fs.all (wOk hs)) := by
    unfold impl_wordsOk.f
    refine Ev.bind (heads_yes hl sz hbl).2 (Ev.pos (by simp) ?_)
    refine Ev.obind (any_all hs _ (fun w => ?_) fs) (Ev.of (by simp))
    rw [(words hs (by omega) w).2]
    rfl
  have es := specAlloc_l0 fs l l hs sz sz hd.f0 hd.f1 (by omega) (by omega) (by omega) fs.length 0 (by omega)
  rw [List.drop_zero] at es
  have wsz : wrap64 (wrap64 ((l.length : Int) + (fs.length : Int)) + 1) = (l.length : Int) + fs.length + 1 := by
    rw [w64 (n := (l.length : Int) + fs.length) (by omega) (by omega), w64 (by omega) (by omega)]
  by_cases hroom : (l.length : Int) + fs.length + 1 > sz
  · refine ⟨(sz, l, 0, 0, false), ?_, ?_, .inl rfl⟩
    · unfold spec_Alloc.f
      refine Ev.obind ecopy (Ev.bind e1 (Ev.pos hbt (Ev.bind (spec_fields hd) (Ev.pos hn ?_))))
      rw [wsz, decide_eq_true hroom]
      exact jt sz
    · unfold impl_Alloc.f
      refine Ev.obind eclone (Ev.bind e2 (Ev.pos hbt (Ev.bind (impl_fields hd hh) (Ev.pos hn (Ev.bind ew ?_)))))
      cases hall : fs.all (wOk hs) with
      | true =>
        refine Ev.pos (by simp) ?_
        rw [wsz]
        exact Ev.pos hroom (Ev.of rfl)
      | false => exact Ev.neg (by simp) (Ev.of rfl)
  · refine ⟨if fs.all (wOk hs) = true then (sz, l ++ [hd] ++ fs, 4, (l.length : Int), true) else (sz, l, 0, 0, false), ?_, ?_, ?_⟩
    · unfold spec_Alloc.f
      refine Ev.obind ecopy (Ev.bind e1 (Ev.pos hbt (Ev.bind (spec_fields hd) (Ev.pos hn ?_))))
      rw [wsz, decide_eq_false hroom]
      refine Ev.succ ?_
      simp only [spec_Alloc.j0]
      exact Ev.neg (by simp) (Ev.bind (heads_yes hl sz hbl).1 es)
    · unfold impl_Alloc.f
      refine Ev.obind eclone (Ev.bind e2 (Ev.pos hbt (Ev.bind (impl_fields hd hh) (Ev.pos hn (Ev.bind ew ?_)))))
      cases hall : fs.all (wOk hs) with
      | true =>
        refine Ev.pos (by simp) ?_
        rw [wsz]
        exact Ev.neg hroom (Ev.pos (by dsimp only; omega) (Ev.obind rfl (Ev.pos (by simp; omega) (Ev.of (by simp)))))
      | false => exact Ev.neg (by simp) (Ev.of (by simp))
    · cases hall : fs.all (wOk hs) with
      | true => exact .inr ⟨by simp, ⟨⟨s0, s1⟩, hlen, hs, hbl, hws⟩, hn, by omega, hs, hbl, hall⟩
      | false => exact .inl (by simp)
theorem put_ok {sz : Int} {l fs : List S67} {hd : S67} (h : okH sz l) (hn : fld hd = fs.length) (hroom : (l.length : Int) + fs.length + 1 ≤ sz) {hs : List Bool} (hb : Bl l hs) (hw : fs.all (wOk hs) = true) : okH sz (l ++ [hd] ++ fs) := by
  obtain ⟨hsz, hlen, ms, hm, hms⟩ := h
  obtain rfl := hb.det hm
  have hlen2 := hb.len
  refine ⟨hsz, by simp; omega, hs ++ (true :: List.replicate fs.length false), ?_, ?_⟩
  · have := hb.append (Bl.one hd fs hn)
    simpa using this
  · intro i hi
    simp at hi
    by_cases c1 : i < l.length
    · have e : (l ++ [hd] ++ fs)[i]'(by simp; omega) = l[i] := by
        rw [List.getElem_append_left (by simp; omega), List.getElem_append_left c1]
      rcases hms i c1 with h | h
      · left
        simp only [List.getD_eq_getElem?_getD] at h ⊢
        rw [List.getElem?_append_left (by omega)]
        exact h
      · right
        rw [e]
        exact wOk_append _ _ _ h
    · by_cases c2 : i = l.length
      · left
        subst c2
        simp only [List.getD_eq_getElem?_getD]
        rw [List.getElem?_append_right (by omega), hlen2]
        simp
      · right
        have e : (l ++ [hd] ++ fs)[i]'(by simp; omega) = fs[i - (l.length + 1)]'(by omega) := by
          rw [List.getElem_append_right (by simp; omega)]
          simp
        rw [e]
        refine wOk_append _ _ _ ?_
        rw [List.all_eq_true] at hw
        exact hw _ (List.getElem_mem _)
def Wd (l : List S67) : Prop := ∀ x ∈ l, -1 ≤ x.f1 ∧ x.f1 ≤ 1000000
theorem Wd.small {l : List S67} (h : Wd l) (hl : l.length ≤ 1000000) : Small l := ⟨hl, fun x hx => by have := (h x hx).2; omega⟩
theorem Wd.nil : Wd [] := fun x hx => by cases hx
theorem Wd.app {l m : List S67} (h : Wd l) (g : Wd m) : Wd (l ++ m) := fun x hx => by
  rcases List.mem_append.1 hx with hx | hx
  · exact h x hx
  · exact g x hx
theorem Wd.one {w : S67} (h : -1 ≤ w.f1 ∧ w.f1 ≤ 1000000) : Wd [w] := fun x hx => by
  rw [List.mem_singleton] at hx; subst hx; exact h
theorem Wd.set {l : List S67} (h : Wd l) (i : Nat) {w : S67} (hw : -1 ≤ w.f1 ∧ w.f1 ≤ 1000000) : Wd (l.set i w) := fun x hx => by
  rcases List.mem_or_eq_of_mem_set hx with hx | rfl
  · exact h x hx
  · exact hw
theorem l1Int_some (s0 : List Int) (s1 s2 : Int) (l : List Int) (h : 0 ≤ s1) (hl : s0.length ≤ 1048576) (h0 : 0 < l.length) (h1 : l.length ≤ 1000) :
    ∃ v a b, spec_l1Int.f s0 s1 s2 l = some (v, a, b) ∧ v ∈ l ∧ 0 ≤ a := by
  obtain ⟨v, a, b, e, v0, v1, _, ha⟩ := l1Below_some s0 s1 s2 (l.length : Int) h hl (by omega)
  have v2 := v1 (by omega)
  unfold spec_l1Int.f
  rw [e]
  simp only [Option.bind_some]
  rw [if_pos v0, if_pos v2]
  refine ⟨_, a, b, rfl, ?_, ha⟩
  have : rd l v = l[v.toNat]'(by omega) := by
    simp [rd, List.getD_eq_getElem?_getD, show v.toNat < l.length by omega]
  rw [this]
  exact List.getElem_mem _
theorem l12Head_some (s0 : List Int) (s1 s2 : Int) (h : 0 ≤ s1) (hl : s0.length ≤ 1048576) :
    ∃ (w : S67) (a b : Int), spec_l12Head.f s0 s1 s2 = some (w.f0, w.f1, a, b) ∧ 0 ≤ fld w ∧ fld w < 100 ∧ (-1 ≤ w.f1 ∧ w.f1 ≤ 1000000) ∧ 0 ≤ a := by
  obtain ⟨v, a, b, e, v0, v1, _, ha⟩ := l1Below_some s0 s1 s2 3 h hl (by omega)
  unfold spec_l12Head.f
  rw [e]
  simp only [Option.bind_some]
  by_cases c0 : v = 0
  · rw [if_pos c0]
    exact ⟨⟨5, 0⟩, a, b, rfl, by decide, by decide, by decide, ha⟩
  · rw [if_neg c0]
    by_cases c1 : v = 1
    · rw [if_pos c1]
      exact ⟨⟨6, 0⟩, a, b, rfl, by decide, by decide, by decide, ha⟩
    · rw [if_neg c1]
      obtain ⟨u, a2, b2, e2, u0, u1, _, ha2⟩ := l1Below_some s0 a b 5 ha hl (by omega)
      rw [e2]
      simp only [Option.bind_some]
      obtain ⟨t, a3, b3, e3, t0, t1, _, ha3⟩ := l1Below_some s0 a2 b2 4 ha2 hl (by omega)
      rw [e3]
      simp only [Option.bind_some]
      have u2 := u1 (by omega)
      have t2 := t1 (by omega)
      rw [w64 (n := 100 * u) (by omega) (by omega), w64 (by omega) (by omega)]
      refine ⟨⟨7, 100 * u + t⟩, a3, b3, rfl, ?_, ?_, by dsimp only; omega, ha3⟩
      · unfold fld; simp; split <;> omega
      · unfold fld; simp; split <;> omega
theorem l1Once_some (s0 : List Int) (s1 s2 n : Int) (h : 0 ≤ s1) (hl : s0.length ≤ 1048576) (hn : n ≤ 1000000) : ∃ v a b, spec_l1Once.f s0 s1 s2 n = some (v, a, b) ∧ 0 ≤ a := by
  obtain ⟨v, a, b, e, v0, v1, _, ha⟩ := l1Below_some s0 s1 s2 n h hl hn
  unfold spec_l1Once.f
  rw [e]
  exact ⟨_, a, b, rfl, ha⟩
theorem some_j1 (s0 : List Int) (hl : s0.length ≤ 1048576) (x5 : List Int) (h5 : x5.length ≤ 1000000) (hx : ∀ e ∈ x5, 0 ≤ e ∧ e ≤ 1000000) (q : Bool) (hq : q = true → 0 < x5.length) (s1 s2 : Int) (h : 0 ≤ s1) :
    ∃ (w : S67) (a b : Int), Ev (fun k => spec_l12Some.j1 k x5 q s0 s1 s2) (w.f0, w.f1, a, b) ∧ (-1 ≤ w.f1 ∧ w.f1 ≤ 1000000) ∧ 0 ≤ a := by
  cases q with
  | true =>
    have hp := hq rfl
    obtain ⟨v, a, b, e, v0, v1, _, ha⟩ := l1Below_some s0 s1 s2 (x5.length : Int) h hl (by omega)
    have v2 := v1 (by omega)
    have hm : rd x5 v ∈ x5 := by
      have : rd x5 v = x5[v.toNat]'(by omega) := by simp [rd, List.getD_eq_getElem?_getD, show v.toNat < x5.length by omega]
      rw [this]; exact List.getElem_mem _
    refine ⟨⟨4, rd x5 v⟩, a, b, Ev.succ ?_, by have := hx _ hm; dsimp only; omega, ha⟩
    simp only [spec_l12Some.j1]
    exact Ev.pos (by simp) (Ev.obind e (Ev.pos v0 (Ev.pos v2 (Ev.of rfl))))
  | false =>
    obtain ⟨v, a, b, e, v0, v1, _, ha⟩ := l1Below_some s0 s1 s2 4 h hl (by omega)
    by_cases c0 : v = 0
    · obtain ⟨u, a2, b2, e2, u0, u1, _, ha2⟩ := l1Below_some s0 a b 2 ha hl (by omega)
      refine ⟨⟨2, u⟩, a2, b2, Ev.succ ?_, by have := u1 (by omega); dsimp only; omega, ha2⟩
      simp only [spec_l12Some.j1]
      exact Ev.neg (by simp) (Ev.obind e (Ev.pos c0 (Ev.obind e2 (Ev.of rfl))))
    · by_cases c1 : v = 1
      · refine ⟨⟨3, 0⟩, a, b, Ev.succ ?_, by dsimp only; omega, ha⟩
        simp only [spec_l12Some.j1]
        exact Ev.neg (by simp) (Ev.obind e (Ev.neg c0 (Ev.pos c1 (Ev.of rfl))))
      · obtain ⟨u, a2, b2, e2, u0, u1, _, ha2⟩ := l1Below_some s0 a b 9 ha hl (by omega)
        refine ⟨⟨1, u⟩, a2, b2, Ev.succ ?_, by have := u1 (by omega); dsimp only; omega, ha2⟩
        simp only [spec_l12Some.j1]
        exact Ev.neg (by simp) (Ev.obind e (Ev.neg c0 (Ev.neg c1 (Ev.obind e2 (Ev.of rfl)))))
theorem some_l0 (s0 : List Int) (hl : s0.length ≤ 1048576) (x1 : List Bool) (h1 : x1.length ≤ 1000000) (d : Nat) : ∀ (i : Nat) (x5 : List Int) (s1 s2 : Int), i + d = x1.length → x5.length ≤ i → (∀ e ∈ x5, 0 ≤ e ∧ e ≤ 1000000) → 0 ≤ s1 →
    ∃ (w : S67) (a b : Int), Ev (fun k => spec_l12Some.l0 k x1 x5 i s0 s1 s2) (w.f0, w.f1, a, b) ∧ (-1 ≤ w.f1 ∧ w.f1 ≤ 1000000) ∧ 0 ≤ a := by
  induction d with
  | zero =>
    intro i x5 s1 s2 hi h5 hx h
    by_cases hp : (x5.length : Int) > 0
    · obtain ⟨q, a, b, e, ha⟩ := l1Once_some s0 s1 s2 2 h hl (by omega)
      obtain ⟨w, a2, b2, e2, hw, ha2⟩ := some_j1 s0 hl x5 (by omega) hx q (fun _ => by omega) a b ha
      refine ⟨w, a2, b2, Ev.succ ?_, hw, ha2⟩
      simp only [spec_l12Some.l0]
      exact Ev.neg (by omega) (Ev.pos hp (Ev.obind e e2))
    · obtain ⟨w, a2, b2, e2, hw, ha2⟩ := some_j1 s0 hl x5 (by omega) hx false (fun h => by cases h) s1 s2 h
      refine ⟨w, a2, b2, Ev.succ ?_, hw, ha2⟩
      simp only [spec_l12Some.l0]
      exact Ev.neg (by omega) (Ev.neg hp e2)
  | succ d ih =>
    intro i x5 s1 s2 hi h5 hx h
    by_cases hr : rdOf false x1 (i : Int) = true
    · obtain ⟨w, a2, b2, e2, hw, ha2⟩ := ih (i + 1) (x5 ++ [(i : Int)]) s1 s2 (by omega) (by simp; omega) (fun e he => by
        rcases List.mem_append.1 he with he | he
        · exact hx e he
        · rw [List.mem_singleton] at he; omega) h
      refine ⟨w, a2, b2, Ev.succ ?_, hw, ha2⟩
      simp only [spec_l12Some.l0]
      rw [w64 (by omega) (by omega)]
      exact Ev.pos (by omega) (Ev.pos (by omega) (Ev.pos hr (Ev.pos (by omega) e2)))
    · obtain ⟨w, a2, b2, e2, hw, ha2⟩ := ih (i + 1) x5 s1 s2 (by omega) (by omega) hx h
      refine ⟨w, a2, b2, Ev.succ ?_, hw, ha2⟩
      simp only [spec_l12Some.l0]
      rw [w64 (by omega) (by omega)]
      exact Ev.pos (by omega) (Ev.pos (by omega) (Ev.neg hr e2))
theorem some_some (s0 : List Int) (hl : s0.length ≤ 1048576) (x1 : List Bool) (h1 : x1.length ≤ 1000000) (s1 s2 : Int) (h : 0 ≤ s1) :
    ∃ (w : S67) (a b : Int), Ev (fun k => spec_l12Some.f k s0 s1 s2 x1) (w.f0, w.f1, a, b) ∧ (-1 ≤ w.f1 ∧ w.f1 ≤ 1000000) ∧ 0 ≤ a := by
  unfold spec_l12Some.f
  exact some_l0 s0 hl x1 h1 x1.length 0 [] s1 s2 (by omega) (by simp) (fun e he => by cases he) h
def Hp (n : Nat) (r : Int × List S67 × Int × Int) : Prop := r.2.1.length ≤ n ∧ Wd r.2.1 ∧ 0 ≤ r.2.2.1
theorem draw_l2 (s0 : List Int) (hl : s0.length ≤ 1048576) (N : Nat) (hN : N ≤ 100000) (hs : List Bool) (sz : Int) (d : Nat) : ∀ (l : List S67) (s1 s2 : Int), hs.length = l.length → l.length ≤ N → Wd l → 0 ≤ s1 → d ≤ 1000 →
    ∃ r, Hp N r ∧ r.1 = sz ∧ Ev (fun k => spec_l12Draw.l2 k hs (d : Int) s0 s1 s2 sz l) r := by
  induction d with
  | zero =>
    intro l s1 s2 hh hlen hw h hd
    refine ⟨(sz, l, s1, s2), ⟨hlen, hw, h⟩, rfl, Ev.succ ?_⟩
    simp only [spec_l12Draw.l2]
    refine Ev.neg (by omega) (Ev.succ ?_)
    simp only [spec_l12Draw.j3]
    exact Ev.neg (by simp) (Ev.of rfl)
  | succ d ih =>
    intro l s1 s2 hh hlen hw h hd
    by_cases hp : (l.length : Int) > 0
    case neg =>
      refine ⟨(sz, l, s1, s2), ⟨hlen, hw, h⟩, rfl, Ev.succ ?_⟩
      simp only [spec_l12Draw.l2, decide_eq_false hp]
      refine Ev.pos (by omega) (Ev.succ ?_)
      simp only [spec_l12Draw.j3]
      exact Ev.neg (by simp) (Ev.of rfl)
    obtain ⟨v, a, b, e, v0, v1, _, ha⟩ := l1Below_some s0 s1 s2 (l.length : Int) h hl (by omega)
    have v2 := v1 (by omega)
    by_cases hr : rdOf false hs v = true
    · obtain ⟨r, g1, g2, g3⟩ := ih l a b hh hlen hw ha (by omega)
      refine ⟨r, g1, g2, Ev.succ ?_⟩
      simp only [spec_l12Draw.l2, decide_eq_true hp]
      refine Ev.pos (by omega) (Ev.succ ?_)
      simp only [spec_l12Draw.j3]
      rw [w64 (by omega) (by omega), show ((d + 1 : Nat) : Int) - 1 = (d : Int) from by omega]
      exact Ev.pos (by simp) (Ev.obind e (Ev.pos v0 (Ev.pos (by omega) (Ev.pos hr g3))))
    · obtain ⟨w, a2, b2, e2, hw2, ha2⟩ := some_some s0 hl hs (by omega) a b ha
      obtain ⟨r, g1, g2, g3⟩ := ih (l.set v.toNat w) a2 b2 (by simpa using hh) (by simpa using hlen) (hw.set _ hw2) ha2 (by omega)
      refine ⟨r, g1, g2, Ev.succ ?_⟩
      simp only [spec_l12Draw.l2, decide_eq_true hp]
      refine Ev.pos (by omega) (Ev.succ ?_)
      simp only [spec_l12Draw.j3]
      rw [w64 (by omega) (by omega), show ((d + 1 : Nat) : Int) - 1 = (d : Int) from by omega]
      exact Ev.pos (by simp) (Ev.obind e (Ev.pos v0 (Ev.pos (by omega) (Ev.neg hr (Ev.bind e2 (Ev.pos v2 g3))))))
theorem draw_l1 (s0 : List Int) (hl : s0.length ≤ 1048576) (hs : List Bool) (h7 : hs.length ≤ 1000000) (x6 sz : Int) (l : List S67) (hd : S67) (G : Int × List S67 × Int × Int → Prop) (n : Nat)
    (cont : ∀ (fs : List S67) (s1 s2 : Int), fs.length = n → Wd fs → 0 ≤ s1 → ∃ r, G r ∧ Ev (fun k => (spec_Alloc.f k sz l hd.f0 hd.f1 fs).bind fun bt => spec_l12Draw.l0 k (wrap64 (x6 - 1)) s0 s1 s2 bt.1 bt.2.1) r) (hn : n ≤ 1000) (d : Nat) :
    ∀ (fs : List S67) (s1 s2 : Int), fs.length + d = n → Wd fs → 0 ≤ s1 → ∃ r, G r ∧ Ev (fun k => spec_l12Draw.l1 k x6 hs fs (d : Int) s0 s1 s2 sz l hd.f0 hd.f1) r := by
  induction d with
  | zero =>
    intro fs s1 s2 hf hw h
    obtain ⟨r, g1, g2⟩ := cont fs s1 s2 (by omega) hw h
    refine ⟨r, g1, Ev.succ ?_⟩
    simp only [spec_l12Draw.l1]
    exact Ev.neg (by omega) g2
  | succ d ih =>
    intro fs s1 s2 hf hw h
    obtain ⟨w, a2, b2, e2, hw2, ha2⟩ := some_some s0 hl hs h7 s1 s2 h
    obtain ⟨r, g1, g2⟩ := ih (fs ++ [w]) a2 b2 (by simp; omega) (hw.app (Wd.one hw2)) ha2
    refine ⟨r, g1, Ev.succ ?_⟩
    simp only [spec_l12Draw.l1]
    rw [w64 (by omega) (by omega), show ((d + 1 : Nat) : Int) - 1 = (d : Int) from by omega]
    exact Ev.pos (by omega) (Ev.bind e2 (Ev.pos (by omega) g2))
theorem draw_l0 (s0 : List Int) (hl : s0.length ≤ 1048576) (N : Nat) (hN : N ≤ 100000) (sz : Int) (d : Nat) : ∀ (l : List S67) (s1 s2 : Int), l.length + 200 * d ≤ N → Wd l → 0 ≤ s1 → d ≤ 1000 →
    ∃ r, Hp N r ∧ Ev (fun k => spec_l12Draw.l0 k (d : Int) s0 s1 s2 sz l) r := by
  induction d with
  | zero =>
    intro l s1 s2 hlen hw h hd
    obtain ⟨hs, ok, hh, eh⟩ := heads_any (hw.small (by omega))
    obtain ⟨v, a, b, e, v0, v1, _, ha⟩ := l1Below_some s0 s1 s2 3 h hl (by omega)
    obtain ⟨n, rfl⟩ : ∃ n : Nat, v = n := ⟨v.toNat, by omega⟩
    obtain ⟨r, g1, _, g2⟩ := draw_l2 s0 hl N hN hs sz n l a b hh (by omega) hw ha (by have := v1 (by omega); omega)
    refine ⟨r, g1, Ev.succ ?_⟩
    simp only [spec_l12Draw.l0]
    exact Ev.neg (by omega) (Ev.bind eh (Ev.obind e g2))
  | succ d ih =>
    intro l s1 s2 hlen hw h hd
    obtain ⟨hs, ok, hh, eh⟩ := heads_any (hw.small (by omega))
    obtain ⟨w, a, b, e, f0, f1, hwd, ha⟩ := l12Head_some s0 s1 s2 h hl
    obtain ⟨n, en⟩ : ∃ n : Nat, fld w = n := ⟨(fld w).toNat, by omega⟩
    have ef := spec_fields w
    rw [en] at ef
    obtain ⟨r, g1, g2⟩ := draw_l1 s0 hl hs (by omega) ((d + 1 : Nat) : Int) sz l w (Hp N) n (fun fs s1' s2' hf hwf h' => by
      obtain ⟨p, p1, _, p2⟩ := alloc sz l fs w (hw.small (by omega)) (hwf.small (by omega)) (by omega)
      rcases p2 with rfl | ⟨rfl, _⟩
      · obtain ⟨r, q1, q2⟩ := ih l s1' s2' (by omega) hw h' (by omega)
        refine ⟨r, q1, Ev.bind p1 ?_⟩
        rw [w64 (by omega) (by omega), show ((d + 1 : Nat) : Int) - 1 = (d : Int) from by omega]
        exact q2
      · obtain ⟨r, q1, q2⟩ := ih (l ++ [w] ++ fs) s1' s2' (by simp; omega) ((hw.app (Wd.one hwd)).app hwf) h' (by omega)
        refine ⟨r, q1, Ev.bind p1 ?_⟩
        rw [w64 (by omega) (by omega), show ((d + 1 : Nat) : Int) - 1 = (d : Int) from by omega]
        exact q2) (by omega) n [] a b (by simp) Wd.nil ha
    refine ⟨r, g1, Ev.succ ?_⟩
    simp only [spec_l12Draw.l0]
    exact Ev.pos (by omega) (Ev.bind eh (Ev.obind e (Ev.bind ef g2)))
theorem draw_some (s0 : List Int) (hl : s0.length ≤ 1048576) (s1 s2 n : Int) (h : 0 ≤ s1) (hn : n ≤ 100) : ∃ r, Hp 30000 r ∧ Ev (fun k => spec_l12Draw.f k s0 s1 s2 n) r := by
  obtain ⟨v, a, b, e, hv, ha⟩ := l1Int_some s0 s1 s2 [40, 100, 12, 5000] h hl (by simp) (by simp)
  obtain ⟨sz, hsz⟩ : ∃ sz, spec_HeapNew.f v = some (sz, ([] : List S67)) := by
    unfold spec_HeapNew.f
    rw [l1In_eq]
    simp only [Option.bind_some]
    split <;> exact ⟨_, rfl⟩
  obtain ⟨u, a2, b2, e2, u0, u1, u3, ha2⟩ := l1Below_some s0 a b n ha hl (by omega)
  obtain ⟨m, rfl⟩ : ∃ m : Nat, u = m := ⟨u.toNat, by omega⟩
  have hm : m ≤ 100 := by
    by_cases c : 0 < n
    · have := u1 c; omega
    · have := u3 (by omega); omega
  obtain ⟨r, g1, g2⟩ := draw_l0 s0 hl 30000 (by omega) sz m [] a2 b2 (by simp; omega) Wd.nil ha2 (by omega)
  refine ⟨r, g1, ?_⟩
  unfold spec_l12Draw.f
  exact Ev.obind e (Ev.obind hsz (Ev.obind e2 g2))
theorem drawAny_some (s0 : List Int) (hl : s0.length ≤ 1048576) (s1 s2 n : Int) (h : 0 ≤ s1) (hn : n ≤ 100) : ∃ r, Hp 30000 r ∧ Ev (fun k => spec_l12DrawAny.f k s0 s1 s2 n) r := by
  obtain ⟨⟨sz, l, t1, t2⟩, ⟨g0, g1, g2⟩, g3⟩ := draw_some s0 hl s1 s2 n h hn
  simp only at g0 g1 g2
  obtain ⟨v, a, b, e, v0, v1, _, ha⟩ := l1Below_some s0 t1 t2 12 g2 hl (by omega)
  by_cases c0 : v = 0
  · obtain ⟨u, a2, b2, e2, hu, ha2⟩ := l1Int_some s0 a b [0, 5001, (-1)] ha hl (by simp) (by simp)
    refine ⟨(u, l, a2, b2), ⟨g0, g1, ha2⟩, ?_⟩
    unfold spec_l12DrawAny.f
    exact Ev.bind g3 (Ev.obind e (Ev.pos c0 (Ev.obind e2 (Ev.of rfl))))
  by_cases c1 : v = 1
  case neg =>
    refine ⟨(sz, l, a, b), ⟨g0, g1, ha⟩, ?_⟩
    unfold spec_l12DrawAny.f
    exact Ev.bind g3 (Ev.obind e (Ev.neg c0 (Ev.neg c1 (Ev.of rfl))))
  by_cases hp : (l.length : Int) > 0
  case neg =>
    refine ⟨(sz, l, a, b), ⟨g0, g1, ha⟩, ?_⟩
    unfold spec_l12DrawAny.f
    exact Ev.bind g3 (Ev.obind e (Ev.neg c0 (Ev.pos c1 (Ev.neg hp (Ev.of rfl)))))
  obtain ⟨i, a2, b2, e2, i0, i1, _, ha2⟩ := l1Below_some s0 a b (l.length : Int) ha hl (by omega)
  obtain ⟨p, a3, b3, e3, p0, p1, _, ha3⟩ := l1Below_some s0 a2 b2 9 ha2 hl (by omega)
  obtain ⟨q, a4, b4, e4, q0, q1, _, ha4⟩ := l1Below_some s0 a3 b3 5 ha3 hl (by omega)
  have i2 := i1 (by omega)
  have q2 := q1 (by omega)
  refine ⟨(sz, l.set i.toNat ⟨p, q⟩, a4, b4), ⟨by simpa using g0, g1.set _ (by dsimp only; omega), ha4⟩, ?_⟩
  unfold spec_l12DrawAny.f
  exact Ev.bind g3 (Ev.obind e (Ev.neg c0 (Ev.pos c1 (Ev.pos hp (Ev.obind e2 (Ev.obind e3 (Ev.obind e4 (Ev.pos i0 (Ev.pos i2 (Ev.of rfl))))))))))
theorem drawAlloc_l0 (s0 : List Int) (hl : s0.length ≤ 1048576) (hs : List Bool) (h7 : hs.length ≤ 1000000) (sz : Int) (l : List S67) (p q : Int) (d : Nat) : ∀ (fs : List S67) (s1 s2 : Int), fs.length + d ≤ 1000 → Wd fs → 0 ≤ s1 →
    ∃ gs, Wd gs ∧ gs.length ≤ 1001 ∧ Ev (fun k => spec_DrawAlloc.l0 k hs fs (d : Int) s0 s1 s2 sz l p q) (sz, l, p, q, gs) := by
  induction d with
  | zero =>
    intro fs s1 s2 hf hw h
    obtain ⟨v, a, b, e, ha⟩ := l1Once_some s0 s1 s2 8 h hl (by omega)
    cases v with
    | true =>
      obtain ⟨u, a2, b2, e2, u0, u1, _, ha2⟩ := l1Below_some s0 a b 6 ha hl (by omega)
      refine ⟨fs ++ [⟨u, 0⟩], hw.app (Wd.one (by dsimp only; omega)), by simp; omega, Ev.succ ?_⟩
      simp only [spec_DrawAlloc.l0]
      exact Ev.neg (by omega) (Ev.obind e (Ev.pos (by simp) (Ev.obind e2 (Ev.pos (by omega) (Ev.of rfl)))))
    | false =>
      refine ⟨fs, hw, by omega, Ev.succ ?_⟩
      simp only [spec_DrawAlloc.l0]
      exact Ev.neg (by omega) (Ev.obind e (Ev.neg (by simp) (Ev.of rfl)))
  | succ d ih =>
    intro fs s1 s2 hf hw h
    obtain ⟨w, a2, b2, e2, hw2, ha2⟩ := some_some s0 hl hs h7 s1 s2 h
    obtain ⟨gs, g1, g2, g3⟩ := ih (fs ++ [w]) a2 b2 (by simp; omega) (hw.app (Wd.one hw2)) ha2
    refine ⟨gs, g1, g2, Ev.succ ?_⟩
    simp only [spec_DrawAlloc.l0]
    rw [w64 (by omega) (by omega), show ((d + 1 : Nat) : Int) - 1 = (d : Int) from by omega]
    exact Ev.pos (by omega) (Ev.bind e2 (Ev.pos (by omega) g3))
theorem drawAlloc (s0 : List Int) (hl : s0.length ≤ 1048576) : ∃ (sz : Int) (l : List S67) (w : S67) (gs : List S67), l.length ≤ 30000 ∧ Wd l ∧ (-1 ≤ w.f1 ∧ w.f1 ≤ 1000000) ∧ Wd gs ∧ gs.length ≤ 1001 ∧ Ev (fun k => spec_DrawAlloc.f k s0) (sz, l, w.f0, w.f1, gs) := by
  obtain ⟨v, ev⟩ := l1New_l0 s0 hl s0.length (wrap64 (122122 + (s0.length : Int))) 0 (by omega) (by omega)
  have en : Ev (fun k => spec_l1New.f k s0) (s0, 0, v) := by unfold spec_l1New.f; exact ev
  obtain ⟨n, e1, hn⟩ : ∃ n, spec_l1Size.f s0 12 = some n ∧ n ≤ 100 := by
    unfold spec_l1Size.f
    have h1 : (0 : Int) ≤ (s0.length : Int) / 12 := Int.ediv_nonneg (by omega) (by omega)
    rw [w64 (n := (s0.length : Int) / 12) (by omega) (by omega), w64 (by omega) (by omega)]
    by_cases c : 3 + (s0.length : Int) / 12 > 12
    · rw [if_pos c]; exact ⟨_, rfl, by omega⟩
    · rw [if_neg c]; exact ⟨_, rfl, by omega⟩
  obtain ⟨⟨sz, l, t1, t2⟩, ⟨g0, g1, g2⟩, g3⟩ := drawAny_some s0 hl 0 v n (by omega) hn
  simp only at g0 g1 g2
  obtain ⟨hs, ok, hh, eh⟩ := heads_any (g1.small (by omega))
  obtain ⟨w, a, b, e, f0, f1, hwd, ha⟩ := l12Head_some s0 t1 t2 g2 hl
  obtain ⟨m, em⟩ : ∃ m : Nat, fld w = m := ⟨(fld w).toNat, by omega⟩
  have ef := spec_fields w
  rw [em] at ef
  obtain ⟨gs, q1, q2, q3⟩ := drawAlloc_l0 s0 hl hs (by omega) sz l w.f0 w.f1 m [] a b (by simp; omega) Wd.nil ha
  refine ⟨sz, l, w, gs, g0, g1, hwd, q1, q2, ?_⟩
  unfold spec_DrawAlloc.f
  exact Ev.bind en (Ev.obind e1 (Ev.bind g3 (Ev.bind eh (Ev.obind e (Ev.bind ef q3)))))
theorem law_l0 (l fs n : List S67) (hd : S67) (sz sz' : Int) (he : n = l ++ [hd] ++ fs) (hl : l.length ≤ 100000) (hf : fs.length ≤ 100000) (h1 : Ev (fun k => impl_HeapOk.f k sz' n) true) (h2 : Ev (fun k => impl_HeapOk.f k sz l) true) (d : Nat) : ∀ i : Nat, i + d = fs.length →
    Ev (fun k => laws_FnHeaps.l0 k fs i sz l sz' n 4 (l.length : Int)) true := by
  have hn : n.length = l.length + 1 + fs.length := by rw [he]; simp; omega
  induction d with
  | zero =>
    intro i hi
    refine Ev.succ ?_
    simp only [laws_FnHeaps.l0]
    exact Ev.neg (by omega) (Ev.bind h1 (Ev.pos rfl (Ev.bind h2 (Ev.of rfl))))
  | succ d ih =>
    intro i hi
    have hlt : i < fs.length := by omega
    refine Ev.succ ?_
    simp only [laws_FnHeaps.l0]
    have e1 : wrap64 (wrap64 ((l.length : Int) + 1) + (i : Int)) = ((l.length + 1 + i : Nat) : Int) := by
      rw [w64 (n := (l.length : Int) + 1) (by omega) (by omega), w64 (by omega) (by omega)]; omega
    have e2 : n[l.length + 1 + i]'(by omega) = fs[i] := by
      subst he
      rw [List.getElem_append_right (by simp)]
      simp
    rw [e1, rd67 n _ (by omega), rd67 fs i hlt, e2, w64 (by omega) (by omega), show (i : Int) + 1 = ((i + 1 : Nat) : Int) from by omega]
    exact Ev.pos (by omega) (Ev.pos (by omega) (Ev.pos (by omega) (Ev.pos (by omega) (Ev.neg (by simp) (ih (i + 1) (by omega))))))
theorem FnHeaps : laws_FnHeaps.Pure := by
  intro l0 _ _ _
  by_cases hbig : (l0.length : Int) > 1048576
  · refine ⟨0, ?_⟩
    unfold laws_FnHeaps.f laws_big.f
    rw [decide_eq_true hbig]
    rfl
  have hb : laws_big.f l0 = some false := by
    unfold laws_big.f
    rw [decide_eq_false hbig]
  obtain ⟨sz, l, w, gs, g0, g1, g2, g3, g4, g5⟩ := drawAlloc l0 (by omega)
  obtain ⟨r, e1, e2, hr⟩ := alloc sz l gs w (g1.small (by omega)) (g3.small (by omega)) (by omega)
  obtain ⟨b, h1, h2, hb2⟩ := heapOk l (g1.small (by omega)) sz
  suffices h : Ev (fun k => laws_FnHeaps.f k l0) true by
    obtain ⟨K, hK⟩ := h
    exact ⟨K, hK K (Nat.le_refl _)⟩
  unfold laws_FnHeaps.f
  refine Ev.obind hb (Ev.neg (by simp) (Ev.bind g5 (Ev.bind e2 (Ev.bind e1 (Ev.neg (by simp) (Ev.bind h2 (Ev.bind h1 (Ev.succ ?_))))))))
  simp only [bne_self_eq_false]
  rcases hr with rfl | ⟨rfl, hok, hn, hroom, hs, hbl, hw⟩
  · simp only [laws_FnHeaps.j0]
    exact Ev.neg (by simp) (Ev.neg (by simp) (Ev.pos (by simp) (Ev.of (by simp))))
  · have hlen : (l ++ [w] ++ gs).length = l.length + 1 + gs.length := by simp; omega
    have ebt : b = true := hb2.2 hok
    subst ebt
    obtain ⟨b', h1', h2', hb'⟩ := heapOk (l ++ [w] ++ gs) (((g1.app (Wd.one g2)).app g3).small (by omega)) sz
    have ebt' : b' = true := hb'.2 (put_ok hok hn hroom hbl hw)
    subst ebt'
    simp only [laws_FnHeaps.j0]
    have ew : wrap64 (wrap64 ((l.length : Int) + 1) + (gs.length : Int)) = (l.length : Int) + 1 + gs.length := by
      rw [w64 (n := (l.length : Int) + 1) (by omega) (by omega), w64 (by omega) (by omega)]
    have eg : rd_T67 (l ++ [w] ++ gs) (l.length : Int) = w := by
      rw [rd67 _ _ (by omega), List.getElem_append_left (by simp)]
      simp
    rw [ew, eg]
    refine Ev.neg (by simp) (Ev.pos (by simp) (Ev.pos (by omega) (Ev.pos (by simp) (Ev.pos (by simp) (Ev.pos (by omega) (Ev.pos (by omega) (Ev.succ ?_)))))))
    simp only [laws_FnHeaps.j1]
    exact Ev.neg (by simp) (law_l0 l gs _ w sz sz rfl (by omega) (by omega) h2' h2 gs.length 0 (by omega))
end Go.Proofs.Ytanobmanpnkccaa.Pure
