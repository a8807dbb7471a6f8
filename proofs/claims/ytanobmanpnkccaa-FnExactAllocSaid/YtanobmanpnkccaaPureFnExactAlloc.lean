/- The program's Alloc returns what the reference's returns, for all heaps, heads and fields (of at most 2^20 words; beyond that the law holds at once). -/
import Derived.Test.YtanobmanpnkccaaOFnExactAllocY
namespace Go.Proofs.Ytanobmanpnkccaa.Pure
open Go.RowKit Go.Proofs.Ytanobmanpnkccaa.OFnExactAlloc Go.Proofs.YtanobmanpnkccaaW.PrintWords Go.Proofs.YtanobmanpnkccaaW.PrintLast Go.Proofs.YtanobmanpnkccaaW.PrintMore
set_option linter.unusedVariables false
set_option linter.unusedSimpArgs false
def Ev {α : Type} (g : Nat → Option α) (r : α) : Prop := ∃ K, ∀ k, K ≤ k → g k = some r
theorem Ev.of {α : Type} {g : Option α} {a : α} (h : g = some a) : Ev (fun _ => g) a := ⟨0, fun _ _ => h⟩
theorem Ev.bind {α β : Type} {g : Nat → Option α} {f : Nat → α → Option β} {a : α} {b : β} (h : Ev g a) (h2 : Ev (fun k => f k a) b) : Ev (fun k => (g k).bind (f k)) b := by
  obtain ⟨K, e⟩ := h
  obtain ⟨L, e2⟩ := h2
  exact ⟨K + L, fun k hk => by simp only [e k (by omega), Option.bind_some]; exact e2 k (by omega)⟩
theorem Ev.obind {α β : Type} {g : Option α} {f : Nat → α → Option β} {a : α} {b : β} (h : g = some a) (h2 : Ev (fun k => f k a) b) : Ev (fun k => g.bind (f k)) b := by
  subst h; exact h2
theorem Ev.succ {α : Type} {g : Nat → Option α} {a : α} (h : Ev (fun k => g (k + 1)) a) : Ev g a := by
  obtain ⟨K, e⟩ := h
  exact ⟨K + 1, fun k hk => by have := e (k - 1) (by omega); simp only at this; rwa [show k - 1 + 1 = k from by omega] at this⟩
theorem Ev.pos {α : Type} {c : Prop} [Decidable c] {f g : Nat → Option α} {a : α} (hc : c) (h : Ev f a) : Ev (fun k => if c then f k else g k) a := by
  simp only [if_pos hc]; exact h
theorem Ev.neg {α : Type} {c : Prop} [Decidable c] {f g : Nat → Option α} {a : α} (hc : ¬ c) (h : Ev g a) : Ev (fun k => if c then f k else g k) a := by
  simp only [if_neg hc]; exact h

theorem w64 {n : Int} (h0 : -9223372036854775808 ≤ n) (h1 : n < 9223372036854775808) : wrap64 n = n := by
  unfold wrap64; omega

theorem in_eq (a b c : Int) : impl_in.f a b c = some (decide (b ≤ a ∧ a ≤ c)) := by
  unfold impl_in.f
  by_cases h : b ≤ a <;> simp [h]

theorem l1In_eq (a b c : Int) : spec_l1In.f a b c = some (decide (b ≤ a ∧ a ≤ c)) := by
  unfold spec_l1In.f
  by_cases h : b ≤ a <;> simp [h]

theorem rd67 (l : List S67) (i : Nat) (h : i < l.length) : rd_T67 l (i : Int) = l[i] := by
  simp [rd_T67, List.getD_eq_getElem?_getD, h]

/-- How many fields a head has. -/
def fld (w : S67) : Int := if (w.f0 = 5 ∨ w.f0 = 6) ∧ w.f1 = 0 then 2 else if w.f0 = 7 ∧ 0 ≤ w.f1 ∧ w.f1 ≤ 14999 then w.f1 % 100 else -1

theorem fld_bounds (w : S67) : fld w = -1 ∨ 0 ≤ fld w ∧ fld w < 100 := by
  unfold fld
  split
  · omega
  · split <;> omega

theorem spec_fields (w : S67) : Ev (fun k => spec_l12Fields.f k w.f0 w.f1) (fld w) := by
  refine ⟨1, fun k hk => ?_⟩
  obtain ⟨k, rfl⟩ : ∃ m, k = m + 1 := ⟨k - 1, by omega⟩
  unfold spec_l12Fields.f fld
  simp only [spec_l12Fields.j0, l1In_eq, Option.bind_some]
  by_cases h5 : w.f0 = 5
  · by_cases h0 : w.f1 = 0 <;> simp [h5, h0]
  · by_cases h6 : w.f0 = 6
    · by_cases h0 : w.f1 = 0 <;> simp [h6, h0]
    · by_cases h7 : w.f0 = 7
      · by_cases hr : 0 ≤ w.f1 ∧ w.f1 ≤ 14999
        · simp [h7, hr, Int.tmod_eq_emod_of_nonneg hr.1]
        · simp [h7, hr]
      · simp [h5, h6, h7]

theorem impl_fields (w : S67) (hw : w.f1 < 9223372036854775808) : Ev (fun k => impl_fieldsOf.f k w.f0 w.f1) (fld w) := by
  refine ⟨1, fun k hk => ?_⟩
  obtain ⟨k, rfl⟩ : ∃ m, k = m + 1 := ⟨k - 1, by omega⟩
  unfold impl_fieldsOf.f fld
  simp only [impl_fieldsOf.j0]
  by_cases h5 : w.f0 = 5
  · by_cases h0 : w.f1 = 0 <;> simp [h5, h0]
  · by_cases h6 : w.f0 = 6
    · by_cases h0 : w.f1 = 0 <;> simp [h6, h0]
    · by_cases h7 : w.f0 = 7
      · by_cases hr : 0 ≤ w.f1
        · rw [Int.tdiv_eq_ediv_of_nonneg hr, w64 (by omega) (by omega), Int.tmod_eq_emod_of_nonneg hr]
          by_cases hr2 : w.f1 ≤ 14999
          · have h3 : w.f1 / 100 < 150 := by omega
            simp [h7, hr, hr2, h3]
          · have h3 : ¬ w.f1 / 100 < 150 := by omega
            simp [h7, hr, hr2, h3]
        · simp [h7, hr]
      · simp [h5, h6, h7]

/-- The cells are blocks, each a head and its fields; hs says where the heads are. -/
inductive Bl : List S67 → List Bool → Prop
  | nil : Bl [] []
  | blk (w : S67) (fs rest : List S67) (hs : List Bool) (h : fld w = fs.length) (hr : Bl rest hs) : Bl (w :: (fs ++ rest)) (true :: (List.replicate fs.length false ++ hs))

theorem Bl.len {l : List S67} {hs : List Bool} (h : Bl l hs) : hs.length = l.length := by
  induction h with
  | nil => rfl
  | blk w fs rest hs h hr ih => simp [ih]

theorem Bl.append {l m : List S67} {hs ms : List Bool} (h : Bl l hs) (hm : Bl m ms) : Bl (l ++ m) (hs ++ ms) := by
  induction h with
  | nil => exact hm
  | blk w fs rest hs h hr ih =>
    have := Bl.blk w fs (rest ++ m) (hs ++ ms) h ih
    simpa [List.append_assoc] using this

theorem Bl.one (w : S67) (fs : List S67) (h : fld w = fs.length) : Bl (w :: fs) (true :: List.replicate fs.length false) := by
  have := Bl.blk w fs [] [] h Bl.nil
  simpa using this

theorem Bl.inv {w : S67} {t : List S67} {hs : List Bool} (h : Bl (w :: t) hs) : ∃ n : Nat, fld w = n ∧ n ≤ t.length ∧ ∃ ms, Bl (t.drop n) ms ∧ hs = true :: (List.replicate n false ++ ms) := by
  generalize hl : w :: t = l at h
  cases h with
  | nil => cases hl
  | blk w' fs rest ms h hr =>
    injection hl with e1 e2
    subst e1 e2
    exact ⟨fs.length, h, by simp, ms, by simpa using hr, rfl⟩

theorem take_drop_set {x : List Bool} {i n N : Nat} (hx : x.length = N) (hi : i + n < N) (hd : x.drop i = List.replicate (N - i) false) :
    (x.set i true).drop (i + n + 1) = List.replicate (N - (i + n + 1)) false ∧ (x.set i true).take (i + n + 1) = x.take i ++ (true :: List.replicate n false) := by
  have h1 : ∀ j (hj : j < x.length), i ≤ j → x[j] = false := by
    intro j hj hij
    have : (x.drop i)[j - i]? = some x[j] := by rw [List.getElem?_drop, show i + (j - i) = j from by omega, List.getElem?_eq_getElem hj]
    rw [hd, List.getElem?_replicate] at this
    split at this
    · exact (Option.some.inj this).symm
    · cases this
  constructor
  · apply List.ext_getElem
    · simp; omega
    · intro j h2 h3
      simp only [List.getElem_drop, List.getElem_replicate, List.getElem_set]
      rw [if_neg (by omega)]
      exact h1 _ (by simp at h2; omega) (by omega)
  · apply List.ext_getElem
    · simp; omega
    · intro j h2 h3
      simp only [List.getElem_take, List.getElem_set, List.getElem_append, List.length_take, List.getElem_cons, List.getElem_replicate]
      simp at h2 h3
      by_cases c1 : i = j
      · subst c1
        rw [if_pos rfl, dif_neg (by omega), dif_pos (by omega)]
      · rw [if_neg c1]
        by_cases c2 : j < i
        · rw [dif_pos (by omega)]
        · rw [dif_neg (by omega), dif_neg (by omega)]
          exact h1 j (by omega) (by omega)

theorem heads_l0 (l : List S67) (hl : l.length ≤ 2000000) (hw : ∀ x ∈ l, x.f1 < 9223372036854775808) (sz : Int) (d : Nat) : ∀ (x : List Bool) (i : Nat), i ≤ l.length → l.length - i ≤ d → x.length = l.length → x.drop i = List.replicate (l.length - i) false →
    (∀ hs, Bl (l.drop i) hs → Ev (fun k => spec_l12Heads.l0 k l x i) (x.take i ++ hs, true) ∧ Ev (fun k => impl_headsOf.l0 k x i sz l) (x.take i ++ hs, true)) ∧
    ((¬ ∃ hs, Bl (l.drop i) hs) → ∃ a b, a.length = l.length ∧ Ev (fun k => spec_l12Heads.l0 k l x i) (a, false) ∧ Ev (fun k => impl_headsOf.l0 k x i sz l) (b, false)) := by
  induction d with
  | zero =>
    intro x i hi h1 hx hd
    have hn : l.drop i = [] := List.drop_of_length_le (by omega)
    rw [hn]
    refine ⟨fun hs hb => ?_, fun h => absurd ⟨[], Bl.nil⟩ h⟩
    have : hs = [] := by cases hb; rfl
    subst this
    have ht : x.take i ++ [] = x := by rw [List.append_nil, List.take_of_length_le (by omega)]
    rw [ht]
    refine ⟨Ev.succ ?_, Ev.succ ?_⟩
    · simp only [spec_l12Heads.l0]
      exact Ev.neg (by omega) (Ev.of rfl)
    · simp only [impl_headsOf.l0]
      exact Ev.neg (by omega) (Ev.of rfl)
  | succ d ih =>
    intro x i hi h1 hx hd
    by_cases hlt : i < l.length
    case neg =>
      have hn : l.drop i = [] := List.drop_of_length_le (by omega)
      rw [hn]
      refine ⟨fun hs hb => ?_, fun h => absurd ⟨[], Bl.nil⟩ h⟩
      have : hs = [] := by cases hb; rfl
      subst this
      have ht : x.take i ++ [] = x := by rw [List.append_nil, List.take_of_length_le (by omega)]
      rw [ht]
      refine ⟨Ev.succ ?_, Ev.succ ?_⟩
      · simp only [spec_l12Heads.l0]
        exact Ev.neg (by omega) (Ev.of rfl)
      · simp only [impl_headsOf.l0]
        exact Ev.neg (by omega) (Ev.of rfl)
    have hc : l.drop i = l[i] :: l.drop (i + 1) := List.drop_eq_getElem_cons hlt
    have hb := fld_bounds l[i]
    have eS := spec_fields l[i]
    have eI := impl_fields l[i] (hw _ (List.getElem_mem hlt))
    by_cases hn : 0 ≤ fld l[i] ∧ (i : Int) + fld l[i] < l.length
    · obtain ⟨n, en⟩ : ∃ n : Nat, fld l[i] = n := ⟨(fld l[i]).toNat, by omega⟩
      obtain ⟨g1, g2⟩ := take_drop_set (n := n) hx (by omega) hd
      obtain ⟨i1, i2⟩ := ih (x.set i true) (i + n + 1) (by omega) (by omega) (by simpa using hx) g1
      rw [g2] at i1
      have red : ∀ r, Ev (fun k => spec_l12Heads.l0 k l (x.set i true) ((i + n + 1 : Nat) : Int)) r → Ev (fun k => spec_l12Heads.l0 k l x i) r := by
        intro r hr
        refine Ev.succ ?_
        simp only [spec_l12Heads.l0]
        rw [rd67 l i hlt]
        refine Ev.pos (by omega) (Ev.pos (by omega) (Ev.bind eS (Ev.neg (by omega) ?_)))
        rw [w64 (n := (i : Int) + fld l[i]) (by omega) (by omega), w64 (by omega) (by omega), Int.toNat_natCast, show (i : Int) + fld l[i] + 1 = ((i + n + 1 : Nat) : Int) from by omega]
        exact Ev.neg (by omega) (Ev.pos (by omega) hr)
      have redI : ∀ r, Ev (fun k => impl_headsOf.l0 k (x.set i true) ((i + n + 1 : Nat) : Int) sz l) r → Ev (fun k => impl_headsOf.l0 k x i sz l) r := by
        intro r hr
        refine Ev.succ ?_
        simp only [impl_headsOf.l0]
        rw [rd67 l i hlt]
        refine Ev.pos (by omega) (Ev.pos (by omega) (Ev.bind eI (Ev.neg (by omega) ?_)))
        rw [w64 (n := (l.length : Int) - i) (by omega) (by omega), w64 (n := fld l[i] + 1) (by omega) (by omega), w64 (by omega) (by omega), Int.toNat_natCast, show (i : Int) + (fld l[i] + 1) = ((i + n + 1 : Nat) : Int) from by omega]
        exact Ev.neg (by omega) (Ev.pos (by omega) hr)
      constructor
      · intro hs hbl
        rw [hc] at hbl
        obtain ⟨m, em, hm, ms, hms, rfl⟩ := hbl.inv
        obtain rfl : m = n := by omega
        rw [List.drop_drop] at hms
        obtain ⟨p, q⟩ := i1 ms (by rw [show i + m + 1 = i + 1 + m from by omega]; exact hms)
        have e : x.take i ++ (true :: List.replicate m false) ++ ms = x.take i ++ (true :: (List.replicate m false ++ ms)) := by simp
        rw [e] at p q
        exact ⟨red _ p, redI _ q⟩
      · intro hno
        obtain ⟨a, b, ha, p, q⟩ := i2 (fun ⟨ms, hms⟩ => hno ⟨_, by
          rw [hc]
          have hlen : n ≤ (l.drop (i + 1)).length := by simp; omega
          have := Bl.blk l[i] ((l.drop (i + 1)).take n) ((l.drop (i + 1)).drop n) ms (by rw [List.length_take]; omega) (by rw [List.drop_drop, show i + 1 + n = i + n + 1 from by omega]; exact hms)
          rw [List.take_append_drop] at this
          exact this⟩)
        exact ⟨a, b, ha, red _ p, redI _ q⟩
    · constructor
      · intro hs hbl
        rw [hc] at hbl
        obtain ⟨m, em, hm, _⟩ := hbl.inv
        have : (l.drop (i + 1)).length = l.length - (i + 1) := by simp
        omega
      · intro _
        refine ⟨x, if fld l[i] < 0 then [] else [], hx, Ev.succ ?_, Ev.succ ?_⟩
        · simp only [spec_l12Heads.l0]
          rw [rd67 l i hlt]
          refine Ev.pos (by omega) (Ev.pos (by omega) (Ev.bind eS ?_))
          by_cases hng : fld l[i] < 0
          · exact Ev.pos hng (Ev.of rfl)
          · refine Ev.neg hng ?_
            rw [w64 (n := (i : Int) + fld l[i]) (by omega) (by omega)]
            exact Ev.pos (by omega) (Ev.of rfl)
        · simp only [impl_headsOf.l0]
          rw [rd67 l i hlt]
          have e0 : (if fld l[i] < 0 then ([] : List Bool) else []) = [] := by split <;> rfl
          rw [e0]
          refine Ev.pos (by omega) (Ev.pos (by omega) (Ev.bind eI ?_))
          by_cases hng : fld l[i] < 0
          · exact Ev.pos hng (Ev.of rfl)
          · refine Ev.neg hng ?_
            rw [w64 (n := (l.length : Int) - i) (by omega) (by omega)]
            exact Ev.pos (by omega) (Ev.of rfl)

def Small (l : List S67) : Prop := l.length ≤ 1100000 ∧ ∀ x ∈ l, x.f1 < 9223372036854775808

theorem heads_yes {l : List S67} (hl : Small l) (sz : Int) {hs : List Bool} (hb : Bl l hs) : Ev (fun k => spec_l12Heads.f k l) (hs, true) ∧ Ev (fun k => impl_headsOf.f k sz l) (hs, true) := by
  have h := (heads_l0 l (by have := hl.1; omega) hl.2 sz l.length (List.replicate l.length false) 0 (by omega) (by omega) (by simp) (by simp)).1 hs (by simpa using hb)
  have hl1 := hl.1
  simp only [List.take_zero, List.nil_append] at h
  unfold spec_l12Heads.f impl_headsOf.f
  exact ⟨Ev.pos (by omega) (Ev.pos (by omega) h.1), Ev.pos (by omega) (Ev.pos (by omega) h.2)⟩

theorem heads_no {l : List S67} (hl : Small l) (sz : Int) (hb : ¬ ∃ hs, Bl l hs) : ∃ a b, a.length = l.length ∧ Ev (fun k => spec_l12Heads.f k l) (a, false) ∧ Ev (fun k => impl_headsOf.f k sz l) (b, false) := by
  obtain ⟨a, b, ha, h⟩ := (heads_l0 l (by have := hl.1; omega) hl.2 sz l.length (List.replicate l.length false) 0 (by omega) (by omega) (by simp) (by simp)).2 (by simpa using hb)
  have hl1 := hl.1
  unfold spec_l12Heads.f impl_headsOf.f
  exact ⟨a, b, ha, Ev.pos (by omega) (Ev.pos (by omega) h.1), Ev.pos (by omega) (Ev.pos (by omega) h.2)⟩

theorem heads_any {l : List S67} (hl : Small l) : ∃ a b, a.length = l.length ∧ Ev (fun k => spec_l12Heads.f k l) (a, b) := by
  by_cases h : ∃ hs, Bl l hs
  · obtain ⟨hs, hb⟩ := h
    exact ⟨hs, true, hb.len, (heads_yes hl 0 hb).1⟩
  · obtain ⟨a, b, ha, h, _⟩ := heads_no hl 0 h
    exact ⟨a, false, ha, h⟩

/-- Is a word right that is no head? -/
def wOk (hs : List Bool) (w : S67) : Bool :=
  if w.f0 = 1 then decide (-1000000 ≤ w.f1 ∧ w.f1 ≤ 1000000) else if w.f0 = 2 then decide (0 ≤ w.f1 ∧ w.f1 ≤ 1) else if w.f0 = 3 then w.f1 == 0
  else if w.f0 = 4 then decide (0 ≤ w.f1 ∧ w.f1 < hs.length) && hs.getD w.f1.toNat false else false

theorem rdOf_get (hs : List Bool) (i : Int) : rdOf false hs i = hs.getD i.toNat false := by
  simp [rdOf]

theorem words (hs : List Bool) (hl : hs.length ≤ 2000000) (w : S67) : spec_l12Word.f hs w.f0 w.f1 = some (wOk hs w) ∧ impl_wordOk.f w.f0 w.f1 hs = some (wOk hs w) := by
  unfold spec_l12Word.f impl_wordOk.f wOk
  simp only [l1In_eq, in_eq, Option.bind_some]
  rw [w64 (by omega) (by omega)]
  by_cases h4 : w.f0 = 4
  · by_cases hr : 0 ≤ w.f1 ∧ w.f1 < (hs.length : Int)
    · have h2 : w.f1 ≤ (hs.length : Int) - 1 := by omega
      simp [h4, hr, h2, rdOf_get]
    · have h2 : ¬ (0 ≤ w.f1 ∧ w.f1 ≤ (hs.length : Int) - 1) := by omega
      simp [h4, hr, h2]
  · by_cases h1 : w.f0 = 1
    · simp [h1]
    · by_cases h2 : w.f0 = 2
      · simp [h2]
      · by_cases h3 : w.f0 = 3
        · simp [h3]
        · simp [h1, h2, h3, h4]

theorem wOk_append (hs ms : List Bool) (w : S67) (h : wOk hs w = true) : wOk (hs ++ ms) w = true := by
  unfold wOk at *
  by_cases h1 : w.f0 = 1
  · simpa [h1] using h
  · by_cases h2 : w.f0 = 2
    · simpa [h2] using h
    · by_cases h3 : w.f0 = 3
      · simpa [h3] using h
      · by_cases h4 : w.f0 = 4
        · simp only [h4] at h ⊢
          simp at h ⊢
          obtain ⟨⟨a, b⟩, c⟩ := h
          refine ⟨⟨a, by omega⟩, ?_⟩
          rw [List.getElem?_append_left (by omega)]
          exact c
        · simp [h1, h2, h3, h4] at h

/-- A right heap. -/
def okH (sz : Int) (l : List S67) : Prop := (0 ≤ sz ∧ sz ≤ 5000) ∧ (l.length : Int) ≤ sz ∧ ∃ hs, Bl l hs ∧ ∀ i (hi : i < l.length), hs.getD i false = true ∨ wOk hs l[i] = true

theorem Bl.det {l : List S67} {hs ms : List Bool} (h : Bl l hs) : Bl l ms → hs = ms := by
  intro g
  induction h generalizing ms with
  | nil => cases g; rfl
  | blk w fs rest hs h hr ih =>
    obtain ⟨n, en, hn, ns, hns, rfl⟩ := g.inv
    obtain rfl : n = fs.length := by omega
    rw [List.drop_left] at hns
    rw [ih hns]

theorem ok_l0 (l : List S67) (hl : l.length ≤ 2000000) (hs : List Bool) (hhs : hs.length = l.length) (sz : Int) (d : Nat) : ∀ (i : Nat), i + d = l.length →
    ∃ b, Ev (fun k => spec_HeapOk.l0 k hs true i sz l) b ∧ Ev (fun k => impl_HeapOk.l0 k hs l (l.length : Int) i) b ∧ (b = true ↔ ∀ j (hj : j < l.length), i ≤ j → hs.getD j false = true ∨ wOk hs l[j] = true) := by
  induction d with
  | zero =>
    intro i hi
    refine ⟨true, Ev.succ ?_, Ev.succ ?_, ⟨fun _ j hj hij => by omega, fun _ => rfl⟩⟩
    · simp only [spec_HeapOk.l0]; exact Ev.neg (by omega) (Ev.of rfl)
    · simp only [impl_HeapOk.l0]; exact Ev.neg (by omega) (Ev.of rfl)
  | succ d ih =>
    intro i hi
    obtain ⟨b, e1, e2, hb⟩ := ih (i + 1) (by omega)
    have hlt : i < l.length := by omega
    obtain ⟨ws, wi⟩ := words hs (by omega) l[i]
    have ei : (i : Int) + 1 = ((i + 1 : Nat) : Int) := by omega
    have step : ∀ q : Bool, (q = true → hs.getD i false = true ∨ wOk hs l[i] = true) → (q = false → ¬ (hs.getD i false = true ∨ wOk hs l[i] = true)) → ((q && b) = true ↔ ∀ j (hj : j < l.length), i ≤ j → hs.getD j false = true ∨ wOk hs l[j] = true) := by
      intro q h1 h2
      constructor
      · intro h j hj hij
        simp at h
        by_cases e : i = j
        · subst e; exact h1 h.1
        · exact hb.1 h.2 j hj (by omega)
      · intro h
        have hq : q = true := by
          cases q with
          | true => rfl
          | false => exact absurd (h i hlt (by omega)) (h2 rfl)
        simp [hq, hb.2 (fun j hj hij => h j hj (by omega))]
    by_cases hh : rdOf false hs (i : Int) = true
    · have hg : hs.getD i false = true := by rw [rdOf_get] at hh; simpa using hh
      refine ⟨true && b, Ev.succ ?_, Ev.succ ?_, step true (fun _ => .inl hg) (fun h => by cases h)⟩
      · simp only [spec_HeapOk.l0]
        rw [w64 (by omega) (by omega), ei]
        exact Ev.pos (by omega) (Ev.pos (by simp) (Ev.pos (by omega) (Ev.pos (by omega) (Ev.pos hh (by simpa using e1)))))
      · simp only [impl_HeapOk.l0]
        rw [w64 (by omega) (by omega), ei]
        exact Ev.pos (by omega) (Ev.pos (by omega) (Ev.pos (by omega) (Ev.pos (by omega) (Ev.pos hh (by simpa using e2)))))
    · have hg : ¬ hs.getD i false = true := by rw [rdOf_get] at hh; simpa using hh
      refine ⟨wOk hs l[i] && b, Ev.succ ?_, Ev.succ ?_, step _ (fun h => .inr h) (fun h => by rintro (g | g); exact hg g; rw [h] at g; cases g)⟩
      · simp only [spec_HeapOk.l0]
        rw [w64 (by omega) (by omega), ei, rd67 l i hlt]
        refine Ev.pos (by omega) (Ev.pos (by simp) (Ev.pos (by omega) (Ev.pos (by omega) (Ev.neg hh (Ev.obind ws ?_)))))
        cases hw : wOk hs l[i] with
        | true => simpa using e1
        | false =>
          refine Ev.succ ?_
          simp only [spec_HeapOk.l0, Bool.false_and]
          by_cases hlast : ((i + 1 : Nat) : Int) < (l.length : Int)
          · exact Ev.pos hlast (Ev.neg (by simp) (Ev.of rfl))
          · exact Ev.neg hlast (Ev.of rfl)
      · simp only [impl_HeapOk.l0]
        rw [w64 (by omega) (by omega), ei, rd67 l i hlt]
        refine Ev.pos (by omega) (Ev.pos (by omega) (Ev.pos (by omega) (Ev.pos (by omega) (Ev.neg hh (Ev.obind wi ?_)))))
        cases hw : wOk hs l[i] with
        | true => exact Ev.pos (by simp) (by simpa using e2)
        | false => exact Ev.neg (by simp) (Ev.of (by simp))

theorem heapOk (l : List S67) (hl : Small l) (sz : Int) : ∃ b, Ev (fun k => spec_HeapOk.f k sz l) b ∧ Ev (fun k => impl_HeapOk.f k sz l) b ∧ (b = true ↔ okH sz l) := by
  have hl1 := hl.1
  by_cases h0 : 0 ≤ sz ∧ sz ≤ 5000
  case neg =>
    refine ⟨false, ?_, ?_, by constructor; intro h; cases h; intro h; exact absurd h.1 h0⟩
    · unfold spec_HeapOk.f
      simp only [l1In_eq, Option.bind_some, decide_eq_false h0]
      refine Ev.neg (by simp) (Ev.succ ?_)
      simp only [spec_HeapOk.j0]
      exact Ev.pos (by simp) (Ev.of rfl)
    · unfold impl_HeapOk.f
      simp only [in_eq, Option.bind_some, decide_eq_false h0]
      by_cases h : ∃ hs, Bl l hs
      · obtain ⟨hs, hb⟩ := h
        refine Ev.bind (heads_yes hl sz hb).2 (Ev.pos (by simp) (Ev.neg (by simp) (Ev.succ ?_)))
        simp only [impl_HeapOk.j0]
        exact Ev.pos (by simp) (Ev.of rfl)
      · obtain ⟨a, b, _, _, q⟩ := heads_no hl sz h
        refine Ev.bind q (Ev.neg (by simp) (Ev.succ ?_))
        simp only [impl_HeapOk.j0]
        exact Ev.pos (by simp) (Ev.of rfl)
  by_cases hg : (l.length : Int) > sz
  · refine ⟨false, ?_, ?_, by constructor; intro h; cases h; intro h; have := h.2.1; omega⟩
    · unfold spec_HeapOk.f
      simp only [l1In_eq, Option.bind_some, decide_eq_true h0, decide_eq_true hg]
      refine Ev.pos (by simp) (Ev.succ ?_)
      simp only [spec_HeapOk.j0]
      exact Ev.pos (by simp) (Ev.of rfl)
    · unfold impl_HeapOk.f
      simp only [in_eq, Option.bind_some, decide_eq_true h0, decide_eq_true hg]
      by_cases h : ∃ hs, Bl l hs
      · obtain ⟨hs, hb⟩ := h
        refine Ev.bind (heads_yes hl sz hb).2 (Ev.pos (by simp) (Ev.pos (by simp) (Ev.succ ?_)))
        simp only [impl_HeapOk.j0]
        exact Ev.pos (by simp) (Ev.of rfl)
      · obtain ⟨a, b, _, _, q⟩ := heads_no hl sz h
        refine Ev.bind q (Ev.neg (by simp) (Ev.succ ?_))
        simp only [impl_HeapOk.j0]
        exact Ev.pos (by simp) (Ev.of rfl)
  by_cases h : ∃ hs, Bl l hs
  · obtain ⟨hs, hb⟩ := h
    obtain ⟨b, e1, e2, hbb⟩ := ok_l0 l (by omega) hs hb.len sz l.length 0 (by omega)
    refine ⟨b, ?_, ?_, hbb.trans ⟨fun g => ⟨h0, by omega, hs, hb, fun i hi => g i hi (by omega)⟩, fun ⟨_, _, ms, hm, g⟩ j hj _ => by rw [hb.det hm]; exact g j hj⟩⟩
    · unfold spec_HeapOk.f
      simp only [l1In_eq, Option.bind_some, decide_eq_true h0, decide_eq_false hg]
      refine Ev.pos (by simp) (Ev.succ ?_)
      simp only [spec_HeapOk.j0]
      exact Ev.neg (by simp) (Ev.bind (heads_yes hl sz hb).1 e1)
    · unfold impl_HeapOk.f
      simp only [in_eq, Option.bind_some, decide_eq_true h0, decide_eq_false hg]
      refine Ev.bind (heads_yes hl sz hb).2 (Ev.pos (by simp) (Ev.pos (by simp) (Ev.succ ?_)))
      simp only [impl_HeapOk.j0]
      exact Ev.neg (by simp) e2
  · obtain ⟨a, b, _, p, q⟩ := heads_no hl sz h
    refine ⟨false, ?_, ?_, by constructor; intro h; cases h; intro h'; obtain ⟨_, _, hs, hb, _⟩ := h'; exact absurd ⟨hs, hb⟩ h⟩
    · unfold spec_HeapOk.f
      simp only [l1In_eq, Option.bind_some, decide_eq_true h0, decide_eq_false hg]
      refine Ev.pos (by simp) (Ev.succ ?_)
      simp only [spec_HeapOk.j0]
      refine Ev.neg (by simp) (Ev.bind p (Ev.succ ?_))
      simp only [spec_HeapOk.l0]
      by_cases hz : (0 : Int) < (l.length : Int)
      · exact Ev.pos hz (Ev.neg (by simp) (Ev.of rfl))
      · exact Ev.neg hz (Ev.of rfl)
    · unfold impl_HeapOk.f
      simp only [in_eq, Option.bind_some]
      refine Ev.bind q (Ev.neg (by simp) (Ev.succ ?_))
      simp only [impl_HeapOk.j0]
      exact Ev.pos (by simp) (Ev.of rfl)


/-! ### putting a block -/
theorem any_all (hs : List Bool) (q : S67 → Option Bool) (hq : ∀ w, q w = some (!wOk hs w)) : ∀ l, anyF q l = some (!(l.all (wOk hs)))
  | [] => rfl
  | x :: l => by
    unfold anyF
    rw [hq]
    simp only [Option.bind_some, List.all_cons]
    cases wOk hs x with
    | true => simp [any_all hs q hq l]
    | false => simp

theorem specAlloc_l0 (fs l l' : List S67) (hs : List Bool) (sz sz' a b : Int) (hh : hs.length ≤ 2000000) (hf : fs.length ≤ 2000000) (hl : l'.length ≤ 2000000) (d : Nat) : ∀ i : Nat, i + d = fs.length →
    Ev (fun k => spec_Alloc.l0 k fs hs i sz l a b sz' l') (if (fs.drop i).all (wOk hs) = true then (sz', l' ++ [(⟨a, b⟩ : S67)] ++ fs, 4, (l.length : Int), true) else (sz', l', 0, 0, false)) := by
  induction d with
  | zero =>
    intro i hi
    rw [List.drop_of_length_le (by omega)]
    simp only [List.all_nil, if_true]
    refine Ev.succ ?_
    simp only [spec_Alloc.l0]
    refine Ev.neg (by omega) (Ev.pos (by omega) (Ev.obind rfl (Ev.pos (by simp; omega) (Ev.of rfl))))
  | succ d ih =>
    intro i hi
    have hlt : i < fs.length := by omega
    have e := ih (i + 1) (by omega)
    rw [List.drop_eq_getElem_cons hlt, List.all_cons]
    refine Ev.succ ?_
    simp only [spec_Alloc.l0]
    rw [rd67 fs i hlt, w64 (by omega) (by omega), show (i : Int) + 1 = ((i + 1 : Nat) : Int) from by omega]
    refine Ev.pos (by omega) (Ev.pos (by omega) (Ev.obind (words hs hh fs[i]).1 ?_))
    cases wOk hs fs[i] with
    | true => simpa using e
    | false => exact Ev.neg (by simp) (Ev.of (by simp))

/-- What Alloc tells. -/
def Put (sz : Int) (l : List S67) (hd : S67) (fs : List S67) (r : Int × List S67 × Int × Int × Bool) : Prop :=
  r = (sz, l, 0, 0, false) ∨ (r = (sz, l ++ [hd] ++ fs, 4, (l.length : Int), true) ∧ okH sz l ∧ fld hd = fs.length ∧ (l.length : Int) + fs.length + 1 ≤ sz ∧ ∃ hs, Bl l hs ∧ fs.all (wOk hs) = true)

theorem alloc (sz : Int) (l fs : List S67) (hd : S67) (hl : Small l) (hf : Small fs) (hh : hd.f1 < 9223372036854775808) :
    ∃ r, Ev (fun k => spec_Alloc.f k sz l hd.f0 hd.f1 fs) r ∧ Ev (fun k => impl_Alloc.f k sz l hd.f0 hd.f1 fs) r ∧ Put sz l hd fs r := by
  have hl1 := hl.1
  have hf1 := hf.1
  obtain ⟨b, e1, e2, hb⟩ := heapOk l hl sz
  have ecopy : spec_l12Copy.f sz l = some (sz, l) := by
    unfold spec_l12Copy.f
    simp only [Option.bind_some, List.nil_append, List.length_nil]
    rw [if_pos (by omega)]
  have eclone : impl_cloneHeap.f sz l = some (sz, l) := by
    unfold impl_cloneHeap.f impl_Word_78.f
    rw [if_pos (by omega)]
    rfl
  have jt : ∀ x, Ev (fun k => spec_Alloc.j0 k fs true sz l hd.f0 hd.f1 x l) (x, l, 0, 0, false) := fun x => by
    refine Ev.succ ?_
    simp only [spec_Alloc.j0]
    exact Ev.pos (by simp) (Ev.of rfl)
  by_cases hbt : b = true
  case neg =>
    refine ⟨(sz, l, 0, 0, false), ?_, ?_, .inl rfl⟩
    · unfold spec_Alloc.f
      exact Ev.obind ecopy (Ev.bind e1 (Ev.neg hbt (jt sz)))
    · unfold impl_Alloc.f
      exact Ev.obind eclone (Ev.bind e2 (Ev.neg hbt (Ev.of rfl)))
  have hok := hb.1 hbt
  by_cases hn : fld hd = (fs.length : Int)
  case neg =>
    refine ⟨(sz, l, 0, 0, false), ?_, ?_, .inl rfl⟩
    · unfold spec_Alloc.f
      exact Ev.obind ecopy (Ev.bind e1 (Ev.pos hbt (Ev.bind (spec_fields hd) (Ev.neg hn (jt sz)))))
    · unfold impl_Alloc.f
      exact Ev.obind eclone (Ev.bind e2 (Ev.pos hbt (Ev.bind (impl_fields hd hh) (Ev.neg hn (Ev.of rfl)))))
  obtain ⟨⟨s0, s1⟩, hlen, hs, hbl, hws⟩ := hok
  have hhs := hbl.len
  have ew : Ev (fun k => impl_wordsOk.f k sz l fs) (fs.all (wOk hs)) := by
    unfold impl_wordsOk.f
    refine Ev.bind (heads_yes hl sz hbl).2 (Ev.pos (by simp) ?_)
    refine Ev.obind (any_all hs _ (fun w => ?_) fs) (Ev.of (by simp))
    rw [(words hs (by omega) w).2]
    rfl
  have es := specAlloc_l0 fs l l hs sz sz hd.f0 hd.f1 (by omega) (by omega) (by omega) fs.length 0 (by omega)
  rw [List.drop_zero] at es
  have wsz : wrap64 (wrap64 ((l.length : Int) + (fs.length : Int)) + 1) = (l.length : Int) + fs.length + 1 := by
    rw [w64 (n := (l.length : Int) + fs.length) (by omega) (by omega), w64 (by omega) (by omega)]
  by_cases hroom : (l.length : Int) + fs.length + 1 > sz
  · refine ⟨(sz, l, 0, 0, false), ?_, ?_, .inl rfl⟩
    · unfold spec_Alloc.f
      refine Ev.obind ecopy (Ev.bind e1 (Ev.pos hbt (Ev.bind (spec_fields hd) (Ev.pos hn ?_))))
      rw [wsz, decide_eq_true hroom]
      exact jt sz
    · unfold impl_Alloc.f
      refine Ev.obind eclone (Ev.bind e2 (Ev.pos hbt (Ev.bind (impl_fields hd hh) (Ev.pos hn (Ev.bind ew ?_)))))
      cases hall : fs.all (wOk hs) with
      | true =>
        refine Ev.pos (by simp) ?_
        rw [wsz]
        exact Ev.pos hroom (Ev.of rfl)
      | false => exact Ev.neg (by simp) (Ev.of rfl)
  · refine ⟨if fs.all (wOk hs) = true then (sz, l ++ [hd] ++ fs, 4, (l.length : Int), true) else (sz, l, 0, 0, false), ?_, ?_, ?_⟩
    · unfold spec_Alloc.f
      refine Ev.obind ecopy (Ev.bind e1 (Ev.pos hbt (Ev.bind (spec_fields hd) (Ev.pos hn ?_))))
      rw [wsz, decide_eq_false hroom]
      refine Ev.succ ?_
      simp only [spec_Alloc.j0]
      exact Ev.neg (by simp) (Ev.bind (heads_yes hl sz hbl).1 es)
    · unfold impl_Alloc.f
      refine Ev.obind eclone (Ev.bind e2 (Ev.pos hbt (Ev.bind (impl_fields hd hh) (Ev.pos hn (Ev.bind ew ?_)))))
      cases hall : fs.all (wOk hs) with
      | true =>
        refine Ev.pos (by simp) ?_
        rw [wsz]
        exact Ev.neg hroom (Ev.pos (by dsimp only; omega) (Ev.obind rfl (Ev.pos (by simp; omega) (Ev.of (by simp)))))
      | false => exact Ev.neg (by simp) (Ev.of (by simp))
    · cases hall : fs.all (wOk hs) with
      | true => exact .inr ⟨by simp, ⟨⟨s0, s1⟩, hlen, hs, hbl, hws⟩, hn, by omega, hs, hbl, hall⟩
      | false => exact .inl (by simp)

theorem take_set_succ {α : Type} (l x : List α) (a : α) (i : Nat) (hl : x.length = l.length) (hi : i < l.length) (ha : l[i]? = some a) (h : x.take i = l.take i) :
    (x.set i a).take (i + 1) = l.take (i + 1) := by
  rw [List.take_succ_eq_append_getElem (by simpa [hl] using hi), List.take_succ_eq_append_getElem hi]
  rw [List.take_set_of_le (by omega), h]
  have : l[i] = a := by rw [List.getElem?_eq_getElem hi] at ha; exact Option.some.inj ha
  simp [this]

def conv (x : S65) : S67 := ⟨x.f0, x.f1⟩

theorem rd65 (l : List S65) (i : Nat) (h : i < l.length) : rd_T65 l (i : Int) = l[i] := by
  simp [rd_T65, List.getD_eq_getElem?_getD, h]

theorem toWordS_l0 (l : List S65) (hl : l.length ≤ 2000000) (d : Nat) : ∀ (k : Nat) (x : List S67) (i : Nat), i + d = l.length → d < k → x.length = l.length →
    x.take i = (l.map conv).take i → laws_toWordS.l0 k l x i = some (l.map conv) := by
  induction d with
  | zero =>
    intro k x i h1 hk hx ht
    obtain ⟨k, rfl⟩ : ∃ m, k = m + 1 := ⟨k - 1, by omega⟩
    simp only [laws_toWordS.l0]
    rw [if_neg (by omega)]
    rw [List.take_of_length_le (by omega), List.take_of_length_le (by simp; omega)] at ht
    rw [ht]
  | succ d ih =>
    intro k x i h1 hk hx ht
    obtain ⟨k, rfl⟩ : ∃ m, k = m + 1 := ⟨k - 1, by omega⟩
    simp only [laws_toWordS.l0]
    rw [if_pos (by omega), if_pos (by omega), rd65 l i (by omega)]
    simp only [laws_toWord.f, Option.bind_some]
    rw [if_pos (by omega), w64 (by omega) (by omega)]
    have e : (i : Int) + 1 = ((i + 1 : Nat) : Int) := by omega
    rw [e, Int.toNat_natCast]
    refine ih k _ (i + 1) (by omega) (by omega) (by simpa using hx) ?_
    exact take_set_succ (l.map conv) x (conv l[i]) i (by simpa using hx) (by simp; omega) (by simp [List.getElem?_eq_getElem (show i < l.length by omega)]) ht

theorem toWordS (l : List S65) (hl : l.length ≤ 2000000) (k : Nat) (hk : l.length < k) : laws_toWordS.f k l = some (l.map conv) := by
  unfold laws_toWordS.f
  rw [if_pos (by omega), if_pos (by omega)]
  exact toWordS_l0 l hl l.length k _ 0 (by omega) hk (by simp) (by simp)

theorem eqWordS_l0 (l : List S67) (hl : l.length ≤ 2000000) (d : Nat) : ∀ (k : Nat) (i : Nat), i + d = l.length → d < k → laws_eqWordS.l0 k l l i = some true := by
  induction d with
  | zero =>
    intro k i h1 hk
    obtain ⟨k, rfl⟩ : ∃ m, k = m + 1 := ⟨k - 1, by omega⟩
    simp only [laws_eqWordS.l0]
    rw [if_neg (by omega)]
  | succ d ih =>
    intro k i h1 hk
    obtain ⟨k, rfl⟩ : ∃ m, k = m + 1 := ⟨k - 1, by omega⟩
    simp only [laws_eqWordS.l0, laws_eqWord.f]
    rw [if_pos (by omega), if_pos (by omega), if_pos (by omega), w64 (by omega) (by omega)]
    simp only [if_true, Option.bind_some]
    exact ih k (i + 1) (by omega) (by omega)

theorem eqWordS (l : List S67) (hl : l.length ≤ 2000000) (k : Nat) (hk : l.length < k) : laws_eqWordS.f k l l = some true := by
  unfold laws_eqWordS.f
  rw [if_pos rfl]
  exact eqWordS_l0 l hl l.length k 0 (by omega) hk


/-- What a row is behind a mark. -/
def marked : Int → List S67 → List S67
  | _, [] => []
  | n, _ :: s => ⟨n, n + 1⟩ :: marked (n + 2) s
theorem marked_len (s : List S67) : ∀ n, (marked n s).length = s.length := by
  induction s with
  | nil => intro n; rfl
  | cons x s ih => intro n; simp [marked, ih]

theorem mark_l0 (s : List S67) : ∀ (pre : List S67) (n : Int), pre.length + s.length ≤ 4000000 → 0 ≤ n → n + 2 * s.length ≤ 9000000000 →
    Ev (fun k => laws_markWordS.l0 k (pre ++ s) n (pre.length : Int)) (n + 2 * s.length, pre ++ marked n s) := by
  induction s with
  | nil =>
    intro pre n h1 h2 h3
    refine Ev.succ ?_
    simp only [laws_markWordS.l0]
    exact Ev.neg (by simp) (Ev.of (by simp [marked]))
  | cons x s ih =>
    intro pre n h1 h2 h3
    simp only [List.length_cons] at h1 h3
    refine Ev.succ ?_
    simp only [laws_markWordS.l0]
    refine Ev.pos (by simp; omega) (Ev.pos (by omega) (Ev.obind rfl ?_))
    have e1 : (pre ++ x :: s).set (pre.length : Int).toNat ⟨n, (rd_T67 (pre ++ x :: s) (pre.length : Int)).f1⟩ = pre ++ ⟨n, (rd_T67 (pre ++ x :: s) (pre.length : Int)).f1⟩ :: s := by
      rw [Int.toNat_natCast, List.set_append_right _ _ (Nat.le_refl _)]
      simp
    rw [e1, w64 (n := n + 1) (by omega) (by omega), w64 (n := n + 1 + 1) (by omega) (by omega), w64 (n := (pre.length : Int) + 1) (by omega) (by omega)]
    have e2 : (pre ++ (⟨n, (rd_T67 (pre ++ x :: s) (pre.length : Int)).f1⟩ : S67) :: s).set (pre.length : Int).toNat ⟨(rd_T67 (pre ++ (⟨n, (rd_T67 (pre ++ x :: s) (pre.length : Int)).f1⟩ : S67) :: s) (pre.length : Int)).f0, n + 1⟩ = (pre ++ [⟨n, n + 1⟩]) ++ s := by
      have e5 : ∀ y : S67, rd_T67 (pre ++ y :: s) (pre.length : Int) = y := fun y => by rw [rd67 _ _ (by simp)]; simp
      simp only [e5]
      rw [Int.toNat_natCast, List.set_append_right _ _ (Nat.le_refl _)]
      simp
    rw [e2, show (pre.length : Int) + 1 = ((pre ++ [(⟨n, n + 1⟩ : S67)]).length : Int) from by simp]
    have := ih (pre ++ [⟨n, n + 1⟩]) (n + 1 + 1) (by simp; omega) (by omega) (by omega)
    have e3 : (n + 2 * ((x :: s).length : Int), pre ++ marked n (x :: s)) = (n + 1 + 1 + 2 * (s.length : Int), pre ++ [(⟨n, n + 1⟩ : S67)] ++ marked (n + 1 + 1) s) := by
      simp only [List.length_cons, marked, List.append_assoc, List.cons_append, List.nil_append]
      rw [show n + 2 = n + 1 + 1 from by omega]
      congr 1
      omega
    rw [e3]
    exact this
theorem markWordS (s : List S67) (n : Int) (h1 : s.length ≤ 4000000) (h2 : 0 ≤ n) (h3 : n + 2 * s.length ≤ 9000000000) : Ev (fun k => laws_markWordS.f k s n) (n + 2 * s.length, marked n s) := by
  have := mark_l0 s [] n (by simpa using h1) h2 h3
  simpa [laws_markWordS.f] using this
theorem markHeap (sz : Int) (s : List S67) (n : Int) (h1 : s.length ≤ 4000000) (h2 : 0 ≤ n) (h3 : n + 2 * s.length ≤ 9000000000) : Ev (fun k => laws_markHeap.f k sz s n) (n + 2 * s.length, marked n s) := by
  unfold laws_markHeap.f
  exact Ev.bind (markWordS s n h1 h2 h3) (Ev.of rfl)

theorem held_l0 (s : List S67) : ∀ (pre : List S67) (n : Int), pre.length + s.length ≤ 4000000 → 0 ≤ n → n + 2 * s.length ≤ 9000000000 →
    Ev (fun k => laws_heldWordS.l0 k (pre ++ marked n s) n (pre.length : Int)) (n + 2 * s.length) := by
  induction s with
  | nil =>
    intro pre n h1 h2 h3
    refine Ev.succ ?_
    simp only [laws_heldWordS.l0]
    exact Ev.neg (by simp [marked]) (Ev.of (by simp))
  | cons x s ih =>
    intro pre n h1 h2 h3
    simp only [List.length_cons] at h1 h3
    refine Ev.succ ?_
    have em : marked n (x :: s) = ⟨n, n + 1⟩ :: marked (n + 2) s := rfl
    rw [em]
    simp only [laws_heldWordS.l0]
    have e1 : rd_T67 (pre ++ ⟨n, n + 1⟩ :: marked (n + 2) s) (pre.length : Int) = ⟨n, n + 1⟩ := by
      rw [rd67 _ _ (by simp)]
      simp
    rw [e1, w64 (n := n + 1) (by omega) (by omega), w64 (n := n + 1 + 1) (by omega) (by omega), w64 (n := (pre.length : Int) + 1) (by omega) (by omega)]
    refine Ev.pos (by simp; omega) (Ev.pos (by omega) (Ev.pos rfl (Ev.pos rfl ?_)))
    have := ih (pre ++ [⟨n, n + 1⟩]) (n + 1 + 1) (by simp; omega) (by omega) (by omega)
    rw [show (pre.length : Int) + 1 = ((pre ++ [(⟨n, n + 1⟩ : S67)]).length : Int) from by simp, show pre ++ (⟨n, n + 1⟩ : S67) :: marked (n + 2) s = (pre ++ [⟨n, n + 1⟩]) ++ marked (n + 1 + 1) s from by simp [show n + 2 = n + 1 + 1 from by omega], show n + 2 * ((x :: s).length : Int) = n + 1 + 1 + 2 * (s.length : Int) from by simp only [List.length_cons]; omega]
    exact this
theorem heldHeap (sz : Int) (s : List S67) (n : Int) (h1 : s.length ≤ 4000000) (h2 : 0 ≤ n) (h3 : n + 2 * s.length ≤ 9000000000) : Ev (fun k => laws_heldHeap.f k sz (marked n s) n) (n + 2 * s.length) := by
  unfold laws_heldHeap.f laws_heldWordS.f
  have := held_l0 s [] n (by simpa using h1) h2 h3
  exact Ev.bind (by simpa using this) (Ev.neg (by omega) (Ev.of rfl))

theorem toHeap (sz : Int) (l : List S65) (hl : l.length ≤ 2000000) : Ev (fun k => laws_toHeap.f k sz l) (sz, l.map conv) := by
  unfold laws_toHeap.f
  exact Ev.bind ⟨l.length + 1, fun k hk => toWordS l hl k (by omega)⟩ (Ev.of rfl)
theorem eqHeap (sz : Int) (l : List S67) (hl : l.length ≤ 2000000) : Ev (fun k => laws_eqHeap.f k sz l sz l) true := by
  unfold laws_eqHeap.f
  exact Ev.pos rfl (Ev.bind ⟨l.length + 1, fun k hk => eqWordS l hl k (by omega)⟩ (by first | exact Ev.pos rfl (Ev.of rfl) | exact Ev.of rfl | exact Ev.neg (by simp) (Ev.of rfl)))

theorem FnExactAlloc : laws_FnExactAlloc.PureO := by
  intro x0 x1 x2 h0 h1 h2 A1 c1 A2 c2 w hr1 hc1 hr2 hc2
  obtain ⟨_, hlen0, hwf0⟩ := h0
  obtain ⟨hlen2, hwf2⟩ := h2
  have hm0 : x0.f1.length ≤ 9223372036854775807 := by simpa [maxLen] using hlen0
  have hm2 : x2.length ≤ 9223372036854775807 := by simpa [maxLen] using hlen2
  have small : ∀ y : S65, Ok65 y → (conv y).f1 < 9223372036854775808 := by
    intro z hz
    have h := hz.2
    simp [Lit.wf, IntKind.min, IntKind.max, IntKind.signed, IntKind.bits] at h
    simp only [conv]
    omega
  have e1 : laws_szHeap.f x0.f0 x0.f1 1048576 = some (if (1048576 : Int) - (x0.f1.length : Int) < 0 then (-1 : Int) else 1048576 - (x0.f1.length : Int)) := by
    unfold laws_szHeap.f laws_szWordS.f
    rw [w64 (by omega) (by omega)]
    by_cases hbig : 1048576 - (x0.f1.length : Int) < 0
    · simp [hbig]
    · simp [hbig]
  by_cases hbig : 1048576 - (x0.f1.length : Int) < 0
  · rw [if_pos hbig] at e1
    exact law_early1 x0.f0 x0.f1 x1.f0 x1.f1 x2 A1 c1 A2 c2 w hr1 hc1 hr2 hc2 (-1) e1 (by omega)
  rw [if_neg hbig] at e1
  have e2 : laws_szWordS.f x2 (1048576 - (x0.f1.length : Int)) = some (if (1048576 : Int) - (x0.f1.length : Int) - (x2.length : Int) < 0 then (-1 : Int) else 1048576 - (x0.f1.length : Int) - (x2.length : Int)) := by
    unfold laws_szWordS.f
    rw [w64 (by omega) (by omega)]
    by_cases hb : 1048576 - (x0.f1.length : Int) - x2.length < 0
    · simp [hb]
    · simp [hb]
  by_cases hb2 : 1048576 - (x0.f1.length : Int) - x2.length < 0
  · rw [if_pos hb2] at e2
    exact law_early2 x0.f0 x0.f1 x1.f0 x1.f1 x2 A1 c1 A2 c2 w hr1 hc1 hr2 hc2 _ (-1) e1 (by omega) e2 (by omega)
  rw [if_neg hb2] at e2
  have hs0 : Small (x0.f1.map conv) := ⟨by simp; omega, fun y hy => by obtain ⟨z, hz, rfl⟩ := List.mem_map.1 hy; exact small z (hwf0 z hz)⟩
  have hs2 : Small (x2.map conv) := ⟨by simp; omega, fun y hy => by obtain ⟨z, hz, rfl⟩ := List.mem_map.1 hy; exact small z (hwf2 z hz)⟩
  obtain ⟨⟨r1, r2, r3, r4, r5⟩, ⟨K1, es⟩, ⟨K2, ei⟩, hput⟩ := alloc x0.f0 (x0.f1.map conv) (x2.map conv) (conv x1) hs0 hs2 (small x1 h1)
  have hrl : r2.length ≤ 1100000 := by
    rcases hput with h | ⟨h, ⟨⟨_, hz⟩, _⟩, _, hroom, _⟩
    · simp only [Prod.mk.injEq] at h
      rw [h.2.1]
      exact hs0.1
    · simp only [Prod.mk.injEq] at h
      rw [h.2.1]
      simp only [List.length_append, List.length_cons, List.length_nil, List.length_map] at hroom ⊢
      omega
  have l0 : (x0.f1.map conv).length ≤ 1100000 := hs0.1
  have l2 : (x2.map conv).length ≤ 1100000 := hs2.1
  obtain ⟨K3, et⟩ := toHeap x0.f0 x0.f1 (by omega)
  obtain ⟨K4, q1⟩ := eqHeap r1 r2 (by omega)
  obtain ⟨K5, q3⟩ := eqHeap x0.f0 (x0.f1.map conv) (by omega)
  obtain ⟨K6, m1⟩ := markHeap x0.f0 (x0.f1.map conv) 1 (by omega) (by omega) (by omega)
  obtain ⟨K7, m2⟩ := markWordS (x2.map conv) (1 + 2 * ((x0.f1.map conv).length : Int)) (by omega) (by omega) (by omega)
  obtain ⟨K8, m3⟩ := markHeap r1 r2 1 (by omega) (by omega) (by omega)
  obtain ⟨K9, hd⟩ := heldHeap r1 r2 1 (by omega) (by omega) (by omega)
  have q2 : laws_eqWord.f r3 r4 r3 r4 = some true := by
    unfold laws_eqWord.f
    simp
  refine law_true (K1 + K2 + K3 + K4 + K5 + K6 + K7 + K8 + K9 + x2.length + 1) x0.f0 x0.f1 x1.f0 x1.f1 x2 A1 c1 A2 c2 w hr1 hc1 hr2 hc2 _ _ e1 (by omega) e2 (by omega)
    (x0.f1.map conv) (x2.map conv) (et _ (by omega)) (by simp [laws_toWord.f]) (toWordS x2 (by omega) _ (by omega)) r1 r2 r3 r4 r5 (es _ (by omega)) (ei _ (by omega))
    (q1 _ (by omega)) q2 (q3 _ (by omega)) (eqWordS _ (by omega) _ (by simp; omega)) _ _ (m1 _ (by omega)) _ _ (m2 _ (by omega)) (by omega) _ _ (m3 _ (by omega)) (hd _ (by omega)) (by omega)

end Go.Proofs.Ytanobmanpnkccaa.Pure
