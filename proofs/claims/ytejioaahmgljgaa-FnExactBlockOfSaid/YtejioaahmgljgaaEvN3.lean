/- An evaluator over trees: what it tells is so (8): make, parts of roots, append. -/
import Derived.Test.YtejioaahmgljgaaEvN2
set_option linter.unusedVariables false
set_option linter.unusedSimpArgs false
namespace Go.Ev
open Go Go.RowKit

section
variable {P : Program} {tab : Tab} {w0 w : World} {B0 Fin : Nat → Prop} {s s' : St} {a : Act} {g : Gh}

/-- the cells of a slice that is copied: rows of B, or of its own -/
structure Src (w : World) (B : Nat → Prop) (size : Nat) (rows : List (List T)) (x : Value) (Gs : Nat → Nat → Nat → Prop) : Prop where
  hl : ∀ (i : Nat) (r : List T), rows[i]? = some r → r.length = size
  hx : (x = .slice none 0 0 ∧ rows = []) ∨ (∃ ad cap, x = .slice (some ad) 0 cap ∧ rows = []) ∨ ∃ (b off cap : Nat) (us : Nat → Nat → Value), x = .slice (some ⟨b, off, none⟩) rows.length cap ∧
    ∀ (i : Nat) (r : List T) (k : Nat) (y : T), rows[i]? = some r → r[k]? = some y → w.cell? ⟨b, off + (i * size + k), none⟩ = some (us i k) ∧ Own w B y (us i k) (Gs i k) ∧ (us i k).oneCell' = true
  hd : ∀ (i k i' k' c : Nat), Gs i k c → Gs i' k' c → i = i' ∧ k = k'

theorem Root.src {B : Nat → Prop} {size q : Nat} {rows : List (List T)} {v : Value} {sz : Nat} {F : Nat → Prop} (h : Root w B q rows v sz F) (hl : ∀ (i : Nat) (r : List T), rows[i]? = some r → r.length = size) : ∃ Gs : Nat → Nat → Nat → Prop, Src w B size rows v Gs ∧ ∀ i k c, Gs i k c → F c := by
  rcases h with ⟨rfl, rfl⟩ | ⟨b, off, cap, us, Fs, cs, ty, rfl, hh, hcap, hc, hl', hw, hd, hb, h1, h2, _⟩
  · exact ⟨fun _ _ _ => False, ⟨by simp, .inl ⟨rfl, rfl⟩, fun _ _ _ _ _ h => h.elim⟩, fun _ _ _ h => h.elim⟩
  · refine ⟨Fs, ⟨hl, .inr (.inr ⟨b, off, cap, us, rfl, ?_⟩), hd⟩, h2⟩
    intro i r k y hi hk
    obtain ⟨q1, q2, q3⟩ := hw i r k y hi hk
    have e : sz = size := by rw [← hl i r hi]; exact (hl' i r hi).symm
    subst e
    exact ⟨by simp [World.cell?, hh, q1], q2, q3⟩

theorem rep_src {B B' : Nat → Prop} {size : Nat} {rows : List (List T)} {o : Bool} {v : Value} (h : Rep w B' (.sl o rows) v) (hl : ∀ (i : Nat) (r : List T), rows[i]? = some r → r.length = size) {rows' : List (List T)} (hlen : rows'.length = rows.length)
    (hrow : ∀ (i : Nat) (r' : List T), rows'[i]? = some r' → ∃ r, rows[i]? = some r ∧ r'.length = r.length ∧ ∀ (k : Nat) (y' : T), r'[k]? = some y' → ∃ y, r[k]? = some y ∧ ∀ u, Rep w B' y u → Own w B y' u (fun _ => False) ∧ u.oneCell' = true) : Src w B size rows' v (fun _ _ _ => False) := by
  refine ⟨fun i r' hi => by obtain ⟨r, h1, h2, _⟩ := hrow i r' hi; rw [h2]; exact hl i r h1, ?_, fun _ _ _ _ _ h => h.elim⟩
  cases h with
  | nil => exact .inl ⟨rfl, List.length_eq_zero_iff.1 (by simpa using hlen)⟩
  | em _ ad cap => exact .inr (.inl ⟨ad, cap, rfl, List.length_eq_zero_iff.1 (by simpa using hlen)⟩)
  | sl o rows b off cap sz us hb hc hls hw hr =>
    rw [← hlen]
    refine .inr (.inr ⟨b, off, cap, us, rfl, ?_⟩)
    intro i r' k y' hi hk
    obtain ⟨r, h1, h2, h3⟩ := hrow i r' hi
    obtain ⟨y, h4, h5⟩ := h3 k y' hk
    have e : sz = size := by rw [← hl i r h1]; exact (hls i r h1).symm
    subst e
    obtain ⟨q1, q2⟩ := h5 _ (hr i r k y h1 h4)
    exact ⟨hw i r k y h1 h4, q1, q2⟩

/-- the cells in a row -/
def flatV (w : World) (b off : Nat) (n : Nat) : List Value := (List.range n).map fun j => (w.cell? ⟨b, off + j, none⟩).getD undef

theorem Src.news {B : Nat → Prop} {size : Nat} {rows : List (List T)} {x : Value} {Gs : Nat → Nat → Nat → Prop} (S : Src w B size rows x Gs) (hs : 0 < size) :
    (x = .slice none 0 0 ∧ rows = []) ∨ (∃ ad cap, x = .slice (some ad) 0 cap ∧ rows = []) ∨ ∃ b off cap news, x = .slice (some ⟨b, off, none⟩) rows.length cap ∧ news.length = rows.length * size ∧ (∀ (j : Nat) (u : Value), news[j]? = some u → w.cell? ((⟨b, off, none⟩ : Addr).add j) = some u) ∧ (∀ u ∈ news, u.oneCell' = true) ∧ Laid w B size rows news Gs := by
  rcases S.hx with h | h | ⟨b, off, cap, us, rfl, hw⟩
  · exact .inl h
  · exact .inr (.inl h)
  · refine .inr (.inr ⟨b, off, cap, flatV w b off (rows.length * size), rfl, by simp [flatV], ?_, ?_, ⟨S.hl, by simp [flatV], ?_, S.hd⟩⟩)
    · intro j u hj
      have hlt := nth_lt hj
      simp [flatV] at hlt
      have hi : j / size < rows.length := by rw [Nat.div_lt_iff_lt_mul hs]; exact hlt
      have hk : j % size < (rows[j / size]).length := by rw [S.hl _ _ (List.getElem?_eq_getElem hi)]; exact Nat.mod_lt _ hs
      obtain ⟨q1, _, _⟩ := hw _ _ _ _ (List.getElem?_eq_getElem hi) (List.getElem?_eq_getElem hk)
      rw [addr_add]
      simp only [flatV, List.getElem?_map, List.getElem?_range hlt, Option.map_some, Option.some.injEq] at hj
      have e : j / size * size + j % size = j := by rw [Nat.mul_comm]; exact Nat.div_add_mod j size
      rw [e] at q1
      rw [q1] at hj ⊢
      simpa using hj
    · intro u hu
      obtain ⟨j, hj⟩ := List.mem_iff_getElem?.1 hu
      have hlt := nth_lt hj
      simp [flatV] at hlt
      have hi : j / size < rows.length := by rw [Nat.div_lt_iff_lt_mul hs]; exact hlt
      have hk : j % size < (rows[j / size]).length := by rw [S.hl _ _ (List.getElem?_eq_getElem hi)]; exact Nat.mod_lt _ hs
      obtain ⟨q1, _, q3⟩ := hw _ _ _ _ (List.getElem?_eq_getElem hi) (List.getElem?_eq_getElem hk)
      simp only [flatV, List.getElem?_map, List.getElem?_range hlt, Option.map_some, Option.some.injEq] at hj
      have e : j / size * size + j % size = j := by rw [Nat.mul_comm]; exact Nat.div_add_mod j size
      rw [e] at q1
      rw [q1] at hj
      simp at hj; subst hj; exact q3
    · intro i r k y hi hk
      obtain ⟨q1, q2, q3⟩ := hw i r k y hi hk
      have hlt := idx_lt (nth_lt hi) (by have := nth_lt hk; rw [S.hl i r hi] at this; exact this)
      refine ⟨us i k, ?_, q2, q3⟩
      simp only [flatV, List.getElem?_map, List.getElem?_range hlt, Option.map_some, Option.some.injEq]
      rw [q1]; rfl

/-- rows behind rows -/
theorem Laid.app {B : Nat → Prop} {size : Nat} {rows1 rows2 : List (List T)} {cs1 cs2 : List Value} {G1 G2 : Nat → Nat → Nat → Prop} (L1 : Laid w B size rows1 cs1 G1) (L2 : Laid w B size rows2 cs2 G2) (hx : ∀ i k i' k' c, G1 i k c → ¬ G2 i' k' c) :
    Laid w B size (rows1 ++ rows2) (cs1 ++ cs2) (fun i k c => (i < rows1.length ∧ G1 i k c) ∨ (rows1.length ≤ i ∧ G2 (i - rows1.length) k c)) := by
  have hc1 := L1.hc
  refine ⟨?_, by simp [L1.hc, L2.hc, Nat.add_mul], ?_, ?_⟩
  · intro i r hi
    rw [List.getElem?_append] at hi
    split at hi
    · exact L1.hl i r hi
    · exact L2.hl _ r hi
  · intro i r k x hi hk
    rw [List.getElem?_append] at hi
    split at hi
    · rename_i hlt
      obtain ⟨u, h1, h2, h3⟩ := L1.hw i r k x hi hk
      exact ⟨u, by rw [List.getElem?_append_left (nth_lt h1)]; exact h1, h2.sub fun c hc => .inl ⟨hlt, hc⟩, h3⟩
    · rename_i hge
      obtain ⟨u, h1, h2, h3⟩ := L2.hw _ r k x hi hk
      refine ⟨u, ?_, h2.sub fun c hc => .inr ⟨by omega, hc⟩, h3⟩
      have e : i * size + k - cs1.length = (i - rows1.length) * size + k := by
        rw [hc1, Nat.sub_mul]
        have : rows1.length * size ≤ i * size := Nat.mul_le_mul_right _ (by omega)
        omega
      have hge2 : cs1.length ≤ i * size + k := by
        rw [hc1]
        have : rows1.length * size ≤ i * size := Nat.mul_le_mul_right _ (by omega)
        omega
      rw [List.getElem?_append_right hge2, e]
      exact h1
  · rintro i1 k1 i2 k2 c (⟨a1, a2⟩ | ⟨a1, a2⟩) (⟨b1, b2⟩ | ⟨b1, b2⟩)
    · exact L1.hd i1 k1 i2 k2 c a2 b2
    · exact absurd b2 (hx _ _ _ _ _ a2)
    · exact absurd a2 (hx _ _ _ _ _ b2)
    · obtain ⟨e1, e2⟩ := L2.hd _ k1 _ k2 c a2 b2
      exact ⟨by omega, e2⟩

/-- an append with room -/
theorem run_room (t ty e : TypeId) (i : TypeInfo) (ht : P.underlying t = some (.slice e)) (hi : P.info? e = some i) (b off n cap : Nat) (cur : Array Value) (ty' : TypeId) (hg : w.heap[b]? = some (.cells cur ty' (0, 0)))
    (ad : Addr) (m c : Nat) (news : List Value) (hl : news.length = m * i.size) (hnews : ∀ (j : Nat) (u : Value), news[j]? = some u → w.cell? (ad.add j) = some u) (h1 : ∀ u ∈ news, u.oneCell' = true)
    (hroom : n + m ≤ cap) (hfit : off + n * i.size + news.length ≤ cur.size) :
    (Builtin.append_ #[t, t] ty #[.slice (some ⟨b, off, none⟩) n cap, .slice (some ad) m c]).run P w =
      .ok (.slice (some ⟨b, off, none⟩) (n + m) cap) (w.setRow b (cur.toList.take (off + n * i.size) ++ news ++ cur.toList.drop (off + n * i.size + news.length)).toArray) := by
  have hf := run_firstCells_some (P := P) w i.size m ad m c news hl hnews
  have hst := run_storeCells_at P b (off + n * i.size) ty' news 0 cur w hg (by simpa using hfit) h1
  simp only [Nat.add_zero] at hst
  simp [Builtin.append_, run_underlying ht, sizeOf, typeInfo, hi, Builtin.lenOf, hroom, hf, addr_add, hst]

/-- an append of nothing -/
theorem run_app_none (t ty e : TypeId) (i : TypeInfo) (ht : P.underlying t = some (.slice e)) (hi : P.info? e = some i) (ad : Option Addr) (n cap : Nat) (h : n ≤ cap) :
    (Builtin.append_ #[t, t] ty #[.slice ad n cap, .slice none 0 0]).run P w = .ok (.slice ad n cap) w := by
  cases ad with
  | none => simp [Builtin.append_, run_underlying ht, sizeOf, typeInfo, hi, Builtin.lenOf, h, Builtin.firstCells]
  | some ad => simp [Builtin.append_, run_underlying ht, sizeOf, typeInfo, hi, Builtin.lenOf, h, Builtin.firstCells, storeCells]

/-- what an append makes of a root that went out of the frame -/
theorem append_sound (F : FR w0 B0 Fin s a w g) {id q : Nat} {rows1 rows2 : List (List T)} (h : s.putO id ⟨q, none⟩ (rows1 ++ rows2) = some s') (hf : lk s.o id = none)
    {t ty e : TypeId} {i : TypeInfo} {z : Value} (ht : P.underlying t = some (.slice e)) (hi : P.info? e = some i) (hz : i.zero = some z) (hzs : 0 < i.size) (hzc : z.cells.size = i.size) (hb1 : 1 ≤ i.bytes) (hbytes : (rows1.length + rows2.length) * i.bytes ≤ 70368744177664)
    {v x : Value} {sz : Nat} {F1 : Nat → Prop} (hr : Root w g.B q rows1 v sz F1) (hq : q = 0 ∨ q = i.size) (hl1 : ∀ (j : Nat) (r : List T), rows1[j]? = some r → r.length = i.size) (hF1 : ∀ b, F1 b → b < w.heap.size ∧ (Fin b ∨ w0.heap.size ≤ b) ∧ ¬ used g s b)
    {Gs : Nat → Nat → Nat → Prop} (S : Src w g.B i.size rows2 x Gs) (hG : ∀ j k b, Gs j k b → b < w.heap.size ∧ (Fin b ∨ w0.heap.size ≤ b) ∧ ¬ used g s b ∧ ¬ F1 b) :
    ∃ v' w' g', (Builtin.append_ #[t, t] ty #[v, x]).run P w = .ok v' w' ∧ FR w0 B0 Fin s' a w' g' ∧ g'.rv id = v' := by
  have hmul : rows1.length + rows2.length ≤ (rows1.length + rows2.length) * i.bytes := Nat.le_mul_of_pos_right _ hb1
  have hl12 : ∀ (j : Nat) (r : List T), (rows1 ++ rows2)[j]? = some r → r.length = i.size := by
    intro j r hj
    rw [List.getElem?_append] at hj
    split at hj
    · exact hl1 j r hj
    · exact S.hl _ r hj
  -- nothing new: the root stands as it stood
  have nothing : rows2 = [] → (Builtin.append_ #[t, t] ty #[v, x]).run P w = .ok v w → ∃ v' w' g', (Builtin.append_ #[t, t] ty #[v, x]).run P w = .ok v' w' ∧ FR w0 B0 Fin s' a w' g' ∧ g'.rv id = v' := by
    intro e hrun
    subst e
    rw [List.append_nil] at h
    exact ⟨v, w, _, hrun, F.newRoot h hf hr hF1, by simp [upd]⟩
  rcases S.news hzs with ⟨rfl, e2⟩ | ⟨ad, capx, rfl, e2⟩ | ⟨bx, offx, capx, news, rfl, hnl, hnews, hone, L2⟩
  · rcases hr with ⟨e1, rfl⟩ | ⟨b, off, cap, us, Fs, cs, ty', rfl, hh, hcap, hc, hl, hw, hd, hb, h1, h2, htt⟩
    · exact nothing e2 (run_app_none t ty e i ht hi none 0 0 (Nat.le_refl _))
    · exact nothing e2 (run_app_none t ty e i ht hi _ _ _ hc)
  · rcases hr with ⟨e1, rfl⟩ | ⟨b, off, cap, us, Fs, cs, ty', rfl, hh, hcap, hc, hl, hw, hd, hb, h1, h2, htt⟩
    · exact nothing e2 (by simp [Builtin.append_, run_underlying ht, sizeOf, typeInfo, hi, Builtin.lenOf, Builtin.firstCells, loadCells, loadCellsFrom])
    · exact nothing e2 (by simp [Builtin.append_, run_underlying ht, sizeOf, typeInfo, hi, Builtin.lenOf, hc, Builtin.firstCells, loadCells, loadCellsFrom, storeCells])
  have hneed : rows1.length + rows2.length ≤ 9223372036854775807 := by omega
  -- a row anew
  have fresh : ∀ (old : Nat) (cs1 : List Value) (G1 : Nat → Nat → Nat → Prop), 0 < rows1.length + rows2.length → Laid w g.B i.size rows1 cs1 G1 → (∀ j k b, G1 j k b → F1 b) →
      ∃ g', FR w0 B0 Fin s' a (w.drew.alloc (.cells (cs1.toArray ++ news.toArray ++ Builtin.zeroCells z.cells (grownCap w (rows1.length + rows2.length) old e - (rows1.length + rows2.length))) e)) g' ∧ g'.rv id = .slice (some ⟨w.heap.size, 0, none⟩) (rows1.length + rows2.length) (grownCap w (rows1.length + rows2.length) old e) := by
    intro old cs1 G1 hpos L1 hG1
    have hge := grownCap_ge w (rows1.length + rows2.length) old e
    have L := L1.app L2 (fun j k j' k' c hc hc' => (hG j' k' c hc').2.2.2 (hG1 j k c hc))
    have hc1 := L1.hc
    obtain ⟨g', F', hrv⟩ := F.allocRoot (q := q) (cap := grownCap w (rows1.length + rows2.length) old e) (cs := cs1.toArray ++ news.toArray ++ Builtin.zeroCells z.cells (grownCap w (rows1.length + rows2.length) old e - (rows1.length + rows2.length))) (ty := e) (w1 := w.drew) L
      (fun j k b hb => by
        rcases hb with ⟨_, hb⟩ | ⟨_, hb⟩
        · exact hF1 b (hG1 j k b hb)
        · obtain ⟨b1, b2, b3, _⟩ := hG _ k b hb; exact ⟨b1, b2, b3⟩) h hf rfl rfl rfl rfl
      (fun j u hj => by
        have hlt := nth_lt hj
        rw [Array.getElem?_append_left (by simp at hlt ⊢; omega)]
        have e : cs1.toArray ++ news.toArray = (cs1 ++ news).toArray := by simp
        rw [e, List.getElem?_toArray]; exact hj)
      (by
        simp only [Array.size_append, List.size_toArray, size_zeroCells, hzc, hc1, hnl, ← Nat.add_mul]
        exact Nat.mul_le_mul_right _ (by omega)) (by rw [List.length_append]; exact hge)
      (by
        rcases hq with e | e
        · refine .inl ⟨e, fun h' => ?_⟩
          have := congrArg List.length h'
          rw [List.length_append, List.length_nil] at this; omega
        · exact .inr ⟨by omega, e.symm⟩)
    rw [List.length_append] at hrv
    exact ⟨g', F', hrv⟩
  rcases hr with ⟨e1, rfl⟩ | ⟨b, off, cap, us, Fs, cs, ty', rfl, hh, hcap, hc, hl, hw, hd, hb, h1, h2, htt⟩
  · subst e1
    by_cases hm : rows2.length = 0
    · have e2 : rows2 = [] := List.length_eq_zero_iff.1 hm
      refine nothing e2 ?_
      simp [Builtin.append_, run_underlying ht, sizeOf, typeInfo, hi, Builtin.lenOf, hm, Builtin.firstCells, loadCells, loadCellsFrom]
    · have L1 : Laid w g.B i.size ([] : List (List T)) [] (fun _ _ _ => False) := ⟨by simp, by simp, by simp, fun _ _ _ _ _ h => h.elim⟩
      obtain ⟨g', F', hrv⟩ := fresh 0 [] _ (by simp; omega) L1 (fun _ _ _ h => h.elim)
      have hrun := run_append_nil (P := P) w t ty e i z ht hi hz ⟨bx, offx, none⟩ rows2.length capx news hnl hnews (by omega) (by simp only [List.length_nil, Nat.zero_add] at hneed; omega) (by simp only [List.length_nil, Nat.zero_add] at hbytes; omega)
      simp only [List.length_nil, Nat.zero_add] at F' hrv
      refine ⟨_, _, g', hrun, ?_, hrv⟩
      simpa using F'
  · -- nothing behind nothing
    by_cases hz0 : rows2.length = 0
    · have e2 : rows2 = [] := List.length_eq_zero_iff.1 hz0
      refine nothing e2 ?_
      simp [Builtin.append_, run_underlying ht, sizeOf, typeInfo, hi, Builtin.lenOf, hz0, hc, Builtin.firstCells, loadCells, loadCellsFrom, storeCells]
    -- the row's cells are of this size, or there is no room
    have hsz : sz = i.size ∨ (rows1 = [] ∧ cap = 0) := by
      by_cases hne : rows1 = []
      · rcases htt with ⟨_, h'⟩ | ⟨h', h''⟩
        · exact .inr ⟨hne, h' hne⟩
        · rcases hq with e | e
          · exact absurd e h'
          · exact .inl (h''.trans e)
      · left
        cases rows1 with
        | nil => exact absurd rfl hne
        | cons r rs => rw [← hl1 0 r rfl]; exact (hl 0 r rfl).symm
    have hsz' : rows1.length * sz = rows1.length * i.size := by
      rcases hsz with e | ⟨e, _⟩
      · rw [e]
      · simp [e]
    -- the cells that stand there
    have hcs1 : rows1.length * i.size + off ≤ cs.size := by
      have : rows1.length * sz ≤ cap * sz := Nat.mul_le_mul_right _ hc
      omega
    let cs1 : List Value := (cs.toList.drop off).take (rows1.length * i.size)
    have hc1 : cs1.length = rows1.length * i.size := by simp [cs1]; omega
    have hc1k : ∀ (j : Nat) (u : Value), cs1[j]? = some u → cs[off + j]? = some u := by
      intro j u hj
      simp only [cs1, List.getElem?_take, List.getElem?_drop] at hj
      split at hj
      · simpa using hj
      · cases hj
    have L1 : Laid w g.B i.size rows1 cs1 Fs := by
      refine ⟨hl1, hc1, ?_, hd⟩
      intro j r k x hj hk
      obtain ⟨q1, q2, q3⟩ := hw j r k x hj hk
      have hlt := idx_lt (size := i.size) (nth_lt hj) (by have := nth_lt hk; rw [hl1 j r hj] at this; exact this)
      have e : sz = i.size := by rw [← hl1 j r hj]; exact (hl j r hj).symm
      subst e
      refine ⟨us j k, ?_, q2, q3⟩
      simp only [cs1, List.getElem?_take, List.getElem?_drop, hlt, if_true]
      simpa using q1
    have hFs : ∀ j k c, Fs j k c → F1 c := h2
    by_cases hroom : rows1.length + rows2.length ≤ cap
    · -- in place
      have e : sz = i.size := by
        rcases hsz with e | ⟨_, e⟩
        · exact e
        · omega
      subst e
      have hfit : off + rows1.length * i.size + news.length ≤ cs.size := by
        rw [hnl]
        have : (rows1.length + rows2.length) * i.size ≤ cap * i.size := Nat.mul_le_mul_right _ hroom
        rw [Nat.add_mul] at this; omega
      have hrun := run_room (P := P) (w := w) t ty e i ht hi b off rows1.length cap cs ty' hh ⟨bx, offx, none⟩ rows2.length capx news hnl hnews hone hroom hfit
      have L := L1.app L2 (fun j k j' k' c hc hc' => (hG j' k' c hc').2.2.2 (h2 j k c hc))
      let cs' : Array Value := (cs.toList.take (off + rows1.length * i.size) ++ news ++ cs.toList.drop (off + rows1.length * i.size + news.length)).toArray
      let w' := w.setRow b cs'
      have hold : ∀ c, c ≠ b → w'.heap[c]? = w.heap[c]? := fun c hc => setRow_other _ _ _ _ hc
      have hbu : ¬ used g s b := (hF1 b h1).2.2
      have hk : Keeps Fin w0 w' := F.kp.step (G := fun c => c = b) ⟨rfl, rfl, rfl, by simp [w'], fun c _ hc => hold c hc⟩ (fun c hc e => by
        subst e
        rcases (hF1 c h1).2.1 with h | h
        · exact h
        · omega)
      have F1' := F.world (w' := w') (by simp [w']) (fun c hc => hold c fun e => hbu (e ▸ hc)) hk
      have hsz' : w'.heap.size = w.heap.size := by simp [w']
      have hroot := L.rootAt (w' := w') (b := b) (off := off) (cap := cap) (cs := cs') (ty := ty') (q := q) (setRow_heap _ _ _ _ _ _ hh)
        (fun j u hj => by
          rw [List.getElem?_append] at hj
          simp only [cs', List.getElem?_toArray, List.getElem?_append, List.length_append, List.length_take, Array.length_toList, List.getElem?_take, List.getElem?_drop]
          have hm : min (off + rows1.length * i.size) cs.size = off + rows1.length * i.size := by omega
          rw [hm]
          split at hj
          · rename_i hlt
            rw [hc1] at hlt
            rw [if_pos (by omega), if_pos (by omega), if_pos (by omega)]
            simpa using hc1k j u hj
          · rename_i hge
            have hlt := nth_lt hj
            rw [hc1] at hge hlt hj
            rw [if_pos (by omega), if_neg (by omega), show off + j - (off + rows1.length * i.size) = j - rows1.length * i.size by omega]
            exact hj)
        (by
          have : cs'.size = cs.size := by simp [cs']; omega
          rw [this]; exact hcap) (by rw [List.length_append]; exact hroom) (fun c hc => hold c fun e => hbu (.inl (e ▸ hc)))
        (fun j k c hc => by
          have hcb : c ≠ b := by
            intro e; subst e
            rcases hc with ⟨_, hc⟩ | ⟨_, hc⟩
            · exact hb _ _ hc
            · exact (hG _ _ _ hc).2.2.2 h1
          exact ⟨hcb, hold c hcb⟩)
        (by
          rcases hq with e | e
          · refine .inl ⟨e, fun h' => ?_⟩
            have := congrArg List.length h'
            simp at this
            exact absurd (by rw [this.2]; rfl) hz0
          · exact .inr ⟨by omega, e.symm⟩)
      rw [List.length_append] at hroot
      refine ⟨_, _, _, hrun, F1'.newRoot h hf hroot ?_, by simp [upd]⟩
      rintro c (rfl | ⟨j, k, hc⟩)
      · rw [hsz']; exact hF1 c h1
      · rcases hc with ⟨_, hc⟩ | ⟨_, hc⟩
        · rw [hsz']; exact hF1 c (h2 _ _ _ hc)
        · obtain ⟨b1, b2, b3, _⟩ := hG _ _ _ hc
          rw [hsz']; exact ⟨b1, b2, b3⟩
    · obtain ⟨g', F', hrv⟩ := fresh cap cs1 Fs (by omega) L1 h2
      have hrun := run_append_grow (P := P) w t ty e i z ht hi hz ⟨b, off, none⟩ rows1.length cap cs1 hc1
        (fun j u hj => by rw [addr_add]; have := hc1k j u hj; simp [World.cell?, hh, this]) ⟨bx, offx, none⟩ rows2.length capx news hnl hnews (by omega) (by omega) (growslice_fits (by omega) (by omega))
      exact ⟨_, _, g', hrun, F', hrv⟩
end
end Go.Ev
