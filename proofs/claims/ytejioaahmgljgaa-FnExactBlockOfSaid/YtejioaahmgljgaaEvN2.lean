/- An evaluator over trees: what it tells is so (7): slice literals; all operations that turn boxes and roots. -/
import Derived.Test.YtejioaahmgljgaaEvN
set_option linter.unusedVariables false
set_option linter.unusedSimpArgs false
namespace Go.Ev
open Go Go.RowKit

section
variable {P : Program} {tab : Tab} {w0 w : World} {B0 Fin : Nat → Prop} {s s' : St} {a : Act} {g : Gh}

/-- rows and their cells, ahead of standing in memory -/
structure Laid (w : World) (B : Nat → Prop) (size : Nat) (rows : List (List T)) (cells : List Value) (Gs : Nat → Nat → Nat → Prop) : Prop where
  hl : ∀ (i : Nat) (r : List T), rows[i]? = some r → r.length = size
  hc : cells.length = rows.length * size
  hw : ∀ (i : Nat) (r : List T) (k : Nat) (x : T), rows[i]? = some r → r[k]? = some x → ∃ u, cells[i * size + k]? = some u ∧ Own w B x u (Gs i k) ∧ u.oneCell' = true
  hd : ∀ (i k i' k' c : Nat), Gs i k c → Gs i' k' c → i = i' ∧ k = k'

theorem idx_lt {rows : List (List T)} {size i k : Nat} (hi : i < rows.length) (hk : k < size) : i * size + k < rows.length * size := by
  have : (i + 1) * size ≤ rows.length * size := Nat.mul_le_mul_right _ hi
  rw [Nat.succ_mul] at this
  omega

/-- one row told anew -/
theorem Laid.set {B : Nat → Prop} {size : Nat} {rows rows' : List (List T)} {cells : List Value} {Gs : Nat → Nat → Nat → Prop} (L : Laid w B size rows cells Gs) {i : Nat} {ts : List T} {vs : List Value} (hset : setS rows i [ts] = some rows') (hts : ts.length = size) (hvs : vs.length = size)
    {Hs : Nat → Nat → Prop} (hH : ∀ (k : Nat) (t : T) (v : Value), ts[k]? = some t → vs[k]? = some v → Own w B t v (Hs k)) (hone : ∀ u ∈ vs, u.oneCell' = true) (hd : ∀ k k' b, Hs k b → Hs k' b → k = k') (hx : ∀ k b i' k', Hs k b → ¬ Gs i' k' b) :
    Laid w B size rows' (cells.take (i * size) ++ vs ++ cells.drop (i * size + vs.length)) (fun i' k b => (i' = i ∧ Hs k b) ∨ (i' ≠ i ∧ Gs i' k b)) ∧ i * size + vs.length ≤ cells.length ∧ rows'.length = rows.length := by
  obtain ⟨rfl, hn⟩ := setS_eq hset
  simp only [List.length_cons, List.length_nil] at hn
  have hbound : i * size + size ≤ rows.length * size := by
    have : (i + 1) * size ≤ rows.length * size := Nat.mul_le_mul_right _ (by omega)
    rw [Nat.succ_mul] at this; exact this
  have hlen : (rows.take i ++ [ts] ++ rows.drop (i + [ts].length)).length = rows.length := by simp; omega
  have hrow : ∀ (i' : Nat) (r : List T), (rows.take i ++ [ts] ++ rows.drop (i + [ts].length))[i']? = some r → (i' = i ∧ r = ts) ∨ (i' ≠ i ∧ rows[i']? = some r) := by
    intro i' r h
    simp only [List.getElem?_append, List.length_append, List.length_take, List.length_cons, List.length_nil, List.getElem?_take, List.getElem?_drop] at h
    have hm : min i rows.length = i := by omega
    rw [hm] at h
    by_cases h1 : i' < i
    · simp [h1, show i' < i + 1 by omega] at h
      exact .inr ⟨by omega, h⟩
    · by_cases h2 : i' = i
      · subst h2; simp at h; exact .inl ⟨rfl, h.symm⟩
      · simp [show ¬ i' < i + 1 by omega, show i + 1 + (i' - (i + 1)) = i' by omega] at h
        exact .inr ⟨h2, h⟩
  have hcell : ∀ j, (cells.take (i * size) ++ vs ++ cells.drop (i * size + vs.length))[j]? = if i * size ≤ j ∧ j < i * size + vs.length then vs[j - i * size]? else cells[j]? := by
    intro j
    have hc := L.hc
    simp only [List.getElem?_append, List.length_append, List.length_take, List.getElem?_take, List.getElem?_drop]
    have hm : min (i * size) cells.length = i * size := by omega
    rw [hm]
    by_cases h3 : j < i * size
    · rw [if_neg (show ¬ (i * size ≤ j ∧ j < i * size + vs.length) by omega)]
      simp [h3, show j < i * size + vs.length by omega]
    · by_cases h4 : j < i * size + vs.length
      · simp [h3, h4, show i * size ≤ j by omega]
      · simp [h4, show i * size + vs.length + (j - (i * size + vs.length)) = j by omega]
  refine ⟨⟨?_, ?_, ?_, ?_⟩, by have := L.hc; omega, hlen⟩
  · intro i' r h
    rcases hrow i' r h with ⟨_, rfl⟩ | ⟨_, h'⟩
    · exact hts
    · exact L.hl i' r h'
  · have hc := L.hc
    rw [hlen]
    simp; omega
  · intro i' r k x h hk
    rcases hrow i' r h with ⟨rfl, rfl⟩ | ⟨hne, h'⟩
    · have hkl := nth_lt hk
      have hj : k < vs.length := by omega
      refine ⟨vs[k], ?_, (hH k x _ hk (List.getElem?_eq_getElem hj)).sub fun b hb => .inl ⟨rfl, hb⟩, hone _ (List.getElem_mem hj)⟩
      rw [hcell, if_pos ⟨by omega, by omega⟩, show i' * size + k - i' * size = k by omega]
      exact List.getElem?_eq_getElem hj
    · obtain ⟨u, h1, h2, h3⟩ := L.hw i' r k x h' hk
      have hkl := nth_lt hk
      have hl := L.hl i' r h'
      refine ⟨u, ?_, h2.sub fun b hb => .inr ⟨hne, hb⟩, h3⟩
      rw [hcell, if_neg ?_]
      · exact h1
      · rintro ⟨h5, h6⟩
        have h7 : i' * size + k = i * size + (i' * size + k - i * size) := by omega
        exact hne (idx_inj (by omega) (by omega) h7).1
  · rintro i1 k1 i2 k2 c (⟨a1, a2⟩ | ⟨a1, a2⟩) (⟨b1, b2⟩ | ⟨b1, b2⟩)
    · exact ⟨a1.trans b1.symm, hd k1 k2 c a2 b2⟩
    · exact absurd b2 (hx _ _ _ _ a2)
    · exact absurd a2 (hx _ _ _ _ b2)
    · exact L.hd i1 k1 i2 k2 c a2 b2

theorem fillRows_sound {size : Nat} {h0 : Bxs} {o0 : Rts} {s0 : St} : ∀ {ps : List (Nat × AV)} {us : List (Nat × Value)} {s s' : St} {rows rows' : List (List T)} {cells : List Value} {Gs : Nat → Nat → Nat → Prop},
    FR w0 B0 Fin s a w g → Subs s0 s → Laid w g.B size rows cells Gs → (∀ i k b, Gs i k b → Freed w0 w Fin g s0 s b) → ps.length = us.length →
    (∀ (k : Nat) (p : Nat × AV) (u : Nat × Value), ps[k]? = some p → us[k]? = some u → p.1 = u.1 ∧ ∀ cs, p.2.cells? = some cs → CRs w g h0 o0 cs u.2.cells.toList ∧ ∀ q ∈ u.2.cells.toList, q.oneCell' = true) →
    fillRows size s rows ps = some (rows', s') →
    ∃ cells' Gs', Instr.fill (fun i => some (i * size, size)) cells.toArray us = some cells' ∧ FR w0 B0 Fin s' a w g ∧ Subs s0 s' ∧ Laid w g.B size rows' cells'.toList Gs' ∧ (∀ i k b, Gs' i k b → Freed w0 w Fin g s0 s' b) ∧ rows'.length = rows.length := by
  intro ps
  induction ps with
  | nil =>
    intro us s s' rows rows' cells Gs F hs L hG hl _ h
    have : us = [] := List.length_eq_zero_iff.1 hl.symm
    subst this
    rw [fillRows] at h; cases h
    exact ⟨cells.toArray, Gs, rfl, F, hs, by simpa using L, hG, rfl⟩
  | cons p ps ih =>
    intro us s s' rows rows' cells Gs F hs L hG hl hk h
    cases us with
    | nil => simp at hl
    | cons u us =>
      obtain ⟨i, x⟩ := p
      obtain ⟨i', v⟩ := u
      obtain ⟨hi, hx⟩ := hk 0 (i, x) (i', v) rfl rfl
      simp only at hi hx; subst hi
      rw [fillRows] at h
      split at h
      case h_2 => cases h
      rename_i cs hcs
      split at h
      case h_2 => cases h
      rename_i hlen
      split at h
      case h_2 => cases h
      rename_i ts s1 hab
      split at h
      case h_2 => cases h
      rename_i rows1 hset
      obtain ⟨hcr, hone⟩ := hx cs hcs
      have hsz := lenS_eq hlen
      obtain ⟨F1, hs1, htl, Hs, hH, hHd, hHf⟩ := absorbL_sound F hcr hab
      have hvl : v.cells.toList.length = size := by have := hcr.1; omega
      obtain ⟨L1, hfit, hrl⟩ := L.set hset (by omega) hvl hH hone hHd (fun k b i' k' hb hb' => (hG i' k' b hb').2.2.1 (hHf k b hb).2.2.2)
      have hG1 : ∀ i2 k b, ((i2 = i ∧ Hs k b) ∨ (i2 ≠ i ∧ Gs i2 k b)) → Freed w0 w Fin g s0 s1 b := by
        rintro i2 k b (⟨_, hb⟩ | ⟨_, hb⟩)
        · obtain ⟨b1, b2, b3, b4⟩ := hHf k b hb; exact ⟨b1, b2, b3, hs.used b4⟩
        · obtain ⟨b1, b2, b3, b4⟩ := hG i2 k b hb; exact ⟨b1, b2, fun h => b3 (hs1.used h), b4⟩
      obtain ⟨cells', Gs', hf, r1, r2, r3, r4, r5⟩ := ih F1 (hs.trans hs1) L1 hG1 (by simpa using hl) (fun k p u hp hu => hk (k + 1) p u (by simpa using hp) (by simpa using hu)) h
      refine ⟨cells', Gs', ?_, r1, r2, r3, r4, by omega⟩
      rw [Instr.fill]
      have h1 : v.cells.size = size := by simpa using hvl
      have h2 : ¬ (i * size + v.cells.size > cells.toArray.size) := by simp at hfit ⊢; omega
      have h3 : (v.cells.size ≠ size || decide (i * size + v.cells.size > cells.toArray.size)) = false := by simp [h1]; simpa [h1] using h2
      simp only
      rw [h3]
      simp only [Bool.false_eq_true, if_false]
      have e : (v.cells.zipIdx.foldl (fun (cs : Array Value) (p : Value × Nat) => cs.setIfInBounds (i * size + p.2) p.1) cells.toArray) = (cells.take (i * size) ++ v.cells.toList ++ cells.drop (i * size + v.cells.toList.length)).toArray := by
        rw [← zip_set0 v.cells.toList cells (i * size) hfit]
        rw [← Array.foldl_toList, Array.toList_zipIdx]
      have e' : (v.cells.zipIdx.foldl (fun (cs : Array Value) (x : Value × Nat) => match x with | (c, j) => cs.setIfInBounds (i * size + j) c) cells.toArray) = (cells.take (i * size) ++ v.cells.toList ++ cells.drop (i * size + v.cells.toList.length)).toArray := e
      rw [e']
      exact hf

theorem repS_eq {α : Type} {x : α} : ∀ {n : Nat} {l : List α}, repS x n = some l → l = List.replicate n x
  | 0, l, h => by rw [repS] at h; cases h; rfl
  | n + 1, l, h => by
    rw [repS] at h
    split at h
    · rename_i l' hl; cases h; rw [repS_eq hl]; rfl
    · cases h

/-- rows of zeros -/
theorem zero_laid {z : List T} {zs : List T} {v : Value} (hz : z = v.cells.toList.map .sc) (hzs : mapS zT z = some zs) (B : Nat → Prop) (n size : Nat) (hsz : z.length = size) (hone : ∀ u ∈ v.cells.toList, u.oneCell' = true) :
    Laid w B size (List.replicate n zs) (madeCells v.cells (n * size)).toList (fun _ _ _ => False) := by
  obtain ⟨hl, hk⟩ := mapS_eq hzs
  have hvs : v.cells.size = size := by rw [hz] at hsz; simpa using hsz
  refine ⟨?_, by simp [size_madeCells], ?_, fun _ _ _ _ _ h => h.elim⟩
  · intro i r hi
    have := List.mem_of_getElem? hi
    rw [List.mem_replicate] at this
    rw [this.2, hl, hsz]
  · intro i r k x hi hx
    have hm := List.mem_of_getElem? hi
    rw [List.mem_replicate] at hm
    have hin := nth_lt hi
    rw [List.length_replicate] at hin
    rw [hm.2] at hx
    have hkl := nth_lt hx
    rw [hl, hsz] at hkl
    have hidx : i * size + k < n * size := by
      have : (i + 1) * size ≤ n * size := Nat.mul_le_mul_right _ hin
      rw [Nat.succ_mul] at this; omega
    have hmod : (i * size + k) % v.cells.size = k := by rw [hvs, Nat.mul_comm, Nat.mul_add_mod]; exact Nat.mod_eq_of_lt hkl
    have hkv : k < v.cells.size := by omega
    have hcell : (madeCells v.cells (n * size)).toList[i * size + k]? = some v.cells[k] := by
      rw [Array.getElem?_toList]
      simp only [madeCells, Array.getElem?_map]
      rw [Array.getElem?_range]
      simp only [hidx, if_true, Option.map_some, hmod]
      rw [getElem!_pos v.cells k hkv]
    refine ⟨v.cells[k], hcell, ?_, hone _ (by simp)⟩
    have hzk : z[k]? = some (.sc v.cells[k]) := by rw [hz]; simp [hkv]
    obtain ⟨y, hy, he⟩ := hk k _ hzk
    rw [hx] at hy; cases hy
    simp only [zT] at he
    split at he
    · rename_i e; cases he; rw [e]; exact .nil _
    · cases he; exact .sc _ _

theorem zRow_parts {ei : TI} {zs : List T} (h : zRow ei = some zs) : ∃ z, ei.zero = some z ∧ z.length = ei.size ∧ allB okT z = true ∧ mapS zT z = some zs := by
  unfold zRow at h
  split at h
  · rename_i z hz
    split at h
    · rename_i hl
      split at h
      · rename_i ho; exact ⟨z, hz, lenS_eq hl, ho, h⟩
      · cases h
    · cases h
  · cases h

/-- a row in a block -/
theorem Laid.rootAt {B : Nat → Prop} {size : Nat} {rows : List (List T)} {cells : List Value} {Gs : Nat → Nat → Nat → Prop} (L : Laid w B size rows cells Gs) {w' : World} {b off : Nat} {cap : Nat} {cs : Array Value} {ty : TypeId} (hh : w'.heap[b]? = some (.cells cs ty (0, 0))) (hcs : ∀ (j : Nat) (u : Value), cells[j]? = some u → cs[off + j]? = some u)
    (hcap : off + cap * size ≤ cs.size) (hrc : rows.length ≤ cap) (hB : ∀ c, B c → w'.heap[c]? = w.heap[c]?) (hG : ∀ i k c, Gs i k c → c ≠ b ∧ w'.heap[c]? = w.heap[c]?) {q : Nat} (ht : (q = 0 ∧ (rows = [] → cap = 0)) ∨ (q ≠ 0 ∧ size = q)) :
    Root w' B q rows (.slice (some ⟨b, off, none⟩) rows.length cap) size (fun c => c = b ∨ ∃ i k, Gs i k c) := by
  refine .inr ⟨b, off, cap, fun i k => cells[i * size + k]?.getD undef, Gs, cs, ty, rfl, hh, hcap, hrc, L.hl, ?_, L.hd, fun i k h => (hG i k b h).1 rfl, .inl rfl, fun i k c h => .inr ⟨i, k, h⟩, ht⟩
  intro i r k x hi hk
  obtain ⟨u, h1, h2, h3⟩ := L.hw i r k x hi hk
  simp only [h1, Option.getD_some]
  exact ⟨hcs _ _ h1, h2.mono (fun c hc => ⟨hc, hB c hc⟩) fun c hc => (hG i k c hc).2, h3⟩
theorem Laid.root {B : Nat → Prop} {size : Nat} {rows : List (List T)} {cells : List Value} {Gs : Nat → Nat → Nat → Prop} (L : Laid w B size rows cells Gs) {w' : World} {b : Nat} {cap : Nat} {cs : Array Value} {ty : TypeId} (hh : w'.heap[b]? = some (.cells cs ty (0, 0))) (hcs : ∀ (j : Nat) (u : Value), cells[j]? = some u → cs[j]? = some u)
    (hcap : cap * size ≤ cs.size) (hrc : rows.length ≤ cap) (hB : ∀ c, B c → w'.heap[c]? = w.heap[c]?) (hG : ∀ i k c, Gs i k c → c ≠ b ∧ w'.heap[c]? = w.heap[c]?) {q : Nat} (ht : (q = 0 ∧ (rows = [] → cap = 0)) ∨ (q ≠ 0 ∧ size = q)) :
    Root w' B q rows (.slice (some ⟨b, 0, none⟩) rows.length cap) size (fun c => c = b ∨ ∃ i k, Gs i k c) :=
  L.rootAt hh (fun j u hj => by rw [Nat.zero_add]; exact hcs j u hj) (by omega) hrc hB hG ht

/-- a root anew, out of what a frame gave -/
theorem FR.allocRoot (F : FR w0 B0 Fin s a w g) {id q : Nat} {rows : List (List T)} {size : Nat} {cells : List Value} {Gs : Nat → Nat → Nat → Prop} (L : Laid w g.B size rows cells Gs) (hG : ∀ i k b, Gs i k b → b < w.heap.size ∧ (Fin b ∨ w0.heap.size ≤ b) ∧ ¬ used g s b)
    (h : s.putO id ⟨q, none⟩ rows = some s') (hf : lk s.o id = none) {w1 : World} (hw1 : w1.heap = w.heap) (hos : w1.os = w.os) (htp : w1.tape = w.tape) (hout : w1.output = w.output) {cs : Array Value} {ty : TypeId} {cap : Nat} (hcs : ∀ (j : Nat) (u : Value), cells[j]? = some u → cs[j]? = some u) (hcap : cap * size ≤ cs.size) (hrc : rows.length ≤ cap) (ht : (q = 0 ∧ (rows = [] → cap = 0)) ∨ (q ≠ 0 ∧ size = q)) :
    ∃ g', FR w0 B0 Fin s' a (w1.alloc (.cells cs ty)) g' ∧ g'.rv id = .slice (some ⟨w.heap.size, 0, none⟩) rows.length cap := by
  let w' := w1.alloc (.cells cs ty)
  have hsz : w'.heap.size = w.heap.size + 1 := by simp [w', hw1]
  have hold : ∀ b, b < w.heap.size → w'.heap[b]? = w.heap[b]? := fun b hb => by
    show (w1.heap.push _)[b]? = _
    rw [hw1, Array.getElem?_push, if_neg (by omega)]
  have hnew : w'.heap[w.heap.size]? = some (.cells cs ty (0, 0)) := by
    show (w1.heap.push _)[w.heap.size]? = _
    rw [hw1]; simp
  have hk : Keeps Fin w0 w' := F.kp.step (G := fun _ => False) ⟨hos, htp, hout, by omega, fun b hb _ => hold b hb⟩ (fun _ _ h => h.elim)
  have F1 := F.world (w' := w') (by omega) (fun b hb => hold b (F.used_lt hb)) hk
  have hr := L.root (b := w.heap.size) (cap := cap) hnew hcs hcap hrc (fun c hc => hold c (F.bb c hc).1) (fun i k c hc => ⟨by have := (hG i k c hc).1; omega, hold c (hG i k c hc).1⟩) ht
  refine ⟨_, F1.newRoot h hf hr ?_, by simp [upd]⟩
  rintro b (rfl | ⟨i, k, hb⟩)
  · exact ⟨by omega, .inr F.kp.size, fun hu => by have := F.used_lt hu; omega⟩
  · obtain ⟨h1, h2, h3⟩ := hG i k b hb
    exact ⟨by omega, h2, h3⟩

theorem mapfA {l r : List AV} (h : mapS fA l = some r) : r = l := by
  induction l generalizing r with
  | nil => cases h; rfl
  | cons x l ih =>
    rw [mapS] at h
    split at h
    · rename_i y hy
      split at h
      · rename_i q hq; cases h; rw [fA_eq hy, ih hq]
      · cases h
    · cases h

/-- an operation that turns boxes and roots -/
theorem evalM_sound (hT : TabOk P tab) (F : FR w0 B0 Fin s a w g) {o : Oper} (h : evalM tab s o.op o.dst = some s') :
    ∃ u w' g', ((execOp a.eval o).run P w = .ok (.value u) w' ∨ ((execOp a.eval o).run P w = .ok .skip w' ∧ u = undef)) ∧ FR w0 B0 Fin s' (a.put o.dst u) w' g' := by
  unfold evalM at h
  split at h
  · rename_i ty ho
    split at h
    case h_2 => cases h
    rename_i d hd
    split at h
    case h_2 => cases h
    rename_i ti ht
    split at h
    case h_2 => cases h
    rename_i z hz
    split at h
    case h_2 => cases h
    rename_i zs hzs
    split at h
    case h_2 => cases h
    rename_i s1 hs1
    split at h
    case h_2 => cases h
    rename_i s2 hs2
    have e := tS_eq hzs; subst e
    obtain ⟨F1, hf1, hf2, _, _⟩ := F.clear hs1
    obtain ⟨v, hv, _, hvr⟩ := zero_sound (g := g) (bxs := s1.h) (rts := s1.o) hT ht hz w
    have F2 := F1.newBox (ty := ty) hs2 hf1 hvr
    refine ⟨.pointer (some ⟨w.heap.size, 0, none⟩), { w with heap := w.heap.push (.cells v.cells.toList.toArray ty) }, { g with lc := upd g.lc d w.heap.size }, .inl ?_, ?_⟩
    case refine_2 =>
      rw [hd]
      refine F2.put h ?_
      obtain ⟨_, _, _, e4⟩ := putH_parts hs2
      have := CR.bp (w := { w with heap := w.heap.push (.cells v.cells.toList.toArray ty) }) (g := { g with lc := upd g.lc d w.heap.size }) (h := s2.h) (o := s2.o) d 0 (z.map AV.t) (by rw [e4]; simp)
      simpa [upd] using this
    · simp [execOp, ho, Instr.alloc, hv, newVar, newRow]
  · rename_i ty x ho
    split at h
    case h_2 => cases h
    rename_i d hd
    split at h
    case h_2 => cases h
    rename_i cs hcs
    split at h
    case h_2 => cases h
    rename_i cs' hcs'
    have e := mapfA hcs'; subst e
    split at h
    · cases h
    rename_i hno
    split at h
    case h_2 => cases h
    rename_i s1 hs1
    split at h
    case h_2 => cases h
    rename_i s2 hs2
    obtain ⟨hvr, _⟩ := cells_sound F (F.ev x) hcs
    obtain ⟨F1, hf1, hf2, hb1, hr1⟩ := F.clear hs1
    -- the cells do not lead to what went
    have hvr1 : CRs w g s1.h s1.o cs' (a.eval x).cells.toList := by
      refine hvr.mono fun k y v hk hy => ?_
      have hnd : y.has d = false := by
        cases hq : y.has d with
        | false => rfl
        | true => have := hasL_nth hk hq; rw [hno] at this; cases this
      refine hy.mono (fun b hb => ⟨hb, rfl⟩) (fun i c hi hc => ⟨?_, rfl⟩) (fun i r hi hr => ⟨?_, rfl, rfl⟩) (fun i r b _ _ h3 _ => ⟨h3, rfl⟩)
      · have hne : i ≠ d := fun e => by subst e; rw [hnd] at hi; cases hi
        unfold St.clear at hs1
        split at hs1
        · cases hs1; exact ⟨c, hc⟩
        · obtain ⟨_, q1, _⟩ := F.drop hs1
          cases hq : lk s1.h i with
          | none =>
            rcases (q1 i).1 hq with e | e
            · exact absurd e hne
            · rw [e] at hc; cases hc
          | some c' => exact ⟨c', rfl⟩
      · have hne : i ≠ d := fun e => by subst e; rw [hnd] at hi; cases hi
        unfold St.clear at hs1
        split at hs1
        · cases hs1; exact ⟨r, hr, rfl⟩
        · obtain ⟨_, _, q2⟩ := F.drop hs1
          exact ⟨r, by rw [q2, if_neg (Ne.symm hne)]; exact hr, rfl⟩
    have F2 := F1.newBox (ty := ty) hs2 hf1 hvr1
    refine ⟨.pointer (some ⟨w.heap.size, 0, none⟩), { w with heap := w.heap.push (.cells (a.eval x).cells.toList.toArray ty) }, { g with lc := upd g.lc d w.heap.size }, .inl ?_, ?_⟩
    case refine_2 =>
      rw [hd]
      refine F2.put h ?_
      obtain ⟨_, _, _, e4⟩ := putH_parts hs2
      have := CR.bp (w := { w with heap := w.heap.push (.cells (a.eval x).cells.toList.toArray ty) }) (g := { g with lc := upd g.lc d w.heap.size }) (h := s2.h) (o := s2.o) d 0 cs' (by rw [e4]; simp)
      simpa [upd] using this
    · simp [execOp, ho, Instr.box, newVar, newRow]
  · rename_i ty p x ho
    split at h
    case h_2 => cases h
    rename_i ti ht
    split at h
    case h_2 => cases h
    rename_i cs hcs
    split at h
    case h_2 => cases h
    rename_i cs' hcs'
    have e := mapfA hcs'; subst e
    obtain ⟨hvr, hone⟩ := cells_sound F (F.ev x) hcs
    have hsz := ti_size (hT.1 _ _ ht) w
    have hpv := F.ev p
    split at h
    · rename_i id off hp
      rw [hp] at hpv
      split at h
      case h_2 => cases h
      rename_i cells hi
      split at h
      case h_2 => cases h
      rename_i hlen
      split at h
      case h_2 => cases h
      rename_i l hl
      split at h
      case h_2 => cases h
      rename_i s2 hs2
      obtain ⟨_, _, old, ty', ho', hcr⟩ := F.bx id cells hi
      have F1 := F.storeBox hi hl hs2 hvr ho' hcr
      obtain ⟨_, hn⟩ := setS_eq hl
      have hpe : a.eval p = .pointer (some ⟨g.lc id, off, none⟩) := by
        generalize a.eval p = q at hpv
        cases hpv; rfl
      have hlc := hvr.1
      have hlenc := lenS_eq hlen
      have hrun := run_storeCells_at (P := P) (g.lc id) off ty' (a.eval x).cells.toList 0 old.toArray w ho' (by have := hcr.1; simp at hlc ⊢; omega) hone
      refine ⟨undef, _, g, .inr ⟨?_, rfl⟩, F1.put h (.t _ _ (.sc _))⟩
      have hsz2 : (a.eval x).cells.size = ti.size := by simp at hlc; omega
      simp only [execOp, ho, hpe, Instr.storeAt, Instr.sureAddr, storeVar, Sem.run_bind, Sem.run_pure, Result.andThen_ok, hsz, hsz2]
      simp only [ne_eq, not_true_eq_false, if_false, Result.andThen_ok, hrun]
      simp
    · rename_i id i k hp
      rw [hp] at hpv
      split at h
      case h_2 => cases h
      rename_i s2 hs2
      obtain ⟨b, o', w', g', hpe, hvl, hrun, F1⟩ := storeRp_sound (P := P) F hpv hvr hone hs2
      refine ⟨undef, w', g', .inr ⟨?_, rfl⟩, F1.put h (.t _ _ (.sc _))⟩
      have hsz2 : (a.eval x).cells.size = ti.size := by simpa using hvl
      simp only [execOp, ho, hpe, Instr.storeAt, Instr.sureAddr, storeVar, Sem.run_bind, Sem.run_pure, Result.andThen_ok, hsz, hsz2]
      simp only [ne_eq, not_true_eq_false, if_false, Result.andThen_ok, hrun]
    · cases h
  · rename_i ty len parts ho
    split at h
    case h_2 => cases h
    rename_i d hd
    split at h
    case h_2 => cases h
    rename_i e _ _ _ ht
    split at h
    case h_2 => cases h
    rename_i ei he
    split at h
    case h_2 => cases h
    rename_i zs hzs
    split at h
    case h_2 => cases h
    rename_i hble
    split at h
    case h_2 => cases h
    rename_i rows0 hrep
    split at h
    case h_2 => cases h
    rename_i ps hps
    split at h
    case h_2 => cases h
    rename_i rows s1 hfill
    split at h
    case h_2 => cases h
    rename_i s2 hs2
    split at h
    case h_2 => cases h
    rename_i s3 hs3
    have er := repS_eq hrep; subst er
    obtain ⟨z, hz, hzl, hzo, hzm⟩ := zRow_parts hzs
    obtain ⟨dd, hdd, htd, _⟩ := ti_und (hT.1 _ _ ht) w
    cases td_sl htd
    have hsz := ti_size (hT.1 _ _ he) w
    obtain ⟨v, hv, hzv, _⟩ := zero_sound (g := g) (bxs := s.h) (rts := s.o) hT he hz w
    obtain ⟨hl, hk⟩ := parts_sound F hps
    have hlen16 : len * ei.size ≤ 16777216 := Nat.le_of_ble_eq_true hble
    have hzone : ∀ u ∈ v.cells.toList, u.oneCell' = true := by
      intro u hu
      obtain ⟨k, hk⟩ := List.mem_iff_getElem?.1 hu
      have : z[k]? = some (.sc u) := by rw [hzv]; simp [hk]
      exact allB_all hzo k _ this
    have L0 := zero_laid (w := w) hzv hzm g.B len ei.size hzl hzone
    obtain ⟨cells', Gs, hf, F1, hs1, L1, hG1, hrl⟩ := fillRows_sound (s0 := s) (us := parts.toList.map fun p => (p.1, a.eval p.2)) F (.refl _) L0 (fun _ _ _ h => h.elim) hl (fun k p u hp hu => ⟨(hk k p u hp hu).1, fun cs hcs => cells_sound F (hk k p u hp hu).2 hcs⟩) hfill
    obtain ⟨F2, hf1, hf2, hb2, hr2⟩ := F1.clear hs2
    have hsub : Subs s1 s2 := ⟨hb2, hr2⟩
    rw [List.length_replicate] at hrl
    have hcl := L1.hc
    obtain ⟨g', F3, hrv⟩ := F2.allocRoot (cap := len) (cs := cells') (ty := e) (w1 := w) L1 (fun i k b hb => ⟨(hG1 i k b hb).1, (hG1 i k b hb).2.1, fun hu => (hG1 i k b hb).2.2.1 (hsub.used hu)⟩) hs3 hf2 rfl rfl rfl rfl (fun j u hj => by simpa using hj) (by rw [← hrl, ← hcl]; simp) (by omega) (.inl ⟨rfl, fun e => by rw [e] at hrl; simpa using hrl.symm⟩)
    refine ⟨g'.rv d, w.alloc (.cells cells' e), g', .inl ?_, ?_⟩
    case refine_2 =>
      rw [hd]
      refine F3.put h ?_
      obtain ⟨_, _, _, e4⟩ := putO_parts hs3
      exact .rf d _ (by rw [e4, if_pos rfl])
    · have e2 : (parts.map fun (i, x) => (i, a.eval x)).toList = parts.toList.map fun p => (p.1, a.eval p.2) := by simp
      have hn16 : ¬ (2 ^ 24 < len * ei.size) := by simp only [show (2 : Nat) ^ 24 = 16777216 from rfl]; omega
      rw [hrv, hrl]
      by_cases h0 : len * ei.size = 0
      · have hfe : Instr.fill (fun i => some (i * ei.size, ei.size)) ((Array.range (len * ei.size)).map ((#[] : Array Value)[· % (#[] : Array Value).size]!)) (parts.map fun (i, x) => (i, a.eval x)).toList = some cells' := by
          rw [e2]
          have e1 : ((Array.range (len * ei.size)).map ((#[] : Array Value)[· % (#[] : Array Value).size]!)) = (madeCells v.cells (len * ei.size)).toList.toArray := by rw [h0]; simp [madeCells]
          rw [e1]; exact hf
        simp only [execOp, ho, Sem.run_bind, Instr.buildSlice, hdd, Result.andThen_ok, hsz]
        simp only [gt_iff_lt, hn16, if_false, Sem.run_bind, Sem.run_pure, Result.andThen_ok, if_pos h0, hfe]
        simp [newRow]
      · have hfe : Instr.fill (fun i => some (i * ei.size, ei.size)) ((Array.range (len * ei.size)).map (v.cells[· % v.cells.size]!)) (parts.map fun (i, x) => (i, a.eval x)).toList = some cells' := by
          rw [e2]
          have e1 : ((Array.range (len * ei.size)).map (v.cells[· % v.cells.size]!)) = (madeCells v.cells (len * ei.size)).toList.toArray := by apply Array.ext'; simp [madeCells]
          rw [e1]; exact hf
        simp only [execOp, ho, Sem.run_bind, Instr.buildSlice, hdd, Result.andThen_ok, hsz]
        simp only [gt_iff_lt, hn16, if_false, Sem.run_bind, Sem.run_pure, Result.andThen_ok, if_neg h0, hv, hfe]
        simp [newRow]
  · cases h
end
end Go.Ev
