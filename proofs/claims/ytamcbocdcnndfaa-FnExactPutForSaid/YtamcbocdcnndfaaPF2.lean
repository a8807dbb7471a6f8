import Derived.Test.YtamcbocdcnndfaaPF1
import Derived.Laws.IdiomStrings
import Derived.Laws.BytesArg
import Derived.Laws.IdiomCopy
import Derived.Orders
set_option linter.unusedVariables false
set_option linter.unusedSimpArgs false
namespace Go.Ev
open Go Go.RowKit

section
variable {P : Program} {tab : Tab} {w0 w : World} {B0 Fin : Nat → Prop} {s s' : St} {a : Act} {g : Gh}

theorem bound_is' (F : FR w0 B0 Fin s a w g) {o : Option Operand} {d n : Int} (h : boundAV s o d = some n) : ∃ l, BoundIs (o.map a.eval) l ∧ l.getD d = n := by
  cases o with
  | none => simp only [boundAV] at h; cases h; exact ⟨none, .inl ⟨rfl, rfl⟩, rfl⟩
  | some x =>
    simp only [boundAV] at h
    split at h
    · rename_i k m hm
      cases h
      have := F.ev x
      rw [hm] at this
      exact ⟨some n, .inr ⟨k, n, by simp [cr_sc this], rfl⟩, rfl⟩
    · cases h

theorem run_slice_some {ty e size : Nat} {lo hi : Option Value} {l h : Option Int} {b off n cap : Nat} (hd : (underlying ty).run P w = .ok (.slice e) w) (hs : (sizeOf e).run P w = .ok size w) (hl : BoundIs lo l) (hh : BoundIs hi h) (hc : n ≤ cap)
    (h0 : 0 ≤ l.getD 0) (h1 : l.getD 0 ≤ h.getD n) (h2 : h.getD n ≤ n) :
    (Instr.sliceAt ty (.slice (some ⟨b, off, none⟩) n cap) lo hi none).run P w = .ok (.slice (some (if cap = (l.getD 0).toNat then ⟨b, off, none⟩ else ⟨b, off + (l.getD 0).toNat * size, none⟩)) ((h.getD n).toNat - (l.getD 0).toNat) (cap - (l.getD 0).toNat)) w := by
  have hb := bounds_run (P := P) (w := w) (isS := true) (len := n) (cap := cap) hl hh hc h0 h1 h2
  simp only [Instr.sliceAt, Instr.slice, hd, Sem.run_bind, Result.andThen_ok, hb, hs, Sem.run_pure, Option.map_some, addr_add]
  split <;> rfl
theorem run_slice_none {ty e size : Nat} {lo hi : Option Value} {l h : Option Int} (hd : (underlying ty).run P w = .ok (.slice e) w) (hs : (sizeOf e).run P w = .ok size w) (hl : BoundIs lo l) (hh : BoundIs hi h)
    (h0 : 0 ≤ l.getD 0) (h1 : l.getD 0 ≤ h.getD (0 : Nat)) (h2 : h.getD (0 : Nat) ≤ (0 : Nat)) :
    (Instr.sliceAt ty (.slice none 0 0) lo hi none).run P w = .ok (.slice none 0 0) w := by
  have hb := bounds_run (P := P) (w := w) (isS := true) (len := 0) (cap := 0) hl hh (Nat.le_refl _) h0 h1 h2
  have e1 : (l.getD 0).toNat = 0 := by
    have : l.getD 0 = 0 := by omega
    rw [this]; rfl
  have e2 : (h.getD ((0 : Nat) : Int)).toNat = 0 := by omega
  simp only [Instr.sliceAt, Instr.slice, hd, Sem.run_bind, Result.andThen_ok, hb, hs, e1, e2, Sem.run_pure]
  simp

theorem all_nth {rows : List (List T)} {size : Nat} (h : ∀ r ∈ rows, r.length = size) : ∀ (i : Nat) (r : List T), rows[i]? = some r → r.length = size := fun _ r hi => h r (List.mem_of_getElem? hi)

/-- the size of a row's cells, where it matters -/
theorem root_size {B : Nat → Prop} {q : Nat} {rows : List (List T)} {v : Value} {sz size : Nat} {F : Nat → Prop} (h : Root w B q rows v sz F) (hl : ∀ (i : Nat) (r : List T), rows[i]? = some r → r.length = size) (hq : q = 0 ∨ q = size) :
    (rows = [] ∧ v = .slice none 0 0) ∨ ∃ b off cap, v = .slice (some ⟨b, off, none⟩) rows.length cap ∧ rows.length ≤ cap ∧ (sz = size ∨ (rows = [] ∧ cap = 0)) := by
  rcases h with h | ⟨b, off, cap, us, Fs, cs, ty', rfl, hh, hcap, hc, hl', hw, hd, hb, h1, h2, htt⟩
  · exact .inl h
  · refine .inr ⟨b, off, cap, rfl, hc, ?_⟩
    by_cases hne : rows = []
    · rcases htt with ⟨_, h'⟩ | ⟨h', h''⟩
      · exact .inr ⟨hne, h' hne⟩
      · rcases hq with e | e
        · exact absurd e h'
        · exact .inl (h''.trans e)
    · left
      cases rows with
      | nil => exact absurd rfl hne
      | cons r rs => rw [← hl 0 r rfl]; exact (hl' 0 r rfl).symm

/-- a part of a root is a root -/
theorem Root.part {B : Nat → Prop} {q : Nat} {rows : List (List T)} {v : Value} {sz size : Nat} {F : Nat → Prop} (h : Root w B q rows v sz F) (hl : ∀ (i : Nat) (r : List T), rows[i]? = some r → r.length = size) (hq : q = 0 ∨ q = size) (hs0 : size ≠ 0)
    {L H : Nat} (h1 : L ≤ H) (h2 : H ≤ rows.length) : Root w B size ((rows.take H).drop L) (partV v size L H) size F := by
  have hlen : ((rows.take H).drop L).length = H - L := by simp; omega
  have hsz := root_size h hl hq
  rcases h with ⟨rfl, rfl⟩ | ⟨b, off, cap, us, Fs, cs, ty', rfl, hh, hcap, hc, hl', hw, hd, hb, h3, h4, htt⟩
  · exact .inl ⟨by simp, rfl⟩
  · have hrow : ∀ (i : Nat) (r : List T), ((rows.take H).drop L)[i]? = some r → rows[L + i]? = some r := by
      intro i r hi
      rw [List.getElem?_drop, List.getElem?_take] at hi
      split at hi
      · exact hi
      · cases hi
    have hszz : sz = size ∨ (rows = [] ∧ cap = 0) := by
      rcases hsz with ⟨e, h'⟩ | ⟨b', off', cap', h', _, h''⟩
      · cases h'
      · cases h'; exact h''
    have hkey : ∀ (i : Nat) (r : List T), ((rows.take H).drop L)[i]? = some r → sz = size := by
      intro i r hi
      rcases hszz with e | ⟨e, _⟩
      · exact e
      · have := hrow i r hi; rw [e] at this; simp at this
    simp only [partV]
    rw [← hlen]
    by_cases hcl : cap = L
    · rw [if_pos hcl]
      have hHL : H = L := by omega
      refine .inr ⟨b, off, cap - L, fun i k => us (L + i) k, fun i k => Fs (L + i) k, cs, ty', rfl, hh, by have := Nat.zero_mul size; rw [hcl, Nat.sub_self, Nat.zero_mul]; have := Nat.le_trans (Nat.le_add_right off (cap * sz)) hcap; omega, by rw [hlen]; omega, fun i r hi => hl _ _ (hrow i r hi), fun i r k x hi hk => ?_, fun i k i' k' c hc hc' => by have := hd _ _ _ _ c hc hc'; exact ⟨by omega, this.2⟩, fun i k => hb _ _, h3, fun i k c hc => h4 _ _ c hc, .inr ⟨hs0, rfl⟩⟩
      have := nth_lt hi; omega
    · rw [if_neg hcl, addr_add]
      have hsze : sz = size := by
        rcases hszz with e | ⟨e, e'⟩
        · exact e
        · subst e; simp at h2; omega
      subst hsze
      refine .inr ⟨b, off + L * sz, cap - L, fun i k => us (L + i) k, fun i k => Fs (L + i) k, cs, ty', rfl, hh, ?_, by rw [hlen]; omega, fun i r hi => hl' _ _ (hrow i r hi), fun i r k x hi hk => ?_, fun i k i' k' c hc hc' => by have := hd _ _ _ _ c hc hc'; exact ⟨by omega, this.2⟩, fun i k => hb _ _, h3, fun i k c hc => h4 _ _ c hc, .inr ⟨hs0, rfl⟩⟩
      · have : L * sz + (cap - L) * sz = cap * sz := by rw [← Nat.add_mul]; congr 1; omega
        omega
      · obtain ⟨q1, q2, q3⟩ := hw _ _ _ _ (hrow i r hi) hk
        exact ⟨by rw [show off + L * sz + (i * sz + k) = off + ((L + i) * sz + k) by rw [Nat.add_mul]; omega]; exact q1, q2, q3⟩

theorem made_nth {z : Array Value} {n m : Nat} (h : n ≤ m) {j : Nat} {u : Value} (hj : (madeCells z n).toList[j]? = some u) : (madeCells z m)[j]? = some u := by
  have hlt := nth_lt hj
  simp [size_madeCells] at hlt
  rw [Array.getElem?_toList] at hj
  simp only [madeCells, Array.getElem?_map] at hj ⊢
  rw [Array.getElem?_range] at hj ⊢
  simpa [hlt, show j < m by omega] using hj

/-- make -/
theorem make_sound (hT : TabOk P tab) (F : FR w0 B0 Fin s a w g) {d q e : Nat} {ty : TypeId} {ei : TI} {zs : List T} {l c : Int} (hu : P.underlying ty = some (.slice e)) (he : lk tab e = some ei) (hz : zRow ei = some zs)
    {s1 s2 : St} (h1 : s.clear d = some s1) (h2 : s1.putO d ⟨q, none⟩ (List.replicate l.toNat zs) = some s2) (h0 : 0 ≤ l) (hlc : l ≤ c) (hc : c ≤ 9223372036854775807) (hb : (ei.bytes : Int) * c ≤ 281474976710656) (hq : (q = 0 ∧ l = c) ∨ (q ≠ 0 ∧ ei.size = q)) :
    ∃ g' w', (Instr.makeSlice ty (.int .i64 l) (.int .i64 c)).run P w = .ok (g'.rv d) w' ∧ FR w0 B0 Fin s2 a w' g' := by
  obtain ⟨z, hz1, hzl, hzo, hzm⟩ := zRow_parts hz
  obtain ⟨v, hv, hzv, _⟩ := zero_sound (g := g) (bxs := s.h) (rts := s.o) hT he hz1 w
  obtain ⟨i, dd, hi, hdd, hti⟩ := ti_parts (hT.1 _ _ he)
  have hzone : ∀ u ∈ v.cells.toList, u.oneCell' = true := by
    intro u hu
    obtain ⟨k, hk⟩ := List.mem_iff_getElem?.1 hu
    have : z[k]? = some (.sc u) := by rw [hzv]; simp [hk]
    exact allB_all hzo k _ this
  have hiz : i.zero = some v := by
    simp only [zeroValue, typeInfo, Sem.run_bind, run_program, Result.andThen_ok, hi, Sem.run_pure] at hv
    cases hq : i.zero with
    | none => rw [hq] at hv; simp at hv
    | some v' => rw [hq] at hv; simp at hv; rw [hv]
  have hsz : ei.size = i.size := by rw [hti]
  have hby : ei.bytes = i.bytes := by rw [hti]
  have hrun := run_make (P := P) w ty e i v hu hi hiz .i64 .i64 l c h0 hlc (by rw [← hby]; exact hb) hc
  have L0 := zero_laid (w := w) hzv hzm g.B l.toNat ei.size hzl hzone
  obtain ⟨F1, hf1, hf2, _, _⟩ := F.clear h1
  have hle : l.toNat * ei.size ≤ c.toNat * i.size := by rw [← hsz]; exact Nat.mul_le_mul_right _ (by omega)
  obtain ⟨g', F2, hrv⟩ := F1.allocRoot (q := q) (cap := c.toNat) (cs := madeCells v.cells (c.toNat * i.size)) (ty := e) (w1 := w) L0 (fun _ _ _ h => h.elim) h2 hf2 rfl rfl rfl rfl (fun j u hj => made_nth hle hj) (by rw [size_madeCells, hsz]; exact Nat.le_refl _) (by rw [List.length_replicate]; omega)
    (by
      rcases hq with ⟨e1, e2⟩ | e1
      · refine .inl ⟨e1, fun h => ?_⟩
        have := congrArg List.length h
        simp at this; omega
      · exact .inr e1)
  rw [List.length_replicate] at hrv
  exact ⟨g', _, by rw [hrv]; exact hrun, F2⟩

/-- the ways of append's rows -/
theorem srcRows_sound (F : FR w0 B0 Fin s a w g) {flat : Bool} {x : AV} {v : Value} {c : Prop} {rows : List (List T)} {s2 : St} {size : Nat} (hx : CR w g s.h s.o x v) (h : srcRows s flat x = some (c, rows, s2)) (hc : c) (hl : ∀ r ∈ rows, r.length = size) :
    FR w0 B0 Fin s2 a w g ∧ Subs s s2 ∧ ∃ Gs, Src w g.B size rows v Gs ∧ ∀ j k b, Gs j k b → Freed w0 w Fin g s s2 b := by
  have hl' := all_nth hl
  have flatT_one : ∀ {y : T}, flatT y = true → ∃ u, y = .sc u ∧ u.oneCell' = true := by
    intro y hy
    unfold flatT at hy
    split at hy <;> first | exact ⟨_, rfl, rfl⟩ | cases hy
  unfold srcRows at h
  split at h
  · split at h
    case h_2 => cases h
    rename_i rows' hr
    cases h
    -- whatever it is, its cells are numbers
    have hrep : ∃ B' : Nat → Prop, ∃ o, Rep w B' (.sl o rows) v := by
      unfold rowsAV at hr
      split at hr
      · cases hr
        cases hx with
        | t x v hq => exact ⟨_, _, hq⟩
      · cases hr
        cases hx with
        | t x v hq => cases hq; exact ⟨fun _ => True, false, .nil _⟩
      · rename_i id
        cases hx with
        | rf id rows' hi =>
          obtain ⟨q, rows'⟩ := rows'
          simp only [hi] at hr; cases hr
          exact ⟨fun _ => True, false, (F.rt id _ hi).1.rep (fun _ _ => trivial) (fun _ _ => trivial) _⟩
      · rename_i id lo hh
        cases hx with
        | rw id lo hh rows' hi h1 h2 =>
          obtain ⟨q, rows'⟩ := rows'
          simp only [hi] at hr; cases hr
          have hq := (F.rt id _ hi).1.rep (B' := fun _ => True) (fun _ _ => trivial) (fun _ _ => trivial) false
          refine ⟨fun _ => True, false, ?_⟩
          simp only at hq h2
          -- a part of it
          have hlen : ((rows'.take hh).drop lo).length = hh - lo := by simp; omega
          have hrow : ∀ (i : Nat) (r : List T), ((rows'.take hh).drop lo)[i]? = some r → rows'[lo + i]? = some r := by
            intro i r hi
            rw [List.getElem?_drop, List.getElem?_take] at hi
            split at hi
            · exact hi
            · cases hi
          obtain ⟨hroot, _⟩ := F.rt id _ hi
          simp only at hroot
          rcases hroot with ⟨e, he⟩ | ⟨b, off, cap, us, Fs, cs, ty', he, hh', hcap, hcc, hl', hw, hd, hb, h3, h4, htt⟩
          · rw [he, e]; simp [partV]; exact .nil _
          · rw [he]
            simp only [partV]
            rw [← hlen]
            by_cases hcl : cap = lo
            · rw [if_pos hcl]
              have hE : (rows'.take hh).drop lo = [] := List.length_eq_zero_iff.1 (by rw [hlen]; omega)
              rw [hE]
              exact .sl _ _ b off _ 0 (fun _ _ => undef) (fun _ => trivial) (by simp) (by simp) (by simp) (by simp)
            · rw [if_neg hcl, addr_add]
              refine .sl _ _ b (off + lo * g.sz id) _ (g.sz id) (fun i k => us (lo + i) k) (fun _ => trivial) (by rw [hlen]; omega) (fun i r hi => hl' _ _ (hrow i r hi)) (fun i r k x hi hk => ?_) (fun i r k x hi hk => ?_)
              · obtain ⟨q1, _, _⟩ := hw _ _ _ _ (hrow i r hi) hk
                rw [show off + lo * g.sz id + (i * g.sz id + k) = off + ((lo + i) * g.sz id + k) by rw [Nat.add_mul]; omega]
                simp [World.cell?, hh', q1]
              · exact (hw _ _ _ _ (hrow i r hi) hk).2.1.rep (fun _ _ => trivial) fun _ _ => trivial
      · cases hr
        cases hx with
        | bw x id v rows' hi hq => exact ⟨_, _, hq⟩
      · cases hr
    obtain ⟨B', o, hrep⟩ := hrep
    refine ⟨F, .refl _, _, rep_src hrep hl' rfl (fun i r hi => ⟨r, hi, rfl, fun k y hk => ⟨y, hk, fun u hu => ?_⟩⟩), fun _ _ _ h => h.elim⟩
    obtain ⟨u', rfl, ho⟩ := flatT_one (hc r (List.mem_of_getElem? hi) y (List.mem_of_getElem? hk))
    cases hu
    exact ⟨.sc _ _, ho⟩
  · split at h
    · rename_i o rows0
      cases h
      cases hx with
      | t x v hq =>
        refine ⟨F, .refl _, _, rep_src (rows' := shrR rows0) hq (fun i r hi => ?_) (shrR_len _) (fun i r' hi => ?_), fun _ _ _ h => h.elim⟩
        · have : (shrR rows0)[i]? = some (shrL r) := by rw [shrR_nth, hi]; rfl
          have := hl' i _ this
          rw [shrL_len] at this; exact this
        · obtain ⟨r, hr, rfl⟩ := shrR_inv hi
          refine ⟨r, hr, shrL_len _, fun k y' hk => ?_⟩
          obtain ⟨y, hy, rfl⟩ := shrL_inv hk
          refine ⟨y, hy, fun u hu => ⟨own_share hu _, rep_one hu fun u' e => ?_⟩⟩
          have := hc r (List.mem_of_getElem? hr) y (List.mem_of_getElem? hy)
          rw [e] at this; exact this
    · cases h
      cases hx with
      | t x v hq =>
        cases hq
        exact ⟨F, .refl _, fun _ _ _ => False, ⟨by simp, .inl ⟨rfl, rfl⟩, fun _ _ _ _ _ h => h.elim⟩, fun _ _ _ h => h.elim⟩
    · rename_i id
      split at h
      case h_2 => cases h
      rename_i q rows0 hi
      split at h
      case h_2 => cases h
      rename_i s1 hd
      cases h
      obtain ⟨F', hs, _, hr, hf⟩ := drop_root F hi hd
      cases hx with
      | rf id rows' hi' =>
        obtain ⟨Gs, hS, hG⟩ := Root.src hr hl'
        exact ⟨F', hs, Gs, hS, fun j k b hb => hf b (hG j k b hb)⟩
    · cases h

theorem headRows_sound (F : FR w0 B0 Fin s a w g) {h0 : Bxs} {o0 : Rts} {x : AV} {v : Value} {q : Nat} {rows : List (List T)} {s2 : St} (hx : CR w g h0 o0 x v) (h : headRows s x = some (q, rows, s2)) :
    FR w0 B0 Fin s2 a w g ∧ Subs s s2 ∧ ∃ sz G, Root w g.B q rows v sz G ∧ ∀ b, G b → Freed w0 w Fin g s s2 b := by
  unfold headRows at h
  split at h
  · cases h
    cases hx with
    | t x v hq =>
      cases hq
      exact ⟨F, .refl _, 0, fun _ => False, .inl ⟨rfl, rfl⟩, fun _ h => h.elim⟩
  · rename_i id
    split at h
    case h_2 => cases h
    rename_i q0 rows0 hi
    split at h
    case h_2 => cases h
    rename_i s1 hd
    cases h
    obtain ⟨F', hs, _, hr, hf⟩ := drop_root F hi hd
    cases hx with
    | rf id rows' hi' => exact ⟨F', hs, g.sz id, g.fo id, hr, hf⟩
  · cases h

/-- an operation that wants something to hold -/
theorem evalC_sound (hT : TabOk P tab) (F : FR w0 B0 Fin s a w g) {o : Oper} {c : Prop} (h : evalC tab s o.op o.dst = some (c, s')) (hc : c) :
    ∃ u w' g', (execOp a.eval o).run P w = .ok (.value u) w' ∧ FR w0 B0 Fin s' (a.put o.dst u) w' g' := by
  unfold evalC at h
  split at h
  · rename_i ty l c' ho
    split at h
    case h_2 => cases h
    rename_i d hd
    split at h
    case h_2 => cases h
    rename_i e _ _ _ ht
    split at h
    case h_2 => cases h
    rename_i ei he
    split at h
    case h_2 => cases h
    rename_i zs hz
    split at h
    case h_2 => cases h
    rename_i ln hl
    split at h
    case h_2 => cases h
    rename_i cn hcn
    split at h
    case h_2 => cases h
    rename_i s1 h1
    split at h
    case h_2 => cases h
    rename_i s2 h2
    split at h
    case h_2 => cases h
    rename_i s3 h3
    cases h
    obtain ⟨c1, c2, c3, c4, c5⟩ := hc
    obtain ⟨dd, hdd, htd, hPd⟩ := ti_und (hT.1 _ _ ht) w
    cases td_sl htd
    obtain ⟨g', w', hrun, F'⟩ := make_sound hT F (q := ei.size) hPd he hz h1 h2 c1 c2 c3 c4 (.inr ⟨c5, rfl⟩)
    have hlv := F.ev l
    have hcv := F.ev c'
    rw [hl] at hlv
    rw [hcn] at hcv
    refine ⟨g'.rv d, w', g', ?_, ?_⟩
    · simp only [execOp, ho, cr_sc hlv, cr_sc hcv, Sem.run_bind, hrun, Result.andThen_ok, Sem.run_pure]
    · rw [hd]
      refine F'.put h3 ?_
      obtain ⟨_, _, _, e4⟩ := putO_parts h2
      exact .rf d _ (by rw [e4, if_pos rfl])
  · rename_i ty x lo hi ho
    split at h
    case h_2 => cases h
    rename_i e _ _ _ ht
    split at h
    case h_2 => cases h
    rename_i ei he
    split at h
    case h_2 => cases h
    rename_i id hx
    split at h
    case h_2 => cases h
    rename_i q rows hid
    split at h
    case h_2 => cases h
    rename_i l hl
    split at h
    case h_2 => cases h
    rename_i hh hhi
    split at h
    case h_2 => cases h
    rename_i s1 h1
    cases h
    obtain ⟨c1, c2, c3, c4⟩ := hc
    obtain ⟨dd, hdd, htd, hPd⟩ := ti_und (hT.1 _ _ ht) w
    cases td_sl htd
    have hsz := ti_size (hT.1 _ _ he) w
    obtain ⟨lb, hlb, el⟩ := bound_is' F hl
    obtain ⟨hb, hhb, eh⟩ := bound_is' F hhi
    have hxv := F.ev x
    rw [hx] at hxv
    have hxe : a.eval x = g.rv id := by
      generalize a.eval x = v at hxv
      cases hxv; rfl
    obtain ⟨hroot, _⟩ := F.rt id _ hid
    simp only at hroot
    have hcr : CR w g s.h s.o (.rw id l.toNat hh.toNat) (partV (g.rv id) (g.sz id) l.toNat hh.toNat) := .rw id _ _ _ hid (by omega) (by simp only; omega)
    refine ⟨partV (g.rv id) (g.sz id) l.toNat hh.toNat, w, g, ?_, F.put h1 hcr⟩
    rcases hroot with ⟨e1, e2⟩ | ⟨b, off, cap, us, Fs, cs, ty', e2, hh', hcap, hcc, hl', hw, hd, hbb, h3, h4, htt⟩
    · have hlen : rows.length = 0 := by rw [e1]; rfl
      have hrun := run_slice_none (P := P) (w := w) hdd hsz hlb hhb (by rw [el]; exact c1) (by rw [el]; rw [hlen] at eh; rw [eh]; exact c2) (by rw [hlen] at eh; rw [eh]; rw [hlen] at c3; exact c3)
      rw [e2] at hxe
      simp only [execOp, ho, hxe, Sem.run_bind, Option.map_none]
      rw [hrun, e2]; rfl
    · have hrun := run_slice_some (P := P) (w := w) (b := b) (off := off) (n := rows.length) (cap := cap) hdd hsz hlb hhb hcc (by rw [el]; exact c1) (by rw [el, eh]; exact c2) (by rw [eh]; exact c3)
      rw [e2] at hxe
      simp only [execOp, ho, hxe, Sem.run_bind, Option.map_none]
      rw [hrun, e2, el, eh]
      simp only [partV, Result.andThen_ok, Sem.run_pure]
      have hse : rows ≠ [] → g.sz id = ei.size := by
        intro hne
        cases rows with
        | nil => exact absurd rfl hne
        | cons r rs => rw [← c4 r (by simp)]; exact (hl' 0 r rfl).symm
      by_cases hcl : cap = l.toNat
      · simp [hcl]
      · simp only [if_neg hcl, addr_add]
        by_cases hne : rows = []
        · have : l.toNat = 0 := by rw [hne] at c3; simp at c3; omega
          rw [this]; simp
        · rw [hse hne]
  · rename_i args tys ho
    split at h
    case h_2 => cases h
    rename_i d hd
    split at h
    case h_2 => cases h
    rename_i ty ty2 htys
    split at h
    case h_2 => cases h
    rename_i hbeq
    have hte := beq_t hbeq
    subst hte
    split at h
    case h_2 => cases h
    rename_i e _ _ _ ht
    split at h
    case h_2 => cases h
    rename_i ei he
    split at h
    case h_2 => cases h
    rename_i zs hz
    split at h
    case h_2 => cases h
    rename_i hble
    split at h
    case h_2 => cases h
    rename_i x y hargs
    split at h
    case h_2 => cases h
    rename_i c2 rows2 s1 hsrc
    split at h
    case h_2 => cases h
    rename_i q rows1 s2 hhead
    split at h
    case h_2 => cases h
    rename_i s3 h3
    split at h
    case h_2 => cases h
    rename_i s4 h4
    split at h
    case h_2 => cases h
    rename_i s5 h5
    cases h
    obtain ⟨c1, c3, c4, c5, c6⟩ := hc
    obtain ⟨dd, hdd, htd, hPd⟩ := ti_und (hT.1 _ _ ht) w
    cases td_sl htd
    obtain ⟨z, hz1, hzl, hzo, hzm⟩ := zRow_parts hz
    obtain ⟨v, hv, hzv, _⟩ := zero_sound (g := g) (bxs := s.h) (rts := s.o) hT he hz1 w
    obtain ⟨i, dd, hi, hdd', hti⟩ := ti_parts (hT.1 _ _ he)
    have hiz : i.zero = some v := by
      simp only [zeroValue, typeInfo, Sem.run_bind, run_program, Result.andThen_ok, hi, Sem.run_pure] at hv
      cases hq : i.zero with
      | none => rw [hq] at hv; simp at hv
      | some v' => rw [hq] at hv; simp at hv; rw [hv]
    have hsz : ei.size = i.size := by rw [hti]
    have hby : ei.bytes = i.bytes := by rw [hti]
    simp only [Bool.and_eq_true] at hble
    have hb1 : 1 ≤ i.bytes := by rw [← hby]; exact Nat.le_of_ble_eq_true hble.1
    have hs1 : 1 ≤ i.size := by rw [← hsz]; exact Nat.le_of_ble_eq_true hble.2
    obtain ⟨F1, hsub1, Gs, hS, hG⟩ := srcRows_sound F (F.ev y) hsrc c6 c4
    obtain ⟨F2, hsub2, sz, G, hroot, hGf⟩ := headRows_sound F1 (F1.ev x) hhead
    obtain ⟨F3, hf1, hf2, hbx, hrx⟩ := F2.clear h3
    have hsub3 : Subs s2 s3 := ⟨hbx, hrx⟩
    have hzc : v.cells.size = i.size := by rw [hzv] at hzl; simpa [hsz] using hzl
    rw [hsz] at hS
    obtain ⟨v', w', g', hrun, F', hrv⟩ := append_sound (ty := o.type) F3 h4 hf2 hPd hi hiz hs1 hzc hb1 (by rw [← hby]; exact c1) hroot (by rw [← hsz]; exact c5) (fun j r hj => by rw [← hsz]; exact all_nth c3 j r hj)
      (fun b hb => ⟨(hGf b hb).1, (hGf b hb).2.1, fun hu => (hGf b hb).2.2.1 (hsub3.used hu)⟩) hS
      (fun j k b hb => ⟨(hG j k b hb).1, (hG j k b hb).2.1, fun hu => (hG j k b hb).2.2.1 (hsub2.used (hsub3.used hu)), fun hb' => (hG j k b hb).2.2.1 (hGf b hb').2.2.2⟩)
    refine ⟨v', w', g', ?_, ?_⟩
    · have e1 : args = #[x, y] := by apply Array.ext'; simpa using hargs
      have e2 : tys = #[ty, ty] := by apply Array.ext'; simpa using htys
      subst e1; subst e2
      simp only [execOp, ho, resolve, Sem.run_bind, Sem.run_pure, Result.andThen_ok, invoke, builtin]
      simp only [List.map_toArray, List.map_cons, List.map_nil]
      rw [hrun]; rfl
    · rw [hd]
      refine F'.put h5 ?_
      obtain ⟨_, _, _, e4⟩ := putO_parts h4
      rw [← hrv]
      exact .rf d _ (by rw [e4, if_pos rfl])
  · cases h

theorem evalC2_sound (hT : TabOk P tab) (F : FR w0 B0 Fin s a w g) {o : Oper} {c : Prop} (h : evalC2 tab s o.op o.dst = some (c, s')) (hc : c) :
    ∃ u w' g', (execOp a.eval o).run P w = .ok (.value u) w' ∧ FR w0 B0 Fin s' (a.put o.dst u) w' g' := by
  unfold evalC2 at h
  split at h
  · rename_i ty l c' ho
    split at h
    case h_2 => cases h
    rename_i d hd
    split at h
    case h_2 => cases h
    rename_i e _ _ _ ht
    split at h
    case h_2 => cases h
    rename_i ei he
    split at h
    case h_2 => cases h
    rename_i zs hz
    split at h
    case h_2 => cases h
    rename_i ln hl
    split at h
    case h_2 => cases h
    rename_i cn hcn
    split at h
    case h_2 => cases h
    rename_i s1 h1
    split at h
    case h_2 => cases h
    rename_i s2 h2
    split at h
    case h_2 => cases h
    rename_i s3 h3
    cases h
    obtain ⟨c1, c2, c3, c4⟩ := hc
    obtain ⟨dd, hdd, htd, hPd⟩ := ti_und (hT.1 _ _ ht) w
    cases td_sl htd
    obtain ⟨g', w', hrun, F'⟩ := make_sound hT F (q := 0) hPd he hz h1 h2 c1 (by omega) c3 c4 (.inl ⟨rfl, c2⟩)
    have hlv := F.ev l
    have hcv := F.ev c'
    rw [hl] at hlv
    rw [hcn] at hcv
    refine ⟨g'.rv d, w', g', ?_, ?_⟩
    · simp only [execOp, ho, cr_sc hlv, cr_sc hcv, Sem.run_bind, hrun, Result.andThen_ok, Sem.run_pure]
    · rw [hd]
      refine F'.put h3 ?_
      obtain ⟨_, _, _, e4⟩ := putO_parts h2
      exact .rf d _ (by rw [e4, if_pos rfl])
  · rename_i ty x lo hi ho
    split at h
    case h_2 => cases h
    rename_i d hd
    split at h
    case h_2 => cases h
    rename_i e _ _ _ ht
    split at h
    case h_2 => cases h
    rename_i ei he
    split at h
    case h_2 => cases h
    rename_i id hx
    split at h
    case h_2 => cases h
    rename_i q rows hid
    split at h
    case h_2 => cases h
    rename_i l hl
    split at h
    case h_2 => cases h
    rename_i hh hhi
    split at h
    case h_2 => cases h
    rename_i s0 h0
    split at h
    case h_2 => cases h
    rename_i s1 h1
    split at h
    case h_2 => cases h
    rename_i s2 h2
    split at h
    case h_2 => cases h
    rename_i s3 h3
    cases h
    obtain ⟨c1, c2, c3, c4, c5, c6⟩ := hc
    obtain ⟨dd, hdd, htd, hPd⟩ := ti_und (hT.1 _ _ ht) w
    cases td_sl htd
    have hsz := ti_size (hT.1 _ _ he) w
    obtain ⟨lb, hlb, el⟩ := bound_is' F hl
    obtain ⟨hb, hhb, eh⟩ := bound_is' F hhi
    have hxv := F.ev x
    rw [hx] at hxv
    have hxe : a.eval x = g.rv id := by
      generalize a.eval x = v at hxv
      cases hxv; rfl
    obtain ⟨F0, hsub0, hn0, hroot, hfr⟩ := drop_root F hid h0
    obtain ⟨F1, hf1, hf2, hbx, hrx⟩ := F0.clear h1
    have hsub1 : Subs s0 s1 := ⟨hbx, hrx⟩
    simp only at hroot
    have hpart := Root.part hroot (all_nth c4) c5 c6 (L := l.toNat) (H := hh.toNat) (by omega) (by omega)
    have F2 := F1.newRoot h2 hf2 hpart (fun b hb => ⟨(hfr b hb).1, (hfr b hb).2.1, fun hu => (hfr b hb).2.2.1 (hsub1.used hu)⟩)
    refine ⟨partV (g.rv id) ei.size l.toNat hh.toNat, w, { g with rv := upd g.rv d (partV (g.rv id) ei.size l.toNat hh.toNat), sz := upd g.sz d ei.size, fo := upd g.fo d (g.fo id) }, ?_, ?_⟩
    case refine_2 =>
      rw [hd]
      refine F2.put h3 ?_
      obtain ⟨_, _, _, e4⟩ := putO_parts h2
      have := CR.rf (w := w) (g := { g with rv := upd g.rv d (partV (g.rv id) ei.size l.toNat hh.toNat), sz := upd g.sz d ei.size, fo := upd g.fo d (g.fo id) }) (h := s2.h) (o := s2.o) d _ (by rw [e4, if_pos rfl])
      simpa [upd] using this
    · rcases root_size hroot (all_nth c4) c5 with ⟨e1, e2⟩ | ⟨b, off, cap, e2, hcc, _⟩
      · have hlen : rows.length = 0 := by rw [e1]; rfl
        have hrun := run_slice_none (P := P) (w := w) hdd hsz hlb hhb (by rw [el]; exact c1) (by rw [el]; rw [hlen] at eh; rw [eh]; exact c2) (by rw [hlen] at eh; rw [eh]; rw [hlen] at c3; exact c3)
        rw [e2] at hxe
        simp only [execOp, ho, hxe, Sem.run_bind, Option.map_none]
        rw [hrun, e2]; rfl
      · have hrun := run_slice_some (P := P) (w := w) (b := b) (off := off) (n := rows.length) (cap := cap) hdd hsz hlb hhb hcc (by rw [el]; exact c1) (by rw [el, eh]; exact c2) (by rw [eh]; exact c3)
        rw [e2] at hxe
        simp only [execOp, ho, hxe, Sem.run_bind, Option.map_none]
        rw [hrun, e2, el, eh]
        simp only [partV, Result.andThen_ok, Sem.run_pure]
        by_cases hcl : cap = l.toNat
        · simp [hcl]
        · simp only [if_neg hcl, addr_add]
  · cases h
end
end Go.Ev

set_option linter.unusedVariables false
set_option linter.unusedSimpArgs false
namespace Go.Ev
open Go Go.RowKit

/-- things that stand side by side: no block in two of them -/
inductive Fam {α : Type} (R : α → Value → (Nat → Prop) → Prop) : List α → List Value → (Nat → Prop) → Prop
  | nil (F : Nat → Prop) : Fam R [] [] F
  | cons (x : α) (xs : List α) (v : Value) (vs : List Value) (G F' F : Nat → Prop) (h : R x v G) (hs : Fam R xs vs F') (hd : ∀ b, G b → ¬ F' b) (h1 : ∀ b, G b → F b) (h2 : ∀ b, F' b → F b) : Fam R (x :: xs) (v :: vs) F
theorem Fam.length {α : Type} {R : α → Value → (Nat → Prop) → Prop} {xs : List α} {vs : List Value} {F : Nat → Prop} (h : Fam R xs vs F) : xs.length = vs.length := by
  induction h with
  | nil => rfl
  | cons => simp_all
theorem Fam.map {α β : Type} {R : α → Value → (Nat → Prop) → Prop} {S : β → Value → (Nat → Prop) → Prop} (f : α → β) {xs : List α} {vs : List Value} {F : Nat → Prop} (h : Fam R xs vs F) (hf : ∀ x v G, (∀ b, G b → F b) → R x v G → S (f x) v G) : Fam S (xs.map f) vs F := by
  induction h with
  | nil => exact .nil _
  | cons x xs v vs G F' F h hs hd h1 h2 ih => exact .cons _ _ _ _ G F' F (hf _ _ _ h1 h) (ih fun x v G hG => hf x v G fun b hb => h2 b (hG b hb)) hd h1 h2
theorem Fam.imp {α : Type} {R S : α → Value → (Nat → Prop) → Prop} {xs : List α} {vs : List Value} {F : Nat → Prop} (h : Fam R xs vs F) (hf : ∀ x v G, (∀ b, G b → F b) → R x v G → S x v G) : Fam S xs vs F := by
  induction h with
  | nil => exact .nil _
  | cons x xs v vs G F' F h hs hd h1 h2 ih => exact .cons _ _ _ _ G F' F (hf _ _ _ h1 h) (ih fun x v G hG => hf x v G fun b hb => h2 b (hG b hb)) hd h1 h2
theorem Fam.sub {α : Type} {R : α → Value → (Nat → Prop) → Prop} {xs : List α} {vs : List Value} {F F' : Nat → Prop} (h : Fam R xs vs F) (hF : ∀ b, F b → F' b) : Fam R xs vs F' := by
  cases h with
  | nil => exact .nil _
  | cons x xs v vs G F1 F h hs hd h1 h2 => exact .cons _ _ _ _ G F1 _ h hs hd (fun b hb => hF b (h1 b hb)) (fun b hb => hF b (h2 b hb))
theorem Fam.app {α : Type} {R : α → Value → (Nat → Prop) → Prop} {xs ys : List α} {vs us : List Value} {F1 F2 F : Nat → Prop} (h1 : Fam R xs vs F1) (h2 : Fam R ys us F2) (hd : ∀ b, F1 b → ¬ F2 b) (hF1 : ∀ b, F1 b → F b) (hF2 : ∀ b, F2 b → F b) : Fam R (xs ++ ys) (vs ++ us) F := by
  induction h1 generalizing F with
  | nil => exact h2.sub hF2
  | cons x xs v vs G F' F0 h hs hd' h1 h2' ih =>
    refine .cons _ _ _ _ G (fun b => F' b ∨ F2 b) _ h (ih (fun b hb => hd b (h2' b hb)) (fun b hb => .inl hb) (fun b hb => .inr hb)) ?_ (fun b hb => hF1 b (h1 b hb)) ?_
    · rintro b hb (h' | h')
      · exact hd' b hb h'
      · exact hd b (h1 b hb) h'
    · rintro b (h' | h')
      · exact hF1 b (h2' b h')
      · exact hF2 b h'
theorem Fam.of {α : Type} {R : α → Value → (Nat → Prop) → Prop} {F : Nat → Prop} : ∀ {xs : List α} {vs : List Value}, xs.length = vs.length → (∀ (k : Nat) (x : α) (v : Value), xs[k]? = some x → vs[k]? = some v → R x v fun _ => False) → Fam R xs vs F
  | [], [], _, _ => .nil _
  | x :: xs, v :: vs, hl, h => .cons _ _ _ _ (fun _ => False) (fun _ => False) _ (h 0 x v rfl rfl) (Fam.of (by simpa using hl) fun k x v hk hv => h (k + 1) x v (by simpa using hk) (by simpa using hv)) (fun _ h => h.elim) (fun _ h => h.elim) (fun _ h => h.elim)
  | [], _ :: _, hl, _ => by simp at hl
  | _ :: _, [], hl, _ => by simp at hl

theorem Fam.nth {α : Type} {R : α → Value → (Nat → Prop) → Prop} {xs : List α} {vs : List Value} {F : Nat → Prop} (h : Fam R xs vs F) {k : Nat} {x : α} {v : Value} (hx : xs[k]? = some x) (hv : vs[k]? = some v) : ∃ G, R x v G ∧ ∀ b, G b → F b := by
  induction h generalizing k with
  | nil => simp at hx
  | cons y ys u us G F' F h hs hd h1 h2 ih =>
    cases k with
    | zero => simp at hx hv; subst hx; subst hv; exact ⟨G, h, h1⟩
    | succ k =>
      obtain ⟨G', q1, q2⟩ := ih (k := k) (by simpa using hx) (by simpa using hv)
      exact ⟨G', q1, fun b hb => h2 b (q2 b hb)⟩

/-- a cell that goes from one frame to another -/
def VC (w : World) (B : Nat → Prop) (x : AV) (v : Value) (F : Nat → Prop) : Prop := ∃ y, x = .t y ∧ Own w B y v F
/-- a pointer to a box that goes for good -/
def VB (w : World) (B : Nat → Prop) (x : AV) (v : Value) (F : Nat → Prop) : Prop := ∃ cs vs b ty F1, x = .io cs ∧ v = .pointer (some ⟨b, 0, none⟩) ∧ w.heap[b]? = some (.cells vs.toArray ty (0, 0)) ∧ Fam (VC w B) cs vs F1 ∧ (∀ c, F1 c → F c) ∧ ¬ F1 b ∧ F b
/-- an argument -/
def VS (w : World) (B : Nat → Prop) (x : AV) (v : Value) (F : Nat → Prop) : Prop := VC w B x v F ∨ (∃ cs vs, x = .ag cs ∧ v = .agg vs.toArray ∧ Fam (VC w B) cs vs F) ∨ VB w B x v F
/-- a result -/
def VR (w : World) (B : Nat → Prop) (x : AV) (v : Value) (F : Nat → Prop) : Prop := VS w B x v F ∨ ∃ cs vs, x = .tp cs ∧ v = .tuple vs.toArray ∧ Fam (VS w B) cs vs F

theorem VC.mono {w w' : World} {B B' : Nat → Prop} (hB : ∀ b, B b → B' b ∧ w'.heap[b]? = w.heap[b]?) {x : AV} {v : Value} {F : Nat → Prop} (h : VC w B x v F) (hF : ∀ b, F b → w'.heap[b]? = w.heap[b]?) : VC w' B' x v F := by
  obtain ⟨y, rfl, h⟩ := h
  exact ⟨y, rfl, h.mono hB hF⟩
theorem VS.mono {w w' : World} {B B' : Nat → Prop} (hB : ∀ b, B b → B' b ∧ w'.heap[b]? = w.heap[b]?) {x : AV} {v : Value} {F : Nat → Prop} (h : VS w B x v F) (hF : ∀ b, F b → w'.heap[b]? = w.heap[b]?) : VS w' B' x v F := by
  rcases h with h | ⟨cs, vs, rfl, rfl, h⟩ | ⟨cs, vs, b, ty, F1, rfl, rfl, h1, h2, h3, h4, h5⟩
  · exact .inl (h.mono hB hF)
  · exact .inr (.inl ⟨cs, vs, rfl, rfl, h.imp fun x v G hG hx => hx.mono hB fun b hb => hF b (hG b hb)⟩)
  · exact .inr (.inr ⟨cs, vs, b, ty, F1, rfl, rfl, (hF b h5).trans h1, h2.imp fun x v G hG hx => hx.mono hB fun b hb => hF b (h3 b (hG b hb)), h3, h4, h5⟩)
theorem VR.mono {w w' : World} {B B' : Nat → Prop} (hB : ∀ b, B b → B' b ∧ w'.heap[b]? = w.heap[b]?) {x : AV} {v : Value} {F : Nat → Prop} (h : VR w B x v F) (hF : ∀ b, F b → w'.heap[b]? = w.heap[b]?) : VR w' B' x v F := by
  rcases h with h | ⟨cs, vs, rfl, rfl, h⟩
  · exact .inl (h.mono hB hF)
  · exact .inr ⟨cs, vs, rfl, rfl, h.imp fun x v G hG hx => hx.mono hB fun b hb => hF b (hG b hb)⟩

theorem ownCL_any {w : World} {B B' : Nat → Prop} {cs : List AV} {vs : List Value} {F : Nat → Prop} (h : Fam (VC w B) cs vs F) (ho : ownCL cs) : Fam (VC w B') cs vs F := by
  induction h with
  | nil => exact .nil _
  | cons x xs v vs G F' F h hs hd h1 h2 ih =>
    obtain ⟨y, rfl, h⟩ := h
    exact .cons _ _ _ _ G F' F ⟨y, rfl, h.any ho.1⟩ (ih ho.2) hd h1 h2
theorem ownTL_any {w : World} {B B' : Nat → Prop} {cs : List AV} {vs : List Value} {F : Nat → Prop} (h : Fam (VS w B) cs vs F) (ho : AV.own.ownTL cs) : Fam (VS w B') cs vs F := by
  induction h with
  | nil => exact .nil _
  | cons x xs v vs G F' F h hs hd h1 h2 ih =>
    rcases h with ⟨y, rfl, h⟩ | ⟨ds, us, rfl, rfl, h⟩ | ⟨ds, us, b, ty, F1, rfl, _⟩
    · exact .cons _ _ _ _ G F' F (.inl ⟨y, rfl, h.any ho.1⟩) (ih ho.2) hd h1 h2
    · exact .cons _ _ _ _ G F' F (.inr (.inl ⟨ds, us, rfl, rfl, ownCL_any h ho.1⟩)) (ih ho.2) hd h1 h2
    · exact ho.elim
theorem VB.any {w : World} {B B' : Nat → Prop} {cs : List AV} {v : Value} {F : Nat → Prop} (h : VB w B (.io cs) v F) (ho : ownCL cs) : VB w B' (.io cs) v F := by
  obtain ⟨ds, vs, b, ty, F1, e, rfl, h1, h2, h3, h4, h5⟩ := h
  cases e
  exact ⟨cs, vs, b, ty, F1, rfl, rfl, h1, ownCL_any h2 ho, h3, h4, h5⟩
theorem VR.any {w : World} {B B' : Nat → Prop} {x : AV} {v : Value} {F : Nat → Prop} (h : VR w B x v F) (hi : isIo x = false) (ho : x.own) : VR w B' x v F := by
  rcases h with (⟨y, rfl, h⟩ | ⟨cs, vs, rfl, rfl, h⟩ | ⟨cs, vs, b, ty, F1, rfl, _⟩) | ⟨cs, vs, rfl, rfl, h⟩
  · exact .inl (.inl ⟨y, rfl, h.any ho⟩)
  · exact .inl (.inr (.inl ⟨cs, vs, rfl, rfl, ownCL_any h ho⟩))
  · cases hi
  · exact .inr ⟨cs, vs, rfl, rfl, ownTL_any h ho⟩

section
variable {P : Program} {tab : Tab} {w0 w : World} {B0 Fin : Nat → Prop} {s s' : St} {a : Act} {g : Gh}

/-- a part of a slice that is read -/
theorem rep_part {B : Nat → Prop} {o : Bool} {rows : List (List T)} {v : Value} (h : Rep w B (.sl o rows) v) {sz : Nat} (hs : ∀ (i : Nat) (r : List T), rows[i]? = some r → r.length = sz) {lo hi : Nat} (h1 : lo ≤ hi) (h2 : hi ≤ rows.length) :
    Rep w B (.sl o ((rows.take hi).drop lo)) (partV v sz lo hi) := by
  have hlen : ((rows.take hi).drop lo).length = hi - lo := by simp; omega
  have hrow : ∀ (i : Nat) (r : List T), ((rows.take hi).drop lo)[i]? = some r → rows[lo + i]? = some r := by
    intro i r hi
    rw [List.getElem?_drop, List.getElem?_take] at hi
    split at hi
    · exact hi
    · cases hi
  cases h with
  | nil => simp [partV]; exact .nil _
  | em _ ad cap =>
    have e1 : hi = 0 := by simp at *; omega
    have e2 : lo = 0 := by omega
    subst e1; subst e2
    simp only [partV, List.take_nil, List.drop_nil, Nat.sub_self]
    exact .em _ _ _
  | sl _ _ b off cap sz' us hb hc hl hw hr =>
    simp only [partV]
    rw [← hlen]
    by_cases hcl : cap = lo
    · rw [if_pos hcl]
      have hno : ∀ (i : Nat) (r : List T), ¬ ((rows.take hi).drop lo)[i]? = some r := by
        intro i r h3
        have := nth_lt h3
        rw [hlen] at this; omega
      exact .sl _ _ b off _ sz' us (fun h => hb fun e => h (by rw [e]; simp)) (by rw [hlen]; omega) (fun i r h3 => absurd h3 (hno i r)) (fun i r k x h3 => absurd h3 (hno i r)) (fun i r k x h3 => absurd h3 (hno i r))
    · rw [if_neg hcl, addr_add]
      refine .sl _ _ b (off + lo * sz) _ sz' (fun i k => us (lo + i) k) (fun h => hb fun e => h (by rw [e]; simp)) (by rw [hlen]; omega) (fun i r h3 => hl _ r (hrow i r h3)) ?_ (fun i r k x h3 hk => hr _ r k x (hrow i r h3) hk)
      intro i r k x h3 hk
      have h4 := hrow i r h3
      have e : sz = sz' := (hs _ r h4).symm.trans (hl _ r h4)
      subst e
      have := hw _ r k x h4 hk
      rw [Nat.add_mul] at this
      rw [← this]; congr 2; omega

theorem root_lens {B : Nat → Prop} {q : Nat} {rows : List (List T)} {v : Value} {sz : Nat} {F : Nat → Prop} (h : Root w B q rows v sz F) : ∀ (i : Nat) (r : List T), rows[i]? = some r → r.length = sz := by
  rcases h with ⟨rfl, rfl⟩ | ⟨b, off, cap, us, Fs, cs, ty, rfl, hh, hcap, hc, hl, _⟩
  · intro i r h; simp at h
  · exact hl

theorem root_rep (F : FR w0 B0 Fin s a w g) {id : Nat} {rows : QV × List (List T)} (hi : lk s.o id = some rows) : Rep w (used g s) (.sl false rows.2) (g.rv id) :=
  (F.rt id rows hi).1.rep (fun b hb => .inl hb) (fun b hb => .inr (.inr ⟨id, rows, hi, hb⟩)) false
theorem rep_shrR {B : Nat → Prop} {rows : List (List T)} {v : Value} (h : Rep w B (.sl false rows) v) : Rep w B (.sl false (shrR rows)) v := h.shr

theorem snapT_sound (F : FR w0 B0 Fin s a w g) : ∀ (n : Nat) {x : AV} {v : Value} {t : T}, snapT n s x = some t → CR w g s.h s.o x v → Rep w (used g s) t v ∧ ∀ G, Own w (used g s) t v G := by
  intro n
  induction n with
  | zero => intro x v t h; cases h
  | succ n ih =>
    intro x v t h hx
    suffices H : Rep w (used g s) t v ∧ (∀ rows, t ≠ .sl true rows) by
      refine ⟨H.1, fun G => ?_⟩
      have hr := H.1
      cases t with
      | sc u => cases hr; exact .sc _ _
      | sl o rows =>
        cases o with
        | true => exact absurd rfl (H.2 rows)
        | false => exact .sh _ _ _ hr
      | pt cs => exact .pt _ _ _ hr
      | fn f cs => exact .fn _ _ _ _ hr
    have hBu : ∀ b, g.B b → used g s b ∧ w.heap[b]? = w.heap[b]? := fun b hb => ⟨.inl hb, rfl⟩
    cases x with
    | u => cases h
    | ag _ => cases h
    | tp _ => cases h
    | io _ => cases h
    | iw _ => cases h
    | t x =>
      cases hx with
      | t x v hr =>
        have hr := hr.mono hBu
        simp only [snapT] at h
        split at h
        · split at h
          · cases h; cases hr; exact ⟨.nil _, by simp⟩
          · cases h; exact ⟨hr, by simp⟩
        · cases h; exact ⟨hr.flag, by simp⟩
        · cases h; exact ⟨hr, by simp⟩
        · cases h; exact ⟨hr, by simp⟩
    | bp id off =>
      simp only [snapT] at h
      split at h
      case h_2 => cases h
      rename_i cells hi
      split at h
      case h_2 => cases h
      rename_i r hr
      split at h
      case h_2 => cases h
      rename_i ts hts
      cases h; cases hx
      refine ⟨?_, by simp⟩
      obtain ⟨rfl, hn⟩ := dropS_eq hr
      obtain ⟨hlen, hk⟩ := mapS_eq hts
      obtain ⟨_, _, vs, ty, hh, hcr⟩ := F.bx id cells hi
      have hd := hcr.drop off
      have hlt : ∀ (k : Nat) (x : T), ts[k]? = some x → k < (cells.drop off).length ∧ k < (vs.drop off).length ∧ off + k < vs.length := by
        intro k x hx
        have h1 := nth_lt hx
        have h2 := hd.1
        rw [hlen] at h1
        refine ⟨h1, by omega, ?_⟩
        rw [h2, List.length_drop] at h1; omega
      refine .pt ts (g.lc id) off (fun k => (vs.drop off).getD k undef) (.inr (.inl ⟨id, cells, hi, rfl⟩)) ?_ ?_
      · intro k x hx
        obtain ⟨_, _, h3⟩ := hlt k x hx
        have he : (vs.drop off).getD k undef = vs[off + k] := by
          rw [List.getD_eq_getElem?_getD, List.getElem?_drop, List.getElem?_eq_getElem h3]; rfl
        simp only [he]
        simp [World.cell?, hh, h3]
      · intro k x hx
        obtain ⟨h1, h2, _⟩ := hlt k x hx
        obtain ⟨y, hy, hs⟩ := hk k _ (List.getElem?_eq_getElem h1)
        rw [hx] at hy; cases hy
        have he : (vs.drop off).getD k undef = (vs.drop off)[k] := by
          rw [List.getD_eq_getElem?_getD, List.getElem?_eq_getElem h2]; rfl
        simp only [he]
        exact (ih hs (hd.2 k _ _ (List.getElem?_eq_getElem h1) (List.getElem?_eq_getElem h2))).1
    | fn f caps =>
      simp only [snapT] at h
      split at h
      case h_2 => cases h
      rename_i ts hts
      cases h
      refine ⟨?_, by simp⟩
      obtain ⟨hlen, hk⟩ := mapS_eq hts
      cases hx with
      | fn _ cs vs hl hr =>
        refine .fn f ts vs (by omega) ?_
        intro k x v hx hv
        have hkl := nth_lt hx
        rw [hlen] at hkl
        obtain ⟨y, hy, hs⟩ := hk k _ (List.getElem?_eq_getElem hkl)
        rw [hx] at hy; cases hy
        exact (ih hs (hr k _ _ (List.getElem?_eq_getElem hkl) hv)).1
    | bw x id =>
      cases hx with
      | bw _ _ _ rows hi hr =>
        have hr : Rep w (used g s) x v := hr.mono fun b hb => ⟨by
          rcases hb with hb | ⟨hb, _⟩
          · exact .inl hb
          · exact .inr (.inr ⟨id, rows, hi, hb⟩), rfl⟩
        have hs := hr.shr
        cases x with
        | sc u => cases h
        | sl o rs => simp only [snapT] at h; cases h; exact ⟨hs, by simp⟩
        | pt cs => simp only [snapT] at h; cases h; exact ⟨hs, by simp⟩
        | fn f cs => simp only [snapT] at h; cases h; exact ⟨hs, by simp⟩
    | rf id =>
      cases hx with
      | rf _ rows hi =>
        obtain ⟨q, rows⟩ := rows
        simp only [snapT, hi] at h; cases h
        exact ⟨rep_shrR (root_rep F hi), by simp⟩
    | rw id lo hh =>
      cases hx with
      | rw _ _ _ rows hi h1 h2 =>
        have hl := root_lens (F.rt id rows hi).1
        have hr := root_rep F hi
        obtain ⟨q, rows⟩ := rows
        simp only [snapT, hi] at h; cases h
        exact ⟨rep_shrR (rep_part hr hl h1 h2), by simp⟩
    | rp id i k =>
      cases hx with
      | rp _ _ _ rows hi b off n cap hv =>
        have hl := root_lens (F.rt id rows hi).1
        have hr := root_rep F hi
        obtain ⟨q, rows⟩ := rows
        simp only [snapT, hi] at h
        split at h
        case h_2 => cases h
        rename_i r hri
        split at h
        case h_2 => cases h
        rename_i cs hcs
        cases h
        obtain ⟨rfl, _⟩ := dropS_eq hcs
        rw [hv] at hr
        obtain ⟨_, _, sz, hl', hp⟩ := rep_row hr
        have e : sz = g.sz id := (hl' i r hri).symm.trans (hl i r hri)
        subst e
        refine ⟨?_, by simp⟩
        have := (pt_drop (off := k) (hp i r hri)).shr
        rw [Nat.add_assoc] at this
        exact this

theorem snapC_sound (F : FR w0 B0 Fin s a w g) {x y : AV} {v : Value} (h : snapC s x = some y) (hx : CR w g s.h s.o x v) (G : Nat → Prop) : VC w (used g s) y v G := by
  unfold snapC at h
  split at h
  · rename_i t ht; cases h; exact ⟨t, rfl, (snapT_sound F _ ht hx).2 G⟩
  · cases h

theorem snaps_sound (F : FR w0 B0 Fin s a w g) {cs ds : List AV} {vs : List Value} (h : mapS (snapC s) cs = some ds) (hx : CRs w g s.h s.o cs vs) (G : Nat → Prop) : Fam (VC w (used g s)) ds vs G := by
  obtain ⟨hl, hk⟩ := mapS_eq h
  refine .of (by rw [hl]; exact hx.1) ?_
  intro k y v hy hv
  have hkl := nth_lt hy
  rw [hl] at hkl
  obtain ⟨z, hz, hs⟩ := hk k _ (List.getElem?_eq_getElem hkl)
  rw [hy] at hz; cases hz
  exact snapC_sound F hs (hx.2 k _ v (List.getElem?_eq_getElem hkl) hv) _

theorem snapA_sound (F : FR w0 B0 Fin s a w g) {x y : AV} {v : Value} (h : snapA s x = some y) (hx : CR w g s.h s.o x v) (G : Nat → Prop) : VS w (used g s) y v G := by
  unfold snapA at h
  split at h
  · split at h
    · rename_i l hl
      cases h
      cases hx with
      | ag cs vs hlen hr => exact .inr (.inl ⟨_, vs, rfl, rfl, snaps_sound F hl ⟨hlen, hr⟩ G⟩)
    · cases h
  · cases h
  · exact .inl (snapC_sound F h hx G)

/-- what is plain is read in the shared blocks alone -/
theorem snapC_plain {x y : AV} {v : Value} (hs : plC x = true) (h : snapC s x = some y) (hx : CR w g s.h s.o x v) (G : Nat → Prop) : VC w g.B y v G := by
  unfold plC at hs
  split at hs
  · cases hx with
    | t x v hr =>
      unfold snapC at h
      split at h
      case h_2 => cases h
      rename_i t ht
      cases h
      refine ⟨t, rfl, ?_⟩
      simp only [snapT] at ht
      split at ht
      · split at ht
        · cases ht; cases hr; exact .sh _ _ _ (.nil _)
        · cases ht; cases hr; exact .sc _ _
      · cases ht; exact .sh _ _ _ hr.flag
      · cases ht; exact .pt _ _ _ hr
      · cases ht; exact .fn _ _ _ _ hr
  · cases hs
theorem snapA_plain {x y : AV} {v : Value} (hs : x.plain = true) (h : snapA s x = some y) (hx : CR w g s.h s.o x v) (G : Nat → Prop) : VS w g.B y v G := by
  unfold AV.plain at hs
  split at hs
  · rename_i cs
    unfold snapA at h
    simp only at h
    split at h
    · rename_i l hl
      cases h
      cases hx with
      | ag cs vs hlen hr =>
        obtain ⟨hll, hk⟩ := mapS_eq hl
        refine .inr (.inl ⟨_, vs, rfl, rfl, .of (by rw [hll]; exact hlen) ?_⟩)
        intro k y v hy hv
        have hkl := nth_lt hy
        rw [hll] at hkl
        obtain ⟨z, hz, hs'⟩ := hk k _ (List.getElem?_eq_getElem hkl)
        rw [hy] at hz; cases hz
        exact snapC_plain (allB_all hs k _ (List.getElem?_eq_getElem hkl)) hs' (hr k _ v (List.getElem?_eq_getElem hkl) hv) _
    · cases h
  · have hs' := hs
    unfold plC at hs
    split at hs
    · unfold snapA at h; simp only at h; exact .inl (snapC_plain hs' h hx G)
    · cases hs

theorem absorbF_sound {h0 : Bxs} {o0 : Rts} : ∀ {cs : List AV} {s s' : St} {vs : List Value} {ts : List T}, FR w0 B0 Fin s a w g → CRs w g h0 o0 cs vs → absorbL s cs = some (ts, s') →
    FR w0 B0 Fin s' a w g ∧ Subs s s' ∧ Fam (VC w g.B) (ts.map AV.t) vs (Freed w0 w Fin g s s') := by
  intro cs
  induction cs with
  | nil =>
    intro s s' vs ts F hc h
    rw [absorbL] at h; cases h
    cases vs with
    | nil => exact ⟨F, .refl _, .nil _⟩
    | cons v vs => have := hc.1; simp at this
  | cons x cs ih =>
    intro s s' vs ts F hc h
    rw [absorbL] at h
    split at h
    case h_2 => cases h
    rename_i t s1 h1
    split at h
    case h_2 => cases h
    rename_i ts' s2 h2
    cases h
    obtain ⟨v, us, rfl, hx, hcs⟩ := hc.head
    obtain ⟨F1, hs1, G, hG, hGf⟩ := absorb1_sound F hx h1
    obtain ⟨F2, hs2, hf⟩ := ih F1 hcs h2
    refine ⟨F2, hs1.trans hs2, .cons _ _ _ _ G _ _ ⟨t, rfl, hG⟩ hf ?_ ?_ ?_⟩
    · intro b hb hb'; exact (hGf b hb).2.2.1 hb'.2.2.2
    · intro b hb
      obtain ⟨b1, b2, b3, b4⟩ := hGf b hb
      exact ⟨b1, b2, fun h => b3 (hs2.used h), b4⟩
    · rintro b ⟨b1, b2, b3, b4⟩
      exact ⟨b1, b2, b3, hs1.used b4⟩

theorem Freed.left {s1 s2 : St} (h2 : Subs s1 s2) {b : Nat} (h : Freed w0 w Fin g s s1 b) : Freed w0 w Fin g s s2 b := ⟨h.1, h.2.1, fun hu => h.2.2.1 (h2.used hu), h.2.2.2⟩
theorem Freed.right {s1 s2 : St} (h1 : Subs s s1) {b : Nat} (h : Freed w0 w Fin g s1 s2 b) : Freed w0 w Fin g s s2 b := ⟨h.1, h.2.1, h.2.2.1, h1.used h.2.2.2⟩
/-- a box goes out of a frame, with all that it holds -/
theorem boxOut_sound (F : FR w0 B0 Fin s a w g) {id : Nat} {cells l : List AV} {ts : List T} {s1 : St} {c1 : List AV} (hi : lk s.h id = some cells) (h1 : absorbL s cells = some (ts, s1)) (hl : tS ts = some l) (hin : lk s1.h id = some c1) (h2 : s1.drop id = some s') :
    FR w0 B0 Fin s' a w g ∧ Subs s s' ∧ VB w g.B (.io l) (.pointer (some ⟨g.lc id, 0, none⟩)) (Freed w0 w Fin g s s') := by
  obtain ⟨hfi, hnB, vs, ty, hh, hcr⟩ := F.bx id cells hi
  obtain ⟨F1, hs1, hf⟩ := absorbF_sound F hcr h1
  have e := tS_eq hl; subst e
  obtain ⟨F2, hs2, hn1, hn2⟩ := drop_sub F1 h2
  have hb1 : used g s (g.lc id) := .inr (.inl ⟨id, cells, hi, rfl⟩)
  have hid : ¬ used g s' (g.lc id) := by
    rintro (hb | ⟨i, c, hc, e⟩ | ⟨j, r, hj, hb⟩)
    · exact hnB hb
    · obtain ⟨c', hc'⟩ := (hs1.trans hs2).1 i c hc
      have := F.bi id i cells c' hi hc' e
      subst this
      rw [hn1] at hc; cases hc
    · exact F.br id j cells r hi ((hs1.trans hs2).2 j r hj) hb
  refine ⟨F2, hs1.trans hs2, _, vs, g.lc id, ty, _, rfl, rfl, hh, hf, fun c hc => Freed.left hs2 hc, fun hc => ?_, ⟨F.lt hi, hfi, hid, hb1⟩⟩
  obtain ⟨_, _, hc3, hc4⟩ := hc
  exact hc3 (.inr (.inl ⟨id, c1, hin, rfl⟩))

theorem moveA_sound {h0 : Bxs} {o0 : Rts} (F : FR w0 B0 Fin s a w g) {x y : AV} {v : Value} (hx : CR w g h0 o0 x v) (h : moveA s x = some (y, s')) :
    FR w0 B0 Fin s' a w g ∧ Subs s s' ∧ VS w g.B y v (Freed w0 w Fin g s s') := by
  unfold moveA at h
  split at h
  · split at h
    case h_2 => cases h
    rename_i ts s1 h1
    split at h
    case h_2 => cases h
    rename_i l hl
    cases h
    cases hx with
    | ag cs vs hlen hr =>
      obtain ⟨F1, hs1, hf⟩ := absorbF_sound F ⟨hlen, hr⟩ h1
      have e := tS_eq hl; subst e
      exact ⟨F1, hs1, .inr (.inl ⟨_, vs, rfl, rfl, hf⟩)⟩
  · cases h
  · rename_i id off
    split at h
    case h_2 => cases h
    split at h
    case h_2 => cases h
    rename_i cells hi
    split at h
    case h_2 => cases h
    rename_i ts s1 h1
    split at h
    case h_2 => cases h
    rename_i l hl
    split at h
    case h_2 => cases h
    rename_i c1 hin
    split at h
    case h_2 => cases h
    rename_i s2 h2
    cases h
    obtain ⟨F2, hs2, hb⟩ := boxOut_sound F hi h1 hl hin h2
    have hlc : (CR w g h0 o0 (.bp id 0) v → v = .pointer (some ⟨g.lc id, 0, none⟩)) := fun q => by cases q; rfl
    rw [hlc hx]
    exact ⟨F2, hs2, .inr (.inr hb)⟩
  · split at h
    case h_2 => cases h
    rename_i t s1 h1
    cases h
    obtain ⟨F1, hs1, G, hG, hGf⟩ := absorb1_sound F hx h1
    exact ⟨F1, hs1, .inl ⟨t, rfl, hG.sub hGf⟩⟩

/-- the arguments of a call: those that go for good, those that are read -/
theorem moves_sound : ∀ {xs : List Operand} {ms : List Bool} {s s' : St} {l : List AV}, FR w0 B0 Fin s a w g → movesL ms s xs = some (l, s') →
    FR w0 B0 Fin s' a w g ∧ Subs s s' ∧ Fam (VS w (used g s')) l (xs.map a.eval) (Freed w0 w Fin g s s') ∧ (allPlain ms s' xs = true → Fam (VS w g.B) l (xs.map a.eval) (Freed w0 w Fin g s s')) := by
  intro xs
  induction xs with
  | nil =>
    intro ms s s' l F h
    rw [movesL] at h; cases h
    exact ⟨F, .refl _, .nil _, fun _ => .nil _⟩
  | cons x xs ih =>
    intro ms s s' l F h
    have snap : ∀ {ms' : List Bool}, (match movesL ms' s xs with
        | some (l, s) => match snapA s (s.ev x) with
          | some y => some (y :: l, s)
          | none => none
        | none => none) = some (l, s') →
        FR w0 B0 Fin s' a w g ∧ Subs s s' ∧ Fam (VS w (used g s')) l ((x :: xs).map a.eval) (Freed w0 w Fin g s s') ∧ ((match (s'.ev x).plain with
      | true => allPlain ms' s' xs
      | false => false) = true → Fam (VS w g.B) l ((x :: xs).map a.eval) (Freed w0 w Fin g s s')) := by
      intro ms' h
      split at h
      case h_2 => cases h
      rename_i l' s1 h1
      split at h
      case h_2 => cases h
      rename_i y hy
      cases h
      obtain ⟨F1, hs1, hf, hp⟩ := ih F h1
      refine ⟨F1, hs1, .cons _ _ _ _ (fun _ => False) _ _ (snapA_sound F1 hy (F1.ev x) _) hf (fun _ h => h.elim) (fun _ h => h.elim) (fun _ h => h), fun hpl => ?_⟩
      split at hpl
      · rename_i hp1
        exact .cons _ _ _ _ (fun _ => False) _ _ (snapA_plain hp1 hy (F1.ev x) _) (hp hpl) (fun _ h => h.elim) (fun _ h => h.elim) (fun _ h => h)
      · cases hpl
    unfold movesL at h
    unfold allPlain
    split at h
    · rename_i ms'
      split at h
      case h_2 => cases h
      rename_i y s1 h1
      split at h
      case h_2 => cases h
      rename_i l' s2 h2
      cases h
      obtain ⟨F1, hs1, hv⟩ := moveA_sound F (F.ev x) h1
      obtain ⟨F2, hs2, hf, hp⟩ := ih F1 h2
      refine ⟨F2, hs1.trans hs2, .cons _ _ _ _ _ _ _ (hv.mono (fun b hb => ⟨.inl hb, rfl⟩) fun _ _ => rfl) hf ?_ (fun b hb => hb.left hs2) (fun b hb => hb.right hs1), fun hpl => .cons _ _ _ _ _ _ _ hv (hp hpl) ?_ (fun b hb => hb.left hs2) (fun b hb => hb.right hs1)⟩
      · intro b hb hb'; exact hb.2.2.1 hb'.2.2.2
      · intro b hb hb'; exact hb.2.2.1 hb'.2.2.2
    · exact snap h
    · exact snap h
end
end Go.Ev

set_option linter.unusedVariables false
set_option linter.unusedSimpArgs false
namespace Go.Ev
open Go Go.RowKit

section
variable {P : Program} {tab : Tab} {w0 w : World} {B0 Fin : Nat → Prop} {s s' : St} {a : Act} {g g' : Gh}

theorem clear_keep {id : Nat} (h : s.clear id = some s') : ∀ i, i ≠ id → lk s'.o i = lk s.o i := by
  intro i hi
  unfold St.clear at h
  split at h
  · cases h; rfl
  · unfold St.drop at h
    split at h
    case h_2 => cases h
    rename_i t hh o n hk
    split at h
    case h_2 => cases h
    split at h
    case h_2 => cases h
    rename_i o' ho'
    cases h
    obtain ⟨k1, _⟩ := kill_parts hk
    show lk o' i = _
    rw [lk_rmv ho', if_neg (Ne.symm hi), ← k1]

/-- a frame has roots more, of names from lo to hi -/
structure Ext (s : St) (g : Gh) (s' : St) (g' : Gh) (lo hi : Nat) (G : Nat → Prop) : Prop where
  B : g'.B = g.B
  o : ∀ i r, (i < lo ∨ hi ≤ i) → lk s.o i = some r → lk s'.o i = some r ∧ g'.rv i = g.rv i
  used : ∀ b, used g' s' b → used g s b ∨ G b
theorem Ext.refl (s : St) (g : Gh) (lo hi : Nat) (G : Nat → Prop) : Ext s g s g lo hi G := ⟨rfl, fun _ _ _ h => ⟨h, rfl⟩, fun _ h => .inl h⟩
theorem Ext.trans {s1 s2 : St} {g1 g2 : Gh} {lo mid hi : Nat} {G G1 G2 : Nat → Prop} (h1 : Ext s g s1 g1 lo mid G1) (h2 : Ext s1 g1 s2 g2 mid hi G2) (hl : lo ≤ mid) (hh : mid ≤ hi) (hG1 : ∀ b, G1 b → G b) (hG2 : ∀ b, G2 b → G b) : Ext s g s2 g2 lo hi G := by
  refine ⟨h2.B.trans h1.B, ?_, ?_⟩
  · intro i r hi' hr
    obtain ⟨h3, h4⟩ := h1.o i r (by omega) hr
    obtain ⟨h5, h6⟩ := h2.o i r (by omega) h3
    exact ⟨h5, h6.trans h4⟩
  · intro b hb
    rcases h2.used b hb with h | h
    · rcases h1.used b h with h | h
      · exact .inl h
      · exact .inr (hG1 b h)
    · exact .inr (hG2 b h)

/-- a value that came in -/
inductive Imp (w : World) (g : Gh) (o : Rts) (lo hi : Nat) : AV → Value → Prop
  | t (x : T) (v : Value) (hr : Rep w g.B x v) : Imp w g o lo hi (.t x) v
  | rf (i : Nat) (rows : QV × List (List T)) (h1 : lo ≤ i) (h2 : i < hi) (hi' : lk o i = some rows) : Imp w g o lo hi (.rf i) (g.rv i)
  | ag (cs : List AV) (vs : List Value) (hl : cs.length = vs.length)
      (hr : ∀ (k : Nat) (x : AV) (v : Value), cs[k]? = some x → vs[k]? = some v → Imp w g o lo hi x v) : Imp w g o lo hi (.ag cs) (.agg vs.toArray)
  | tp (cs : List AV) (vs : List Value) (hl : cs.length = vs.length)
      (hr : ∀ (k : Nat) (x : AV) (v : Value), cs[k]? = some x → vs[k]? = some v → Imp w g o lo hi x v) : Imp w g o lo hi (.tp cs) (.tuple vs.toArray)
theorem Imp.cr {o : Rts} {lo hi : Nat} {x : AV} {v : Value} (h : Imp w g o lo hi x v) (bx : Bxs) : CR w g bx o x v := by
  induction h with
  | t x v hr => exact .t _ _ hr
  | rf i rows _ _ hi => exact .rf i rows hi
  | ag cs vs hl _ ih => exact .ag cs vs hl ih
  | tp cs vs hl _ ih => exact .tp cs vs hl ih
theorem Imp.ext {lo mid hi : Nat} {G : Nat → Prop} {x : AV} {v : Value} (h : Imp w g s.o lo mid x v) (he : Ext s g s' g' mid hi G) (hh : mid ≤ hi) : Imp w g' s'.o lo hi x v := by
  induction h with
  | t x v hr => exact .t _ _ (by rw [he.B]; exact hr)
  | rf i rows h1 h2 hi =>
    obtain ⟨h3, h4⟩ := he.o i rows (.inl h2) hi
    rw [← h4]; exact .rf i rows h1 (by omega) h3
  | ag cs vs hl _ ih => exact .ag cs vs hl ih
  | tp cs vs hl _ ih => exact .tp cs vs hl ih
theorem Imp.low {o : Rts} {lo lo' hi : Nat} {x : AV} {v : Value} (h : Imp w g o lo' hi x v) (hl : lo ≤ lo') : Imp w g o lo hi x v := by
  induction h with
  | t x v hr => exact .t _ _ hr
  | rf i rows h1 h2 hi => exact .rf i rows (by omega) h2 hi
  | ag cs vs hl _ ih => exact .ag cs vs hl ih
  | tp cs vs hl _ ih => exact .tp cs vs hl ih

/-- blocks that a frame may take for itself -/
def Take (w0 w : World) (Fin : Nat → Prop) (g : Gh) (s : St) (G : Nat → Prop) : Prop := ∀ b, G b → b < w.heap.size ∧ (Fin b ∨ w0.heap.size ≤ b) ∧ ¬ used g s b
theorem Take.sub {G G' : Nat → Prop} (h : Take w0 w Fin g s G) (hG : ∀ b, G' b → G b) : Take w0 w Fin g s G' := fun b hb => h b (hG b hb)
theorem Take.ext {lo hi : Nat} {G G' : Nat → Prop} (h : Take w0 w Fin g s G) (he : Ext s g s' g' lo hi G') (hd : ∀ b, G b → ¬ G' b) : Take w0 w Fin g' s' G := fun b hb => ⟨(h b hb).1, (h b hb).2.1, fun hu => by
  rcases he.used b hu with h' | h'
  · exact (h b hb).2.2 h'
  · exact hd b hb h'⟩

/-- what has memory of its own has a name -/
def ArgC (s : St) (g : Gh) (id : Nat) (x : AV) (v : Value) : Prop := ∀ rows, x = .t (.sl true rows) → (∃ r, lk s.o id = some r) ∧ g.rv id = v
def ArgA (s : St) (g : Gh) (id : Nat) (x : AV) (v : Value) : Prop := ArgC s g id x v ∧ ∀ (cs : List AV) (vs : List Value), x = .ag cs → v = .agg vs.toArray → cs.length = vs.length ∧ ∀ (j : Nat) (y : AV) (u : Value), cs[j]? = some y → vs[j]? = some u → ArgC s g (id + 1000 * j) y u
theorem ArgC.ext {id lo hi : Nat} {x : AV} {v : Value} {G : Nat → Prop} (h : ArgC s g id x v) (he : Ext s g s' g' lo hi G) (hl : id < lo) : ArgC s' g' id x v := by
  intro rows hx
  obtain ⟨⟨r, hr⟩, h2⟩ := h rows hx
  obtain ⟨h3, h4⟩ := he.o id r (.inl hl) hr
  exact ⟨⟨r, h3⟩, h4.trans h2⟩

theorem imp1_sound (F : FR w0 B0 Fin s a w g) {id : Nat} {x y : AV} {v : Value} {G : Nat → Prop} (hx : VC w g.B x v G) (hG : Take w0 w Fin g s G) (h : imp1 s id x = some (y, s')) :
    ∃ g', FR w0 B0 Fin s' a w g' ∧ Ext s g s' g' id (id + 1000) G ∧ Imp w g' s'.o id (id + 1000) y v ∧ ArgC s' g' id x v := by
  obtain ⟨t, rfl, hx⟩ := hx
  simp only [imp1] at h
  split at h
  · rename_i rows
    split at h
    case h_2 => cases h
    rename_i s1 h1
    split at h
    case h_2 => cases h
    rename_i s2 h2
    cases h
    obtain ⟨sz, hr⟩ := hx.root
    obtain ⟨F1, hf1, hf2, hbx, hrx⟩ := F.clear h1
    have hsub : Subs s s1 := ⟨hbx, hrx⟩
    obtain ⟨e1, e2, e3, e4⟩ := putO_parts h2
    refine ⟨_, F1.newRoot h2 hf2 hr (fun b hb => ⟨(hG b hb).1, (hG b hb).2.1, fun hu => (hG b hb).2.2 (hsub.used hu)⟩), ⟨rfl, ?_, ?_⟩, ?_, ?_⟩
    · intro i r hi hr'
      have hne : i ≠ id := by omega
      refine ⟨?_, upd_other _ _ hne⟩
      rw [e4, if_neg (Ne.symm hne), clear_keep h1 i hne]; exact hr'
    · rintro b (hb | ⟨i, c, hi, rfl⟩ | ⟨j, r, hj, hb⟩)
      · exact .inl (.inl hb)
      · rw [e2] at hi
        obtain ⟨c', hc'⟩ := hbx i c hi
        exact .inl (.inr (.inl ⟨i, c', hc', rfl⟩))
      · by_cases hj' : j = id
        · subst hj'; simp only [upd_same] at hb; exact .inr hb
        · rw [e4, if_neg (Ne.symm hj')] at hj
          simp only [upd_other _ _ hj'] at hb
          exact .inl (.inr (.inr ⟨j, r, hrx j r hj, hb⟩))
    · have := Imp.rf (w := w) (g := { g with rv := upd g.rv id v, sz := upd g.sz id sz, fo := upd g.fo id G }) (o := s'.o) (lo := id) (hi := id + 1000) id _ (Nat.le_refl _) (by omega) (by rw [e4, if_pos rfl])
      simpa [upd] using this
    · intro rows' _; exact ⟨⟨_, by rw [e4, if_pos rfl]⟩, upd_same _ _ _⟩
  · cases h
    cases hx with
    | sh rows v F h => exact ⟨g, F, .refl _ _ _ _ _, .t _ _ h, fun _ h => by cases h⟩
  · cases h
    cases hx with
    | sc v F => exact ⟨g, by assumption, .refl _ _ _ _ _, .t _ _ (.sc _), fun _ h => by cases h⟩
  · cases h
    cases hx with
    | pt cs v F h => exact ⟨g, by assumption, .refl _ _ _ _ _, .t _ _ h, fun _ h => by cases h⟩
  · cases h
    cases hx with
    | fn f cs v F h => exact ⟨g, by assumption, .refl _ _ _ _ _, .t _ _ h, fun _ h => by cases h⟩

theorem impL_sound : ∀ {cs : List AV} {s s' : St} {g : Gh} {id n : Nat} {l : List AV} {vs : List Value} {G : Nat → Prop}, FR w0 B0 Fin s a w g → Fam (VC w g.B) cs vs G → Take w0 w Fin g s G → impL s id cs = some (l, s', n) →
    ∃ g', FR w0 B0 Fin s' a w g' ∧ Ext s g s' g' id n G ∧ id ≤ n ∧ l.length = vs.length ∧ (∀ (k : Nat) (x : AV) (v : Value), l[k]? = some x → vs[k]? = some v → Imp w g' s'.o id n x v) ∧ ∀ (j : Nat) (y : AV) (u : Value), cs[j]? = some y → vs[j]? = some u → ArgC s' g' (id + 1000 * j) y u := by
  intro cs
  induction cs with
  | nil =>
    intro s s' g id n l vs G F hc hG h
    rw [impL] at h; cases h
    cases hc
    exact ⟨g, F, .refl _ _ _ _ _, Nat.le_refl _, rfl, fun k x v hk => by simp at hk, fun j y u hk => by simp at hk⟩
  | cons x cs ih =>
    intro s s' g id n l vs G F hc hG h
    rw [impL] at h
    split at h
    case h_2 => cases h
    rename_i y s1 h1
    split at h
    case h_2 => cases h
    rename_i l' s2 n' h2
    cases h
    cases hc with
    | cons _ _ v us G1 G2 _ hx hs hd hs1 hs2 =>
      obtain ⟨g1, F1, E1, I1, A1⟩ := imp1_sound F hx (hG.sub hs1) h1
      have hs' : Fam (VC w g1.B) cs us G2 := by rw [E1.B]; exact hs
      obtain ⟨g2, F2, E2, hn, hl, I2, A2⟩ := ih F1 hs' ((hG.sub hs2).ext E1 fun b hb hb' => hd b hb' hb) h2
      refine ⟨g2, F2, E1.trans E2 (by omega) hn hs1 hs2, by simp at hn ⊢; omega, by simp [hl], ?_, ?_⟩
      · intro k z u hk hu
        cases k with
        | zero => simp at hk hu; subst hk; subst hu; exact I1.ext E2 hn
        | succ k => exact (I2 k z u (by simpa using hk) (by simpa using hu)).low (by simp)
      · intro j z u hk hu
        cases j with
        | zero => simp at hk hu; subst hk; subst hu; exact A1.ext E2 (by simp)
        | succ j =>
          have := A2 j z u (by simpa using hk) (by simpa using hu)
          rw [show id + 1000 * (j + 1) = (id.add 1000) + 1000 * j by simp; omega]; exact this

theorem imp2_sound (F : FR w0 B0 Fin s a w g) {id n : Nat} {x y : AV} {v : Value} {G : Nat → Prop} (hx : VS w g.B x v G) (hG : Take w0 w Fin g s G) (h : imp2 s id x = some (y, s', n)) :
    ∃ g', FR w0 B0 Fin s' a w g' ∧ Ext s g s' g' id n G ∧ id ≤ n ∧ Imp w g' s'.o id n y v ∧ ArgA s' g' id x v := by
  rcases hx with hx | ⟨cs, vs, rfl, rfl, hx⟩ | ⟨cs, vs, b, ty, F1, rfl, _⟩
  rotate_left 2
  · simp only [imp2, imp1] at h; cases h
  · obtain ⟨t, rfl, hx⟩ := hx
    simp only [imp2] at h
    split at h
    case h_2 => cases h
    rename_i y' s1 h1
    cases h
    obtain ⟨g1, F1, E1, I1, A1⟩ := imp1_sound F ⟨t, rfl, hx⟩ hG h1
    exact ⟨g1, F1, E1, by simp, I1, A1, fun _ _ h => (by cases h)⟩
  · simp only [imp2] at h
    split at h
    case h_2 => cases h
    rename_i l s1 n' h1
    cases h
    obtain ⟨g1, F1, E1, hn, hl, I1, A1⟩ := impL_sound F hx hG h1
    refine ⟨g1, F1, E1, hn, .ag _ _ hl I1, (fun _ h => by cases h), ?_⟩
    intro cs' vs' h1 h2
    cases h1
    have : vs = vs' := by have := Value.agg.inj h2; simpa using this
    subst this
    exact ⟨hx.length, A1⟩

/-- a box that stands in memory comes into the frame -/
theorem FR.argBox (F : FR w0 B0 Fin s a w g) {id : Nat} {cells : List AV} {vs : List Value} {ty : TypeId} {b : Nat} (h : s.putH id cells = some s') (hf : s.free id = true) (hh : w.heap[b]? = some (.cells vs.toArray ty (0, 0))) (hb : b < w.heap.size ∧ (Fin b ∨ w0.heap.size ≤ b) ∧ ¬ used g s b)
    (hl : ∀ b', s'.n ≤ id → Loc w0 Fin id b' → b = b') (hc : CRs w g s.h s.o cells vs) :
    ∃ g', FR w0 B0 Fin s' a w g' ∧ g'.B = g.B ∧ g'.rv = g.rv ∧ g'.lc id = b ∧ (∀ x u, CR w g s.h s.o x u → CR w g' s'.h s'.o x u) ∧ (∀ c, used g' s' c → used g s c ∨ c = b) ∧ s'.o = s.o ∧ s'.n = s.n ∧ lk s'.h id = some cells := by
  obtain ⟨e1, e2, e3, e4⟩ := putH_parts h
  have hfn : lk s.h id = none := by
    unfold St.free at hf
    split at hf
    · cases hf
    · assumption
  let g' : Gh := { g with lc := upd g.lc id b }
  have hne : ∀ i c, lk s.h i = some c → i ≠ id := fun i c hi e => by subst e; rw [hfn] at hi; cases hi
  have hnb : ∀ i c, lk s.h i = some c → g.lc i ≠ b := fun i c hi e => hb.2.2 (.inr (.inl ⟨i, c, hi, e.symm⟩))
  have key : ∀ x v, CR w g s.h s.o x v → CR w g' s'.h s'.o x v := fun x v hx => hx.mono (w' := w) (g' := g') (h' := s'.h) (o' := s'.o) (fun b hb => ⟨hb, rfl⟩)
    (fun i cs _ h1 => ⟨⟨cs, by rw [e4, if_neg (Ne.symm (hne i cs h1))]; exact h1⟩, upd_other _ _ (hne i cs h1)⟩) (fun i rows _ h1 => ⟨⟨rows, by rw [e2]; exact h1, rfl⟩, rfl, rfl⟩)
    (fun i rows b _ h1 h2 _ => ⟨h2, rfl⟩)
  refine ⟨g', ⟨by rw [e3]; exact F.n, F.df, F.kp, F.bb, ?_, ?_, ?_, ?_, ?_, ?_, fun i r u h1 h2 => F.tv i r u (by rw [e2] at h1; exact h1) h2, ?_⟩, rfl, rfl, upd_same _ _ _, key, ?_, e2, e3, by rw [e4, if_pos rfl]⟩
  · intro k x hx
    rw [e1] at hx
    obtain ⟨v, hv, hr⟩ := F.tm k x hx
    exact ⟨v, hv, key _ _ hr⟩
  · intro i ci hi
    rw [e4] at hi
    split at hi
    · rename_i e; subst e; cases hi
      simp only [g', upd_same]
      exact ⟨hb.2.1, fun hB => hb.2.2 (.inl hB), vs, ty, hh, hc.mono fun k x v _ hx => key _ _ hx⟩
    · rename_i e
      simp only [g', upd_other _ _ (Ne.symm e)]
      obtain ⟨h1, h2, us, ty', h3, h4⟩ := F.bx i ci hi
      exact ⟨h1, h2, us, ty', h3, h4.mono fun k x v _ hx => key _ _ hx⟩
  · intro i rows hi
    rw [e2] at hi
    exact F.rt i rows hi
  · intro i j ci cj hi hj he
    rw [e4] at hi hj
    by_cases ei : id = i
    · by_cases ej : id = j
      · exact ei.symm.trans ej
      · rw [if_neg ej] at hj
        subst ei
        simp only [g', upd_same, upd_other _ _ (Ne.symm ej)] at he
        exact absurd he.symm (hnb j cj hj)
    · rw [if_neg ei] at hi
      by_cases ej : id = j
      · subst ej
        simp only [g', upd_same, upd_other _ _ (Ne.symm ei)] at he
        exact absurd he (hnb i ci hi)
      · rw [if_neg ej] at hj
        simp only [g', upd_other _ _ (Ne.symm ei), upd_other _ _ (Ne.symm ej)] at he
        exact F.bi i j ci cj hi hj he
  · intro i j ri rj c hi hj
    rw [e2] at hi hj
    exact F.rr i j ri rj c hi hj
  · intro i j ci rj hi hj hfo
    rw [e2] at hj
    rw [e4] at hi
    split at hi
    · rename_i e; subst e
      simp only [g', upd_same] at hfo
      exact hb.2.2 (.inr (.inr ⟨j, rj, hj, hfo⟩))
    · rename_i e
      simp only [g', upd_other _ _ (Ne.symm e)] at hfo
      exact F.br i j ci rj hi hj hfo
  · intro i c b' hi hn hL
    rw [e4] at hi
    split at hi
    · rename_i e; subst e
      simp only [g', upd_same]
      exact hl b' hn hL
    · rename_i e
      simp only [g', upd_other _ _ (Ne.symm e)]
      exact F.bl i c b' hi (by rw [← e3]; exact hn) hL
  · rintro c (hB | ⟨i, ci, hi, rfl⟩ | ⟨j, r, hj, hfo⟩)
    · exact .inl (.inl hB)
    · rw [e4] at hi
      split at hi
      · rename_i e; subst e; exact .inr (upd_same _ _ _)
      · rename_i e; exact .inl (.inr (.inl ⟨i, ci, hi, upd_other _ _ (Ne.symm e)⟩))
    · rw [e2] at hj
      exact .inl (.inr (.inr ⟨j, r, hj, hfo⟩))

theorem impB_sound (F : FR w0 B0 Fin s a w g) {id n : Nat} {cs : List AV} {y : AV} {v : Value} {G : Nat → Prop} (hx : VB w g.B (.io cs) v G) (hG : Take w0 w Fin g s G) (h : impB s id cs = some (y, s', n))
    (hl : ∀ b b', v = .pointer (some ⟨b, 0, none⟩) → s'.n ≤ id → Loc w0 Fin id b' → b = b') : ∃ g', FR w0 B0 Fin s' a w g' ∧ Ext s g s' g' id n G ∧ id ≤ n ∧ CR w g' s'.h s'.o y v := by
  obtain ⟨ds, vs, b, ty, F1, e, rfl, hh, hfam, hF1, hnb, hb⟩ := hx
  cases e
  unfold impB at h
  split at h
  case h_2 => cases h
  rename_i l s1 n' h1
  split at h
  case h_2 => cases h
  rename_i hfree
  split at h
  case h_2 => cases h
  rename_i s2 h2
  cases h
  obtain ⟨g1, FR1, E1, hn, hlen, I1, _⟩ := impL_sound F hfam (hG.sub hF1) h1
  have hcr : CRs w g1 s1.h s1.o l vs := ⟨hlen, fun k x v hk hv => (I1 k x v hk hv).cr _⟩
  have hTb : b < w.heap.size ∧ (Fin b ∨ w0.heap.size ≤ b) ∧ ¬ used g1 s1 b := ⟨(hG b hb).1, (hG b hb).2.1, fun hu => by
    rcases E1.used b hu with h' | h'
    · exact (hG b hb).2.2 h'
    · exact hnb h'⟩
  obtain ⟨g2, FR2, q1, q2, q3, q4, q5, q6, q7, q8⟩ := FR1.argBox h2 hfree hh hTb (fun b' hn' hL => hl b b' rfl hn' hL) hcr
  refine ⟨g2, FR2, ⟨q1.trans E1.B, ?_, ?_⟩, by simp at hn; omega, ?_⟩
  · intro i r hi hr
    obtain ⟨a1, a2⟩ := E1.o i r (by simp only [Nat.add_eq]; omega) hr
    exact ⟨by rw [q6]; exact a1, by rw [q2]; exact a2⟩
  · intro c hc
    rcases q5 c hc with h' | rfl
    · rcases E1.used c h' with h'' | h''
      · exact .inl h''
      · exact .inr (hF1 c h'')
    · exact .inr hb
  · have := CR.bp (w := w) (g := g2) (h := s'.h) (o := s'.o) id 0 l q8
    rw [q3] at this; exact this

theorem impT_sound : ∀ {cs : List AV} {s s' : St} {g : Gh} {id : Nat} {l : List AV} {vs : List Value} {G : Nat → Prop}, FR w0 B0 Fin s a w g → Fam (VS w g.B) cs vs G → Take w0 w Fin g s G → impT s id cs = some (l, s') →
    ∃ g' n, FR w0 B0 Fin s' a w g' ∧ Ext s g s' g' id n G ∧ id ≤ n ∧ l.length = vs.length ∧ ∀ (k : Nat) (x : AV) (v : Value), l[k]? = some x → vs[k]? = some v → Imp w g' s'.o id n x v := by
  intro cs
  induction cs with
  | nil =>
    intro s s' g id l vs G F hc hG h
    rw [impT] at h; cases h
    cases hc
    exact ⟨g, id, F, .refl _ _ _ _ _, Nat.le_refl _, rfl, fun k x v hk => by simp at hk⟩
  | cons x cs ih =>
    intro s s' g id l vs G F hc hG h
    rw [impT] at h
    split at h
    case h_2 => cases h
    rename_i y s1 n1 h1
    split at h
    case h_2 => cases h
    rename_i l' s2 h2
    cases h
    cases hc with
    | cons _ _ v us G1 G2 _ hx hs hd hs1 hs2 =>
      obtain ⟨g1, F1, E1, hn1, I1, _⟩ := imp2_sound F hx (hG.sub hs1) h1
      have hs' : Fam (VS w g1.B) cs us G2 := by rw [E1.B]; exact hs
      obtain ⟨g2, n, F2, E2, hn, hl, I2⟩ := ih F1 hs' ((hG.sub hs2).ext E1 fun b hb hb' => hd b hb' hb) h2
      refine ⟨g2, n, F2, E1.trans E2 hn1 hn hs1 hs2, by omega, by simp [hl], ?_⟩
      intro k z u hk hu
      cases k with
      | zero => simp at hk hu; subst hk; subst hu; exact I1.ext E2 hn
      | succ k => exact (I2 k z u (by simpa using hk) (by simpa using hu)).low hn1

theorem impA_sound (F : FR w0 B0 Fin s a w g) {id : Nat} {x y : AV} {v : Value} {G : Nat → Prop} (hx : VR w g.B x v G) (hG : Take w0 w Fin g s G) (h : impA s id x = some (y, s')) :
    ∃ g' n, FR w0 B0 Fin s' a w g' ∧ Ext s g s' g' id n G ∧ Imp w g' s'.o id n y v := by
  rcases hx with hx | ⟨cs, vs, rfl, rfl, hx⟩
  · have h' : ∃ n, imp2 s id x = some (y, s', n) := by
      rcases hx with ⟨t, rfl, hx⟩ | ⟨cs, vs, rfl, rfl, hx⟩ | ⟨cs, vs, b, ty, F1, rfl, _⟩
      all_goals (
        simp only [impA] at h
        split at h
        case h_2 => cases h
        rename_i h1
        cases h
        exact ⟨_, h1⟩)
    obtain ⟨n, h'⟩ := h'
    obtain ⟨g1, F1, E1, _, I1, _⟩ := imp2_sound F hx hG h'
    exact ⟨g1, n, F1, E1, I1⟩
  · simp only [impA] at h
    split at h
    case h_2 => cases h
    rename_i l s1 h1
    cases h
    obtain ⟨g1, n, F1, E1, hn, hl, I1⟩ := impT_sound F hx hG h1
    exact ⟨g1, n, F1, E1, .tp _ _ hl I1⟩

/-- a result comes in -/
theorem putRes_sound (F : FR w0 B0 Fin s a w g) {dst : Option Nat} {r : AV} {v : Value} {G : Nat → Prop} (hx : VR w g.B r v G) (hG : Take w0 w Fin g s G) (h : putRes s dst r = some s') :
    ∃ g', FR w0 B0 Fin s' (a.put dst v) w g' := by
  unfold putRes at h
  split at h
  · rename_i d
    split at h
    · rename_i cs
      split at h
      case h_2 => cases h
      rename_i s1 h1
      split at h
      case h_2 => cases h
      rename_i y s2 n h2
      have hx' : VB w g.B (.io cs) v G := by
        rcases hx with (⟨t, e, _⟩ | ⟨cs', vs, e, _⟩ | hx) | ⟨cs', vs, e, _⟩
        · cases e
        · cases e
        · exact hx
        · cases e
      obtain ⟨F1, _, _, hbx, hrx⟩ := F.clear h1
      have hsub : Subs s s1 := ⟨hbx, hrx⟩
      have hd := (putT_parts h).2.2.2.1
      obtain ⟨g2, F2, _, _, c2⟩ := impB_sound F1 hx' (fun b hb => ⟨(hG b hb).1, (hG b hb).2.1, fun hu => (hG b hb).2.2 (hsub.used hu)⟩) h2 (fun _ _ _ hn _ => absurd hn (by omega))
      exact ⟨g2, F2.put h c2⟩
    · split at h
      case h_2 => cases h
      rename_i y s1 h1
      obtain ⟨g1, n, F1, E1, I1⟩ := impA_sound F hx hG h1
      exact ⟨g1, F1.put h (I1.cr _)⟩
  · cases h; exact ⟨g, F⟩
end
end Go.Ev

set_option linter.unusedVariables false
set_option linter.unusedSimpArgs false
namespace Go.Ev
open Go Go.RowKit

section
variable {P : Program} {tab : Tab} {w0 w : World} {B0 Fin : Nat → Prop} {s s' : St} {a : Act} {g g' : Gh}

/-- blocks more that are shared -/
theorem FR.grow (F : FR w0 B0 Fin s a w g) (B' : Nat → Prop) (hB : ∀ b, B' b → b < w.heap.size ∧ (B0 b ∨ Fin b ∨ w0.heap.size ≤ b) ∧ (g.B b ∨ ¬ used g s b)) : FR w0 B0 Fin s a w { g with B := fun b => g.B b ∨ B' b } := by
  have key : ∀ x v, CR w g s.h s.o x v → CR w { g with B := fun b => g.B b ∨ B' b } s.h s.o x v := fun x v hx => hx.mono (w' := w) (g' := { g with B := fun b => g.B b ∨ B' b }) (h' := s.h) (o' := s.o) (fun b hb => ⟨.inl hb, rfl⟩) (fun id cs _ h1 => ⟨⟨cs, h1⟩, rfl⟩) (fun id rows _ h1 => ⟨⟨rows, h1, rfl⟩, rfl, rfl⟩) (fun id rows b _ _ h3 _ => ⟨h3, rfl⟩)
  refine ⟨F.n, F.df, F.kp, ?_, ?_, ?_, ?_, F.bi, F.rr, F.br, F.tv, F.bl⟩
  · rintro b (hb | hb)
    · exact F.bb b hb
    · exact ⟨(hB b hb).1, (hB b hb).2.1⟩
  · intro k x hk
    obtain ⟨v, hv, hr⟩ := F.tm k x hk
    exact ⟨v, hv, key _ _ hr⟩
  · intro id cs hi
    obtain ⟨h1, h2, vs, ty, h3, h4⟩ := F.bx id cs hi
    refine ⟨h1, ?_, vs, ty, h3, h4.mono fun k x v _ hx => key _ _ hx⟩
    rintro (hb | hb)
    · exact h2 hb
    · rcases (hB _ hb).2.2 with h5 | h5
      · exact h2 h5
      · exact h5 (.inr (.inl ⟨id, cs, hi, rfl⟩))
  · intro id rows hi
    obtain ⟨h1, h2⟩ := F.rt id rows hi
    refine ⟨h1.mono (fun b hb => ⟨.inl hb, rfl⟩) (fun b hb => rfl), fun b hb => ⟨(h2 b hb).1, (h2 b hb).2.1, ?_⟩⟩
    rintro (h3 | h3)
    · exact (h2 b hb).2.2 h3
    · rcases (hB _ h3).2.2 with h5 | h5
      · exact (h2 b hb).2.2 h5
      · exact h5 (.inr (.inr ⟨id, rows, hi, hb⟩))

/-- a slot told in another way -/
theorem FR.retell (F : FR w0 B0 Fin s a w g) {d : Nat} {x : AV} {v : Value} (hv : a.tmps[d]? = some v) (h : s.putT (some d) x = some s') (hx : CR w g s.h s.o x v) : FR w0 B0 Fin s' a w g := by
  have F' := F.put h hx
  have e : a.put (some d) v = a := by
    obtain ⟨hd, hv'⟩ := Array.getElem?_eq_some_iff.1 hv
    simp only [Act.put]
    congr 1
    subst hv'
    apply Array.ext (by simp)
    intro i h1 h2
    rw [Array.getElem_setIfInBounds]
    split
    · rename_i e; subst e; rfl
    · rfl
  rwa [e] at F'
theorem get_slot (F : FR w0 B0 Fin s a w g) {d : Nat} {x : AV} (hx : s.get d = x) (hu : x ≠ .u) : ∃ v, a.tmps[d]? = some v ∧ CR w g s.h s.o x v := by
  unfold St.get at hx
  cases hk : lk s.t d with
  | none => rw [hk] at hx; exact absurd hx.symm hu
  | some y => rw [hk] at hx; simp only at hx; subst hx; exact F.tm d y hk

/-- a box's cells told in another way -/
theorem FR.reH (F : FR w0 B0 Fin s a w g) {id : Nat} {cells cells' : List AV} (hi : lk s.h id = some cells) (h : s.putH id cells' = some s') (hc : ∀ vs, CRs w g s.h s.o cells vs → CRs w g s.h s.o cells' vs) : FR w0 B0 Fin s' a w g := by
  obtain ⟨e1, e2, e3, e4⟩ := putH_parts h
  have hold : ∀ i c, lk s.h i = some c → ∃ c', lk s'.h i = some c' := by
    intro i c hc
    rw [e4]; split
    · exact ⟨_, rfl⟩
    · exact ⟨c, hc⟩
  have hold' : ∀ i c, lk s'.h i = some c → ∃ c', lk s.h i = some c' := by
    intro i c hc
    rw [e4] at hc; split at hc
    · rename_i e; subst e; exact ⟨_, hi⟩
    · exact ⟨c, hc⟩
  have key : ∀ x v, CR w g s.h s.o x v → CR w g s'.h s'.o x v := fun x v hx => hx.mono (fun b hb => ⟨hb, rfl⟩) (fun i cs _ h1 => ⟨hold i cs h1, rfl⟩) (fun i rows _ h1 => ⟨⟨rows, by rw [e2]; exact h1, rfl⟩, rfl, rfl⟩) (fun id rows b _ _ h3 _ => ⟨h3, rfl⟩)
  refine ⟨by rw [e3]; exact F.n, F.df, F.kp, F.bb, ?_, ?_, ?_, ?_, ?_, ?_, fun i r u h1 h2 => F.tv i r u (by rw [e2] at h1; exact h1) h2, F.bl_sub hold' e3 rfl⟩
  · intro k x hk
    rw [e1] at hk
    obtain ⟨v, hv, hr⟩ := F.tm k x hk
    exact ⟨v, hv, key _ _ hr⟩
  · intro i cs h1
    rw [e4] at h1
    split at h1
    · rename_i e; subst e; cases h1
      obtain ⟨h1, h2, vs, ty, h3, h4⟩ := F.bx id cells hi
      exact ⟨h1, h2, vs, ty, h3, (hc vs h4).mono fun k x v _ hx => key _ _ hx⟩
    · obtain ⟨h1, h2, vs, ty, h3, h4⟩ := F.bx i cs h1
      exact ⟨h1, h2, vs, ty, h3, h4.mono fun k x v _ hx => key _ _ hx⟩
  · intro i rows h1; rw [e2] at h1; exact F.rt i rows h1
  · intro i j ci cj h1 h2 h3
    obtain ⟨c1, h1⟩ := hold' i ci h1
    obtain ⟨c2, h2⟩ := hold' j cj h2
    exact F.bi i j c1 c2 h1 h2 h3
  · intro i j ri rj b h1 h2 h3 h4; rw [e2] at h1 h2; exact F.rr i j ri rj b h1 h2 h3 h4
  · intro i j ci rj h1 h2
    obtain ⟨c1, h1⟩ := hold' i ci h1
    rw [e2] at h2; exact F.br i j c1 rj h1 h2

theorem hasI_has (i : Nat) (x : AV) (hi : x.hasI i = true) : x.has i = true := by
  suffices H : (∀ x : AV, x.hasI i = true → x.has i = true) ∧ True from H.1 x hi
  refine ⟨?_, trivial⟩
  intro x
  apply AV.rec (motive_1 := fun x => x.hasI i = true → x.has i = true) (motive_2 := fun l => hasIL i l = true → hasL i l = true)
  all_goals (intros; simp_all [AV.hasI, AV.has, hasIL, hasL])
  all_goals (try (split <;> simp_all))
theorem gone_has (ns : List Nat) (i : Nat) (x : AV) (hg : x.gone ns = false) (hi : x.has i = true) : ctn ns i = true := by
  suffices H : (∀ x : AV, x.gone ns = false → x.has i = true → ctn ns i = true) ∧ True from H.1 x hg hi
  refine ⟨?_, trivial⟩
  intro x
  apply AV.rec (motive_1 := fun x => x.gone ns = false → x.has i = true → ctn ns i = true) (motive_2 := fun l => goneL ns l = false → hasL i l = true → ctn ns i = true)
  case bp => intro j o h1 h2; simp only [AV.gone, Bool.not_eq_false'] at h1; simp only [AV.has] at h2; rw [← beq_t h2]; exact h1
  case rf => intro j h1 h2; simp only [AV.gone, Bool.not_eq_false'] at h1; simp only [AV.has] at h2; rw [← beq_t h2]; exact h1
  case rw => intro j _ _ h1 h2; simp only [AV.gone, Bool.not_eq_false'] at h1; simp only [AV.has] at h2; rw [← beq_t h2]; exact h1
  case rp => intro j _ _ h1 h2; simp only [AV.gone, Bool.not_eq_false'] at h1; simp only [AV.has] at h2; rw [← beq_t h2]; exact h1
  case bw => intro x j h1 h2; simp only [AV.gone, Bool.not_eq_false'] at h1; simp only [AV.has] at h2; rw [← beq_t h2]; exact h1
  case u => intro _ h2; simp [AV.has] at h2
  case t => intro _ _ h2; simp [AV.has] at h2
  case iw => intro _ _ h2; simp [AV.has] at h2
  case fn => intro _ cs ih h1 h2; simp only [AV.gone] at h1; simp only [AV.has] at h2; exact ih h1 h2
  case ag => intro cs ih h1 h2; simp only [AV.gone] at h1; simp only [AV.has] at h2; exact ih h1 h2
  case tp => intro cs ih h1 h2; simp only [AV.gone] at h1; simp only [AV.has] at h2; exact ih h1 h2
  case io => intro cs ih h1 h2; simp only [AV.gone] at h1; simp only [AV.has] at h2; exact ih h1 h2
  case nil => intro _ h2; simp [hasL] at h2
  case cons =>
    intro x r ihx ihr h1 h2
    simp only [goneL] at h1
    split at h1
    · cases h1
    · rename_i hx
      simp only [hasL] at h2
      split at h2
      · rename_i hx2; exact ihx hx hx2
      · exact ihr h1 h2
theorem ctn_elem : ∀ (l : List Nat) (k : Nat), ctn l k = true → l.elem k = true
  | [], k, h => by simp [ctn] at h
  | x :: r, k, h => by
    simp only [ctn] at h
    split at h
    · rename_i e; have := beq_t e; subst this; simp
    · have := ctn_elem r k h; simp only [List.elem_eq_mem, List.mem_cons, decide_eq_true_eq] at this ⊢; exact .inr this

theorem keep_sound (F : FR w0 B0 Fin s a w g) {ts ns : List Nat} (h : adj s (.keep ts ns) = some s') : FR w0 B0 Fin s' a w g := by
  simp only [adj] at h
  split at h
  case h_2 => cases h
  rename_i t h1 o n hk
  split at h
  case h_2 => cases h
  rename_i t' ht
  split at h
  case h_2 => cases h
  rename_i h' hh
  split at h
  case h_2 => cases h
  rename_i o' ho
  cases h
  obtain ⟨k1, k2, k3, k4, k5⟩ := kill_parts hk
  simp only at k1 k2 k3 k4 k5
  have hkf := F.kill (w' := w) (g' := g) hk { t := t, h := h', o := o', n := n } rfl (fun b hb => ⟨hb, rfl⟩)
    (fun x hx i cs hi hc => by
      obtain ⟨ds, hd⟩ := k5 i cs hc
      exact ⟨⟨ds, by rw [lk_keep' hh, if_pos (ctn_elem _ _ (gone_has ns i x hx hi))]; exact hd⟩, rfl⟩)
    (fun x hx i rows hi hr => ⟨⟨rows, by rw [lk_keep' ho, if_pos (ctn_elem _ _ (gone_has ns i x hx hi)), k1]; exact hr, rfl⟩, rfl, rfl⟩)
    (fun x hx i rows b hi hr h3 _ => ⟨h3, rfl⟩)
  have hsub : ∀ i ds, lk h' i = some ds → lk h1 i = some ds ∧ ∃ cs, lk s.h i = some cs := by
    intro i ds hi
    have hi := lk_keep hh hi
    obtain ⟨cs, hc, _⟩ := k4 i ds hi
    exact ⟨hi, cs, hc⟩
  have hsubo : ∀ i r, lk o' i = some r → lk s.o i = some r := by
    intro i r hi
    have := lk_keep ho hi
    rwa [k1] at this
  have F1 : FR w0 B0 Fin { t := t, h := h', o := o', n := n } a w g := by
    refine ⟨by rw [F.n]; exact k2.symm, F.df, F.kp, F.bb, hkf.1, ?_, ?_, ?_, ?_, ?_, fun i r u h1 h2 => F.tv i r u (hsubo i r h1) h2, F.bl_sub (fun i c hc => (hsub i c hc).2) k2 rfl⟩
    · intro i ds hi
      obtain ⟨e, cs, hc⟩ := hsub i ds hi
      obtain ⟨h1, h2, _⟩ := F.bx i cs hc
      obtain ⟨vs, ty, h3, h4⟩ := hkf.2 i ds e
      exact ⟨h1, h2, vs, ty, h3, h4⟩
    · intro i rows hi; exact F.rt i rows (hsubo i rows hi)
    · intro i j ci cj h1 h2 h3
      obtain ⟨_, c1, hc1⟩ := hsub i ci h1
      obtain ⟨_, c2, hc2⟩ := hsub j cj h2
      exact F.bi i j c1 c2 hc1 hc2 h3
    · intro i j ri rj b h1 h2
      exact F.rr i j ri rj b (hsubo i ri h1) (hsubo j rj h2)
    · intro i j ci rj h1 h2
      obtain ⟨_, c1, hc1⟩ := hsub i ci h1
      exact F.br i j c1 rj hc1 (hsubo j rj h2)
  exact F1.congr (fun k x hk => lk_keep ht hk) (fun _ => rfl) (fun _ => rfl) rfl

theorem renP_key {id d : Nat} (p q : Nat × AV) (h : renP id d p = some q) : q.1 = p.1 := by
  obtain ⟨k, x⟩ := p
  simp only [renP] at h
  split at h
  · cases h; rfl
  · cases h
theorem renB_key {id d : Nat} (p q : Nat × List AV) (h : renB id d p = some q) : q.1 = p.1 := by
  obtain ⟨k, x⟩ := p
  simp only [renB] at h
  split at h
  · cases h; rfl
  · cases h

theorem ren_sound (F : FR w0 B0 Fin s a w g) {id d : Nat} (h : adj s (.ren id d) = some s') : ∃ g', FR w0 B0 Fin s' a w g' := by
  simp only [adj] at h
  split at h
  · cases h; exact ⟨g, F⟩
  rename_i hne
  have hne := beq_f hne
  split at h
  case h_2 => cases h
  rename_i t hh o n hc
  obtain ⟨F1, hn1, hn2, _, _⟩ := F.clear hc
  simp only at hn1 hn2
  split at h
  case h_2 => cases h
  rename_i rows hi
  split at h
  case h_2 => cases h
  rename_i o1 ho1
  split at h
  case h_2 => cases h
  rename_i o2 ho2
  split at h
  case h_2 => cases h
  rename_i t' ht
  split at h
  case h_2 => cases h
  rename_i h' hh'
  cases h
  clear F hc
  let g' : Gh := { g with rv := upd g.rv d (g.rv id), sz := upd g.sz d (g.sz id), fo := upd g.fo d (g.fo id) }
  have hlo : ∀ i, lk o2 i = if d = i then some rows else if id = i then none else lk o i := fun i => by rw [lk_pu ho2, lk_rmv ho1]
  have hlo' : ∀ i r, lk o2 i = some r → ∃ j, lk o j = some r ∧ g'.rv i = g.rv j ∧ g'.sz i = g.sz j ∧ g'.fo i = g.fo j ∧ (i = d ∧ j = id ∨ i ≠ d ∧ j = i ∧ i ≠ id) := by
    intro i r hr
    rw [hlo] at hr
    split at hr
    · rename_i e; subst e; cases hr; exact ⟨id, hi, upd_same _ _ _, upd_same _ _ _, upd_same _ _ _, .inl ⟨rfl, rfl⟩⟩
    · rename_i e
      split at hr
      · cases hr
      · rename_i e2
        exact ⟨i, hr, upd_other _ _ (Ne.symm e), upd_other _ _ (Ne.symm e), upd_other _ _ (Ne.symm e), .inr ⟨Ne.symm e, rfl, Ne.symm e2⟩⟩
  have hlh : ∀ i c, lk hh i = some c → ∃ c', lk h' i = some c' := fun i c hi => by
    obtain ⟨y, hy, _⟩ := lk_mapS' renB_key hh' hi
    exact ⟨y, hy⟩
  have hold : ∀ (x : AV) v, x.has id = false → CR w g hh o x v → CR w g' h' o2 x v := fun x v hx hc => hc.mono (w' := w) (g' := g') (h' := h') (o' := o2) (fun b hb => ⟨hb, rfl⟩) (fun i cs _ h1 => ⟨hlh i cs h1, rfl⟩)
    (fun i r hi' h1 => by
      have e1 : id ≠ i := fun e => by subst e; rw [hx] at hi'; cases hi'
      have e2 : d ≠ i := fun e => by subst e; rw [hn2] at h1; cases h1
      exact ⟨⟨r, by rw [hlo, if_neg e2, if_neg e1]; exact h1, rfl⟩, upd_other _ _ (Ne.symm e2), upd_other _ _ (Ne.symm e2)⟩)
    (fun i r b hi' h1 h2 _ => by
      have e2 : d ≠ i := fun e => by subst e; rw [hn2] at h1; cases h1
      exact ⟨by show upd g.fo d (g.fo id) i b; rw [upd_other _ _ (Ne.symm e2)]; exact h2, rfl⟩)
  have key : ∀ x y v, renA id d x = some y → CR w g hh o x v → CR w g' h' o2 y v := by
    intro x y v hxy hx
    have hrest : (match x.has id with
      | true => some AV.u
      | false => fA x) = some y → CR w g' h' o2 y v := by
      intro hq
      split at hq
      · cases hq; exact .u _
      · rename_i hf; rw [fA_eq hq]; exact hold x v hf hx
    unfold renA at hxy
    split at hxy
    · rename_i i
      split at hxy
      · rename_i e; have := beq_t e; subst this
        cases hxy
        cases hx with
        | rf i r hi' =>
          have := CR.rf (w := w) (g := g') (h := h') (o := o2) d rows (by rw [hlo, if_pos rfl])
          simpa [g', upd] using this
      · rename_i e; cases hxy
        exact hold _ v (by simp only [AV.has]; exact e) hx
    · rename_i i l hl
      split at hxy
      · rename_i e; have := beq_t e; subst this
        cases hxy
        cases hx with
        | rw i l hl r hi' h1 h2 =>
          rw [hi] at hi'; cases hi'
          have := CR.rw (w := w) (g := g') (h := h') (o := o2) d l hl rows (by rw [hlo, if_pos rfl]) h1 h2
          simpa [g', upd] using this
      · rename_i e; cases hxy
        exact hold _ v (by simp only [AV.has]; exact e) hx
    · exact hrest hxy
  refine ⟨g', F1.n, F1.df, F1.kp, F1.bb, ?_, ?_, ?_, ?_, ?_, ?_, fun i r u h1 h2 => by
    obtain ⟨j, hj, e1, _⟩ := hlo' i r h1
    rw [e1]; exact F1.tv j r u hj h2, F1.bl_sub (fun i c hc => by obtain ⟨x, hx, _⟩ := lk_mapS renB_key hh' hc; exact ⟨x, hx⟩) rfl rfl⟩
  · intro k y hy
    obtain ⟨x, hx, hq⟩ := lk_mapS renP_key ht hy
    simp only [renP] at hq
    split at hq
    · rename_i z hz; cases hq
      obtain ⟨v, hv, hr⟩ := F1.tm k x hx
      exact ⟨v, hv, key _ _ _ hz hr⟩
    · cases hq
  · intro i ds hd
    obtain ⟨cs, hcs, hq⟩ := lk_mapS renB_key hh' hd
    simp only [renB] at hq
    split at hq
    · rename_i l hl; cases hq
      obtain ⟨h1, h2, vs, ty, h3, h4⟩ := F1.bx i cs hcs
      obtain ⟨h5, h6⟩ := mapS_eq hl
      refine ⟨h1, h2, vs, ty, h3, by rw [h5]; exact h4.1, ?_⟩
      intro k y v hk hv
      have hkl := nth_lt hk
      rw [h5] at hkl
      obtain ⟨z, hz, hq⟩ := h6 k _ (List.getElem?_eq_getElem hkl)
      rw [hk] at hz; cases hz
      exact key _ _ _ hq (h4.2 k _ v (List.getElem?_eq_getElem hkl) hv)
    · cases hq
  · intro i r hr
    obtain ⟨j, hj, e1, e2, e3, _⟩ := hlo' i r hr
    rw [e1, e2, e3]
    exact F1.rt j r hj
  · intro i j ci cj h1 h2 h3
    obtain ⟨c1, h1, _⟩ := lk_mapS renB_key hh' h1
    obtain ⟨c2, h2, _⟩ := lk_mapS renB_key hh' h2
    exact F1.bi i j c1 c2 h1 h2 h3
  · intro i j ri rj b h1 h2 h3 h4
    obtain ⟨i', hi', _, _, e3, hc1⟩ := hlo' i ri h1
    obtain ⟨j', hj', _, _, e4, hc2⟩ := hlo' j rj h2
    rw [e3] at h3
    rw [e4] at h4
    have := F1.rr i' j' ri rj b hi' hj' h3 h4
    omega
  · intro i j ci rj h1 h2 h3
    obtain ⟨c1, h1, _⟩ := lk_mapS renB_key hh' h1
    obtain ⟨j', hj', _, _, e4, _⟩ := hlo' j rj h2
    rw [e4] at h3
    exact F1.br i j' c1 rj h1 hj' h3

theorem nil_root (F : FR w0 B0 Fin s a w g) {d : Nat} (h : s.putO d 0 [] = some s') (hf : lk s.o d = none) : ∃ g', FR w0 B0 Fin s' a w g' ∧ g'.rv d = .slice none 0 0 ∧ g'.B = g.B ∧ lk s'.o d = some (0, []) ∧ s'.t = s.t ∧ s'.h = s.h ∧
    (∀ x v, CR w g s.h s.o x v → CR w g' s'.h s'.o x v) := by
  obtain ⟨e1, e2, e3, e4⟩ := putO_parts h
  have hne : ∀ i c, lk s.o i = some c → i ≠ d := fun i c hi e => by subst e; rw [hf] at hi; cases hi
  refine ⟨_, F.newRoot (q := 0) (v := .slice none 0 0) (sz := 0) (G := fun _ => False) h hf (.inl ⟨rfl, rfl⟩) (fun b hb => hb.elim), by simp [upd], rfl, by rw [e4, if_pos rfl], e1, e2, ?_⟩
  intro x v hx
  refine hx.mono (w' := w) (g' := { g with rv := upd g.rv d _, sz := upd g.sz d _, fo := upd g.fo d _ }) (h' := s'.h) (o' := s'.o) (fun b hb => ⟨hb, rfl⟩)
    (fun i cs _ h1 => ⟨⟨cs, by rw [e2]; exact h1⟩, rfl⟩) (fun i r _ h1 => ⟨⟨r, by rw [e4, if_neg (Ne.symm (hne i r h1))]; exact h1, rfl⟩, upd_other _ _ (hne i r h1), upd_other _ _ (hne i r h1)⟩)
    (fun i r b _ h1 h2 _ => ⟨by show upd g.fo d _ i b; rw [upd_other _ _ (hne i r h1)]; exact h2, rfl⟩)

theorem adj_sound (F : FR w0 B0 Fin s a w g) {x : Adj} (h : adj s x = some s') : ∃ g', FR w0 B0 Fin s' a w g' := by
  cases x with
  | keep ts ns => exact ⟨g, keep_sound F h⟩
  | ren id d => exact ren_sound F h
  | nilT slot d =>
    simp only [adj] at h
    split at h
    case h_2 => cases h
    rename_i hs0
    split at h
    case h_2 => cases h
    rename_i s1 h1
    split at h
    case h_2 => cases h
    rename_i hs1
    split at h
    case h_2 => cases h
    rename_i s2 h2
    obtain ⟨F1, _, hn2, _, _⟩ := F.clear h1
    obtain ⟨g', F2, hv, hB, hl, e1, e2, _⟩ := nil_root F1 h2 hn2
    obtain ⟨v, hv1, hr⟩ := get_slot F1 hs1 (by simp)
    have := cr_sc hr; subst this
    exact ⟨g', F2.retell hv1 h (by rw [← hv]; exact .rf d _ hl)⟩
  | nilH box cell d =>
    simp only [adj] at h
    split at h
    case h_2 => cases h
    rename_i s1 h1
    split at h
    case h_2 => cases h
    rename_i cells hc
    split at h
    case h_2 => cases h
    rename_i hx
    split at h
    case h_2 => cases h
    rename_i s2 h2
    split at h
    case h_2 => cases h
    rename_i cells' hs
    obtain ⟨F1, _, hn2, _, _⟩ := F.clear h1
    obtain ⟨g', F2, hv, hB, hl, e1, e2, _⟩ := nil_root F1 h2 hn2
    refine ⟨g', F2.reH (by rw [e2]; exact hc) h ?_⟩
    intro vs hvs
    obtain ⟨rfl, hlen⟩ := setS_eq hs
    rw [nthS_eq] at hx
    refine ⟨by have := hvs.1; simp at hlen ⊢; omega, ?_⟩
    intro k y v hk hv'
    by_cases e : k = cell
    · subst e
      have : CR w g' s2.h s2.o _ v := hvs.2 k _ v hx hv'
      have := cr_sc this; subst this
      have hk' : y = .rf d := by
        simp only [List.length_cons, List.length_nil] at hlen
        rw [List.append_assoc, List.getElem?_append_right (by simp; omega), List.getElem?_append_left (by simp; omega)] at hk
        simp at hk
        have hmin : min k cells.length = k := by omega
        rw [hmin] at hk
        simpa using hk.symm
      subst hk'
      rw [← hv]; exact .rf d _ hl
    · refine hvs.2 k y v ?_ hv'
      simp only [List.length_cons, List.length_nil] at hlen
      rw [← hk]
      rcases Nat.lt_or_ge k cell with h3 | h3
      · rw [List.append_assoc, List.getElem?_append_left (by simp; omega), List.getElem?_take, if_pos h3]
      · rw [List.append_assoc, List.getElem?_append_right (by simp; omega), List.getElem?_append_right (by simp; omega), List.getElem?_drop]
        congr 1
        simp; omega
  | last id =>
    obtain ⟨t, hh, o, n⟩ := s
    simp only [adj] at h
    split at h
    case h_2 => cases h
    rename_i cells hc
    split at h
    case h_2 => cases h
    rename_i h1 hr
    split at h
    case h_2 => cases h
    rename_i h2 hp
    cases h
    refine ⟨g, F.congr (fun k x hk => hk) (fun i => ?_) (fun _ => rfl) rfl⟩
    show lk h2 i = lk hh i
    rw [lk_pu hp, lk_rmv hr]
    by_cases e : id = i
    · subst e; rw [if_pos rfl]; exact hc.symm
    · rw [if_neg e, if_neg e]
  | slots ts =>
    obtain ⟨t, hh, o, n⟩ := s
    simp only [adj] at h
    split at h
    case h_2 => cases h
    rename_i t1 ht
    cases h
    exact ⟨g, F.congr (fun k x hk => lk_keep ht hk) (fun _ => rfl) (fun _ => rfl) rfl⟩
  | share slot =>
    simp only [adj] at h
    split at h
    case h_2 => cases h
    rename_i id hs0
    split at h
    case h_2 => cases h
    rename_i q rows hi
    split at h
    case h_2 => cases h
    rename_i s1 h1
    obtain ⟨v, hv, hr⟩ := get_slot F hs0 (by simp)
    obtain ⟨F1, hsub, _, hroot, hfr⟩ := drop_root F hi h1
    have F2 := F1.grow (g.fo id) (fun b hb => ⟨(hfr b hb).1, .inr (hfr b hb).2.1, .inr (hfr b hb).2.2.1⟩)
    refine ⟨_, F2.retell hv h ?_⟩
    cases hr with
    | rf _ r hi' =>
      refine .t _ _ ?_
      exact rep_shrR (hroot.rep (fun b hb => .inl hb) (fun b hb => .inr hb) false)

theorem set_nth {α : Type} {l l' : List α} {k : Nat} {x : α} (h : setS l k [x] = some l') : l'.length = l.length ∧ k < l.length ∧ l'[k]? = some x ∧ ∀ j, j ≠ k → l'[j]? = l[j]? := by
  obtain ⟨rfl, hn⟩ := setS_eq h
  simp only [List.length_cons, List.length_nil] at hn
  refine ⟨by simp; omega, by omega, ?_, ?_⟩
  · rw [List.append_assoc, List.getElem?_append_right (by simp; omega), List.getElem?_append_left (by simp; omega)]
    have hm : min k l.length = k := by omega
    simp [hm]
  · intro j hj
    rcases Nat.lt_or_ge j k with h3 | h3
    · rw [List.append_assoc, List.getElem?_append_left (by simp; omega), List.getElem?_take, if_pos h3]
    · rw [List.append_assoc, List.getElem?_append_right (by simp; omega), List.getElem?_append_right (by simp; omega), List.getElem?_drop]
      congr 1
      simp; omega

/-- a row's cell told in another way: what stands there -/
theorem root_tell {B : Nat → Prop} {n : Nat} {rows : List (List T)} {v : Value} {sz : Nat} {F : Nat → Prop} (h : Root w B n rows v sz F) {i k : Nat} {row : List T} {x : T} (hi : rows[i]? = some row) (hk : row[k]? = some x) :
    ∃ u G, Own w B x u G ∧ (∀ b, G b → F b) ∧ (∀ b, topOf v b → ¬ G b) ∧ (∀ b, topOf v b → F b) ∧ ∀ (y : T) (row' : List T) (G' : Nat → Prop) (F' : Nat → Prop), setS row k [y] = some row' → Own w B y u G' → (∀ b, topOf v b → ¬ G' b) → (∀ b, F b → ¬ G b → ¬ G' b) → (∀ b, F b → ¬ G b → F' b) → (∀ b, G' b → F' b) → Root w B n (rows.set i row') v sz F' := by
  have hil := nth_lt hi
  rcases h with ⟨rfl, rfl⟩ | ⟨b, off, cap, us, Fs, cs, ty, rfl, hh, hcap, hc, hl, hw, hd, hb, h1, h2, h3⟩
  · simp at hi
  · obtain ⟨c1, c2, c3⟩ := hw i row k x hi hk
    refine ⟨us i k, Fs i k, c2, h2 i k, fun c hc' => ?_, fun c hc' => ?_, ?_⟩
    · simp only [topOf] at hc'; subst hc'; exact hb i k
    · simp only [topOf] at hc'; subst hc'; exact h1
    intro y row' G' F' hs hy ht hdis hF1 hF2
    obtain ⟨l1, l2, l3, l4⟩ := set_nth hs
    have hset : ∀ i' r', (rows.set i row')[i']? = some r' → (i' = i ∧ r' = row') ∨ (i' ≠ i ∧ rows[i']? = some r') := by
      intro i' r' hr
      rw [List.getElem?_set] at hr
      split at hr
      · rename_i e; subst e; first | (rw [if_pos hil] at hr; cases hr; exact .inl ⟨rfl, rfl⟩) | (cases hr; exact .inl ⟨rfl, rfl⟩)
      · rename_i e; exact .inr ⟨Ne.symm e, hr⟩
    let Fs' : Nat → Nat → Nat → Prop := fun i' k' c => if i' = i ∧ k' = k then G' c else Fs i' k' c
    have hFs : ∀ i' k' c, Fs' i' k' c → (i' = i ∧ k' = k ∧ G' c) ∨ (¬ (i' = i ∧ k' = k) ∧ Fs i' k' c) := by
      intro i' k' c hq
      simp only [Fs'] at hq
      split at hq
      · rename_i e; exact .inl ⟨e.1, e.2, hq⟩
      · rename_i e; exact .inr ⟨e, hq⟩
    have hFn : ∀ i' k' c, ¬ (i' = i ∧ k' = k) → Fs i' k' c → ¬ Fs i k c := fun i' k' c hne hf hf' => hne (hd i' k' i k c hf hf')
    have hrl : (rows.set i row').length = rows.length := by simp
    refine .inr ⟨b, off, cap, us, Fs', cs, ty, by rw [hrl], hh, hcap, by rw [hrl]; exact hc, ?_, ?_, ?_, ?_, ?_, ?_, ?_⟩
    · intro i' r' hr
      rcases hset i' r' hr with ⟨_, rfl⟩ | ⟨_, hr⟩
      · rw [l1]; exact hl i row hi
      · exact hl i' r' hr
    · intro i' r' k' x' hr hk'
      rcases hset i' r' hr with ⟨rfl, rfl⟩ | ⟨hne, hr⟩
      · by_cases e : k' = k
        · subst e
          rw [l3] at hk'; cases hk'
          exact ⟨c1, by simp only [Fs', and_self, if_true]; exact hy, c3⟩
        · rw [l4 k' e] at hk'
          obtain ⟨d1, d2, d3⟩ := hw i' row k' x' hi hk'
          exact ⟨d1, by simp only [Fs', e, and_false, if_false]; exact d2, d3⟩
      · obtain ⟨d1, d2, d3⟩ := hw i' r' k' x' hr hk'
        exact ⟨d1, by simp only [Fs', hne, false_and, if_false]; exact d2, d3⟩
    · intro i1 k1 i2 k2 c hq1 hq2
      rcases hFs _ _ _ hq1 with ⟨rfl, rfl, g1⟩ | ⟨n1, g1⟩
      · rcases hFs _ _ _ hq2 with ⟨rfl, rfl, g2⟩ | ⟨n2, g2⟩
        · exact ⟨rfl, rfl⟩
        · exact absurd g1 (hdis c (h2 _ _ _ g2) (hFn _ _ _ n2 g2))
      · rcases hFs _ _ _ hq2 with ⟨rfl, rfl, g2⟩ | ⟨n2, g2⟩
        · exact absurd g2 (hdis c (h2 _ _ _ g1) (hFn _ _ _ n1 g1))
        · exact hd _ _ _ _ _ g1 g2
    · intro i' k' hq
      rcases hFs _ _ _ hq with ⟨_, _, g1⟩ | ⟨_, g1⟩
      · exact ht b rfl g1
      · exact hb _ _ g1
    · exact hF1 b h1 (hb i k)
    · intro i' k' c hq
      rcases hFs _ _ _ hq with ⟨_, _, g1⟩ | ⟨n1, g1⟩
      · exact hF2 c g1
      · exact hF1 c (h2 _ _ _ g1) (hFn _ _ _ n1 g1)
    · rcases h3 with ⟨h3, h4⟩ | h3
      · refine .inl ⟨h3, fun he => ?_⟩
        have : rows.length = 0 := by rw [← hrl, he]; rfl
        omega
      · exact .inr h3

theorem hole_sound (F : FR w0 B0 Fin s a w g) {id i k d : Nat} {q : QV} {rows : List (List T)} {row : List T} {inner : List (List T)} (h1 : lk s.o id = some (q, rows)) (h2 : rows[i]? = some row) (h3 : nthS row k = some (.sl true inner)) :
    ∃ u, ∀ s', holeS s id q rows i row k d inner u = some s' → ∃ g', FR w0 B0 Fin s' a w g' := by
  rw [nthS_eq] at h3
  obtain ⟨hroot, hfo⟩ := F.rt id _ h1
  simp only at hroot
  obtain ⟨u, G, hown, hG1, hG2, hG3, hnew⟩ := root_tell hroot h2 h3
  refine ⟨u, ?_⟩
  intro s' h
  unfold holeS at h
  split at h
  · cases h
  rename_i hne
  have hne := beq_f hne
  split at h
  case h_2 => cases h
  rename_i s1 hc
  split at h
  case h_2 => cases h
  rename_i s2 hk
  split at h
  case h_2 => cases h
  rename_i row' hrow
  split at h
  case h_2 => cases h
  rename_i s3 hp
  obtain ⟨F1, hn1, hn2, _, hrx⟩ := F.clear hc
  have hid1 : lk s1.o id = some (q, rows) := by rw [clear_keep hc id (Ne.symm hne)]; exact h1
  obtain ⟨k1, k2, k3, k4, k5⟩ := kill_parts hk
  obtain ⟨p1, p2, p3, p4⟩ := putO_parts hp
  obtain ⟨p1', p2', p3', p4'⟩ := putO_parts h
  clear hp h
  obtain ⟨sz', hin⟩ := hown.root
  let F' : Nat → Prop := fun b => g.fo id b ∧ ¬ G b
  have hRid : Root w g.B q.n (rows.set i row') (g.rv id) (g.sz id) F' := hnew (.sc u) row' (fun _ => False) F' hrow (.sc _ _) (fun _ _ h => h) (fun _ _ _ h => h) (fun b hb hn => ⟨hb, hn⟩) (fun _ h => h.elim)
  let g' : Gh := { g with rv := upd g.rv d u, sz := upd g.sz d sz', fo := upd (upd g.fo id F') d G }
  have hfd : g'.fo d = G := upd_same _ _ _
  have hfi : g'.fo id = F' := by show upd (upd g.fo id F') d G id = F'; rw [upd_other _ _ (Ne.symm hne), upd_same]
  have hfx : ∀ j, j ≠ id → j ≠ d → g'.fo j = g.fo j := fun j e1 e2 => by show upd (upd g.fo id F') d G j = _; rw [upd_other _ _ e2, upd_other _ _ e1]
  have hlo : ∀ j, lk s'.o j = if d = j then some (⟨0, some u⟩, inner) else if id = j then some (q, rows.set i row') else lk s1.o j := fun j => by rw [p4', p4, k1]
  have hlo' : ∀ j r, lk s'.o j = some r → (j = d ∧ r = (⟨0, some u⟩, inner)) ∨ (j = id ∧ r = (q, rows.set i row')) ∨ (j ≠ d ∧ j ≠ id ∧ lk s1.o j = some r) := by
    intro j r hj
    rw [hlo] at hj
    split at hj
    · rename_i e; cases hj; exact .inl ⟨e.symm, rfl⟩
    · rename_i e
      split at hj
      · rename_i e2; cases hj; exact .inr (.inl ⟨e2.symm, rfl⟩)
      · rename_i e2; exact .inr (.inr ⟨Ne.symm e, Ne.symm e2, hj⟩)
  have hsub : ∀ j b, (∃ r, lk s'.o j = some r) → g'.fo j b → (j = d ∧ G b) ∨ (j = id ∧ F' b) ∨ (j ≠ d ∧ j ≠ id ∧ g.fo j b) := by
    intro j b ⟨r, hr⟩ hb
    rcases hlo' j r hr with ⟨rfl, _⟩ | ⟨rfl, _⟩ | ⟨e1, e2, _⟩
    · rw [hfd] at hb; exact .inl ⟨rfl, hb⟩
    · rw [hfi] at hb; exact .inr (.inl ⟨rfl, hb⟩)
    · rw [hfx j e2 e1] at hb; exact .inr (.inr ⟨e1, e2, hb⟩)
  have hkf := F1.kill (w' := w) (g' := g') hk s' (by rw [p1', p1]) (fun b hb => ⟨hb, rfl⟩)
    (fun x hx i' cs hi' hc' => by
      obtain ⟨ds, hd⟩ := k5 i' cs hc'
      exact ⟨⟨ds, by rw [p2', p2]; exact hd⟩, rfl⟩)
    (fun x hx i' r hi' hr => by
      have e1 : i' ≠ d := fun e => by subst e; rw [hn2] at hr; cases hr
      refine ⟨?_, upd_other _ _ e1, upd_other _ _ e1⟩
      by_cases e2 : id = i'
      · subst e2
        rw [hid1] at hr; cases hr
        exact ⟨_, by rw [hlo, if_neg (Ne.symm e1), if_pos rfl], by simp⟩
      · exact ⟨r, by rw [hlo, if_neg (Ne.symm e1), if_neg e2]; exact hr, rfl⟩)
    (fun x hx i' r b hi' hr hb _ => by
      have e1 : i' ≠ d := fun e => by subst e; rw [hn2] at hr; cases hr
      have e2 : i' ≠ id := fun e => by subst e; rw [hx] at hi'; cases hi'
      exact ⟨by rw [hfx i' e2 e1]; exact hb, rfl⟩)
  have hbo : ∀ i' ci, lk s'.h i' = some ci → ∃ c, lk s1.h i' = some c := by
    intro i' ci hi'
    rw [p2', p2] at hi'
    obtain ⟨cs, hcs, _⟩ := k4 i' ci hi'
    exact ⟨cs, hcs⟩
  have hGF : ∀ b, G b → ¬ F' b := fun b h1 h2 => h2.2 h1
  refine ⟨g', by rw [p3', p3, k2]; exact F1.n, F1.df, F1.kp, F1.bb, hkf.1, ?_, ?_, ?_, ?_, ?_, ?_, F1.bl_sub hbo (by rw [p3', p3, k2]) rfl⟩
  · intro i' ds hd
    rw [p2', p2] at hd
    obtain ⟨cs, hcs, _⟩ := k4 i' ds hd
    obtain ⟨a1, a2, _⟩ := F1.bx i' cs hcs
    obtain ⟨vs, ty, a3, a4⟩ := hkf.2 i' ds hd
    exact ⟨a1, a2, vs, ty, a3, a4⟩
  · intro j r hr
    rcases hlo' j r hr with ⟨rfl, rfl⟩ | ⟨rfl, rfl⟩ | ⟨e1, e2, hr1⟩
    · rw [hfd]
      refine ⟨?_, fun b hb => hfo b (hG1 b hb)⟩
      show Root w g.B 0 inner (upd g.rv j u j) (upd g.sz j sz' j) G
      rw [upd_same, upd_same]; exact hin
    · rw [hfi]
      refine ⟨?_, fun b hb => hfo b hb.1⟩
      show Root w g.B q.n (rows.set i row') (upd g.rv d u j) (upd g.sz d sz' j) F'
      rw [upd_other _ _ (Ne.symm hne), upd_other _ _ (Ne.symm hne)]; exact hRid
    · rw [hfx j e2 e1]
      show Root w g.B r.1.n r.2 (upd g.rv d u j) (upd g.sz d sz' j) (g.fo j) ∧ _
      rw [upd_other _ _ e1, upd_other _ _ e1]
      exact F1.rt j r hr1
  · intro i' j' ci cj a1 a2 a3
    obtain ⟨c1, a1⟩ := hbo i' ci a1
    obtain ⟨c2, a2⟩ := hbo j' cj a2
    exact F1.bi i' j' c1 c2 a1 a2 a3
  · intro i' j' ri rj b a1 a2 b1 b2
    have hs1 := hlo' i' ri a1
    have hs2 := hlo' j' rj a2
    rcases hsub i' b ⟨ri, a1⟩ b1 with ⟨rfl, c1⟩ | ⟨rfl, c1⟩ | ⟨e1, e2, c1⟩
    · rcases hsub j' b ⟨rj, a2⟩ b2 with ⟨rfl, c2⟩ | ⟨rfl, c2⟩ | ⟨e3, e4, c2⟩
      · rfl
      · exact absurd c2 (hGF b c1)
      · rcases hs2 with ⟨e, _⟩ | ⟨e, _⟩ | ⟨_, _, hr2⟩
        · exact absurd e e3
        · exact absurd e e4
        · exact absurd (F1.rr id j' _ rj b hid1 hr2 (hG1 b c1) c2).symm e4
    · rcases hsub j' b ⟨rj, a2⟩ b2 with ⟨rfl, c2⟩ | ⟨rfl, c2⟩ | ⟨e3, e4, c2⟩
      · exact absurd c1 (hGF b c2)
      · rfl
      · rcases hs2 with ⟨e, _⟩ | ⟨e, _⟩ | ⟨_, _, hr2⟩
        · exact absurd e e3
        · exact absurd e e4
        · exact absurd (F1.rr i' j' _ rj b hid1 hr2 c1.1 c2).symm e4
    · rcases hs1 with ⟨e, _⟩ | ⟨e, _⟩ | ⟨_, _, hr1⟩
      · exact absurd e e1
      · exact absurd e e2
      rcases hsub j' b ⟨rj, a2⟩ b2 with ⟨rfl, c2⟩ | ⟨rfl, c2⟩ | ⟨e3, e4, c2⟩
      · exact absurd (F1.rr i' id ri _ b hr1 hid1 c1 (hG1 b c2)) e2
      · exact absurd (F1.rr i' j' ri _ b hr1 hid1 c1 c2.1) e2
      · rcases hs2 with ⟨e, _⟩ | ⟨e, _⟩ | ⟨_, _, hr2⟩
        · exact absurd e e3
        · exact absurd e e4
        · exact F1.rr i' j' ri rj b hr1 hr2 c1 c2
  · intro i' j' ci rj a1 a2 b1
    obtain ⟨c1, a1⟩ := hbo i' ci a1
    have hs2 := hlo' j' rj a2
    rcases hsub j' _ ⟨rj, a2⟩ b1 with ⟨rfl, c2⟩ | ⟨rfl, c2⟩ | ⟨e3, e4, c2⟩
    · exact F1.br i' id c1 _ a1 hid1 (hG1 _ c2)
    · exact F1.br i' j' c1 _ a1 hid1 c2.1
    · rcases hs2 with ⟨e, _⟩ | ⟨e, _⟩ | ⟨_, _, hr2⟩
      · exact e3 e
      · exact e4 e
      · exact F1.br i' j' c1 rj a1 hr2 c2
  · intro j r u' hr hu
    rcases hlo' j r hr with ⟨rfl, rfl⟩ | ⟨rfl, rfl⟩ | ⟨e1, e2, hr1⟩
    · cases hu; exact upd_same _ _ _
    · show upd g.rv d u j = u'
      rw [upd_other _ _ (Ne.symm hne)]; exact F1.tv j _ u' hid1 hu
    · show upd g.rv d u j = u'
      rw [upd_other _ _ e1]; exact F1.tv j r u' hr1 hu

theorem fillR_sound (F : FR w0 B0 Fin s a w g) {id i k d : Nat} {q : QV} {rows : List (List T)} {row : List T} {inner : List (List T)} {u : Value} (h1 : lk s.o id = some (q, rows)) (h2 : rows[i]? = some row) (h3 : nthS row k = some (.sc u)) (h4 : lk s.o d = some (⟨0, some u⟩, inner))
    (h : fillS s id q rows i row k d inner = some s') : ∃ g', FR w0 B0 Fin s' a w g' := by
  rw [nthS_eq] at h3
  unfold fillS at h
  split at h
  · cases h
  rename_i hne
  have hne := beq_f hne
  split at h
  case h_2 => cases h
  rename_i s1 hd
  split at h
  case h_2 => cases h
  rename_i row' hrow
  have hu : g.rv d = u := F.tv d _ u h4 rfl
  obtain ⟨F1, hsub, hn, hrd, hfr⟩ := drop_root F h4 hd
  have hid1 : lk s1.o id = some (q, rows) := by
    rw [(F.drop hd).2.2 id, if_neg hne]; exact h1
  obtain ⟨hroot, hfo⟩ := F1.rt id _ hid1
  simp only at hroot hrd
  obtain ⟨u', G, hown, hG1, hG2, hG3, hnew⟩ := root_tell hroot h2 h3
  have huu : u' = u := by cases hown; rfl
  subst huu
  rw [hu] at hrd
  have hdis : ∀ b, g.fo id b → ¬ g.fo d b := fun b hb hb' => hne (F.rr d id _ _ b h4 h1 hb' hb)
  have hR := hnew (.sl true inner) row' (g.fo d) (fun b => g.fo id b ∨ g.fo d b) hrow (Root.own hrd) (fun b hb => hdis b (hG3 b hb)) (fun b hb _ => hdis b hb) (fun b hb _ => .inl hb) (fun b hb => .inr hb)
  have hslice : ∃ b off n cap, g.rv id = .slice (some ⟨b, off, none⟩) n cap := by
    rcases hroot with ⟨rfl, _⟩ | ⟨b, off, cap, us, Fs, cs, ty, e, _⟩
    · simp at h2
    · exact ⟨b, off, _, cap, e⟩
  obtain ⟨b, off, n, cap, hv⟩ := hslice
  exact ⟨_, F1.setRoot hid1 h (by simp) hv (fun c _ => rfl) rfl rfl rfl rfl hR (fun c hc => .inl hc) (fun c hc => by
    rcases hc with hc | hc
    · exact .inl hc
    · exact .inr ⟨(hfr c hc).1, (hfr c hc).2.1, (hfr c hc).2.2.1⟩)⟩

/-- a root's value is told by its name -/
theorem FR.askO (F : FR w0 B0 Fin s a w g) {d : Nat} {q : QV} {rows : List (List T)} (h1 : lk s.o d = some (q, rows)) (h : s.putO d ⟨q.n, some (g.rv d)⟩ rows = some s') : FR w0 B0 Fin s' a w g := by
  obtain ⟨e1, e2, e3, e4⟩ := putO_parts h
  have hold : ∀ i r, lk s.o i = some r → ∃ r', lk s'.o i = some r' ∧ r'.2 = r.2 := by
    intro i r hr
    rw [e4]; split
    · rename_i e; subst e; rw [h1] at hr; cases hr; exact ⟨_, rfl, rfl⟩
    · exact ⟨r, hr, rfl⟩
  have hold' : ∀ i r, lk s'.o i = some r → ∃ r', lk s.o i = some r' ∧ r'.2 = r.2 ∧ r'.1.n = r.1.n ∧ (∀ u, r.1.v = some u → g.rv i = u) := by
    intro i r hr
    rw [e4] at hr; split at hr
    · rename_i e; subst e; cases hr; exact ⟨_, h1, rfl, rfl, fun u hu => by cases hu; rfl⟩
    · exact ⟨r, hr, rfl, rfl, fun u hu => F.tv i r u hr hu⟩
  have key : ∀ x v, CR w g s.h s.o x v → CR w g s'.h s'.o x v := fun x v hx => hx.mono (fun b hb => ⟨hb, rfl⟩) (fun i cs _ h1 => ⟨⟨cs, by rw [e2]; exact h1⟩, rfl⟩) (fun i rows _ h1 => ⟨by obtain ⟨r', hr', e⟩ := hold i rows h1; exact ⟨r', hr', by rw [e]⟩, rfl, rfl⟩) (fun id rows b _ _ h3 _ => ⟨h3, rfl⟩)
  refine ⟨by rw [e3]; exact F.n, F.df, F.kp, F.bb, ?_, ?_, ?_, ?_, ?_, ?_, ?_, F.bl_sub (fun i c hc => ⟨c, by rw [e2] at hc; exact hc⟩) e3 rfl⟩
  · intro k x hk
    rw [e1] at hk
    obtain ⟨v, hv, hr⟩ := F.tm k x hk
    exact ⟨v, hv, key _ _ hr⟩
  · intro i cs hc
    rw [e2] at hc
    obtain ⟨h1, h2, vs, ty, h3, h4⟩ := F.bx i cs hc
    exact ⟨h1, h2, vs, ty, h3, h4.mono fun k x v _ hx => key _ _ hx⟩
  · intro i r hr
    obtain ⟨r', hr', e, e', _⟩ := hold' i r hr
    rw [← e, ← e']; exact F.rt i r' hr'
  · intro i j ci cj h1 h2 h3; rw [e2] at h1 h2; exact F.bi i j ci cj h1 h2 h3
  · intro i j ri rj b h1 h2 h3 h4
    obtain ⟨r1, h1, _⟩ := hold' i ri h1
    obtain ⟨r2, h2, _⟩ := hold' j rj h2
    exact F.rr i j r1 r2 b h1 h2 h3 h4
  · intro i j ci rj h1 h2
    obtain ⟨r2, h2, _⟩ := hold' j rj h2
    rw [e2] at h1; exact F.br i j ci r2 h1 h2
  · intro i r u hr hu
    obtain ⟨_, _, _, _, hh⟩ := hold' i r hr
    exact hh u hu
theorem CRs.set1 {h : List (Nat × List AV)} {o : Rts} {cs cs' : List AV} {vs : List Value} {j : Nat} {x y : AV} (hc : CRs w g h o cs vs) (h0 : nthS cs j = some x) (h5 : setS cs j [y] = some cs') (hx : ∀ v, CR w g h o x v → CR w g h o y v) : CRs w g h o cs' vs := by
  rw [nthS_eq] at h0
  obtain ⟨l1, l2, l3, l4⟩ := set_nth h5
  refine ⟨by rw [l1]; exact hc.1, ?_⟩
  intro k y' v hk hv
  by_cases e : k = j
  · subst e
    rw [l3] at hk; cases hk
    exact hx v (hc.2 k _ v h0 hv)
  · rw [l4 k e] at hk
    exact hc.2 k y' v hk hv

theorem AdjW.sound {K : St → Prop} (h : AdjW K s) (F : FR w0 B0 Fin s a w g) : ∃ s' g', K s' ∧ FR w0 B0 Fin s' a w g' := by
  induction h generalizing g with
  | done s h => exact ⟨s, g, h, F⟩
  | one x s s' h _ ih =>
    obtain ⟨g1, F1⟩ := adj_sound F h
    exact ih F1
  | hole id i k d s q rows row inner f h1 h2 h3 h4 _ ih =>
    obtain ⟨u, hu⟩ := hole_sound (d := d) F h1 h2 h3
    obtain ⟨g1, F1⟩ := hu (f u) (h4 u)
    exact ih u F1
  | fill id i k d s s' q rows row inner u h1 h2 h3 h4 h5 _ ih =>
    obtain ⟨g1, F1⟩ := fillR_sound F h1 h2 h3 h4 h5
    exact ih F1
  | tell slot d s s' q rows u h1 h2 h3 h4 _ ih =>
    obtain ⟨v, hv, hr⟩ := get_slot F h1 (by simp)
    have hvu := cr_sc hr
    refine ih (F.retell hv h4 ?_)
    have := F.tv d _ u h2 h3
    rw [hvu, ← this]; exact .rf d _ h2
  | tellC slot j d s s' q rows u cs cs' h1 h0 h2 h3 h5 h4 _ ih =>
    obtain ⟨v, hv, hr⟩ := get_slot F h1 (by simp)
    refine ih (F.retell hv h4 ?_)
    have ht := F.tv d _ u h2 h3
    rw [nthS_eq] at h0
    obtain ⟨l1, l2, l3, l4⟩ := set_nth h5
    cases hr with
    | ag _ vs hl hq =>
      refine .ag _ _ (by rw [l1]; exact hl) ?_
      intro k y v hk hv'
      by_cases e : k = j
      · subst e
        rw [l3] at hk; cases hk
        have := cr_sc (hq k _ v h0 hv')
        rw [this, ← ht]; exact .rf d _ h2
      · rw [l4 k e] at hk
        exact hq k y v hk hv'
  | ask d s q rows f h1 h2 _ ih =>
    exact ih (g.rv d) (F.askO h1 (h2 _))
  | holdB box j d s s' q rows u cs cs' h1 h0 h2 h3 h5 h4 _ ih =>
    refine ih (F.reH h1 h4 fun vs hc => hc.set1 h0 h5 fun v hv => ?_)
    have ht := F.tv d _ u h2 h3
    cases hv
    rw [ht]; exact .t _ _ (.sc _)
  | tellB box j d s s' q rows u cs cs' h1 h0 h2 h3 h5 h4 _ ih =>
    refine ih (F.reH h1 h4 fun vs hc => hc.set1 h0 h5 fun v hv => ?_)
    have ht := F.tv d _ u h2 h3
    have := cr_sc hv
    rw [this, ← ht]; exact .rf d _ h2

theorem adjL_sound : ∀ {l : List Adj} {s s' : St} {g : Gh}, FR w0 B0 Fin s a w g → adjL s l = some s' → ∃ g', FR w0 B0 Fin s' a w g' := by
  intro l
  induction l with
  | nil => intro s s' g F h; rw [adjL] at h; cases h; exact ⟨g, F⟩
  | cons x l ih =>
    intro s s' g F h
    rw [adjL] at h
    split at h
    case h_2 => cases h
    rename_i s1 h1
    obtain ⟨g1, F1⟩ := adj_sound F h1
    exact ih F1 h

theorem evalC3_sound (hT : TabOk P tab) (F : FR w0 B0 Fin s a w g) {o : Oper} {c : Prop} (h : evalC3 tab s o.op o.dst = some (c, s')) :
    ∃ u w' g', (execOp a.eval o).run P w = .ok (.value u) w' ∧ FR w0 B0 Fin s' (a.put o.dst u) w' g' := by
  unfold evalC3 at h
  split at h
  case h_2 => cases h
  rename_i src ty x ho
  split at h
  case h_2 => cases h
  rename_i hs
  split at h
  case h_2 => cases h
  rename_i e _ _ _ ht
  split at h
  case h_2 => cases h
  rename_i he
  split at h
  case h_2 => cases h
  rename_i b hx
  split at h
  case h_2 => cases h
  rename_i s1 hp
  cases h
  obtain ⟨d1, _, h1, hP1⟩ := ti_und (hT.1 _ _ hs) w
  obtain ⟨d2, _, h2, hP2⟩ := ti_und (hT.1 _ _ ht) w
  obtain ⟨d3, _, h3, hP3⟩ := ti_und (hT.1 _ _ he) w
  cases td_str h1
  cases td_sl h2
  cases td_int h3
  have hxv := F.ev x
  rw [hx] at hxv
  have hxe := cr_sc hxv
  have hrun := run_bytes_of_string w src ty e b hP1 hP2 hP3
  generalize hcap : grownCap w b.size 0 e = cap at hrun
  let w' := w.drew.alloc (.cells (bytesRow b cap) e ((bytesRow b cap).size, (bytesRow b cap).size + 1))
  have hsz : w'.heap.size = w.heap.size + 1 := by
    show (w.heap.push _).size = _
    simp
  have hold : ∀ c, c < w.heap.size → w'.heap[c]? = w.heap[c]? := fun c hc => by
    show (w.heap.push _)[c]? = _
    rw [Array.getElem?_push, if_neg (by omega)]
  have hnew : w'.heap[w.heap.size]? = some (.cells (bytesRow b cap) e ((bytesRow b cap).size, (bytesRow b cap).size + 1)) := by
    show (w.heap.push _)[w.heap.size]? = _
    simp
  have hk : Keeps Fin w0 w' := F.kp.step (G := fun _ => False) ⟨rfl, rfl, rfl, by omega, fun c hc _ => hold c hc⟩ (fun _ _ h => h.elim)
  have F1 := F.world (w' := w') (by omega) (fun c hc => hold c (F.used_lt hc)) hk
  have F2 := F1.grow (fun c => c = w.heap.size) (fun c hc => by subst hc; exact ⟨by omega, .inr (.inr F.kp.size), .inr fun hu => by have := F.used_lt hu; omega⟩)
  refine ⟨.slice (some ⟨w.heap.size, 0, none⟩) b.size cap, w', { g with B := fun c => g.B c ∨ c = w.heap.size }, ?_, F2.put hp (.t _ _ ?_)⟩
  · simp only [execOp, ho, hxe, Sem.run_bind]
    rw [hrun]
    rfl
  · have hlen : (byteRows b).length = b.size := by unfold byteRows; rw [List.length_map, Array.length_toList]; rfl
    rw [← hlen]
    have hrow : ∀ (i : Nat) (r : List T), (byteRows b)[i]? = some r → ∃ hi : i < b.data.size, r = [.sc (.int .u8 (b.data[i]).toNat)] := by
      intro i r hr
      have hi := nth_lt hr
      rw [hlen] at hi
      have hi : i < b.data.size := hi
      refine ⟨hi, ?_⟩
      simp only [byteRows, List.getElem?_map, Array.getElem?_toList, Array.getElem?_eq_getElem hi, Option.map_some, Option.some.injEq] at hr
      exact hr.symm
    refine .sl _ _ w.heap.size 0 cap 1 (fun i _ => .int .u8 ((b.data[i]?).getD 0).toNat) (fun _ => .inr rfl) ?_ ?_ ?_ ?_
    · rw [hlen, ← hcap]; exact grownCap_ge w b.size 0 e
    · intro i r hr; obtain ⟨_, rfl⟩ := hrow i r hr; rfl
    · intro i r k y hr hk'
      obtain ⟨hi, rfl⟩ := hrow i r hr
      have hk0 : k = 0 := by have := nth_lt hk'; simpa using this
      subst hk0
      have hc : (bytesRow b cap)[i]? = some (.int .u8 ((b.data[i]?).getD 0).toNat) := by
        unfold bytesRow
        rw [Array.getElem?_append, if_pos (by rw [Array.size_map]; exact hi), Array.getElem?_map, Array.getElem?_eq_getElem hi]
        rfl
      simp only [World.cell?, hnew, Nat.mul_one, Nat.add_zero, Nat.zero_add, hc]
      rfl
    · intro i r k y hr hk'
      obtain ⟨hi, rfl⟩ := hrow i r hr
      have hk0 : k = 0 := by have := nth_lt hk'; simpa using this
      subst hk0
      simp at hk'; subst hk'
      simp only [Array.getElem?_eq_getElem hi, Option.getD_some]
      exact .sc _
/-- a tree stands where its cells read the same -/
theorem Rep.cells {w w' : World} {B : Nat → Prop} (hB : ∀ a : Addr, B a.block → w'.cell? a = w.cell? a) {x : T} {v : Value} (h : Rep w B x v) : Rep w' B x v := by
  induction h with
  | sc v => exact .sc v
  | nil o => exact .nil o
  | em o a cap => exact .em o a cap
  | sl o rows b off cap sz us hb hc hl hw _ ih => exact .sl o rows b off cap sz us hb hc hl (fun i r k x hi hk => by rw [hB _ (hb (ne_of_nth hi))]; exact hw i r k x hi hk) ih
  | pt cells b off us hb hw _ ih => exact .pt cells b off us hb (fun k x hk => by rw [hB _ hb]; exact hw k x hk) ih
  | fn g caps vs hl _ ih => exact .fn g caps vs hl ih

theorem evalC5_sound (hT : TabOk P tab) (F : FR w0 B0 Fin s a w g) {o : Oper} {c : Prop} {src ty : TypeId} {x : Operand} (ho : o.op = .convert src ty x) (h : evalC5 tab s src ty x o.dst = some (c, s')) (hcc : c) :
    ∃ u w' g', (execOp a.eval o).run P w = .ok (.value u) w' ∧ FR w0 B0 Fin s' (a.put o.dst u) w' g' := by
  unfold evalC5 at h
  split at h
  case h_2 => cases h
  rename_i e _ _ _ hs
  split at h
  case h_2 => cases h
  rename_i he
  split at h
  case h_2 => cases h
  rename_i ht
  split at h
  case h_2 => cases h
  rename_i rows hx
  split at h
  case h_2 => cases h
  rename_i s1 hp
  cases h
  obtain ⟨d1, _, h1, hP1⟩ := ti_und (hT.1 _ _ hs) w
  obtain ⟨d2, _, h2, hP2⟩ := ti_und (hT.1 _ _ ht) w
  obtain ⟨d3, _, h3, hP3⟩ := ti_und (hT.1 _ _ he) w
  cases td_sl h1
  cases td_str h2
  cases td_int h3
  have hrep0 : ∃ (B' : Nat → Prop) (ow : Bool), Rep w B' (.sl ow rows) (a.eval x) := by
    have hxv := F.ev x
    generalize a.eval x = z at hxv
    unfold strSrc at hx
    split at hx
    · rename_i ow rows1 he1
      cases hx
      rw [he1] at hxv
      cases hxv with | t _ _ hr => exact ⟨_, _, hr⟩
    · rename_i id he1
      split at hx
      case h_2 => cases hx
      rename_i q rows1 hi
      cases hx
      rw [he1] at hxv
      cases hxv with | rf _ _ _ => exact ⟨fun _ => True, false, (F.rt id _ hi).1.rep (fun _ _ => trivial) (fun _ _ => trivial) false⟩
    · cases hx
  obtain ⟨B', ow, hrep⟩ := hrep0
  have hstr : strR rows = strOfNums (rows.map numR) := by unfold strR strOfNums; rw [List.map_map]; rfl
  have hrun : (convert src ty (a.eval x)).run P w = .ok (.string (strR rows)) w := by
    generalize a.eval x = z at hrep
    rw [hstr]
    · cases hrep with
      | nil _ =>
        have := run_convert_bytes_nil (P := P) w src e hP1 hP3 0 0 ty hP2
        exact this
      | em _ ad cap =>
        have hl : (loadCells ad 0).run P w = .ok (([] : List Int).map (Value.int .u8)).toArray w := run_loadCells_list (P := P) w ad [] (fun j v hj => by simp at hj)
        rw [run_convert_bytes_string w src ty e _ 0 cap hP1 hP3 hP2, run_bytesToString w _ 0 cap [] hl]
        rfl
      | sl _ _ b off cap sz us hb hc hl hw hr =>
        refine run_convert_bytes_arg w src e hP1 hP3 b off rows.length cap (rows.map numR) (by simp) (fun i hi => ?_) ty hP2
        have hri : rows[i]? = some rows[i] := List.getElem?_eq_getElem hi
        have hrow := hcc _ (List.getElem_mem hi)
        have hk : rows[i][0]? = some (.sc (.int .u8 (numR rows[i]))) := by rw [hrow]; rfl
        have hsz : sz = 1 := by rw [← hl i _ hri, hrow]; rfl
        subst hsz
        have hcell := hw i _ 0 _ hri hk
        have hval : us i 0 = .int .u8 (numR rows[i]) := by
          have hq := hr i _ 0 _ hri hk
          generalize us i 0 = u at hq
          cases hq; rfl
        rw [hval] at hcell
        have hg : (rows.map numR).getD i 0 = numR rows[i] := by simp [List.getD, hi]
        rw [hg]
        simpa using hcell
  refine ⟨.string (strR rows), w, g, ?_, F.put hp (.t _ _ (.sc _))⟩
  simp only [execOp, ho, Sem.run_bind]
  rw [hrun]
  rfl

theorem pu_at {α : Type} {l : List (Nat × α)} {d : Nat} {v : α} (h : lk l d = some v) : pu l d v = some l := by
  induction l with
  | nil => rw [lk] at h; cases h
  | cons p r ih =>
    obtain ⟨k, w⟩ := p
    rw [lk] at h
    rw [pu]
    split at h
    · rename_i hb; cases h; rfl
    · rename_i hb; simp only [ih h]
theorem pu_some {α : Type} (l : List (Nat × α)) (n : Nat) (v : α) : ∃ l', pu l n v = some l' := by
  induction l with
  | nil => exact ⟨_, rfl⟩
  | cons p r ih =>
    obtain ⟨k, w⟩ := p
    obtain ⟨l', h⟩ := ih
    rw [pu]
    cases hb : Nat.beq k n with
    | true => exact ⟨_, rfl⟩
    | false => simp only [h]; exact ⟨_, rfl⟩
theorem pu_pu {α : Type} {l l1 : List (Nat × α)} {d : Nat} {x : α} (y : α) (h : pu l d x = some l1) : pu l1 d y = pu l d y := by
  induction l generalizing l1 with
  | nil => rw [pu] at h; cases h; rw [pu, pu]; simp
  | cons p r ih =>
    obtain ⟨k, w⟩ := p
    rw [pu] at h
    split at h
    · rename_i hb; cases h; rw [pu, pu, hb]
    · rename_i hb
      split at h
      case h_2 => cases h
      rename_i r' hr
      cases h
      rw [pu, pu, hb, ih hr]
theorem plainV_one {v : Value} (h : plainV v = true) : v.oneCell' = true := by cases v <;> first | rfl | simp [plainV] at h
theorem plain_store {s : St} {id i : Nat} {q : QV} {R : List (List T)} {r : List T} {v : Value} (hv : plainV v = true) (hi : lk s.o id = some (q, R)) (hr : R[i]? = some r) (hl : r.length = 1) : storeRp s id i 0 1 [.t (.sc v)] = s.putO id q (R.set i [.sc v]) := by
  obtain ⟨x, rfl⟩ : ∃ x, r = [x] := by
    match r, hl with
    | [x], _ => exact ⟨x, rfl⟩
  cases v <;> first | (simp [plainV] at hv; done) | (simp only [storeRp, lenS, absorbL, absorb1, hi, hr, setS])
theorem copy_steps {id : Nat} {q : QV} {d : Operand} {b off n cap : Nat} : ∀ (vs : List Value) (i : Nat) {s s' : St} {R : List (List T)} {w : World} {g : Gh}, FR w0 B0 Fin s a w g → lk s.o id = some (q, R) → s.ev d = .rf id → a.eval d = .slice (some ⟨b, off, none⟩) n cap →
    R.length = i + vs.length → (∀ r ∈ R, r.length = 1) → (∀ v ∈ vs, plainV v = true) → s.putO id q (R.take i ++ vs.map fun v => [.sc v]) = some s' → ∃ w' g', (storeCells ⟨b, off, none⟩ vs i).run P w = .ok () w' ∧ FR w0 B0 Fin s' a w' g' := by
  intro vs
  induction vs with
  | nil =>
    intro i s s' R w g F hi hd hv hl h1 hp h
    simp only [List.length_nil, Nat.add_zero] at hl
    rw [List.map_nil, List.append_nil, List.take_of_length_le (by omega)] at h
    obtain ⟨t, hh, o, m⟩ := s
    simp only [St.putO, pu_at hi] at h
    cases h
    exact ⟨w, g, by rw [storeCells, Sem.run_pure], F⟩
  | cons v vs ih =>
    intro i s s' R w g F hi hd hv hl h1 hp h
    have hil : i < R.length := by rw [hl, List.length_cons]; omega
    have hri : R[i]? = some R[i] := List.getElem?_eq_getElem hil
    have hr1 := h1 _ (List.getElem_mem hil)
    have hpv := hp v (List.mem_cons_self ..)
    have hst := plain_store hpv hi hri hr1
    have hdv := F.ev d
    rw [hd, hv] at hdv
    generalize hz : Value.slice (some ⟨b, off, none⟩) n cap = z at hdv
    cases hdv with
    | rf _ _ _ =>
      have hsz : g.sz id = 1 := by
        rcases (F.rt id _ hi).1 with ⟨e, _⟩ | ⟨_, _, _, _, _, _, _, _, _, _, _, hlen, _⟩
        · simp only at e; rw [e] at hil; simp at hil
        · rw [← hlen i _ hri, hr1]
      have hput : ∃ s1, s.putO id q (R.set i [.sc v]) = some s1 := by
        obtain ⟨t, hh, o, m⟩ := s
        obtain ⟨o1, ho1⟩ := pu_some o id (q, R.set i [.sc v])
        exact ⟨⟨t, hh, o1, m⟩, by simp only [St.putO, ho1]⟩
      obtain ⟨s1, hs1⟩ := hput
      rw [hs1] at hst
      obtain ⟨b', o', w1, g1, hpe, _, hrun, F1⟩ := storeRp_sound (P := P) F (.rp id i 0 _ hi b off n cap hz.symm) (cs := [.t (.sc v)]) (vs := [v]) ⟨rfl, fun k x u h1 h2 => by
        cases k with
        | zero => simp at h1 h2; subst h1; subst h2; exact .t _ _ (.sc _)
        | succ k => simp at h1⟩ (fun u hu => by rw [List.mem_singleton.1 hu]; exact plainV_one hpv) hst
      injection hpe with hpe; injection hpe with hpe; injection hpe with e1 e2
      subst e1; subst e2
      obtain ⟨p1, p2, p3, p4⟩ := putO_parts hs1
      have hev : s1.ev d = .rf id := by
        rw [← hd]
        cases d <;> simp only [St.ev, St.get, p1]
      have hs1' : s1.putO id q ((R.set i [.sc v]).take (i + 1) ++ vs.map fun v => [.sc v]) = some s' := by
        rw [← h]
        have e : (R.set i [T.sc v]).take (i + 1) ++ vs.map (fun v => [T.sc v]) = R.take i ++ (v :: vs).map fun v => [T.sc v] := by
          rw [List.take_succ_eq_append_getElem (by rw [List.length_set]; exact hil), List.take_set_of_le (Nat.le_refl _)]
          simp
        rw [e]
        obtain ⟨t, hh, o, m⟩ := s
        simp only [St.putO] at hs1 ⊢
        split at hs1
        case h_2 => cases hs1
        rename_i o1 ho1
        cases hs1
        simp only [pu_pu _ ho1]
      obtain ⟨w2, g2, hrun2, F2⟩ := ih (i + 1) F1 (by rw [p4, if_pos rfl]) hev hv (by rw [List.length_set, hl, List.length_cons]; omega) (fun r hr => by
        rcases List.mem_or_eq_of_mem_set hr with hr | rfl
        · exact h1 r hr
        · rfl) (fun u hu => hp u (List.mem_cons_of_mem _ hu)) hs1'
      refine ⟨w2, g2, ?_, F2⟩
      have hadd : (⟨b, off, none⟩ : Addr).add i = ⟨b, off + i, none⟩ := by unfold Addr.add; split <;> simp_all
      rw [hsz, Nat.mul_one, Nat.add_zero] at hrun
      have hst1 : (store ⟨b, off + i, none⟩ v).run P w = .ok () w1 := by
        have h0 : (⟨b, off + i, none⟩ : Addr).add 0 = ⟨b, off + i, none⟩ := by unfold Addr.add; simp
        rw [storeCells, storeCells, Sem.run_bind, h0] at hrun
        cases hq : (store ⟨b, off + i, none⟩ v).run P w with
        | ok x w3 => rw [hq] at hrun; simp only [Result.andThen_ok, Sem.run_pure] at hrun; injection hrun with _ e; rw [e]
        | _ => rw [hq] at hrun; cases hrun
      rw [storeCells, hadd, Sem.run_bind, hst1]
      exact hrun2
def valOf : List T → Value
  | [.sc v] => v
  | _ => undef
theorem evalCp_sound (hT : TabOk P tab) (F : FR w0 B0 Fin s a w g) {o : Oper} {c : Prop} {args : Array Operand} {tys : Array TypeId} (ho : o.op = .call { callee := .builtin .copy, args := args, argTypes := tys }) (h : evalCp tab s args.toList tys.toList o.dst = some (c, s')) (hcc : c) :
    ∃ u w' g', (execOp a.eval o).run P w = .ok (.value u) w' ∧ FR w0 B0 Fin s' (a.put o.dst u) w' g' := by
  unfold evalCp at h
  split at h
  case h_2 => cases h
  rename_i d x hargs
  split at h
  case h_2 => cases h
  rename_i dT sT htys
  split at h
  case h_2 => cases h
  rename_i e _ _ _ ht
  split at h
  case h_2 => cases h
  rename_i ei he
  split at h
  case h_2 => cases h
  rename_i id hd
  split at h
  case h_2 => cases h
  rename_i q rows hi
  split at h
  case h_2 => cases h
  rename_i own rows2 hx
  split at h
  case h_2 => cases h
  rename_i s1 hs1
  split at h
  case h_2 => cases h
  rename_i s2 hs2
  cases h
  obtain ⟨hsz, hlen, hv2, hr1⟩ := hcc
  obtain ⟨_, _, h1, hP1⟩ := ti_und (hT.1 _ _ ht) w
  cases td_sl h1
  obtain ⟨inf, _, hinf, _, hti⟩ := ti_parts (hT.1 _ _ he)
  have hes : (P.info? e).map (·.size) = some 1 := by rw [hinf]; simp only [Option.map_some]; congr 1; rw [← hsz, hti]
  have e1 : args = #[d, x] := by apply Array.ext'; simpa using hargs
  have e2 : tys = #[dT, sT] := by apply Array.ext'; simpa using htys
  subst e1; subst e2
  have hd0 := F.ev d
  rw [hd] at hd0
  have hde : a.eval d = g.rv id := by generalize a.eval d = z at hd0; cases hd0 with | rf _ _ _ => rfl
  have hx0 := F.ev x
  rw [hx] at hx0
  have hgo : ∀ u w', (Builtin.copy_ #[dT, sT] o.type #[a.eval d, a.eval x]).run P w = .ok u w' → (execOp a.eval o).run P w = .ok (.value u) w' := by
    intro u w' hrun
    simp only [execOp, ho, resolve, Sem.run_bind, Sem.run_pure, Result.andThen_ok, invoke, builtin]
    simp only [List.map_toArray, List.map_cons, List.map_nil]
    rw [hrun]; rfl
  obtain ⟨vs, hvs, hvp⟩ : ∃ vs : List Value, rows2 = vs.map (fun v => [T.sc v]) ∧ ∀ v ∈ vs, plainV v = true := by
    refine ⟨rows2.map valOf, ?_, ?_⟩
    · rw [List.map_map]
      have : rows2.map (fun r => r) = rows2.map ((fun v => [T.sc v]) ∘ valOf) := List.map_congr_left fun r hr => by obtain ⟨v, _, rfl⟩ := hv2 r hr; rfl
      rw [← this, List.map_id']
    · intro v hv
      obtain ⟨r, hr, rfl⟩ := List.mem_map.1 hv
      obtain ⟨v, hp, rfl⟩ := hv2 r hr
      exact hp
  have hvl : vs.length = rows.length := by rw [← hlen, hvs, List.length_map]
  by_cases h0 : rows = []
  · have hvn : vs = [] := List.length_eq_zero_iff.1 (by rw [hvl, h0]; rfl)
    have hr2 : rows2 = [] := by rw [hvs, hvn]; rfl
    have hs1e : s1 = s := by
      obtain ⟨t, hh, oo, m⟩ := s
      rw [hr2, ← h0] at hs1
      simp only [St.putO, pu_at hi] at hs1
      cases hs1; rfl
    subst hs1e
    have hsl : ∃ ad cp, a.eval d = .slice ad 0 cp := by
      rw [hde]
      rcases (F.rt id _ hi).1 with ⟨_, e⟩ | ⟨_, _, _, _, _, _, _, e, _⟩
      · exact ⟨none, 0, e⟩
      · simp only [h0, List.length_nil] at e; exact ⟨_, _, e⟩
    obtain ⟨ad, cp, hsl⟩ := hsl
    have hsx : ∃ ad cp, a.eval x = .slice ad 0 cp := by
      generalize a.eval x = z at hx0
      cases hx0 with
      | t _ _ hr => cases hr with
        | nil => exact ⟨none, 0, rfl⟩
        | em _ a cp => exact ⟨some a, cp, rfl⟩
        | sl _ _ b off cap sz us => rw [hr2]; exact ⟨_, _, rfl⟩
    obtain ⟨ax, cx, hsx⟩ := hsx
    refine ⟨goInt 0, w, g, hgo _ _ ?_, F.put hs2 (.t _ _ ?_)⟩
    · rw [hsl, hsx]; exact run_copy_none w dT sT o.type e ad ax 0 cp 0 cx hP1 hes (by simp)
    · rw [hr2]; exact .sc _
  · have hne : rows2 ≠ [] := by intro e; rw [e] at hlen; exact h0 (List.length_eq_zero_iff.1 hlen.symm)
    obtain ⟨b, off, cap, hsl⟩ : ∃ b off cap, a.eval d = .slice (some ⟨b, off, none⟩) rows.length cap := by
      rw [hde]
      rcases (F.rt id _ hi).1 with ⟨e, _⟩ | ⟨b, off, cap, _, _, _, _, e, _⟩
      · exact absurd e h0
      · exact ⟨b, off, cap, e⟩
    have hput : s.putO id q (rows.take 0 ++ vs.map fun v => [.sc v]) = some s1 := by rw [List.take_zero, List.nil_append, ← hvs]; exact hs1
    obtain ⟨w1, g1, hrun, F1⟩ := copy_steps (P := P) vs 0 F hi hd hsl (by rw [hvl]; omega) hr1 hvp hput
    obtain ⟨bx, ox, cx, hsx, hcell⟩ : ∃ bx ox cx, a.eval x = .slice (some ⟨bx, ox, none⟩) rows2.length cx ∧ ∀ j v, vs[j]? = some v → w.cell? ((⟨bx, ox, none⟩ : Addr).add j) = some v := by
      generalize a.eval x = z at hx0
      cases hx0 with
      | t _ _ hr => cases hr with
        | nil => exact absurd rfl hne
        | em => exact absurd rfl hne
        | sl _ _ b off cap sz us hb hc hl hw hrep =>
          refine ⟨b, off, cap, rfl, fun j v hj => ?_⟩
          have hrj : rows2[j]? = some [T.sc v] := by rw [hvs, List.getElem?_map, hj]; rfl
          have hsz1 : sz = 1 := by rw [← hl j _ hrj]; rfl
          subst hsz1
          have h1 := hw j _ 0 _ hrj rfl
          have h2 := hrep j _ 0 _ hrj rfl
          have h3 : us j 0 = v := by generalize us j 0 = u at h2; cases h2; rfl
          rw [h3, Nat.mul_one, Nat.add_zero] at h1
          have hadd : (⟨b, off, none⟩ : Addr).add j = ⟨b, off + j, none⟩ := by unfold Addr.add; split <;> simp_all
          rw [hadd]; exact h1
    have hload := run_loadCells_list (P := P) w ⟨bx, ox, none⟩ vs hcell
    have hcopy : (Builtin.copy_ #[dT, sT] o.type #[a.eval d, a.eval x]).run P w = .ok (goInt vs.length) w1 := by
      rw [hsl, hsx]
      have hmin : Nat.min rows2.length rows.length = vs.length := by rw [hlen, hvl]; exact Nat.min_self _
      have hi1 : inf.size = 1 := by rw [hinf] at hes; simpa using hes
      simp [Builtin.copy_, run_underlying hP1, Builtin.lenOf, Builtin.firstCells, sizeOf, typeInfo, hinf, hi1, hmin, hload, hrun]
    refine ⟨goInt vs.length, w1, g1, hgo _ _ hcopy, F1.put hs2 (.t _ _ ?_)⟩
    have : rows2.length = vs.length := by rw [hlen, hvl]
    rw [this]; exact .sc _

theorem evalC4_sound (hT : TabOk P tab) (F : FR w0 B0 Fin s a w g) {o : Oper} {c : Prop} (h : evalC4 tab s o.op o.dst = some (c, s')) (hcc : c) :
    ∃ u w' g', (execOp a.eval o).run P w = .ok (.value u) w' ∧ FR w0 B0 Fin s' (a.put o.dst u) w' g' := by
  unfold evalC4 at h
  split at h
  case h_2 => rename_i args tys ho; exact evalCp_sound hT F ho h hcc
  case h_3 => cases h
  rename_i src ty x ho
  split at h
  case h_2 => exact evalC5_sound hT F ho h hcc
  rename_i hb
  have e := beq_t hb; subst e
  split at h
  case h_2 => cases h
  rename_i e _ _ _ ht
  split at h
  case h_2 => cases h
  rename_i he
  split at h
  case h_2 => cases h
  rename_i id hx
  split at h
  case h_2 => cases h
  rename_i q rows hi
  split at h
  case h_2 => cases h
  rename_i s1 hd
  split at h
  case h_2 => cases h
  rename_i s2 hp
  cases h
  obtain ⟨d2, _, h2, hP2⟩ := ti_und (hT.1 _ _ ht) w
  obtain ⟨d3, _, h3, hP3⟩ := ti_und (hT.1 _ _ he) w
  cases td_sl h2
  cases td_int h3
  have hxv := F.ev x
  rw [hx] at hxv
  have hxe : a.eval x = g.rv id := by generalize a.eval x = z at hxv; cases hxv with | rf _ _ _ => rfl
  obtain ⟨F1, hs1, _, hr, hfr⟩ := drop_root F hi hd
  rcases hr with ⟨rfl, _⟩ | ⟨b, off, cap, us, Fs, cs, ty', hv, hh, hcap, hc, hl, hw, hdj, hnb, h4, h5, h6⟩
  · exact absurd rfl hcc
  have hblt := (Array.getElem?_eq_some_iff.1 hh).1
  let w' := w.freeze ⟨b, cs.size, none⟩ 1
  have hother : ∀ c, c ≠ b → w'.heap[c]? = w.heap[c]? := fun c hc => by
    show (World.freeze _ _ _).heap[c]? = _
    unfold World.freeze
    rw [if_neg (by decide)]
    simp [Array.getElem?_modify, Ne.symm hc]
  have hthis : w'.heap[b]? = some (.cells cs ty' (cs.size, cs.size + 1)) := by
    show (World.freeze _ _ _).heap[b]? = _
    unfold World.freeze
    rw [if_neg (by decide)]
    simp [Array.getElem?_modify, hh]
  have hsz : w'.heap.size = w.heap.size := by
    show (World.freeze _ _ _).heap.size = _
    unfold World.freeze
    rw [if_neg (by decide)]
    simp
  have hcell : ∀ a : Addr, w'.cell? a = w.cell? a := fun a => by
    unfold World.cell?
    by_cases hab : a.block = b
    · rw [hab, hthis, hh]
    · rw [hother _ hab]
  have hfb := hfr b h4
  have hk : Keeps Fin w0 w' := F.kp.step (G := fun c => c = b) ⟨by show (World.freeze _ _ _).os = _; unfold World.freeze; rw [if_neg (by decide)], by show (World.freeze _ _ _).tape = _; unfold World.freeze; rw [if_neg (by decide)], by show (World.freeze _ _ _).output = _; unfold World.freeze; rw [if_neg (by decide)], by omega, fun c _ hne => hother c hne⟩ (fun c hc hcb => by
    subst hcb
    rcases hfb.2.1 with h | h
    · exact h
    · omega)
  have F2 := F1.world (w' := w') (by omega) (fun c hc => hother c fun e => by subst e; exact hfb.2.2.1 hc) hk
  have F3 := F2.grow (g.fo id) (fun c hc => by
    have := hfr c hc
    exact ⟨by rw [hsz]; exact this.1, .inr this.2.1, .inr this.2.2.1⟩)
  have hown : Own w (fun c => g.B c ∨ g.fo id c) (.sl true rows) (g.rv id) (g.fo id) := by
    rw [hv]
    refine .sl rows b off cap (g.sz id) us Fs (g.fo id) cs ty' hh hcap hc hl (fun i r k x hi hk => (hw i r k x hi hk).1) (fun i r k x hi hk => (hw i r k x hi hk).2.1.mono (fun c hc => ⟨.inl hc, rfl⟩) fun _ _ => rfl) (fun i r k x hi hk => (hw i r k x hi hk).2.2) hdj hnb h4 h5 (fun e => absurd e hcc)
  have hrep : Rep w' (fun c => g.B c ∨ g.fo id c) (.sl false (shrR rows)) (g.rv id) := by
    have := (hown.rep (B' := fun c => g.B c ∨ g.fo id c) (fun _ h => h) (fun _ h => .inr h)).shr
    exact this.cells fun a _ => hcell a
  refine ⟨g.rv id, w', _, ?_, F3.put hp (.t _ _ hrep)⟩
  simp only [execOp, ho, hxe, hv, Sem.run_bind]
  have hsh : w.shape? b = some (ty', cs.size) := by unfold World.shape?; rw [hh]
  simp [convert, run_underlying hP2, run_underlying hP3, markStringish, hsh]
  rfl
end
end Go.Ev


set_option linter.unusedVariables false
set_option linter.unusedSimpArgs false
namespace Go.Ev
open Go Go.RowKit

/-- an argument at the end, if it is told -/
def VO (w : World) (B : Nat → Prop) (x : AV) (v : Value) (F : Nat → Prop) : Prop := x = .u ∨ VS w B x v F
/-- a result, and maybe the arguments as they are at the end -/
def VX (w : World) (B : Nat → Prop) (vs : List Value) (r : AV) (v : Value) (F : Nat → Prop) : Prop :=
  (isIo r = false ∧ VR w B r v F) ∨ ∃ r0 outs F1 F2, r = .io (r0 :: outs) ∧ VR w B r0 v F1 ∧ Fam (VO w B) outs vs F2 ∧ (∀ b, F1 b → ¬ F2 b) ∧ (∀ b, F1 b → F b) ∧ (∀ b, F2 b → F b)
theorem VX.mono {w w' : World} {B B' : Nat → Prop} (hB : ∀ b, B b → B' b ∧ w'.heap[b]? = w.heap[b]?) {vs : List Value} {x : AV} {v : Value} {F : Nat → Prop} (h : VX w B vs x v F) (hF : ∀ b, F b → w'.heap[b]? = w.heap[b]?) : VX w' B' vs x v F := by
  rcases h with ⟨hi, h⟩ | ⟨r0, outs, F1, F2, rfl, h1, h2, h3, h4, h5⟩
  · exact .inl ⟨hi, h.mono hB hF⟩
  · refine .inr ⟨r0, outs, F1, F2, rfl, h1.mono hB fun b hb => hF b (h4 b hb), h2.imp fun x v G hG hx => ?_, h3, h4, h5⟩
    rcases hx with hx | hx
    · exact .inl hx
    · exact .inr (hx.mono hB fun b hb => hF b (h5 b (hG b hb)))
theorem ownIL_any {w : World} {B B' : Nat → Prop} {cs : List AV} {vs : List Value} {F : Nat → Prop} (h : Fam (VO w B) cs vs F) (ho : AV.own.ownIL cs) : Fam (VO w B') cs vs F := by
  induction h with
  | nil => exact .nil _
  | cons x xs v vs G F' F h hs hd h1 h2 ih =>
    rcases h with rfl | ⟨y, rfl, h⟩ | ⟨ds, us, rfl, rfl, h⟩ | h
    · exact .cons _ _ _ _ G F' F (.inl rfl) (ih ho) hd h1 h2
    · exact .cons _ _ _ _ G F' F (.inr (.inl ⟨y, rfl, h.any ho.1⟩)) (ih ho.2) hd h1 h2
    · exact .cons _ _ _ _ G F' F (.inr (.inr (.inl ⟨ds, us, rfl, rfl, ownCL_any h ho.1⟩))) (ih ho.2) hd h1 h2
    · obtain ⟨ds, h'⟩ : ∃ ds, x = .io ds := by obtain ⟨ds, _, _, _, _, rfl, _⟩ := h; exact ⟨ds, rfl⟩
      subst h'
      exact .cons _ _ _ _ G F' F (.inr (.inr (.inr (h.any ho.1)))) (ih ho.2) hd h1 h2
theorem VX.any {w : World} {B B' : Nat → Prop} {vs : List Value} {x : AV} {v : Value} {F : Nat → Prop} (h : VX w B vs x v F) (ho : x.own) : VX w B' vs x v F := by
  rcases h with ⟨hi, h⟩ | ⟨r0, outs, F1, F2, rfl, h1, h2, h3, h4, h5⟩
  · exact .inl ⟨hi, h.any hi ho⟩
  · rcases h1 with (⟨y, rfl, h1⟩ | ⟨cs, us, rfl, rfl, h1⟩ | h1) | ⟨cs, us, rfl, rfl, h1⟩
    · exact .inr ⟨_, outs, F1, F2, rfl, .inl (.inl ⟨y, rfl, h1.any ho.1⟩), ownIL_any h2 ho.2, h3, h4, h5⟩
    · exact .inr ⟨_, outs, F1, F2, rfl, .inl (.inr (.inl ⟨cs, us, rfl, rfl, ownCL_any h1 ho.1⟩)), ownIL_any h2 ho.2, h3, h4, h5⟩
    · obtain ⟨ds, h'⟩ : ∃ ds, r0 = .io ds := by obtain ⟨ds, _, _, _, _, rfl, _⟩ := h1; exact ⟨ds, rfl⟩
      subst h'
      exact .inr ⟨_, outs, F1, F2, rfl, .inl (.inr (.inr (h1.any ho.1))), ownIL_any h2 ho.2, h3, h4, h5⟩
    · exact .inr ⟨_, outs, F1, F2, rfl, .inr ⟨cs, us, rfl, rfl, ownTL_any h1 ho.1⟩, ownIL_any h2 ho.2, h3, h4, h5⟩

/-- What a call does: in whatever memory its arguments stand (what is shared in blocks of B, what goes for good in blocks of Fin), it returns; nothing that was there has turned, but blocks of Fin. -/
def Sound (P : Program) (f : FuncId) (args : List AV) (r : AV) : Prop :=
  (∃ fn, P.funcs[f]? = some fn ∧ fn.body.isSome = true ∧ (fn.name == "runtime.NumGoroutine") = false) ∧
  ∀ (w : World) (vs : List Value) (B Fin : Nat → Prop), (∀ b, B b → b < w.heap.size ∧ ¬ Fin b) → (∀ b, Fin b → b < w.heap.size) → Fam (VS w B) args vs Fin →
    Calls P f vs.toArray w fun e w' => ∃ v B' F', e = .returned v ∧ VX w' B' vs r v F' ∧ (∀ b, B' b → b < w'.heap.size ∧ ¬ F' b ∧ (B b ∨ Fin b ∨ w.heap.size ≤ b)) ∧ (∀ b, F' b → b < w'.heap.size ∧ (Fin b ∨ w.heap.size ≤ b)) ∧ Keeps Fin w w'

section
variable {P : Program} {tab : Tab} {w0 w : World} {B0 Fin : Nat → Prop} {s s' s1 : St} {a : Act} {g g' : Gh} {Φ : Rel3}

theorem callee_is (F : FR w0 B0 Fin s a w g) {f : Operand} {g0 : FuncId} (h : calleeG s f = some g0) : ∃ caps, a.eval f = .func (.func g0) #[] caps := by
  have hf := F.ev f
  unfold calleeG at h
  split at h
  · rename_i g1 cs hfe
    cases h
    rw [hfe] at hf
    generalize a.eval f = q at hf
    cases hf with
    | t x v hr => cases hr with
      | fn g caps vs hlen hrr => exact ⟨_, rfl⟩
  · rename_i g1 cs hfe
    cases h
    rw [hfe] at hf
    generalize a.eval f = q at hf
    cases hf with
    | fn f cs vs hl hr => exact ⟨_, rfl⟩
  · cases h

theorem calleeAV_sound (F : FR w0 B0 Fin s a w g) {f : Operand} {g0 : FuncId} {cs : List AV} (h : calleeAV s f = some (g0, cs)) (G : Nat → Prop) :
    ∃ caps, a.eval f = .func (.func g0) #[] caps ∧ Fam (VS w (used g s)) cs caps.toList G ∧ ((s.ev f).plain = true → Fam (VS w g.B) cs caps.toList G) := by
  have hf := F.ev f
  unfold calleeAV at h
  split at h
  · rename_i g1 caps0 hfe
    split at h
    case h_2 => cases h
    rename_i l hl
    cases h
    rw [hfe] at hf ⊢
    generalize a.eval f = q at hf
    cases hf with
    | t x v hr => cases hr with
      | fn g2 caps vs hlen hrr =>
        obtain ⟨hll, hk⟩ := mapS_eq hl
        have key : Fam (VS w g.B) cs vs G := by
          refine .of (by rw [hll]; exact hlen) ?_
          intro k y v hy hv
          have hkl := nth_lt hy
          rw [hll] at hkl
          obtain ⟨z, hz, hs⟩ := hk k _ (List.getElem?_eq_getElem hkl)
          rw [hy] at hz; cases hz
          exact .inl (snapC_plain rfl hs (.t _ _ (hrr k _ v (List.getElem?_eq_getElem hkl) hv)) _)
        exact ⟨vs.toArray, rfl, key.imp fun x v G' _ hx => hx.mono (fun b hb => ⟨.inl hb, rfl⟩) fun _ _ => rfl, fun _ => key⟩
  · rename_i g1 caps0 hfe
    split at h
    case h_2 => cases h
    rename_i l hl
    cases h
    rw [hfe] at hf ⊢
    generalize a.eval f = q at hf
    cases hf with
    | fn f cs vs hlen hr =>
      refine ⟨vs.toArray, rfl, ?_, fun hp => by simp [AV.plain, plC] at hp⟩
      have := snaps_sound F hl ⟨hlen, hr⟩ G
      exact this.imp fun x v G' _ hx => .inl hx
  · cases h

/-- what goes to a call -/
theorem argsAV_sound (F : FR w0 B0 Fin s a w g) {md : Modes} {f : Operand} {args : List Operand} {gg : FuncId} {as : List AV} (h : argsAV md s f args = some (gg, as, s1)) :
    FR w0 B0 Fin s1 a w g ∧ Subs s s1 ∧ ∃ caps, a.eval f = .func (.func gg) #[] caps ∧ Fam (VS w (used g s1)) as (args.map a.eval ++ caps.toList) (Freed w0 w Fin g s s1) ∧
      (argsPlain md s1 f args gg = true → Fam (VS w g.B) as (args.map a.eval ++ caps.toList) (Freed w0 w Fin g s s1)) := by
  unfold argsAV at h
  split at h
  case h_2 => cases h
  rename_i g0 hg0
  split at h
  case h_2 => cases h
  rename_i as' s2 hm
  split at h
  case h_2 => cases h
  rename_i gg' caps0 hc
  split at h
  case h_2 => cases h
  rename_i l hl
  cases h
  have e := appS_eq hl; subst e
  obtain ⟨F1, hs1, hf, hp⟩ := moves_sound F hm
  obtain ⟨caps, he, hcf, hcp⟩ := calleeAV_sound F1 hc (fun _ => False)
  obtain ⟨caps', he'⟩ := callee_is F hg0
  rw [he] at he'
  have hgg : gg = g0 := by simp at he'; exact he'.1
  refine ⟨F1, hs1, caps, he, hf.app hcf (fun _ _ h => h) (fun b hb => hb) (fun _ h => h.elim), fun hpl => ?_⟩
  unfold argsPlain at hpl
  split at hpl
  · rename_i hpf
    exact (hp (by rw [← hgg]; exact hpl)).app (hcp hpf) (fun _ _ h => h) (fun b hb => hb) (fun _ h => h.elim)
  · cases hpl

theorem isCall_is {o : Op} {f : Operand} {args : Array Operand} (h : isCall o = some (f, args)) : ∃ tys, o = .call { callee := .value f, args := args, argTypes := tys } := by
  unfold isCall at h
  split at h
  · cases h; exact ⟨_, rfl⟩
  · cases h

/-- a call -/
theorem call_core (hΦ : ∀ f as r, Φ f as r → Sound P f as r) {Q : Exit → Act → World → Prop} {o : Oper} {K' : Act → World → Prop} {f : Operand} {args : Array Operand} {gg : FuncId} {as : List AV} {r : AV} {Pl : Prop} {caps : Array Value}
    (hc : isCall o.op = some (f, args)) (F1 : FR w0 B0 Fin s1 a w g) (hf : a.eval f = .func (.func gg) #[] caps) (hfam : Fam (VS w (used g s1)) as (args.toList.map a.eval ++ caps.toList) (Freed w0 w Fin g s s1))
    (hfamp : Pl → Fam (VS w g.B) as (args.toList.map a.eval ++ caps.toList) (Freed w0 w Fin g s s1)) (hr : Φ gg as r) (hp : Pl ∨ r.own)
    (hk : ∀ v w' g' G vs cs, cs = caps.toList → vs = args.toList.map a.eval ++ cs → FR w0 B0 Fin s1 a w' g' → VX w' g'.B vs r v G → Take w0 w' Fin g' s1 G → (∀ b, g.B b → g'.B b ∧ w'.heap[b]? = w.heap[b]?) → K' (a.put o.dst v) w') : o.wp P a w K' Q := by
  obtain ⟨⟨fn, hfn, hbody, hname⟩, hs⟩ := hΦ _ _ _ hr
  obtain ⟨tys, ho⟩ := isCall_is hc
  have hrun : (execOp a.eval o).run P w = .ok (.enter gg ((args.toList.map a.eval ++ caps.toList).toArray)) w := by
    have hb : fn.body ≠ none := by intro h; simp [h] at hbody
    have hn : ¬ fn.name = "runtime.NumGoroutine" := by simpa using hname
    have e : (args.toList.map a.eval ++ caps.toList).toArray = args.map a.eval ++ caps := by apply Array.ext'; simp
    rw [e]
    simp [execOp, ho, resolve, hf, Deferred.ofValue, invoke, callFunc, hfn, hn, hb]
  unfold Oper.wp
  rw [hrun]
  rw [Oper.upon_enter]
  let Fc := Freed w0 w Fin g s s1
  have key : ∀ B : Nat → Prop, (∀ b, B b → used g s1 b) → Fam (VS w B) as (args.toList.map a.eval ++ caps.toList) Fc → (∀ w' B' r' F' v, VX w' B' (args.toList.map a.eval ++ caps.toList) r v F' → (∀ b, B' b → b < w'.heap.size ∧ ¬ F' b ∧ (B b ∨ Fc b ∨ w.heap.size ≤ b)) → r' = r →
      ∃ B2 : Nat → Prop, VX w' (fun b => g.B b ∨ B2 b) (args.toList.map a.eval ++ caps.toList) r v F' ∧ ∀ b, B2 b → ¬ F' b ∧ b < w'.heap.size ∧ (g.B b ∨ Fc b ∨ w.heap.size ≤ b)) →
      Calls P gg (args.toList.map a.eval ++ caps.toList).toArray w fun e w' => ∃ v, e = .returned v ∧ K' (a.put o.dst v) w' := by
    intro B hB hfa hres
    refine (hs w _ B Fc (fun b hb => ⟨F1.used_lt (hB b hb), fun hf => hf.2.2.1 (hB b hb)⟩) (fun b hb => hb.1) hfa).mono ?_
    rintro e w' ⟨v, B', F', rfl, hvr, hB', hF', hkp⟩
    obtain ⟨B2, hvr2, hB2⟩ := hres w' B' r F' v hvr hB' rfl
    have hu : ∀ b, used g s1 b → w'.heap[b]? = w.heap[b]? := fun b hb => hkp.block b (F1.used_lt hb) fun hf => hf.2.2.1 hb
    have F2 := F1.world hkp.size hu (F1.kp.step hkp fun b hb hf => by
      rcases hf.2.1 with h | h
      · exact h
      · omega)
    have F3 := F2.grow B2 fun b hb => by
      obtain ⟨_, h2, h3⟩ := hB2 b hb
      refine ⟨h2, ?_, ?_⟩
      · rcases h3 with h3 | h3 | h3
        · exact (F1.bb b h3).2
        · exact .inr h3.2.1
        · exact .inr (.inr (Nat.le_trans F1.kp.size h3))
      · rcases h3 with h3 | h3 | h3
        · exact .inl h3
        · exact .inr h3.2.2.1
        · exact .inr fun hu' => by have := F1.used_lt hu'; omega
    refine ⟨v, rfl, hk v w' _ F' _ caps.toList rfl rfl F3 hvr2 ?_ (fun b hb => ⟨.inl hb, hu b (.inl hb)⟩)⟩
    intro b hb
    obtain ⟨h1, h2⟩ := hF' b hb
    refine ⟨h1, ?_, ?_⟩
    · rcases h2 with h2 | h2
      · exact h2.2.1
      · exact .inr (Nat.le_trans F1.kp.size h2)
    · intro hu'
      have hu1 : used g s1 b ∨ B2 b := by
        rcases hu' with (h | h) | h
        · exact .inl (.inl h)
        · exact .inr h
        · exact .inl (.inr h)
      rcases hu1 with hu1 | hu1
      · rcases h2 with h2 | h2
        · exact h2.2.2.1 hu1
        · have := F1.used_lt hu1; omega
      · exact (hB2 b hu1).1 hb
  by_cases hpl : Pl
  · refine (key g.B (fun b hb => .inl hb) (hfamp hpl) ?_).mono (by rintro e w' ⟨v, rfl, h⟩; exact h)
    intro w' B' r' F' v hvr hB' _
    exact ⟨B', hvr.mono (fun b hb => ⟨.inr hb, rfl⟩) fun _ _ => rfl, fun b hb => ⟨(hB' b hb).2.1, (hB' b hb).1, (hB' b hb).2.2⟩⟩
  · have hown : r.own := by
      rcases hp with h1 | h1
      · exact absurd h1 hpl
      · exact h1
    refine (key (used g s1) (fun b hb => hb) hfam ?_).mono (by rintro e w' ⟨v, rfl, h⟩; exact h)
    intro w' B' r' F' v hvr hB' _
    exact ⟨fun _ => False, hvr.any hown, fun b hb => hb.elim⟩

theorem call_sound (hΦ : ∀ f as r, Φ f as r → Sound P f as r) {Q : Exit → Act → World → Prop} {o : Oper} {K' : Act → World → Prop} {md : Modes} {f : Operand} {args : Array Operand} {gg : FuncId} {as : List AV} {r : AV}
    (hc : isCall o.op = some (f, args)) (F : FR w0 B0 Fin s a w g) (ha : argsAV md s f args.toList = some (gg, as, s1)) (hr : Φ gg as r) (hp : argsPlain md s1 f args.toList gg = true ∨ r.own)
    (hk : ∀ v w' g' G vs cs, vs = args.toList.map a.eval ++ cs → FR w0 B0 Fin s1 a w' g' → VX w' g'.B vs r v G → Take w0 w' Fin g' s1 G → (∀ b, g.B b → g'.B b ∧ w'.heap[b]? = w.heap[b]?) → K' (a.put o.dst v) w') : o.wp P a w K' Q := by
  obtain ⟨F1, hs1, caps, hf, hfam, hfamp⟩ := argsAV_sound F ha
  exact call_core hΦ hc F1 hf hfam hfamp hr hp fun v w' g' G vs cs _ => hk v w' g' G vs cs
theorem tmpsOf_eq : ∀ ks : List Nat, tmpsOf ks = ks.map Operand.tmp
  | [] => rfl
  | k :: ks => by rw [tmpsOf, tmpsOf_eq ks]; rfl
theorem withCaps_eq : ∀ (xs : List Operand) (ks : List Nat), withCaps xs ks = xs ++ ks.map Operand.tmp
  | [], ks => by rw [withCaps, tmpsOf_eq]; rfl
  | x :: xs, ks => by rw [withCaps, withCaps_eq xs ks]; rfl
theorem capsAt_vals (F : FR w0 B0 Fin s a w g) : ∀ {cs : List AV} {ks : List Nat} {vs : List Value}, capsAt s cs ks = true → cs.length = vs.length → (∀ (k : Nat) (x : AV) (v : Value), cs[k]? = some x → vs[k]? = some v → CR w g s.h s.o x v) → vs = (ks.map Operand.tmp).map a.eval := by
  intro cs
  induction cs with
  | nil =>
    intro ks vs h hl _
    cases ks with
    | nil => cases vs with
      | nil => rfl
      | cons _ _ => simp at hl
    | cons _ _ => simp [capsAt] at h
  | cons c cs ih =>
    intro ks vs h hl hr
    cases ks with
    | nil => simp [capsAt] at h
    | cons k ks =>
      cases vs with
      | nil => simp at hl
      | cons v vs =>
        have h0 := hr 0 c v rfl rfl
        have h' : ∃ j i, c = .bp j 0 ∧ s.get k = .bp i 0 ∧ Nat.beq i j = true ∧ capsAt s cs ks = true := by
          unfold capsAt at h
          split at h
          · rename_i j
            split at h
            · rename_i i hk
              split at h
              · rename_i he; exact ⟨j, i, rfl, hk, he, h⟩
              · cases h
            · cases h
          · cases h
        obtain ⟨j, i, rfl, hk, he, hcs⟩ := h'
        have := beq_t he; subst this
        have hv := F.ev (.tmp k)
        have e1 : s.ev (.tmp k) = .bp i 0 := hk
        rw [e1] at hv
        have e : v = a.eval (.tmp k) := by
          generalize a.eval (.tmp k) = z at hv
          cases hv with
          | bp _ _ _ _ => cases h0 with
            | bp _ _ _ _ => rfl
        rw [List.map_cons, List.map_cons, ← e, ← ih hcs (by simpa using hl) (fun n x u h1 h2 => hr (n + 1) x u (by simpa using h1) (by simpa using h2))]
/-- a call of a closure over boxes that slots hold, too -/
theorem callV_sound (hΦ : ∀ f as r, Φ f as r → Sound P f as r) {Q : Exit → Act → World → Prop} {o : Oper} {K' : Act → World → Prop} {ms : List Bool} {f : Operand} {args : Array Operand} {ks : List Nat} {gg : FuncId} {as : List AV} {r : AV}
    (hc : isCall o.op = some (f, args)) (F : FR w0 B0 Fin s a w g) (hcap : capsV s f ks = some gg) (ha : movesL ms s (withCaps args.toList ks) = some (as, s1)) (hr : Φ gg as r) (hp : allPlain ms s1 (withCaps args.toList ks) = true ∨ r.own)
    (hk : ∀ v w' g' G vs cs, vs = (withCaps args.toList ks).map a.eval ++ cs → FR w0 B0 Fin s1 a w' g' → VX w' g'.B vs r v G → Take w0 w' Fin g' s1 G → (∀ b, g.B b → g'.B b ∧ w'.heap[b]? = w.heap[b]?) → K' (a.put o.dst v) w') : o.wp P a w K' Q := by
  obtain ⟨F1, hs1, hfa, hfp⟩ := moves_sound F ha
  unfold capsV at hcap
  split at hcap
  case h_2 => cases hcap
  rename_i g2 caps hfe
  split at hcap
  case h_2 => cases hcap
  rename_i hat
  cases hcap
  have hf := F.ev f
  rw [hfe] at hf
  generalize hz : a.eval f = z at hf
  cases hf with
  | fn _ _ vs hl hrr =>
    have e := capsAt_vals F hat hl hrr
    have e2 : (withCaps args.toList ks).map a.eval = args.toList.map a.eval ++ vs.toArray.toList := by
      rw [withCaps_eq, List.map_append, ← e]
    rw [e2] at hfa hfp
    refine call_core hΦ hc F1 hz hfa hfp hr hp fun v w' g' G us cs hcs hus => ?_
    subst hcs
    exact hk v w' g' G us [] (by rw [hus, e2, List.append_nil])

/-- a root anew: what is told stays told -/
theorem newRoot_all (F : FR w0 B0 Fin s a w g) {id : Nat} {q : QV} {rows : List (List T)} {v : Value} {sz : Nat} {G : Nat → Prop} (h : s.putO id q rows = some s') (hf : lk s.o id = none) (hr : Root w g.B q.n rows v sz G) (hG : Take w0 w Fin g s G) (hq : ∀ u, q.v = some u → v = u) :
    ∃ g', FR w0 B0 Fin s' a w g' ∧ g'.B = g.B ∧ g'.rv id = v ∧ (∀ x u, CR w g s.h s.o x u → CR w g' s'.h s'.o x u) ∧ (∀ b, used g' s' b → used g s b ∨ G b) ∧ lk s'.o id = some (q, rows) ∧ g'.lc = g.lc ∧ s'.h = s.h ∧ s'.n = s.n := by
  obtain ⟨e1, e2, e3, e4⟩ := putO_parts h
  have hne : ∀ i c, lk s.o i = some c → i ≠ id := fun i c hi e => by subst e; rw [hf] at hi; cases hi
  refine ⟨_, F.newRoot h hf hr hG hq, rfl, upd_same _ _ _, ?_, ?_, by rw [e4, if_pos rfl], rfl, e2, e3⟩
  · intro x u hx
    exact hx.mono (w' := w) (g' := { g with rv := upd g.rv id v, sz := upd g.sz id sz, fo := upd g.fo id G }) (h' := s'.h) (o' := s'.o) (fun b hb => ⟨hb, rfl⟩)
      (fun i cs _ h1 => ⟨⟨cs, by rw [e2]; exact h1⟩, rfl⟩) (fun i r _ h1 => ⟨⟨r, by rw [e4, if_neg (Ne.symm (hne i r h1))]; exact h1, rfl⟩, upd_other _ _ (hne i r h1), upd_other _ _ (hne i r h1)⟩)
      (fun i r b _ h1 h2 _ => ⟨by show upd g.fo id G i b; rw [upd_other _ _ (hne i r h1)]; exact h2, rfl⟩)
  · rintro b (hb | ⟨i, c, hi, rfl⟩ | ⟨j, r, hj, hb⟩)
    · exact .inl (.inl hb)
    · rw [e2] at hi; exact .inl (.inr (.inl ⟨i, c, hi, rfl⟩))
    · by_cases hj' : j = id
      · subst hj'; simp only [upd_same] at hb; exact .inr hb
      · rw [e4, if_neg (Ne.symm hj')] at hj
        simp only [upd_other _ _ hj'] at hb
        exact .inl (.inr (.inr ⟨j, r, hj, hb⟩))

theorem free_none {s : St} {d : Nat} (h : s.free d = true) : lk s.o d = none := by
  unfold St.free at h
  split at h
  · cases h
  · split at h
    · cases h
    · rename_i h2; exact h2

/-- what comes back -/
def Back (w0 : World) (B0 Fin : Nat → Prop) (a : Act) (w' : World) (g1 : Gh) (s1 s2 : St) (G : Nat → Prop) (g2 : Gh) : Prop :=
  FR w0 B0 Fin s2 a w' g2 ∧ g2.B = g1.B ∧ (∀ y u, CR w' g1 s1.h s1.o y u → CR w' g2 s2.h s2.o y u) ∧ ∀ b, used g2 s2 b → used g1 s1 b ∨ G b

theorem reC_sound (F0 : FR w0 B0 Fin s a w g) {w' : World} {g1 : Gh} {s2 : St} (F : FR w0 B0 Fin s1 a w' g1) (hB : ∀ b, g.B b → g1.B b ∧ w'.heap[b]? = w.heap[b]?) {x o : AV} {v : Value} {G : Nat → Prop} (hx : CR w g s.h s.o x v) (ho : VC w' g1.B o v G) (hG : Take w0 w' Fin g1 s1 G)
    (h : reC s s1 x o = some s2) : ∃ g2, Back w0 B0 Fin a w' g1 s1 s2 G g2 ∧ CR w' g2 s2.h s2.o x v := by
  obtain ⟨y, rfl, ho⟩ := ho
  unfold reC at h
  split at h
  · rename_i id
    simp only at h
    split at h
    case h_2 => cases h
    rename_i rows
    split at h
    case h_2 => cases h
    rename_i q r0 hq
    split at h
    case h_2 => cases h
    rename_i hf
    obtain ⟨sz, hr⟩ := ho.root
    cases hx with
    | rf _ rows' hi =>
      obtain ⟨g2, f1, f2, f3, f4, f5, f6, _⟩ := newRoot_all F h (free_none hf) hr hG (fun u hu => F0.tv id _ u hq hu)
      exact ⟨g2, ⟨f1, f2, f4, f5⟩, by rw [← f3]; exact .rf id _ f6⟩
  · cases h
    cases hx with
    | t x v hr => exact ⟨g1, ⟨F, rfl, fun _ _ h => h, fun _ h => .inl h⟩, .t _ _ (hr.mono hB)⟩
  · cases h

theorem reL_sound (F0 : FR w0 B0 Fin s a w g) {w' : World} : ∀ {xs os : List AV} {vs : List Value} {g1 : Gh} {s1 s2 : St} {G : Nat → Prop}, FR w0 B0 Fin s1 a w' g1 → (∀ b, g.B b → g1.B b ∧ w'.heap[b]? = w.heap[b]?) → CRs w g s.h s.o xs vs → Fam (VC w' g1.B) os vs G → Take w0 w' Fin g1 s1 G →
    reL s s1 xs os = some s2 → ∃ g2, Back w0 B0 Fin a w' g1 s1 s2 G g2 ∧ CRs w' g2 s2.h s2.o xs vs := by
  intro xs
  induction xs with
  | nil =>
    intro os vs g1 s1 s2 G F hB hx ho hG h
    cases os with
    | nil =>
      rw [reL] at h; cases h
      exact ⟨g1, ⟨F, rfl, fun _ _ h => h, fun _ h => .inl h⟩, hx.1, fun k x v hk => by simp at hk⟩
    | cons => simp [reL] at h
  | cons x xs ih =>
    intro os vs g1 s1 s2 G F hB hx ho hG h
    cases os with
    | nil => simp [reL] at h
    | cons o os =>
      rw [reL] at h
      split at h
      case h_2 => cases h
      rename_i s3 h1
      cases ho with
      | cons _ _ v us G1 G2 _ ho hos hd hs1 hs2 =>
        obtain ⟨v', us', e, hx1, hxs⟩ := hx.head
        cases e
        obtain ⟨g3, ⟨f1, f2, f3, f4⟩, c1⟩ := reC_sound F0 F hB hx1 ho (hG.sub hs1) h1
        have hG3 : Take w0 w' Fin g3 s3 G2 := fun b hb => ⟨(hG b (hs2 b hb)).1, (hG b (hs2 b hb)).2.1, fun hu => by
          rcases f4 b hu with h' | h'
          · exact (hG b (hs2 b hb)).2.2 h'
          · exact hd b h' hb⟩
        obtain ⟨g4, ⟨e1, e2, e3, e4⟩, c2⟩ := ih f1 (by rw [f2]; exact hB) hxs (by rw [f2]; exact hos) hG3 h
        refine ⟨g4, ⟨e1, e2.trans f2, fun y u hy => e3 y u (f3 y u hy), fun b hb => ?_⟩, .cons (e3 _ _ c1) c2⟩
        rcases e4 b hb with h' | h'
        · rcases f4 b h' with h'' | h''
          · exact .inl h''
          · exact .inr (hs1 b h'')
        · exact .inr (hs2 b h')

theorem reB_sound {w' : World} : ∀ {os : List AV} {vs : List Value} {g1 : Gh} {s1 s2 : St} {G : Nat → Prop} {id : Nat} {l : List AV}, FR w0 B0 Fin s1 a w' g1 → Fam (VC w' g1.B) os vs G → Take w0 w' Fin g1 s1 G →
    reB s1 id os = some (l, s2) → ∃ g2, Back w0 B0 Fin a w' g1 s1 s2 G g2 ∧ CRs w' g2 s2.h s2.o l vs ∧ g2.lc = g1.lc ∧ s2.h = s1.h ∧ s2.n = s1.n := by
  intro os
  induction os with
  | nil =>
    intro vs g1 s1 s2 G id l F ho hG h
    rw [reB] at h; cases h
    cases ho
    exact ⟨g1, ⟨F, rfl, fun _ _ h => h, fun _ h => .inl h⟩, .nil, rfl, rfl, rfl⟩
  | cons x os ih =>
    intro vs g1 s1 s2 G id l F ho hG h
    cases ho with
    | cons _ _ v us G1 G2 _ ho hos hd hs1 hs2 =>
      obtain ⟨y, rfl, ho⟩ := ho
      have plain : ∀ {l' : List AV} {s' : St}, Rep w' g1.B y v → reB s1 (Nat.add id 1000) os = some (l', s') → ∃ g2, Back w0 B0 Fin a w' g1 s1 s' G g2 ∧ CRs w' g2 s'.h s'.o (.t y :: l') (v :: us) ∧ g2.lc = g1.lc ∧ s'.h = s1.h ∧ s'.n = s1.n := by
        intro l' s' hr h'
        obtain ⟨g2, ⟨b1, b2, b3, b4⟩, c, e1, e2, e3⟩ := ih F hos (hG.sub hs2) h'
        exact ⟨g2, ⟨b1, b2, b3, fun b hb => (b4 b hb).imp (fun h => h) (hs2 b)⟩, .cons (b3 _ _ (.t _ _ hr)) c, e1, e2, e3⟩
      simp only [reB] at h
      split at h
      · rename_i rows
        split at h
        case h_2 => cases h
        rename_i hf
        split at h
        case h_2 => cases h
        rename_i s3 h3
        split at h
        case h_2 => cases h
        rename_i l' s4 h4
        cases h
        obtain ⟨sz, hr⟩ := ho.root
        obtain ⟨g3, f1, f2, f3, f4, f5, f6, f7, f8, f9⟩ := newRoot_all F h3 (free_none hf) hr (hG.sub hs1) (fun u hu => by cases hu)
        have hG3 : Take w0 w' Fin g3 s3 G2 := fun b hb => ⟨(hG b (hs2 b hb)).1, (hG b (hs2 b hb)).2.1, fun hu => by
          rcases f5 b hu with h' | h'
          · exact (hG b (hs2 b hb)).2.2 h'
          · exact hd b h' hb⟩
        obtain ⟨g4, ⟨b1, b2, b3, b4⟩, c, e1, e2, e3⟩ := ih f1 (by rw [f2]; exact hos) hG3 h4
        refine ⟨g4, ⟨b1, b2.trans f2, fun y u hy => b3 y u (f4 y u hy), fun b hb => ?_⟩, .cons ?_ c, e1.trans f7, e2.trans f8, e3.trans f9⟩
        · rcases b4 b hb with h' | h'
          · rcases f5 b h' with h'' | h''
            · exact .inl h''
            · exact .inr (hs1 b h'')
          · exact .inr (hs2 b h')
        · refine b3 _ _ ?_
          rw [← f3]; exact .rf id _ f6
      · split at h
        case h_2 => cases h
        rename_i l' s' h'
        cases h
        cases ho with
        | sh rows v F hr => exact plain hr h'
      · split at h
        case h_2 => cases h
        rename_i l' s' h'
        cases h
        cases ho with
        | sc v F => exact plain (.sc _) h'
      · split at h
        case h_2 => cases h
        rename_i l' s' h'
        cases h
        cases ho with
        | pt cs v F hr => exact plain hr h'
      · split at h
        case h_2 => cases h
        rename_i l' s' h'
        cases h
        cases ho with
        | fn f cs v F hr => exact plain hr h'

theorem reA_sound (F0 : FR w0 B0 Fin s a w g) {w' : World} {g1 : Gh} {s2 : St} (F : FR w0 B0 Fin s1 a w' g1) (hB : ∀ b, g.B b → g1.B b ∧ w'.heap[b]? = w.heap[b]?) {x o : AV} {v : Value} {G : Nat → Prop} (hx : CR w g s.h s.o x v) (ho : VS w' g1.B o v G) (hG : Take w0 w' Fin g1 s1 G)
    (h : reA s s1 x o = some s2) : ∃ g2, Back w0 B0 Fin a w' g1 s1 s2 G g2 ∧ CR w' g2 s2.h s2.o x v := by
  unfold reA at h
  split at h
  · rename_i cs
    split at h
    case h_2 => cases h
    rename_i os
    rcases ho with ⟨y, e, _⟩ | ⟨cs', vs, e, rfl, ho⟩ | ⟨_, _, _, _, _, e, _⟩
    · cases e
    rotate_left 1
    · cases e
    · cases e
      cases hx with
      | ag _ vs' hl hr =>
        rename_i hv
        obtain ⟨g2, b1, b2⟩ := reL_sound F0 F hB ⟨hl, hr⟩ ho hG h
        exact ⟨g2, b1, .ag _ _ b2.1 b2.2⟩
  · rename_i id off
    split at h
    case h_2 => cases h
    split at h
    case h_2 => cases h
    rename_i os
    split at h
    case h_2 => cases h
    rename_i l s3 h3
    split at h
    case h_2 => cases h
    rename_i hfree
    obtain ⟨cs0, vs, b, ty, F1, e0, hv, hh, hfam, hF1, hnb, hb⟩ : VB w' g1.B (.io os) v G := by
      rcases ho with ⟨y, e, _⟩ | ⟨cs', vs, e, _⟩ | ho
      · cases e
      · cases e
      · obtain ⟨ds, vs, b, ty, F1, e, q⟩ := ho
        cases e
        exact ⟨_, vs, b, ty, F1, rfl, q⟩
    cases e0
    subst hv
    generalize hz : Value.pointer (some ⟨b, 0, none⟩) = z at hx
    cases hx with
    | bp _ _ cells hi =>
      have hbl : b = g.lc id := by injection hz with hz; injection hz with hz; injection hz
      obtain ⟨g3, ⟨b1, b2, b3, b4⟩, c3, q1, q2, q3⟩ := reB_sound F hfam (hG.sub hF1) h3
      have hTb : b < w'.heap.size ∧ (Fin b ∨ w0.heap.size ≤ b) ∧ ¬ used g3 s3 b := ⟨(hG b hb).1, (hG b hb).2.1, fun hu => by
        rcases b4 b hu with h' | h'
        · exact (hG b hb).2.2 h'
        · exact hnb h'⟩
      have hn0 : s2.n = s.n := by
        obtain ⟨_, _, p3, _⟩ := putH_parts h
        rw [p3, q3, ← F.n, F0.n]
      obtain ⟨g4, FR4, r1, r2, r3, r4, r5, r6, r7, r8⟩ := b1.argBox h hfree hh hTb (fun b' hn' hL => by rw [hbl]; exact F0.bl id cells b' hi (by omega) hL) c3
      refine ⟨g4, ⟨FR4, r1.trans b2, fun y u hy => r4 y u (b3 y u hy), fun c hc => ?_⟩, ?_⟩
      · rcases r5 c hc with h' | rfl
        · rcases b4 c h' with h'' | h''
          · exact .inl h''
          · exact .inr (hF1 c h'')
        · exact .inr hb
      · have := CR.bp (w := w') (g := g4) (h := s2.h) (o := s2.o) id 0 l r8
        rw [r3, hbl] at this; exact this
  · rcases ho with ho | ⟨cs', vs, rfl, rfl, ho⟩ | ⟨_, _, _, _, _, rfl, _⟩
    · exact reC_sound F0 F hB hx ho hG h
    all_goals (
      unfold reC at h
      split at h
      · cases h
      · cases h
        cases hx with
        | t x v hr => exact ⟨g1, ⟨F, rfl, fun _ _ h => h, fun _ h => .inl h⟩, .t _ _ (hr.mono hB)⟩
      · cases h)

theorem rfIn_mem {id : Nat} : ∀ {cs : List AV}, rfIn id cs = true → ∃ m : Nat, cs[m]? = some (.rf id) := by
  intro cs
  induction cs with
  | nil => intro h; cases h
  | cons x cs ih =>
    intro h
    unfold rfIn at h
    split at h
    · rename_i i
      split at h
      · rename_i hb; have := beq_t hb; subst this; exact ⟨0, rfl⟩
      · obtain ⟨m, hm⟩ := ih h; exact ⟨m + 1, by simpa using hm⟩
    · obtain ⟨m, hm⟩ := ih h; exact ⟨m + 1, by simpa using hm⟩
theorem isBack_val {w' : World} {g1 : Gh} {s1 : St} {x : AV} {u : Value} {i : Nat} (h : isBack x i = true) (h0 : CR w g s.h s.o x u) (h1 : CR w' g1 s1.h s1.o x u) : g1.rv i = g.rv i ∧ ∃ r, lk s1.o i = some r := by
  unfold isBack at h
  split at h
  · have := beq_t h; subst this
    cases h0 with
    | rf _ rows hi =>
      generalize hz : g.rv _ = z at h1
      cases h1 with
      | rf _ rows' hi' => exact ⟨rfl, _, hi'⟩
  · rename_i cs
    obtain ⟨m, hm⟩ := rfIn_mem h
    cases h0 with
    | ag _ vs hl hr =>
      generalize hz : Value.agg _ = z at h1
      cases h1 with
      | ag _ vs' hl' hr' =>
        cases hz
        have hlt : m < vs.length := by have := nth_lt hm; omega
        have a1 := hr m _ _ hm (List.getElem?_eq_getElem hlt)
        have a2 := hr' m _ _ hm (List.getElem?_eq_getElem hlt)
        generalize hz : vs[m] = z at a1 a2
        cases a1 with
        | rf _ rows hi =>
          generalize hz2 : g.rv i = z2 at a2
          cases a2 with
          | rf _ rows' hi' => exact ⟨rfl, _, hi'⟩
  · cases h
theorem reSlots_sound {w' : World} {g1 : Gh} {x : AV} {t : List (Nat × AV)} : ∀ {l : List (Nat × AV)} {s1 s2 : St}, FR w0 B0 Fin s1 a w' g1 → (∀ k i, lk t k = some (.rf i) → isBack x i = true → ∃ v, a.tmps[k]? = some v ∧ v = g1.rv i ∧ ∃ r, lk s1.o i = some r) →
    (∀ k i o, lk t k = some (.bp i o) → isBox x i = true → ∃ v, a.tmps[k]? = some v ∧ v = .pointer (some ⟨g1.lc i, o, none⟩) ∧ ∃ c, lk s1.h i = some c) →
    reSlots x t l s1 = some s2 → FR w0 B0 Fin s2 a w' g1 ∧ s2.h = s1.h ∧ s2.o = s1.o := by
  intro l
  induction l with
  | nil => intro s1 s2 F _ _ h; rw [reSlots] at h; cases h; exact ⟨F, rfl, rfl⟩
  | cons p l ih =>
    obtain ⟨k, y0⟩ := p
    intro s1 s2 F hq hq2 h
    rw [reSlots] at h
    split at h
    · rename_i y hy
      split at h
      · rename_i i
        split at h
        · rename_i hb
          split at h
          · rename_i s3 h3
            obtain ⟨v, hv, e, r, hr⟩ := hq k i hy hb
            subst e
            obtain ⟨e1, e2, e3, e4, e5⟩ := putT_parts h3
            have F3 := F.retell hv h3 (.rf i r hr)
            obtain ⟨a1, a2, a3⟩ := ih F3 (fun k' i' h1 h2 => by rw [e2]; exact hq k' i' h1 h2) (fun k' i' o' h1 h2 => by rw [e1]; exact hq2 k' i' o' h1 h2) h
            exact ⟨a1, a2.trans e1, a3.trans e2⟩
          · cases h
        · exact ih F hq hq2 h
      · rename_i i o
        split at h
        · rename_i hb
          split at h
          · rename_i s3 h3
            obtain ⟨v, hv, e, c, hc⟩ := hq2 k i o hy hb
            subst e
            obtain ⟨e1, e2, e3, e4, e5⟩ := putT_parts h3
            have F3 := F.retell hv h3 (.bp i o c hc)
            obtain ⟨a1, a2, a3⟩ := ih F3 (fun k' i' h1 h2 => by rw [e2]; exact hq k' i' h1 h2) (fun k' i' o' h1 h2 => by rw [e1]; exact hq2 k' i' o' h1 h2) h
            exact ⟨a1, a2.trans e1, a3.trans e2⟩
          · cases h
        · exact ih F hq hq2 h
      · exact ih F hq hq2 h
    · exact ih F hq hq2 h

theorem bpSlot_is {t t1 : List (Nat × AV)} {j o : Nat} : ∀ {l : List (Nat × AV)} {k : Nat}, bpSlot t t1 j o l = some k → lk t k = some (.bp j o) ∧ lk t1 k = some (.bp j o) := by
  intro l
  induction l with
  | nil => intro k h; rw [bpSlot] at h; cases h
  | cons p l ih =>
    obtain ⟨k0, y0⟩ := p
    intro k h
    rw [bpSlot] at h
    split at h
    case h_2 => exact ih h
    rename_i i o' hk
    split at h
    case h_2 => exact ih h
    rename_i e1
    split at h
    case h_2 => exact ih h
    rename_i e2
    split at h
    case h_2 => exact ih h
    rename_i i2 o2 hk2
    split at h
    case h_2 => exact ih h
    rename_i e3
    split at h
    case h_2 => exact ih h
    rename_i e4
    cases h
    have := beq_t e1; subst this
    have := beq_t e2; subst this
    have := beq_t e3; subst this
    have := beq_t e4; subst this
    exact ⟨hk, hk2⟩
theorem capsIn_sound (F0 : FR w0 B0 Fin s a w g) {w' : World} {g1 : Gh} {s1 : St} (F : FR w0 B0 Fin s1 a w' g1) : ∀ {cs : List AV}, capsIn s.t s1.t cs = true → ∀ (k : Nat) (x : AV) (v : Value), cs[k]? = some x → CR w g s.h s.o x v → CR w' g1 s1.h s1.o x v := by
  intro cs
  induction cs with
  | nil => intro _ k x v h; simp at h
  | cons c cs ih =>
    intro h k x v hx hv
    have h' : ∃ j o k2, c = .bp j o ∧ bpSlot s.t s1.t j o s.t = some k2 ∧ capsIn s.t s1.t cs = true := by
      unfold capsIn at h
      split at h
      · rename_i j o
        split at h
        · rename_i k2 hk2; exact ⟨j, o, k2, rfl, hk2, h⟩
        · cases h
      · cases h
    obtain ⟨j, o, k2, rfl, hk2, hcs⟩ := h'
    cases k with
    | succ k => exact ih hcs k x v (by simpa using hx) hv
    | zero =>
      simp at hx; subst hx
      obtain ⟨h1, h2⟩ := bpSlot_is hk2
      obtain ⟨v1, a1, c1⟩ := F0.tm _ _ h1
      obtain ⟨v2, a2, c2⟩ := F.tm _ _ h2
      rw [a1] at a2; cases a2
      cases hv with
      | bp _ _ _ _ =>
        cases c1 with
        | bp _ _ _ _ => exact c2
theorem reFns_sound (F0 : FR w0 B0 Fin s a w g) {w' : World} {g1 : Gh} : ∀ {l : List (Nat × AV)} {s1 s2 : St}, FR w0 B0 Fin s1 a w' g1 → reFns s.t l s1 = some s2 → FR w0 B0 Fin s2 a w' g1 ∧ s2.h = s1.h ∧ s2.o = s1.o := by
  intro l
  induction l with
  | nil => intro s1 s2 F h; rw [reFns] at h; cases h; exact ⟨F, rfl, rfl⟩
  | cons p l ih =>
    obtain ⟨k, y0⟩ := p
    intro s1 s2 F h
    rw [reFns] at h
    split at h
    case h_2 => exact ih F h
    rename_i gg caps hk
    split at h
    · exact ih F h
    · split at h
      case h_2 => exact ih F h
      rename_i hci
      split at h
      case h_2 => cases h
      rename_i s3 h3
      obtain ⟨v, hv, hr⟩ := F0.tm k _ hk
      obtain ⟨e1, e2, e3, e4, e5⟩ := putT_parts h3
      have hr' : CR w' g1 s1.h s1.o (.fn gg caps) v := by
        cases hr with
        | fn _ _ vs hl hrr => exact .fn _ _ vs hl fun n x u hx hu => capsIn_sound F0 F hci n x u hx (hrr n x u hx hu)
      obtain ⟨a1, a2, a3⟩ := ih (F.retell hv h3 hr') h
      exact ⟨a1, a2.trans e1, a3.trans e2⟩
theorem putOuts_sound (F0 : FR w0 B0 Fin s a w g) {w' : World} : ∀ {os : List AV} {xs : List Operand} {vs cs : List Value} {g1 : Gh} {s1 s2 : St} {G : Nat → Prop}, FR w0 B0 Fin s1 a w' g1 → (∀ b, g.B b → g1.B b ∧ w'.heap[b]? = w.heap[b]?) → vs = xs.map a.eval ++ cs → Fam (VO w' g1.B) os vs G → Take w0 w' Fin g1 s1 G →
    putOuts s s1 xs os = some s2 → ∃ g2, Back w0 B0 Fin a w' g1 s1 s2 G g2 ∨ (FR w0 B0 Fin s2 a w' g2 ∧ g2.B = g1.B ∧ ∀ b, used g2 s2 b → used g1 s1 b ∨ G b) := by
  intro os
  induction os with
  | nil => intro xs vs cs g1 s1 s2 G F hB hvs ho hG h; rw [putOuts] at h; cases h; exact ⟨g1, .inl ⟨F, rfl, fun _ _ h => h, fun _ h => .inl h⟩⟩
  | cons o os ih =>
    intro xs vs cs g1 s1 s2 G F hB hvs ho hG h
    cases ho with
    | cons _ _ v us G1 G2 _ ho hos hd hs1 hs2 =>
      cases xs with
      | nil =>
        rw [putOuts] at h
        split at h
        · obtain ⟨g2, hg⟩ := ih (xs := []) (cs := us) F hB rfl hos (hG.sub hs2) h
          refine ⟨g2, .inr ?_⟩
          rcases hg with ⟨a1, a2, _, a4⟩ | ⟨a1, a2, a4⟩
          · exact ⟨a1, a2, fun b hb => (a4 b hb).imp id (hs2 b)⟩
          · exact ⟨a1, a2, fun b hb => (a4 b hb).imp id (hs2 b)⟩
        · cases h
      | cons x xs =>
        simp only [List.map_cons, List.cons_append, List.cons.injEq] at hvs
        obtain ⟨rfl, rfl⟩ := hvs
        by_cases hu : isU o = true
        · have h : putOuts s s1 xs os = some s2 := by
            cases x <;> (rw [putOuts] at h <;> first | (simp only [hu] at h; exact h) | (intro k hk; cases hk))
          obtain ⟨g2, hg⟩ := ih F hB rfl hos (hG.sub hs2) h
          refine ⟨g2, .inr ?_⟩
          rcases hg with ⟨a1, a2, _, a4⟩ | ⟨a1, a2, a4⟩
          · exact ⟨a1, a2, fun b hb => (a4 b hb).imp id (hs2 b)⟩
          · exact ⟨a1, a2, fun b hb => (a4 b hb).imp id (hs2 b)⟩
        · have hu' : isU o = false := by simpa using hu
          have hx : ∃ k, x = .tmp k := by
            cases x with
            | tmp k => exact ⟨k, rfl⟩
            | const _ => rw [putOuts] at h <;> first | (simp only [hu'] at h; cases h) | (intro k hk; cases hk)
            | global _ => rw [putOuts] at h <;> first | (simp only [hu'] at h; cases h) | (intro k hk; cases hk)
            | func _ => rw [putOuts] at h <;> first | (simp only [hu'] at h; cases h) | (intro k hk; cases hk)
          obtain ⟨k, rfl⟩ := hx
          rw [putOuts] at h
          simp only [hu'] at h
          split at h
          case h_2 => cases h
          rename_i s3 h3
          split at h
          case h_2 => cases h
          rename_i s4' h4
          split at h
          case h_2 => cases h
          rename_i s4 hre
          have ho' : VS w' g1.B o (a.eval (.tmp k)) G1 := by
            rcases ho with rfl | ho
            · simp [isU] at hu
            · exact ho
          obtain ⟨g3, ⟨f1, f2, f3, f4⟩, c1⟩ := reA_sound F0 F hB (F0.ev (.tmp k)) ho' (hG.sub hs1) h3
          obtain ⟨e1, e2, e3, e4, e5⟩ := putT_parts h4
          have hkv : a.tmps[k]? = some (a.eval (.tmp k)) := by
            have : k < a.tmps.size := by rw [f1.n]; exact e4
            simp [Act.eval, Array.getD_eq_getD_getElem?, Array.getElem?_eq_getElem this]
          have F4' := f1.retell hkv h4 c1
          unfold reAll at hre
          split at hre
          case h_2 => cases hre
          rename_i s4a hre1
          obtain ⟨F4a, ra1, ra2⟩ := reSlots_sound F4' (fun k' i h1 h2 => by
            obtain ⟨v, hv, hr⟩ := F0.tm k' _ h1
            obtain ⟨b1, r, b2⟩ := isBack_val (s1 := s3) h2 (F0.ev (.tmp k)) c1
            cases hr with
            | rf _ _ _ => exact ⟨_, hv, b1.symm, r, by rw [e2]; exact b2⟩) (fun k' i o' h1 h2 => by
            obtain ⟨v, hv, hr⟩ := F0.tm k' _ h1
            cases hr with
            | bp _ _ c0 hc0 =>
              have hxx : ∃ o0, s.ev (.tmp k) = .bp i o0 := by
                unfold isBox at h2
                split at h2
                · rename_i i' o0 he; have := beq_t h2; subst this; exact ⟨o0, he⟩
                · cases h2
              obtain ⟨o0, hxx⟩ := hxx
              have d1 := F0.ev (.tmp k)
              have d2 := c1
              rw [hxx] at d1 d2
              generalize a.eval (.tmp k) = z at d1 d2
              cases d1 with
              | bp _ _ _ _ =>
                generalize hz : Value.pointer (some ⟨g.lc i, o0, none⟩) = z at d2
                cases d2 with
                | bp _ _ c2 hc2 =>
                  have hlc : g.lc i = g3.lc i := by injection hz with hz; injection hz with hz; injection hz
                  exact ⟨_, hv, by rw [hlc], c2, by rw [e1]; exact hc2⟩) hre1
          obtain ⟨F4, rb1, rb2⟩ := reFns_sound F0 F4a hre
          have r1 := rb1.trans ra1
          have r2 := rb2.trans ra2
          replace e1 := r1.trans e1
          replace e2 := r2.trans e2
          have hu4 : ∀ b, used g3 s4 b → used g3 s3 b := fun b hb => by unfold used at hb ⊢; rw [e1, e2] at hb; exact hb
          have hG4 : Take w0 w' Fin g3 s4 G2 := fun b hb => ⟨(hG b (hs2 b hb)).1, (hG b (hs2 b hb)).2.1, fun hu => by
            rcases f4 b (hu4 b hu) with h' | h'
            · exact (hG b (hs2 b hb)).2.2 h'
            · exact hd b h' hb⟩
          obtain ⟨g5, hg⟩ := ih F4 (by rw [f2]; exact hB) rfl (by rw [f2]; exact hos) hG4 h
          have fin : FR w0 B0 Fin s2 a w' g5 ∧ g5.B = g3.B ∧ ∀ b, used g5 s2 b → used g3 s4 b ∨ G2 b := by
            rcases hg with ⟨a1, a2, _, a4⟩ | ⟨a1, a2, a4⟩
            · exact ⟨a1, a2, a4⟩
            · exact ⟨a1, a2, a4⟩
          obtain ⟨a1, a2, a4⟩ := fin
          refine ⟨g5, .inr ⟨a1, a2.trans f2, fun b hb => ?_⟩⟩
          rcases a4 b hb with h' | h'
          · rcases f4 b (hu4 b h') with h'' | h''
            · exact .inl h''
            · exact .inr (hs1 b h'')
          · exact .inr (hs2 b h')

theorem putBack_sound (F0 : FR w0 B0 Fin s a w g) {w' : World} {g1 : Gh} {s2 : St} (F : FR w0 B0 Fin s1 a w' g1) (hB : ∀ b, g.B b → g1.B b ∧ w'.heap[b]? = w.heap[b]?) {dst : Option Nat} {xs : List Operand} {r : AV} {v : Value} {vs cs : List Value} {G : Nat → Prop} (hvs : vs = xs.map a.eval ++ cs)
    (hx : VX w' g1.B vs r v G) (hG : Take w0 w' Fin g1 s1 G) (h : putBack s s1 dst xs r = some s2) : ∃ g2, FR w0 B0 Fin s2 (a.put dst v) w' g2 := by
  unfold putBack at h
  split at h
  · rcases hx with ⟨e, _⟩ | ⟨r0, outs, F1, F2, e, hr0, hos, hd, hf1, hf2⟩
    · cases e
    cases e
    simp only at h
    split at h
    case h_2 => cases h
    rename_i s3 h3
    obtain ⟨g3, hg⟩ := putOuts_sound F0 F hB hvs hos (hG.sub hf2) h3
    have fin : FR w0 B0 Fin s3 a w' g3 ∧ g3.B = g1.B ∧ ∀ b, used g3 s3 b → used g1 s1 b ∨ F2 b := by
      rcases hg with ⟨a1, a2, _, a4⟩ | ⟨a1, a2, a4⟩
      · exact ⟨a1, a2, a4⟩
      · exact ⟨a1, a2, a4⟩
    obtain ⟨a1, a2, a4⟩ := fin
    refine putRes_sound a1 (by rw [a2]; exact hr0) (G := F1) (fun b hb => ⟨(hG b (hf1 b hb)).1, (hG b (hf1 b hb)).2.1, fun hu => ?_⟩) h
    rcases a4 b hu with h' | h'
    · exact (hG b (hf1 b hb)).2.2 h'
    · exact hd b hb h'
  · rename_i hne
    rcases hx with ⟨_, hx⟩ | ⟨r0, outs, F1, F2, e, _⟩
    · exact putRes_sound F hx hG h
    · exact absurd e (hne _)

/-- a frame, its boxes and roots somewhere -/
def FE (w0 : World) (B0 Fin : Nat → Prop) (s : St) (a : Act) (w : World) : Prop := ∃ g, FR w0 B0 Fin s a w g

/-- is a slice nil? -/
theorem nilQ_sound {tab : Tab} (hT : TabOk P tab) (F : FR w0 B0 Fin s a w g) {o : Oper} {n : Bool} {rows : List (List T)} (h : nilQ tab s o.op = some (n, rows)) : ∃ b, (execOp a.eval o).run P w = .ok (.value (.bool b)) w ∧ (rows ≠ [] → b = n) := by
  unfold nilQ at h
  split at h
  case h_2 => cases h
  rename_i op ty x yt ho
  split at h
  case h_2 => cases h
  rename_i e _ _ _ ht
  obtain ⟨d, hd, h2, _⟩ := ti_und (hT.1 _ _ ht) w
  cases td_sl h2
  have hxv := F.ev x
  have key : ∀ (v : Value), (v = .slice none 0 0 ∧ rows = [] ∨ ∃ q n c, v = .slice (some q) n c) → a.eval x = v → (op = .eql ∧ n = false ∨ op = .neq ∧ n = true) → ∃ b, (execOp a.eval o).run P w = .ok (.value (.bool b)) w ∧ (rows ≠ [] → b = n) := by
    intro v hv hxe hop
    have hce : a.eval (.const (.slice none 0 0)) = .slice none 0 0 := rfl
    have heq : ∀ u m c, (Op.equal ty (.slice u m c) (.slice none 0 0)).run P w = .ok u.isNone w := by
      intro u m c
      unfold Op.equal Op.maxDepth
      rw [show (10000 : Nat) = 9999 + 1 from rfl, Op.equalIn]
      cases u <;> simp [hd]
    rcases hv with ⟨rfl, hr⟩ | ⟨q, k, c, rfl⟩
    · rcases hop with ⟨rfl, rfl⟩ | ⟨rfl, rfl⟩
      · exact ⟨true, by simp [execOp, ho, hxe, hce, eqGuard, binOp, heq], fun h => absurd hr h⟩
      · exact ⟨false, by simp [execOp, ho, hxe, hce, eqGuard, binOp, heq], fun h => absurd hr h⟩
    · rcases hop with ⟨rfl, rfl⟩ | ⟨rfl, rfl⟩
      · exact ⟨false, by simp [execOp, ho, hxe, hce, eqGuard, binOp, heq], fun _ => rfl⟩
      · exact ⟨true, by simp [execOp, ho, hxe, hce, eqGuard, binOp, heq], fun _ => rfl⟩
  split at h
  · rename_i o1 rows1 hx
    rw [hx] at hxv
    generalize hz : a.eval x = z at hxv
    have hop : (op = .eql ∧ n = false ∨ op = .neq ∧ n = true) ∧ rows1 = rows := by
      split at h
      · cases h; exact ⟨.inl ⟨rfl, rfl⟩, rfl⟩
      · cases h; exact ⟨.inr ⟨rfl, rfl⟩, rfl⟩
      · cases h
    obtain ⟨hop, rfl⟩ := hop
    refine key z ?_ hz hop
    cases hxv with
    | t _ _ hr => cases hr with
      | nil => exact .inl ⟨rfl, rfl⟩
      | em => exact .inr ⟨_, _, _, rfl⟩
      | sl => exact .inr ⟨_, _, _, rfl⟩
  · rename_i id hx
    split at h
    case h_2 => cases h
    rename_i q rows1 hi
    rw [hx] at hxv
    generalize hz : a.eval x = z at hxv
    have hop : (op = .eql ∧ n = false ∨ op = .neq ∧ n = true) ∧ rows1 = rows := by
      split at h
      · cases h; exact ⟨.inl ⟨rfl, rfl⟩, rfl⟩
      · cases h; exact ⟨.inr ⟨rfl, rfl⟩, rfl⟩
      · cases h
    obtain ⟨hop, rfl⟩ := hop
    refine key z ?_ hz hop
    cases hxv with
    | rf _ _ _ =>
      rcases (F.rt id _ hi).1 with ⟨h1, h2⟩ | ⟨b, off, cap, us, Fs, cs, ty', hv, _⟩
      · exact .inl ⟨h2, h1⟩
      · exact .inr ⟨_, _, _, hv⟩
  · cases h

theorem op_sound {E : Env} (hT : TabOk P E.tab) (hΦ : ∀ f as r, Φ f as r → Sound P f as r) {Q : Exit → Act → World → Prop} {o : Oper} {K : St → Prop} {K' : Act → World → Prop}
    (F : FE w0 B0 Fin s a w) (h : wpOp Φ E o.op o.dst s K) (hk : ∀ s' a' w', K s' → FE w0 B0 Fin s' a' w' → K' a' w') : o.wp P a w K' Q := by
  obtain ⟨g, F⟩ := F
  unfold Ev.wpOp at h
  split at h
  · rename_i f args hc
    rcases h with ⟨gg, as, r, s1, s2, ha, hr, hp, hput, hK⟩ | ⟨ks, gg, as, r, s1, s2, hcap, ha, hr, hp, hput, hK⟩
    · refine call_sound hΦ hc F ha hr hp ?_
      intro v w' g' G vs cs hvs F' hv hG hB
      exact hk s2 _ w' hK (putBack_sound F F' hB hvs hv hG hput)
    · refine callV_sound hΦ hc F hcap ha hr hp ?_
      intro v w' g' G vs cs hvs F' hv hG hB
      exact hk s2 _ w' hK (putBack_sound F F' hB hvs hv hG hput)
  · rename_i hc
    rcases h with ⟨s', he, hK⟩ | ⟨c, s', he, hcc, hK⟩ | ⟨n, rows, fb, hn, hput, hK1, hK2⟩
    · unfold evalO at he
      split at he
      · obtain ⟨u, w', g', hrun, F'⟩ := evalM_sound hT F he
        unfold Oper.wp
        rcases hrun with hrun | ⟨hrun, rfl⟩
        · rw [hrun, Oper.upon_value]; exact hk _ _ _ hK ⟨g', F'⟩
        · rw [hrun, Oper.upon_skip]; exact hk _ _ _ hK ⟨g', F'⟩
      · split at he
        · rename_i v hv
          obtain ⟨u, hrun, hr⟩ := evalV_sound hT F hv
          unfold Oper.wp
          rw [hrun, Oper.upon_value]
          exact hk _ _ _ hK ⟨g, F.put he hr⟩
        · cases he
    · have : ∃ u w' g', (execOp a.eval o).run P w = .ok (.value u) w' ∧ FR w0 B0 Fin s' (a.put o.dst u) w' g' := by
        rcases he with he | he | he | he
        · exact evalC_sound hT F he hcc
        · exact evalC2_sound hT F he hcc
        · exact evalC3_sound hT F he
        · exact evalC4_sound hT F he hcc
      obtain ⟨u, w', g', hrun, F'⟩ := this
      unfold Oper.wp
      rw [hrun, Oper.upon_value]
      exact hk _ _ _ hK ⟨g', F'⟩
    · obtain ⟨b, hrun, hb⟩ := nilQ_sound hT F hn
      unfold Oper.wp
      rw [hrun, Oper.upon_value]
      by_cases hr : rows = []
      · exact hk _ _ _ (hK2 hr b) ⟨g, F.put (hput b) (.t _ _ (.sc _))⟩
      · have := hb hr; subst this
        exact hk _ _ _ (hK1 hr) ⟨g, F.put (hput b) (.t _ _ (.sc _))⟩

theorem guard_sound {ops : Array Oper} (F : FR w0 B0 Fin s a w g) {o : Oper} {b : Bool} (h : guardAV ops.toList s o.guard = some b) : Region.wanted o (yielded ops a.tmps) = b := by
  unfold guardAV at h
  unfold Region.wanted
  split at h
  · rename_i hg; cases h; rw [hg]
  · rename_i j want hg
    rw [hg]
    split at h
    · rename_i q hq
      rw [nthS_eq] at hq
      have hq' : ops[j]? = some q := by simpa using hq
      split at h
      · rename_i d hd
        have hv := F.ev (.tmp d)
        simp only [St.ev, Act.eval] at hv
        unfold yielded
        simp only [hq', hd, Option.bind_some]
        split at h
        · rename_i p hp
          cases h
          rw [hp] at hv
          have := cr_sc hv
          have ht : a.tmps[d]? = some (.bool p) := by
            rw [Array.getD_eq_getD_getElem?] at this
            cases hx : a.tmps[d]? with
            | none => rw [hx] at this; simp [undef] at this
            | some y => rw [hx] at this; simp at this; rw [this]
          rw [ht]
          cases p <;> cases want <;> rfl
        · rename_i vs hp
          cases h
          rw [hp] at hv
          have := cr_sc hv
          rw [Array.getD_eq_getD_getElem?] at this
          cases hx : a.tmps[d]? with
          | none => simp
          | some y => rw [hx] at this; simp at this; subst this; simp
        · cases h
      · cases h
    · cases h

theorem ops_sound {E : Env} (hT : TabOk P E.tab) (hΦ : ∀ f as r, Φ f as r → Sound P f as r) {Q : Exit → Act → World → Prop} {ops : Array Oper} : ∀ {l : List Oper} {s : St} {a : Act} {w : World} {K : St → Prop},
    FE w0 B0 Fin s a w → Ev.wpOps Φ E ops.toList l s K → (∀ s' a' w', K s' → FE w0 B0 Fin s' a' w' → Q .normal a' w') → wpList P ops Q l a w := by
  intro l
  induction l with
  | nil =>
    intro s a w K F h hk
    obtain ⟨g, F⟩ := F
    obtain ⟨s', g', h, F⟩ := AdjW.sound h F
    exact hk _ _ _ h ⟨g', F⟩
  | cons o rest ih =>
    intro s a w K F h hk
    obtain ⟨g, F⟩ := F
    obtain ⟨s0, g, ⟨b, hg, h⟩, F⟩ := AdjW.sound h F
    have hw : Region.wanted o (yielded ops a.tmps) = b := guard_sound F hg
    unfold wpList
    rw [hw]
    cases b with
    | true =>
      simp only [if_true]
      exact .inl (op_sound hT hΦ ⟨g, F⟩ h fun s' a' w' h' F' => ih F' h' hk)
    | false =>
      simp only [Bool.false_eq_true, if_false]
      obtain ⟨s', hp, h⟩ := h
      exact ih ⟨g, F.put hp (.t _ _ (.sc _))⟩ h hk
end
end Go.Ev

set_option linter.unusedVariables false
set_option linter.unusedSimpArgs false
namespace Go.Ev
open Go Go.RowKit

/-- the same boxes; roots, and maybe more -/
structure Mo (s s' : St) : Prop where
  h : s'.h = s.h
  o : ∀ i r, lk s.o i = some r → lk s'.o i = some r

theorem mapS_mo {α β : Type} {f f' : α → Option β} : ∀ {l : List α} {r : List β}, (∀ x ∈ l, ∀ y, f x = some y → f' x = some y) → mapS f l = some r → mapS f' l = some r := by
  intro l
  induction l with
  | nil => intro r _ h; exact h
  | cons x l ih =>
    intro r hf h
    rw [mapS] at h
    split at h
    case h_2 => cases h
    rename_i y hy
    split at h
    case h_2 => cases h
    rename_i q hq
    cases h
    rw [mapS, hf x (List.mem_cons_self ..) y hy, ih (fun z hz => hf z (List.mem_cons_of_mem _ hz)) hq]

section
variable {tab : Tab} {s s' : St}
theorem evA_eq {x : Operand} (hx : s'.ev x = s.ev x) : evA s' x = evA s x := by unfold evA; rw [hx]
theorem bound_eq {o : Option Operand} {d : Int} (hx : ∀ x, o = some x → s'.ev x = s.ev x) : boundAV s' o d = boundAV s o d := by
  cases o with
  | none => rfl
  | some x => simp only [boundAV, hx x rfl]
theorem evParts_mo {ps : List (Nat × Operand)} {qs : List (Nat × AV)} (hev : ∀ p ∈ ps, s'.ev p.2 = s.ev p.2) (h : evParts s ps = some qs) : evParts s' ps = some qs := by
  refine mapS_mo (fun p hp y hy => ?_) h
  obtain ⟨i, x⟩ := p
  simp only [evA_eq (hev _ hp)]; exact hy

theorem ptrCells_mo (M : Mo s s') {p : AV} {cs : List AV} (h : ptrCells s p = some cs) : ptrCells s' p = some cs := by
  unfold ptrCells at h ⊢
  rw [M.h]
  split at h
  · exact h
  · exact h
  · exact h
  · split at h
    case h_2 => cases h
    rename_i rows hr
    rw [M.o _ _ hr]; exact h
  · cases h
theorem loadAV_mo (M : Mo s s') {ty : Nat} {p v : AV} (h : loadAV tab s ty p = some v) : loadAV tab s' ty p = some v := by
  unfold loadAV at h ⊢
  split at h
  case h_2 => cases h
  split at h
  case h_2 => cases h
  rename_i cs hcs
  rw [ptrCells_mo M hcs]; exact h
theorem rowsAV_mo (M : Mo s s') {x : AV} {rows : List (List T)} (h : rowsAV s x = some rows) : rowsAV s' x = some rows := by
  unfold rowsAV at h ⊢
  split at h
  · exact h
  · exact h
  · split at h
    case h_2 => cases h
    rename_i hr
    rw [M.o _ _ hr]; exact h
  · split at h
    case h_2 => cases h
    rename_i hr
    rw [M.o _ _ hr]; exact h
  · exact h
  · cases h
theorem indexAddrAV_mo (M : Mo s s') {ty : Nat} {x v : AV} {n : Int} (h : indexAddrAV tab s ty x n = some v) : indexAddrAV tab s' ty x n = some v := by
  unfold indexAddrAV at h ⊢
  split at h
  · split at h
    case h_2 => cases h
    rename_i hr
    rw [rowsAV_mo M hr]; exact h
  · exact h
  · cases h
theorem builtinAV_mo (M : Mo s s') {b : Builtin} {tys : List TypeId} {l : List AV} {v : AV} (h : builtinAV tab s b tys l = some v) : builtinAV tab s' b tys l = some v := by
  unfold builtinAV at h ⊢
  split at h
  · split at h
    case h_2 => cases h
    split at h
    case h_2 => cases h
    split at h
    · exact h
    · split at h
      case h_2 => cases h
      rename_i hr
      rw [rowsAV_mo M hr]; exact h
    · exact h
    · cases h
  · exact h
  · exact h
  · cases h
theorem snapT_mo (M : Mo s s') : ∀ (n : Nat) {x : AV} {t : T}, snapT n s x = some t → snapT n s' x = some t := by
  intro n
  induction n with
  | zero => intro x t h; cases h
  | succ n ih =>
    intro x t h
    cases x with
    | t x => exact h
    | bp id off =>
      simp only [snapT] at h ⊢
      rw [M.h]
      split at h
      case h_2 => cases h
      split at h
      case h_2 => cases h
      split at h
      case h_2 => cases h
      rename_i hm
      rw [mapS_mo (fun x _ y hy => ih hy) hm]; exact h
    | fn g caps =>
      simp only [snapT] at h ⊢
      split at h
      case h_2 => cases h
      rename_i hm
      rw [mapS_mo (fun x _ y hy => ih hy) hm]; exact h
    | bw x id => exact h
    | rf id =>
      simp only [snapT] at h ⊢
      split at h
      case h_2 => cases h
      rename_i hr
      rw [M.o _ _ hr]; exact h
    | rw id l hh =>
      simp only [snapT] at h ⊢
      split at h
      case h_2 => cases h
      rename_i hr
      rw [M.o _ _ hr]; exact h
    | rp id i k =>
      simp only [snapT] at h ⊢
      split at h
      case h_2 => cases h
      rename_i hr
      rw [M.o _ _ hr]; exact h
    | u => cases h
    | ag _ => cases h
    | tp _ => cases h
    | io _ => cases h
    | iw _ => cases h
theorem snapC_mo (M : Mo s s') {x y : AV} (h : snapC s x = some y) : snapC s' x = some y := by
  unfold snapC at h ⊢
  split at h
  case h_2 => cases h
  rename_i ht
  rw [snapT_mo M _ ht]; exact h
theorem snapA_mo (M : Mo s s') {x y : AV} (h : snapA s x = some y) : snapA s' x = some y := by
  unfold snapA at h ⊢
  split at h
  · split at h
    case h_2 => cases h
    rename_i hm
    rw [mapS_mo (fun x _ y hy => snapC_mo M hy) hm]; exact h
  · cases h
  · exact snapC_mo M h

theorem evalV_mo (M : Mo s s') {o : Op} {v : AV} (hev : ∀ x ∈ o.operands, s'.ev x = s.ev x) (h : evalV tab s o = some v) : evalV tab s' o = some v := by
  unfold evalV at h
  split at h
  · rename_i x; simp only [evalV]; rw [evA_eq (hev x (by simp [Op.operands]))]; exact h
  · rename_i x; simp only [evalV]; rw [evA_eq (hev x (by simp [Op.operands]))]; exact h
  · rename_i c x y; simp only [evalV]
    rw [hev c (by simp [Op.operands]), evA_eq (hev x (by simp [Op.operands])), evA_eq (hev y (by simp [Op.operands]))]; exact h
  · rename_i ty p; simp only [evalV]; rw [hev p (by simp [Op.operands])]; exact loadAV_mo M h
  · rename_i op ty x y _; simp only [evalV]; rw [hev x (by simp [Op.operands]), hev y (by simp [Op.operands])]; exact h
  · rename_i op _ x; simp only [evalV]; rw [hev x (by simp [Op.operands])]; exact h
  · rename_i _ _ x; simp only [evalV]; rw [hev x (by simp [Op.operands])]; exact h
  · rename_i _ x _; simp only [evalV]; rw [hev x (by simp [Op.operands])]; exact h
  · rename_i _ x _; simp only [evalV]; rw [hev x (by simp [Op.operands])]; exact h
  · rename_i ty x i; simp only [evalV]
    rw [hev i (by simp [Op.operands]), evA_eq (hev x (by simp [Op.operands]))]
    split at h
    case h_2 => cases h
    rename_i hi
    split at h
    case h_2 => cases h
    rename_i hx
    exact indexAddrAV_mo M h
  · rename_i _ x i; simp only [evalV]
    rw [hev i (by simp [Op.operands]), hev x (by simp [Op.operands])]; exact h
  · rename_i ty ps; simp only [evalV]
    unfold buildAV at h ⊢
    split at h
    case h_2 => cases h
    rename_i qs hqs
    rw [evParts_mo (fun p hp => hev p.2 (by simp only [Op.operands]; simp; exact ⟨p.1, by simpa using hp⟩)) hqs]; exact h
  · rename_i ty x lo hi; simp only [evalV]
    rw [bound_eq (fun y hy => hev y (by simp [Op.operands, hy])), hev x (by simp [Op.operands])]
    cases hi with
    | none => exact h
    | some y => simp only at h ⊢; rw [bound_eq (fun z hz => hev z (by cases hz; simp [Op.operands]))]; exact h
  · rename_i x; simp only [evalV]; rw [hev x (by simp [Op.operands])]; exact h
  · rename_i t k; simp only [evalV]; rw [hev t (by simp [Op.operands])]; exact h
  · rename_i f first caps; simp only [evalV]
    split at h
    · split at h
      case h_2 => cases h
      rename_i hm
      rw [mapS_mo (fun x hx y hy => by rw [evA_eq (hev x (by simp only [Op.operands]; simp; exact .inr (by simpa using hx)))]; exact hy) hm]; exact h
    · cases h
  · rename_i b args tys; simp only [evalV]
    split at h
    case h_2 => cases h
    rename_i hm
    rw [mapS_mo (fun x hx y hy => by rw [evA_eq (hev x (by simp [Op.operands, Call.operands]; simpa using hx))]; exact hy) hm]
    exact builtinAV_mo M h
  · cases h

theorem movesL_mo (M : Mo s s') : ∀ {xs : List Operand} {ms : List Bool} {l : List AV} {s2 : St}, allF ms = true → (∀ x ∈ xs, s'.ev x = s.ev x) → movesL ms s xs = some (l, s2) → s2 = s ∧ movesL ms s' xs = some (l, s') ∧ allPlain ms s' xs = allPlain ms s xs := by
  intro xs
  induction xs with
  | nil => intro ms l s2 _ _ h; rw [movesL] at h; cases h; exact ⟨rfl, by rw [movesL], by rw [allPlain, allPlain]⟩
  | cons x xs ih =>
    intro ms l s2 hms hev h
    have hx := hev x (List.mem_cons_self ..)
    have hxs : ∀ y ∈ xs, s'.ev y = s.ev y := fun y hy => hev y (List.mem_cons_of_mem _ hy)
    have snap : ∀ {ms' : List Bool}, allF ms' = true → (match movesL ms' s xs with
        | some (l, s) => match snapA s (s.ev x) with
          | some y => some (y :: l, s)
          | none => none
        | none => none) = some (l, s2) → s2 = s ∧ (match movesL ms' s' xs with
        | some (l, s) => match snapA s (s.ev x) with
          | some y => some (y :: l, s)
          | none => none
        | none => none) = some (l, s') ∧ allPlain ms' s' xs = allPlain ms' s xs := by
      clear h
      intro ms' hms' h
      split at h
      case h_2 => cases h
      rename_i l' s3 h1
      obtain ⟨e, h2, h3⟩ := ih hms' hxs h1
      subst e
      split at h
      case h_2 => cases h
      rename_i y hy
      cases h
      refine ⟨rfl, ?_, h3⟩
      rw [h2]
      simp only [hx, snapA_mo M hy]
    match ms with
    | [] =>
      rw [movesL] at h
      obtain ⟨h1, h2, h3⟩ := snap hms h
      refine ⟨h1, by rw [movesL]; exact h2, ?_⟩
      rw [allPlain, allPlain, hx, h3]
    | true :: ms' => simp [allF] at hms
    | false :: ms' =>
      rw [movesL] at h
      obtain ⟨h1, h2, h3⟩ := snap (by simpa [allF] using hms) h
      refine ⟨h1, by rw [movesL]; exact h2, ?_⟩
      rw [allPlain, allPlain, hx, h3]

theorem argsAV_mo (M : Mo s s') {md : Modes} {f : Operand} {args : List Operand} {g : FuncId} {as : List AV} {s2 : St} (hev : ∀ x ∈ args, s'.ev x = s.ev x) (hf : s'.ev f = s.ev f) (hg : calleeG s f = some g) (hms : allF (modeOf md g) = true) (h : argsAV md s f args = some (g, as, s2)) :
    s2 = s ∧ argsAV md s' f args = some (g, as, s') ∧ argsPlain md s' f args g = argsPlain md s f args g := by
  unfold argsAV at h
  split at h
  case h_2 => cases h
  rename_i g0 hg0
  split at h
  case h_2 => cases h
  rename_i as' s3 hm
  split at h
  case h_2 => cases h
  rename_i g' caps hc
  split at h
  case h_2 => cases h
  rename_i l hl
  cases h
  rw [hg] at hg0
  cases hg0
  obtain ⟨e, h2, h3⟩ := movesL_mo M hms hev hm
  subst e
  have hg' : calleeG s' f = some g := by unfold calleeG at hg ⊢; rw [hf]; exact hg
  have hc' : calleeAV s' f = some (g, caps) := by
    unfold calleeAV at hc ⊢
    rw [hf]
    split at hc
    · split at hc
      case h_2 => cases hc
      rename_i hm'
      rw [mapS_mo (fun x _ y hy => snapC_mo M hy) hm']; exact hc
    · split at hc
      case h_2 => cases hc
      rename_i hm'
      rw [mapS_mo (fun x _ y hy => snapC_mo M hy) hm']; exact hc
    · cases hc
  refine ⟨rfl, ?_, ?_⟩
  · unfold argsAV
    rw [hg']
    simp only [h2, hc', hl]
  · unfold argsPlain
    rw [hf, h3]
end
end Go.Ev

set_option linter.unusedVariables false
set_option linter.unusedSimpArgs false
namespace Go.Ev
open Go Go.RowKit

structure Ent where
  d : Nat
  v : AV
  r : Option (List (List T))
def pt (e : Ent) : Option AV := some e.v
def po (e : Ent) : Option (QV × List (List T)) := e.r.map fun rows => (0, rows)
/-- what is told of a name when some of the operations are done -/
def glk {α : Type} (p : Ent → Option α) : (Nat → Bool) → (Nat → Option α) → List Ent → Nat → Option α
  | _, base, [], k => base k
  | L, base, e :: es, k => glk p (fun q => L (q + 1)) (fun k => if L 0 = true ∧ e.d = k ∧ (p e).isSome = true then p e else base k) es k

theorem glk_congr {α : Type} {p : Ent → Option α} {k : Nat} : ∀ {es : List Ent} {L L' : Nat → Bool} {base base' : Nat → Option α}, (∀ (i : Nat) (e : Ent), es[i]? = some e → e.d = k → (p e).isSome = true → L i = L' i) → base k = base' k → glk p L base es k = glk p L' base' es k := by
  intro es
  induction es with
  | nil => intro L L' base base' _ h; exact h
  | cons e es ih =>
    intro L L' base base' h hb
    refine ih (fun i e' he => h (i + 1) e' (by simpa using he)) ?_
    have h0 := h 0 e rfl
    by_cases hd : e.d = k
    · by_cases hs : (p e).isSome = true
      · rw [h0 hd hs]; simp only [hd, hs, hb]
      · simp [hs, hb]
    · simp [hd, hb]
theorem glk_none {α : Type} {p : Ent → Option α} {k : Nat} {es : List Ent} {L : Nat → Bool} {base : Nat → Option α} (h : ∀ (i : Nat) (e : Ent), es[i]? = some e → e.d = k → (p e).isSome = true → L i = false) : glk p L base es k = base k := by
  have : ∀ (es : List Ent) (base : Nat → Option α), glk p (fun _ => false) base es k = base k := by
    intro es
    induction es with
    | nil => intro base; rfl
    | cons e es ih => intro base; rw [glk, ih]; simp
  rw [← this es base]
  exact glk_congr h rfl
theorem glk_hit {α : Type} {p : Ent → Option α} {k : Nat} {x : α} : ∀ {es : List Ent} {L : Nat → Bool} {base : Nat → Option α} {i : Nat} {e : Ent}, es[i]? = some e → e.d = k → L i = true → p e = some x → (∀ (i' : Nat) (e' : Ent), es[i']? = some e' → e'.d = k → i' = i) → glk p L base es k = some x := by
  intro es
  induction es with
  | nil => intro L base i e h; simp at h
  | cons e0 es ih =>
    intro L base i e h hd hL hp hu
    cases i with
    | zero =>
      simp at h; subst h
      rw [glk, glk_none]
      · simp [hL, hd, hp]
      · intro i' e' he' hd' _
        have := hu (i' + 1) e' (by simpa using he') hd'
        omega
    | succ i =>
      rw [glk]
      exact ih (i := i) (e := e) (by simpa using h) hd hL hp fun i' e' he' hd' => by have := hu (i' + 1) e' (by simpa using he') hd'; omega

section
variable {P : Program} {w0 : World} {B0 Fin : Nat → Prop} {Φ : Rel3} {E : Env} {all : List Oper}

theorem putT_can {s : St} {d : Nat} {v : AV} (hd : d < s.n) : ∃ s', s.putT (some d) v = some s' := by
  obtain ⟨t, h, o, n⟩ := s
  have hp : ∀ (l : List (Nat × AV)) (y : AV), ∃ l', pu l d y = some l' := by
    intro l y
    induction l with
    | nil => exact ⟨_, rfl⟩
    | cons p r ih =>
      obtain ⟨k, w⟩ := p
      obtain ⟨r', hr⟩ := ih
      rw [pu, hr]
      cases Nat.beq k d <;> exact ⟨_, rfl⟩
  have hf : fA v = some v := by cases v <;> rfl
  obtain ⟨t', ht⟩ := hp t v
  refine ⟨⟨t', h, o, n⟩, ?_⟩
  simp only [St.putT]
  have hb : Nat.blt d n = true := by rw [Nat.blt_eq]; exact hd
  rw [hb, hf]
  simp only [ht]

theorem absorbQ_eq : ∀ {cs : List AV} {ts : List T} {s : St}, absorbQ cs = some ts → absorbL s cs = some (ts, s) := by
  intro cs
  induction cs with
  | nil => intro ts s h; cases h; rfl
  | cons x cs ih =>
    intro ts s h
    cases x
    case t y =>
     rw [absorbQ] at h
     split at h
     case h_2 => cases h
     rename_i ts' hts
     have := ih (s := s) hts
     split at h
     · rename_i v
       split at h
       · cases h; simp [absorbL, absorb1, this]
       · rename_i hne
         cases h
         rw [absorbL, absorb1]
         · simp only [this]
         · exact hne
     · cases h; simp [absorbL, absorb1, this]
     · cases h; simp [absorbL, absorb1, this]
     · cases h; simp [absorbL, absorb1, this]
    all_goals (rw [absorbQ] at h <;> first | cases h | (intro y hy; cases hy))
theorem fillQ_eq {size : Nat} {s : St} : ∀ {ps : List (Nat × AV)} {rows0 rows : List (List T)}, fillQ size rows0 ps = some rows → fillRows size s rows0 ps = some (rows, s) := by
  intro ps
  induction ps with
  | nil => intro rows0 rows h; cases h; rfl
  | cons p ps ih =>
    obtain ⟨i, x⟩ := p
    intro rows0 rows h
    rw [fillQ] at h
    rw [fillRows]
    split at h
    case h_2 => cases h
    rename_i cs hc
    split at h
    case h_2 => cases h
    rename_i hl
    split at h
    case h_2 => cases h
    rename_i ts hts
    split at h
    case h_2 => cases h
    rename_i rows1 hr
    simp only [hc, hl, absorbQ_eq (s := s) hts, hr]
    exact ih h
theorem putO_can {s : St} {d : Nat} {q : QV} {rows : List (List T)} : ∃ s1, s.putO d q rows = some s1 := by
  obtain ⟨t, hh, o, n⟩ := s
  have hp : ∀ (l : Rts), ∃ l', pu l d (q, rows) = some l' := by
    intro l
    induction l with
    | nil => exact ⟨_, rfl⟩
    | cons p r ih =>
      obtain ⟨k, w⟩ := p
      obtain ⟨r', hr⟩ := ih
      rw [pu, hr]
      cases Nat.beq k d <;> exact ⟨_, rfl⟩
  obtain ⟨o', ho'⟩ := hp o
  exact ⟨⟨t, hh, o', n⟩, by simp only [St.putO, ho']⟩
theorem build_evalM {tab : Tab} {s : St} {o : Op} {d : Nat} {rows : List (List T)} (h : buildQ tab s o = some rows) (hf : s.free d = true) (hd : d < s.n) :
    ∃ s2, evalM tab s o (some d) = some s2 ∧ s2.h = s.h ∧ s2.n = s.n ∧ (∀ k, lk s2.t k = if d = k then some (.rf d) else lk s.t k) ∧ (∀ k, lk s2.o k = if d = k then some (0, rows) else lk s.o k) := by
  unfold buildQ at h
  split at h
  case h_2 => cases h
  rename_i ty len parts
  split at h
  case h_2 => cases h
  rename_i e _ _ _ ht
  split at h
  case h_2 => cases h
  rename_i ei he
  split at h
  case h_2 => cases h
  rename_i zs hz
  split at h
  case h_2 => cases h
  rename_i hb
  split at h
  case h_2 => cases h
  rename_i rows0 hr0
  split at h
  case h_2 => cases h
  rename_i ps hps
  obtain ⟨s1, h1⟩ := putO_can (s := s) (d := d) (q := 0) (rows := rows)
  obtain ⟨p1, p2, p3, p4⟩ := putO_parts h1
  obtain ⟨s2, h2⟩ := putT_can (s := s1) (d := d) (v := AV.rf d) (by rw [p3]; exact hd)
  obtain ⟨q1, q2, q3, q4, q5⟩ := putT_parts h2
  refine ⟨s2, ?_, q1.trans p2, q3.trans p3, fun k => by rw [q5, p1], fun k => by rw [q2, p4]⟩
  simp only [evalM, ht, he, hz, hb, hr0, hps, fillQ_eq (s := s) h, St.clear, hf, h1, h2]
theorem buildQ_mo {tab : Tab} {s s' : St} {o : Op} {rows : List (List T)} (hev : ∀ x ∈ o.operands, s'.ev x = s.ev x) (h : buildQ tab s o = some rows) : buildQ tab s' o = some rows := by
  unfold buildQ at h ⊢
  split at h
  case h_2 => cases h
  rename_i ty len parts
  split at h
  case h_2 => cases h
  rename_i e _ _ _ ht
  split at h
  case h_2 => cases h
  rename_i ei he
  split at h
  case h_2 => cases h
  rename_i zs hz
  split at h
  case h_2 => cases h
  rename_i hb
  split at h
  case h_2 => cases h
  rename_i rows0 hr0
  split at h
  case h_2 => cases h
  rename_i ps hps
  have hps' : evParts s' parts.toList = some ps := evParts_mo (fun p hp => hev _ (by simp only [Op.operands]; simp; exact ⟨p.1, by simpa using hp⟩)) hps
  simp only [ht, he, hz, hb, hr0, hps']
  exact h

/-- the operations one by one, in the order that they are told -/
theorem chain : ∀ {l : List Oper} {s : St} {pend : List (Nat × QV × List (List T))} {K : St → Prop}, wpQ Φ E all l s pend K →
    ∃ es sF, es.length = l.length ∧ K sF ∧ sF.h = s.h ∧ sF.n = s.n ∧ (∀ k, lk sF.t k = glk pt (fun _ => true) (lk s.t) es k) ∧ (∀ k, lk sF.o k = glk po (fun _ => true) (lk (pend ++ s.o)) es k) ∧
      ∀ (j : Nat) (op : Oper), l[j]? = some op → ∃ sj e, es[j]? = some e ∧ op.dst = some e.d ∧ e.d < s.n ∧ QOk Φ E all sj op e.d e.v e.r ∧ sj.h = s.h ∧ sj.o = s.o ∧
        (∀ k, lk sj.t k = glk pt (fun q => decide (q < j)) (lk s.t) es k) ∧ (e.r.isSome = true → s.free e.d = true) := by
  intro l
  induction l with
  | nil =>
    intro s pend K h
    obtain ⟨o, ho, hK⟩ := h
    have := appS_eq ho; subst this
    exact ⟨[], _, rfl, hK, rfl, rfl, fun _ => rfl, fun _ => rfl, fun j op hj => by simp at hj⟩
  | cons op l ih =>
    intro s pend K h
    obtain ⟨d, v, root, s', hd, hq, hp, h⟩ := h
    obtain ⟨e1, e2, e3, e4, e5⟩ := putT_parts hp
    have hfr : ∀ q, s'.free q = s.free q := fun q => by unfold St.free; rw [e1, e2]
    have hbase : (fun k => if (fun _ : Nat => true) 0 = true ∧ d = k ∧ (pt ⟨d, v, root⟩).isSome = true then pt ⟨d, v, root⟩ else lk s.t k) = lk s'.t := by
      funext k
      rw [e5]
      by_cases hk : d = k <;> simp [hk, pt]
    have fin : ∀ pend', wpQ Φ E all l s' pend' K → (∀ k, lk (pend' ++ s'.o) k = if d = k ∧ root.isSome = true then po ⟨d, v, root⟩ else lk (pend ++ s.o) k) → (root.isSome = true → s.free d = true) →
        ∃ es sF, es.length = (op :: l).length ∧ K sF ∧ sF.h = s.h ∧ sF.n = s.n ∧ (∀ k, lk sF.t k = glk pt (fun _ => true) (lk s.t) es k) ∧ (∀ k, lk sF.o k = glk po (fun _ => true) (lk (pend ++ s.o)) es k) ∧
      ∀ (j : Nat) (op' : Oper), (op :: l)[j]? = some op' → ∃ sj e, es[j]? = some e ∧ op'.dst = some e.d ∧ e.d < s.n ∧ QOk Φ E all sj op' e.d e.v e.r ∧ sj.h = s.h ∧ sj.o = s.o ∧
        (∀ k, lk sj.t k = glk pt (fun q => decide (q < j)) (lk s.t) es k) ∧ (e.r.isSome = true → s.free e.d = true) := by
      intro pend' h hpend hfree
      obtain ⟨es, sF, h1, h2, h3, h4, h5, h6, h7⟩ := ih h
      refine ⟨⟨d, v, root⟩ :: es, sF, by simp [h1], h2, h3.trans e1, h4.trans e3, ?_, ?_, ?_⟩
      · intro k
        rw [h5, glk, hbase]
      · intro k
        rw [h6, glk]
        congr 1
        funext k
        rw [hpend]
        by_cases hk : d = k <;> simp [hk, po]
      · intro j op' hj
        cases j with
        | zero =>
          simp at hj; subst hj
          refine ⟨s, _, rfl, hd, e4, hq, rfl, rfl, ?_, hfree⟩
          intro k
          rw [glk_none]
          intro i e _ _ _; simp
        | succ j =>
          obtain ⟨sj, e, g1, g2, g3, g4, g5, g6, g7, g8⟩ := h7 j op' (by simpa using hj)
          refine ⟨sj, e, by simpa using g1, g2, by rw [← e3]; exact g3, g4, g5.trans e1, g6.trans e2, ?_, fun hr => by rw [← hfr]; exact g8 hr⟩
          intro k
          rw [g7, glk]
          have hb2 : (fun k => if decide (0 < j + 1) = true ∧ d = k ∧ (pt ⟨d, v, root⟩).isSome = true then pt ⟨d, v, root⟩ else lk s.t k) = lk s'.t := by
            rw [← hbase]; funext k; simp
          rw [hb2]
          congr 1
          funext q; simp
    cases root with
    | none => exact fin pend h (fun k => by rw [e2]; simp) (fun h => by cases h)
    | some rows =>
      refine fin _ h.2 (fun k => ?_) (fun _ => h.1)
      rw [e2, List.cons_append, lk_cons]
      simp [po]
end

/-- what 'drawOk' says -/
theorem mask_spec {ops : List Oper} {ms : List Nat} (h : okMask ops ms = true) {j : Nat} {o : Oper} (hj : ops[j]? = some o) :
    (∀ e ∈ o.after.toList, Region.binds .any e = true → e.on < j) ∧ (∀ i, i < ops.length → rch ms j i = true → ∃ e ∈ o.after.toList, Region.binds .any e = true ∧ (e.on = i ∨ rch ms e.on i = true)) := by
  unfold okMask at h
  rw [List.all_eq_true] at h
  have h := h j (by simpa using nth_lt hj)
  simp only [hj, Bool.and_eq_true, List.all_eq_true] at h
  obtain ⟨h1, h2⟩ := h
  refine ⟨fun e he hb => by simpa [hb] using h1 e he, fun i hi hr => ?_⟩
  have := h2 i (by simpa using hi)
  simp only [hr, Bool.not_true, Bool.false_or, List.any_eq_true, Bool.and_eq_true, Bool.or_eq_true, decide_eq_true_eq] at this
  exact this

theorem reach {ops : List Oper} {ms : List Nat} (h : okMask ops ms = true) {L : Nat → Bool} (hc : ∀ (j : Nat) (o : Oper) (e : Edge), ops[j]? = some o → L j = true → e ∈ o.after.toList → Region.binds .any e = true → L e.on = true) :
    ∀ (j : Nat) (o : Oper), ops[j]? = some o → (∀ e ∈ o.after.toList, Region.binds .any e = true → L e.on = true) → ∀ i, i < ops.length → rch ms j i = true → L i = true := by
  intro j
  induction j using Nat.strongRecOn with
  | _ j ih =>
    intro o hj hp i hi hr
    obtain ⟨h1, h2⟩ := mask_spec h hj
    obtain ⟨e, he, hb, hq⟩ := h2 i hi hr
    have hL := hp e he hb
    rcases hq with rfl | hq
    · exact hL
    · have hlt := h1 e he hb
      have hjl := nth_lt hj
      have he' : ops[e.on]? = some ops[e.on] := List.getElem?_eq_getElem (by omega)
      exact ih e.on hlt _ he' (fun e2 h3 h4 => hc _ _ e2 he' hL h3 h4) i hi hq

theorem ready_mem {md : Region.Mode} {ops : Array Oper} {listed : Array Bool} (hs : listed.size = ops.size) {i : Nat} :
    i ∈ Region.ready md ops listed ↔ ∃ o, ops[i]? = some o ∧ listed.getD i false = false ∧ ∀ e ∈ o.after.toList, Region.binds md e = true → listed.getD e.on false = true := by
  unfold Region.ready
  rw [List.mem_filter, List.mem_range]
  constructor
  · rintro ⟨hi, h⟩
    rw [Array.getElem?_eq_getElem hi] at h ⊢
    simp only [Bool.and_eq_true, Option.map_some, Option.getD_some, Bool.not_eq_true', Array.all_eq_true_iff_forall_mem] at h
    refine ⟨_, rfl, ?_, ?_⟩
    · have h1 := h.1
      rw [Array.getD_eq_getD_getElem?, Array.getElem?_eq_getElem (by omega)] at h1 ⊢
      exact h1
    · intro e he hb
      have := h.2 e (by simpa using he)
      simpa [hb] using this
  · rintro ⟨o, ho, hl, he⟩
    have hi : i < ops.size := (Array.getElem?_eq_some_iff.1 ho).1
    refine ⟨hi, ?_⟩
    rw [ho]
    simp only [Bool.and_eq_true, Option.map_some, Option.getD_some, Bool.not_eq_true', Array.all_eq_true_iff_forall_mem]
    refine ⟨?_, fun e hm => ?_⟩
    · rw [Array.getD_eq_getD_getElem?, Array.getElem?_eq_getElem (by omega)] at hl ⊢
      exact hl
    · by_cases hb : Region.binds md e = true
      · simp [he e (by simpa using hm) hb]
      · simp [hb]

theorem getD_set {l : Array Bool} {i k : Nat} (hi : i < l.size) : (l.setIfInBounds i true).getD k false = if i = k then true else l.getD k false := by
  simp only [Array.getD_eq_getD_getElem?, Array.getElem?_setIfInBounds]
  split
  · rename_i e; subst e; simp [hi]
  · rfl

section
variable {P : Program} {w0 : World} {B0 Fin : Nat → Prop} {Φ : Rel3} {E : Env} {ops : Array Oper} {ms : List Nat} {m : Nat}

theorem tail_sound (hT : TabOk P E.tab) (hΦ : ∀ f as r, Φ f as r → Sound P f as r) {Q : Exit → Act → World → Prop} {K : St → Prop} (hk : ∀ s' a' w', K s' → FE w0 B0 Fin s' a' w' → Q .normal a' w')
    (hmask : okMask ops.toList ms = true) (htail : ∀ j, j < ops.size → m ≤ j → ∀ i, i < j → rch ms j i = true) :
    ∀ (fuel k : Nat) (listed : Array Bool) (s : St) (a : Act) (w : World), listed.size = ops.size → (∀ i, i < ops.size → listed.getD i false = decide (i < k)) → k ≤ ops.size → m ≤ k → fuel = ops.size - k → FE w0 B0 Fin s a w →
      Ev.wpOps Φ E ops.toList (ops.toList.drop k) s K → wpAny P .any ops Q fuel listed a w := by
  intro fuel
  induction fuel with
  | zero =>
    intro k listed s a w hs hl hk1 hk2 hf F h
    have hkn : k = ops.size := by omega
    subst hkn
    rw [List.drop_of_length_le (by simp)] at h
    refine ⟨?_, ?_⟩
    · apply List.eq_nil_iff_forall_not_mem.2
      intro i hi
      obtain ⟨o, ho, h1, _⟩ := (ready_mem hs).1 hi
      have hlt := (Array.getElem?_eq_some_iff.1 ho).1
      rw [hl i hlt] at h1
      simp at h1; omega
    · obtain ⟨g, F⟩ := F
      obtain ⟨s', g', h, F⟩ := AdjW.sound h F
      exact hk _ _ _ h ⟨g', F⟩
  | succ fuel ih =>
    intro k listed s a w hs hl hk1 hk2 hf F h
    have hkn : k < ops.size := by omega
    have hok : ops[k]? = some ops[k] := Array.getElem?_eq_getElem hkn
    have hokl : ops.toList[k]? = some ops[k] := by rw [Array.getElem?_toList]; exact hok
    rw [List.drop_eq_getElem_cons (by simpa using hkn)] at h
    have hkr : k ∈ Region.ready .any ops listed := by
      refine (ready_mem hs).2 ⟨_, hok, by rw [hl k hkn]; simp, fun e he hb => ?_⟩
      have hlt := (mask_spec hmask hokl).1 e he hb
      rw [hl _ (by omega)]; simpa using hlt
    refine ⟨fun hn => by rw [hn] at hkr; simp at hkr, ?_⟩
    intro i hi
    have hik : i = k := by
      obtain ⟨o, ho, h1, h2⟩ := (ready_mem hs).1 hi
      have hlt := (Array.getElem?_eq_some_iff.1 ho).1
      rw [hl i hlt] at h1
      have hge : k ≤ i := by simpa using h1
      rcases Nat.lt_or_ge k i with hgt | hle
      · have := reach hmask (L := fun q => listed.getD q false) ?_ i o (by simpa using ho) h2 k (by simpa using hkn) (htail i hlt (by omega) k hgt)
        · rw [hl k hkn] at this; simp at this
        · intro j o' e hj hL he hb
          have hjl : j < ops.size := by have := nth_lt hj; simpa using this
          rw [hl j hjl] at hL
          have hjk : j < k := by simpa using hL
          have := (mask_spec hmask hj).1 e he hb
          rw [hl _ (by omega)]; simp; omega
      · omega
    subst hik
    obtain ⟨g, F⟩ := F
    obtain ⟨s0, g, ⟨b, hg, h⟩, F⟩ := AdjW.sound h F
    have hw : Region.wanted ops[i] (yielded ops a.tmps) = b := guard_sound F hg
    have hset : ∀ q, q < ops.size → (listed.setIfInBounds i true).getD q false = decide (q < i + 1) := by
      intro q hq
      rw [getD_set (by omega), hl q hq]
      by_cases e : i = q
      · simp [e]
      · simp only [e, if_false, decide_eq_decide]; omega
    have next : ∀ s' a' w', FE w0 B0 Fin s' a' w' → Ev.wpOps Φ E ops.toList (ops.toList.drop (i + 1)) s' K → wpAny P .any ops Q fuel (listed.setIfInBounds i true) a' w' :=
      fun s' a' w' F' h' => ih (i + 1) _ s' a' w' (by simpa using hs) hset (by omega) (by omega) (by omega) F' h'
    unfold Go.wpOp
    rw [hok]
    simp only [hw]
    cases b with
    | true =>
      simp only [if_true]
      exact .inl (op_sound hT hΦ ⟨g, F⟩ h fun s' a' w' h' F' => next s' a' w' F' h')
    | false =>
      simp only [Bool.false_eq_true, if_false]
      obtain ⟨s', hp, h⟩ := h
      exact next _ _ _ ⟨g, F.put hp (.t _ _ (.sc _))⟩ h

theorem pair_spec {l : List Oper} {i j : Nat} (h : okPair l ms i j = true) {a b : Oper} (ha : l[i]? = some a) (hb : l[j]? = some b) {da db : Nat} (hda : a.dst = some da) (hdb : b.dst = some db) :
    da ≠ db ∧ (rch ms j i = true ∨ (¬ db ∈ readsOf l a ∧ ¬ da ∈ readsOf l b)) := by
  unfold okPair at h
  simp only [ha, hb, hda, hdb, Bool.and_eq_true, Bool.or_eq_true, Bool.not_eq_true', decide_eq_false_iff_not] at h
  refine ⟨h.1, ?_⟩
  rcases h.2 with h2 | h2
  · exact .inl h2
  · refine .inr ⟨?_, ?_⟩
    · have := h2.1; simpa using this
    · have := h2.2; simpa using this

theorem free_o {s : St} {d : Nat} (h : s.free d = true) : lk s.h d = none ∧ lk s.o d = none := by
  unfold St.free at h
  split at h
  · cases h
  · rename_i h1
    split at h
    · cases h
    · rename_i h2; exact ⟨h1, h2⟩

theorem shT_own {w : World} {B : Nat → Prop} {x : T} {v : Value} {G : Nat → Prop} (hx : Own w B x v G) (hs : shT x = true) : Rep w B x v := by
  cases hx with
  | sc => exact .sc _
  | sh _ _ _ h => exact h
  | pt _ _ _ h => exact h
  | fn _ _ _ _ h => exact h
  | nil => simp [shT] at hs
  | sl => simp [shT] at hs

/-- a result of an operation in no order comes in -/
theorem qres_sound {w : World} {s s' : St} {a : Act} {g : Gh} {d : Nat} {r v : AV} {root : Option (List (List T))} {u : Value} {G : Nat → Prop} (F : FR w0 B0 Fin s a w g) (hr : VR w g.B r u G) (hG : Take w0 w Fin g s G)
    (h : qRes d r = some (v, root)) (hfree : root.isSome = true → lk s.o d = none) (hput : s.putT (some d) v = some s') :
    ∃ s2 g2, FR w0 B0 Fin s2 (a.put (some d) u) w g2 ∧ s2.h = s.h ∧ s2.n = s.n ∧ (∀ k, lk s2.t k = if d = k then some v else lk s.t k) ∧ (∀ k, lk s2.o k = if d = k ∧ root.isSome = true then root.map (fun rows => (0, rows)) else lk s.o k) := by
  obtain ⟨e1, e2, e3, e4, e5⟩ := putT_parts hput
  have flat : root = none → CR w g s.h s.o v u → ∃ s2 g2, FR w0 B0 Fin s2 (a.put (some d) u) w g2 ∧ s2.h = s.h ∧ s2.n = s.n ∧ (∀ k, lk s2.t k = if d = k then some v else lk s.t k) ∧ (∀ k, lk s2.o k = if d = k ∧ root.isSome = true then root.map (fun rows => (0, rows)) else lk s.o k) := by
    rintro rfl hc
    exact ⟨s', g, F.put hput hc, e1, e3, e5, fun k => by rw [e2]; simp⟩
  rcases hr with (⟨y, rfl, hr⟩ | ⟨cs, us, rfl, rfl, hr⟩ | ⟨_, _, _, _, _, rfl, _⟩) | ⟨cs, us, rfl, rfl, hr⟩
  rotate_left 2
  · cases h
  rotate_left 1
  · unfold qRes at h
    simp only at h
    split at h
    · rename_i rows
      cases h
      obtain ⟨sz, hroot⟩ := hr.root
      obtain ⟨o2, ho2⟩ : ∃ s1, s.putO d 0 rows = some s1 := by
        obtain ⟨t, hh, o, n⟩ := s
        have hp : ∀ (l : Rts), ∃ l', pu l d (0, rows) = some l' := by
          intro l
          induction l with
          | nil => exact ⟨_, rfl⟩
          | cons p r ih =>
            obtain ⟨k, w⟩ := p
            obtain ⟨r', hr⟩ := ih
            rw [pu, hr]
            cases Nat.beq k d <;> exact ⟨_, rfl⟩
        obtain ⟨o', ho'⟩ := hp o
        exact ⟨⟨t, hh, o', n⟩, by simp only [St.putO, ho']⟩
      obtain ⟨p1, p2, p3, p4⟩ := putO_parts ho2
      have F1 := F.newRoot ho2 (hfree rfl) hroot hG
      obtain ⟨s2, hs2⟩ := putT_can (s := o2) (d := d) (v := AV.rf d) (by rw [p3]; exact e4)
      obtain ⟨q1, q2, q3, q4, q5⟩ := putT_parts hs2
      refine ⟨s2, _, F1.put hs2 ?_, q1.trans p2, q3.trans p3, fun k => by rw [q5, p1], fun k => by rw [q2, p4]; by_cases hk : d = k <;> simp [hk]⟩
      have := CR.rf (w := w) (g := { g with rv := upd g.rv d u, sz := upd g.sz d sz, fo := upd g.fo d G }) (h := o2.h) (o := o2.o) d _ (by rw [p4, if_pos rfl])
      simpa [upd] using this
    · cases h; exact flat rfl (.t _ _ (shT_own hr rfl))
    · cases h; exact flat rfl (.t _ _ (shT_own hr rfl))
    · cases h; exact flat rfl (.t _ _ (shT_own hr rfl))
    · cases h; exact flat rfl (.t _ _ (shT_own hr rfl))
  · unfold qRes at h
    simp only at h
    split at h
    case h_2 => cases h
    rename_i ha
    cases h
    refine flat rfl ?_
    have key : ∀ {cs : List AV} {us : List Value} {G : Nat → Prop}, Fam (VC w g.B) cs us G → allB shC cs = true → CRs w g s.h s.o cs us := by
      intro cs us G hf
      induction hf with
      | nil => intro _; exact .nil
      | cons x xs v vs G1 G2 F0 hx hs hd h1 h2 ih =>
        intro ha
        obtain ⟨y, rfl, hx⟩ := hx
        refine .cons (.t _ _ (shT_own hx (allB_all ha 0 _ rfl))) (ih ?_)
        rw [allB] at ha
        split at ha
        · exact ha
        · cases ha
    exact .ag _ _ (key hr ha).1 (key hr ha).2
  · unfold qRes at h
    simp only at h
    split at h
    case h_2 => cases h
    rename_i ha
    cases h
    refine flat rfl ?_
    have key : ∀ {cs : List AV} {us : List Value} {G : Nat → Prop}, Fam (VS w g.B) cs us G → allB shC cs = true → CRs w g s.h s.o cs us := by
      intro cs us G hf
      induction hf with
      | nil => intro _; exact .nil
      | cons x xs v vs G1 G2 F0 hx hs hd h1 h2 ih =>
        intro ha
        have ha0 := allB_all ha 0 _ rfl
        rcases hx with ⟨y, rfl, hx⟩ | ⟨ds, us, rfl, rfl, hx⟩ | ⟨_, _, _, _, _, rfl, _⟩
        rotate_left 2
        · simp [shC] at ha0
        · refine .cons (.t _ _ (shT_own hx ha0)) (ih ?_)
          rw [allB] at ha
          split at ha
          · exact ha
          · cases ha
        · simp [shC] at ha0
    exact .tp _ _ (key hr ha).1 (key hr ha).2

theorem quiet_sound (hT : TabOk P E.tab) (hΦ : ∀ f as r, Φ f as r → Sound P f as r) {Q : Exit → Act → World → Prop} {K : St → Prop} (hk : ∀ s' a' w', K s' → FE w0 B0 Fin s' a' w' → Q .normal a' w')
    (hm : drawOk ops.toList m = true) {s0 : St} {a0 : Act} {wa : World} (F0 : FE w0 B0 Fin s0 a0 wa)
    (h : wpQ Φ E ops.toList (ops.toList.take m) s0 [] fun s' => Ev.wpOps Φ E ops.toList (ops.toList.drop m) s' K) :
    wpAny P .any ops Q ops.size (Array.replicate ops.size false) a0 wa := by
  unfold drawOk at hm
  generalize hms : masks ops.toList = ms at hm
  simp only [Bool.and_eq_true, decide_eq_true_eq, List.all_eq_true, List.mem_range, Array.length_toList] at hm
  obtain ⟨⟨hmn, hmask⟩, hpair⟩ := hm
  obtain ⟨es, sF, hlen, hK, hFh, hFn, hFt, hFo, hch⟩ := chain h
  have hel : es.length = m := by rw [hlen]; simp; omega
  have htail : ∀ j, j < ops.size → m ≤ j → ∀ i, i < j → rch ms j i = true := by
    intro j hj hmj i hi
    have := hpair j hj i hi
    rw [if_neg (by omega)] at this; exact this
  -- what an operation among the first is
  have hop : ∀ j, j < m → ∃ op sj e, ops[j]? = some op ∧ ops.toList[j]? = some op ∧ es[j]? = some e ∧ op.dst = some e.d ∧ e.d < s0.n ∧ QOk Φ E ops.toList sj op e.d e.v e.r ∧ sj.h = s0.h ∧ sj.o = s0.o ∧
      (∀ k, lk sj.t k = glk pt (fun q => decide (q < j)) (lk s0.t) es k) ∧ (e.r.isSome = true → s0.free e.d = true) := by
    intro j hj
    have hjl : ops.toList[j]? = some ops[j] := by simp
    obtain ⟨sj, e, h1, h2, h3, h4, h5, h6, h7, h8⟩ := hch j ops[j] (by rw [List.getElem?_take, if_pos hj]; exact hjl)
    exact ⟨_, sj, e, by simp, hjl, h1, h2, h3, h4, h5, h6, h7, h8⟩
  have huniq : ∀ (i j : Nat) (e e' : Ent), es[i]? = some e → es[j]? = some e' → e.d = e'.d → i = j := by
    intro i j e e' hi hj hd
    have key : ∀ (i j : Nat) (e e' : Ent), es[i]? = some e → es[j]? = some e' → i < j → e.d ≠ e'.d := by
      intro i j e e' hi hj hij
      have hjm : j < m := by have := nth_lt hj; omega
      obtain ⟨a, _, ea, a1, a2, a3, a4, _⟩ := hop i (by omega)
      obtain ⟨b, _, eb, b1, b2, b3, b4, _⟩ := hop j hjm
      rw [hi] at a3; cases a3
      rw [hj] at b3; cases b3
      have := hpair j (by omega) i hij
      rw [if_pos hjm] at this
      exact (pair_spec this a2 b2 a4 b4).1
    rcases Nat.lt_trichotomy i j with h1 | h1 | h1
    · exact absurd hd (key i j e e' hi hj h1)
    · exact h1
    · exact absurd hd.symm (key j i e' e hj hi h1)
  have least : ∀ (p : Nat → Prop), (∃ n, p n) → ∃ n, p n ∧ ∀ k, k < n → ¬ p k := by
    intro p ⟨n, hn⟩
    induction n using Nat.strongRecOn with
    | _ n ihn =>
      by_cases hk : ∃ k, k < n ∧ p k
      · obtain ⟨k, hkn, hk⟩ := hk; exact ihn k hkn hk
      · exact ⟨n, hn, fun k hk' hp => hk ⟨k, hk', hp⟩⟩
  let Inv : Array Bool → Act → World → Prop := fun listed a w => ∃ s g, FR w0 B0 Fin s a w g ∧ s.n = s0.n ∧ s.h = s0.h ∧ (∀ k, lk s.t k = glk pt (fun q => listed.getD q false) (lk s0.t) es k) ∧ (∀ k, lk s.o k = glk po (fun q => listed.getD q false) (lk s0.o) es k)
  have fin : ∀ (fuel : Nat) (listed : Array Bool) (a : Act) (w : World), listed.size = ops.size → fuel = listed.toList.count false → (∀ i, m ≤ i → i < ops.size → listed.getD i false = false) → (∀ i, i < m → listed.getD i false = true) → Inv listed a w →
      wpAny P .any ops Q fuel listed a w := by
    intro fuel listed a w hs hf hlow hall hinv
    obtain ⟨s, g, F, i1, i2, i3, i4⟩ := hinv
    have hl : ∀ i, i < ops.size → listed.getD i false = decide (i < m) := by
      intro i hi
      by_cases him : i < m
      · rw [hall i him]; simp [him]
      · rw [hlow i (by omega) hi]; simp [him]
    have hlist : listed.toList = List.replicate m true ++ List.replicate (ops.size - m) false := by
      apply List.ext_getElem
      · simp; omega
      · intro i h1 h2
        have hi : i < ops.size := by simpa [hs] using h1
        have h3 := hl i hi
        rw [Array.getD_eq_getD_getElem?, Array.getElem?_eq_getElem (by omega)] at h3
        simp only [Option.getD_some] at h3
        rw [Array.getElem_toList, h3, List.getElem_append]
        by_cases him : i < m <;> simp [him]
    have hfu : fuel = ops.size - m := by
      rw [hf, hlist, List.count_append, List.count_replicate, List.count_replicate]; simp
    have hgl : ∀ {α : Type} (p : Ent → Option α) base k, glk p (fun q => listed.getD q false) base es k = glk p (fun _ => true) base es k := by
      intro α p base k
      refine glk_congr (fun i e he _ _ => ?_) rfl
      exact hall i (by have := nth_lt he; omega)
    have FF : FR w0 B0 Fin sF a w g := F.congr (fun k x hx => by rw [hFt] at hx; rw [i3, hgl]; exact hx) (fun k => by rw [hFh, i2]) (fun k => by rw [hFo, i4, hgl]; simp) (by rw [hFn, i1])
    exact tail_sound hT hΦ hk hmask htail fuel m listed sF a w hs hl hmn (Nat.le_refl _) hfu ⟨g, FF⟩ hK
  have main : ∀ (fuel : Nat) (listed : Array Bool) (a : Act) (w : World), listed.size = ops.size → fuel = listed.toList.count false → (∀ i, m ≤ i → i < ops.size → listed.getD i false = false) →
      (∀ (j : Nat) (o : Oper) (e : Edge), ops.toList[j]? = some o → listed.getD j false = true → e ∈ o.after.toList → Region.binds .any e = true → listed.getD e.on false = true) → Inv listed a w →
      wpAny P .any ops Q fuel listed a w := by
    intro fuel
    induction fuel with
    | zero =>
      intro listed a w hs hf hlow hcl hinv
      by_cases hall : ∀ i, i < m → listed.getD i false = true
      · exact fin _ _ _ _ hs hf hlow hall hinv
      · exfalso
        apply hall
        intro i hi
        have h0 := List.count_eq_zero.1 hf.symm
        have hlt : i < listed.size := by omega
        rw [Array.getD_eq_getD_getElem?, Array.getElem?_eq_getElem hlt, Option.getD_some]
        cases hx : listed[i] with
        | true => rfl
        | false => exact absurd (by rw [← hx]; simp) h0
    | succ fuel ih =>
      intro listed a w hs hf hlow hcl hinv
      by_cases hall : ∀ i, i < m → listed.getD i false = true
      · exact fin _ _ _ _ hs hf hlow hall hinv
      refine ⟨fun hn => ?_, fun i hi => ?_⟩
      · exfalso
        have hex : ∃ q, q < m ∧ listed.getD q false = false := by
          apply Classical.byContradiction
          intro hno
          apply hall
          intro i hi
          cases hx : listed.getD i false with
          | true => rfl
          | false => exact absurd ⟨i, hi, hx⟩ hno
        obtain ⟨q, ⟨hq1, hq2⟩, hq3⟩ := least _ hex
        have hqr : q ∈ Region.ready .any ops listed := by
          have hql : ops.toList[q]? = some ops[q] := by simp
          refine (ready_mem hs).2 ⟨ops[q], by simp, hq2, fun e he hb => ?_⟩
          have hlt := (mask_spec hmask hql).1 e he hb
          cases hx : listed.getD e.on false with
          | true => rfl
          | false => exact absurd ⟨by omega, hx⟩ (hq3 e.on hlt)
        rw [hn] at hqr; simp at hqr
      · obtain ⟨o, ho, hun, haft⟩ := (ready_mem hs).1 hi
        have hin : i < ops.size := (Array.getElem?_eq_some_iff.1 ho).1
        have hol : ops.toList[i]? = some o := by simpa using ho
        have hreach := reach hmask (L := fun q => listed.getD q false) hcl
        have him : i < m := by
          rcases Nat.lt_or_ge i m with h1 | h1
          · exact h1
          · exfalso
            apply hall
            intro j hj
            exact hreach i o hol haft j (by simp; omega) (htail i hin h1 j (by omega))
        obtain ⟨op, sj, e, p1, p2, p3, p4, p5, p6, p7, p8, p9, p10⟩ := hop i him
        rw [ho] at p1; cases p1
        obtain ⟨s, g, F, i1, i2, i3, i4⟩ := hinv
        have hreads : ∀ k, k ∈ readsOf ops.toList o → lk s.t k = lk sj.t k := by
          intro k hkr
          rw [i3, p9]
          refine glk_congr (fun i' e' he' hd' _ => ?_) rfl
          have him' : i' < m := by have := nth_lt he'; omega
          obtain ⟨op', _, e2, q1, q2, q3, q4, _⟩ := hop i' him'
          rw [he'] at q3; cases q3
          rcases Nat.lt_trichotomy i' i with hlt | heq | hgt
          · have hp := hpair i hin i' hlt
            rw [if_pos him] at hp
            rcases (pair_spec hp q2 p2 q4 p4).2 with h1 | h1
            · have := hreach i o hol haft i' (by simp; omega) h1
              rw [this]; simp [hlt]
            · rw [hd'] at h1; exact absurd hkr h1.2
          · subst heq; rw [hun]; simp
          · have hp := hpair i' (by omega) i hgt
            rw [if_pos him'] at hp
            rcases (pair_spec hp p2 q2 p4 q4).2 with h1 | h1
            · cases hx : listed.getD i' false with
              | false => simp; omega
              | true =>
                have := hreach i' op' q2 (fun e3 h3 h4 => hcl i' op' e3 q2 hx h3 h4) i (by simp; omega) h1
                rw [hun] at this; cases this
            · rw [hd'] at h1; exact absurd hkr h1.1
        have hget : ∀ k, k ∈ readsOf ops.toList o → s.get k = sj.get k := fun k hk' => by unfold St.get; rw [hreads k hk']
        have hev : ∀ x ∈ o.op.operands, s.ev x = sj.ev x := by
          intro x hx
          cases x with
          | tmp k =>
            refine hget k ?_
            unfold readsOf Oper.looksAt
            exact List.mem_append_left _ (List.mem_filterMap.2 ⟨.tmp k, by simpa using hx, rfl⟩)
          | const _ => rfl
          | global _ => rfl
          | func _ => rfl
        have hguard : guardAV ops.toList s o.guard = guardAV ops.toList sj o.guard := by
          unfold guardAV
          split
          · rfl
          · rename_i j want hg
            split
            · rename_i q hq
              split
              · rename_i d hd
                rw [hget d ?_]
                unfold readsOf Oper.looksAt
                rw [nthS_eq] at hq
                refine List.mem_append_right _ ?_
                rw [hg]
                simp only [Option.mem_toList]
                rw [List.getElem?_toArray, hq]
                exact hd
              · rfl
            · rfl
        have M : Mo sj s := ⟨by rw [i2, p7], fun k r hr => by
          rw [p8] at hr
          rw [i4, glk_none]
          · exact hr
          · intro i' e' he' hd' hs'
            exfalso
            obtain ⟨_, _, e2, _, _, q3, _, _, _, _, _, _, q10⟩ := hop i' (by have := nth_lt he'; omega)
            rw [he'] at q3; cases q3
            have := (free_o (q10 (by simpa [po] using hs'))).2
            rw [hd', hr] at this; cases this⟩
        have hu : ∀ (i' : Nat) (e' : Ent), es[i']? = some e' → e'.d = e.d → i' = i := fun i' e' he' hd' => huniq i' i e' e he' p3 hd'
        have hset : ∀ q, (listed.setIfInBounds i true).getD q false = if i = q then true else listed.getD q false := fun q => getD_set (by omega)
        have next : ∀ s2 g2 a' w', FR w0 B0 Fin s2 a' w' g2 → s2.h = s.h → s2.n = s.n → (∀ k, lk s2.t k = if e.d = k then some e.v else lk s.t k) → (∀ k, lk s2.o k = if e.d = k ∧ e.r.isSome = true then e.r.map (fun rows => (0, rows)) else lk s.o k) →
            wpAny P .any ops Q fuel (listed.setIfInBounds i true) a' w' := by
          intro s2 g2 a' w' F2 n1 n2 n3 n4
          refine ih _ a' w' (by simpa using hs) ?_ ?_ ?_ ⟨s2, g2, F2, n2.trans i1, n1.trans i2, ?_, ?_⟩
          · rw [Array.toList_setIfInBounds, List.count_set (by simp; omega)]
            have hx : listed.toList[i]'(by simp; omega) = false := by
              rw [Array.getD_eq_getD_getElem?, Array.getElem?_eq_getElem (by omega), Option.getD_some] at hun
              rw [Array.getElem_toList]; exact hun
            rw [hx, ← hf]; simp
          · intro j hj1 hj2
            rw [hset, if_neg (by omega)]; exact hlow j hj1 hj2
          · intro j o' e' hj hL he hb
            rw [hset] at hL ⊢
            split
            · rfl
            split at hL
            · rename_i hij; subst hij
              rw [hol] at hj; cases hj
              exact haft e' he hb
            · exact hcl j o' e' hj hL he hb
          · intro k
            rw [n3]
            by_cases hk' : e.d = k
            · rw [if_pos hk']
              exact (glk_hit (p := pt) (x := e.v) (L := fun q => (listed.setIfInBounds i true).getD q false) p3 hk' (by show (listed.setIfInBounds i true).getD i false = true; rw [hset, if_pos rfl]) rfl (fun i' e' h1 h2 => hu i' e' h1 (h2.trans hk'.symm))).symm
            · rw [if_neg hk', i3]
              refine glk_congr (fun i' e' he' hd' _ => ?_) rfl
              show listed.getD i' false = (listed.setIfInBounds i true).getD i' false
              rw [hset, if_neg]
              intro hii; subst hii
              rw [p3] at he'; cases he'
              exact hk' hd'
          · intro k
            rw [n4]
            by_cases hk' : e.d = k ∧ e.r.isSome = true
            · rw [if_pos hk']
              obtain ⟨rows, hrows⟩ := Option.isSome_iff_exists.1 hk'.2
              rw [glk_hit (L := fun q => (listed.setIfInBounds i true).getD q false) (x := (0, rows)) p3 hk'.1 (by show (listed.setIfInBounds i true).getD i false = true; rw [hset, if_pos rfl]) (by simp [po, hrows]) (fun i' e' h1 h2 => hu i' e' h1 (h2.trans hk'.1.symm))]
              simp [hrows]
            · rw [if_neg hk', i4]
              refine glk_congr (fun i' e' he' hd' hs' => ?_) rfl
              show listed.getD i' false = (listed.setIfInBounds i true).getD i' false
              rw [hset, if_neg]
              intro hii; subst hii
              rw [p3] at he'; cases he'
              exact hk' ⟨hd', by simpa [po] using hs'⟩
        have hfreeo : e.r.isSome = true → lk s.o e.d = none := by
          intro hr
          rw [i4, glk_none]
          · exact (free_o (p10 hr)).2
          · intro i' e' he' hd' _
            have := hu i' e' he' hd'
            subst this; exact hun
        have hsd : e.d < s.n := by rw [i1]; exact p5
        obtain ⟨b, hg, hb⟩ := p6
        rw [← hguard] at hg
        have hw : Region.wanted o (yielded ops a.tmps) = b := guard_sound F hg
        unfold Go.wpOp
        rw [ho]
        simp only [hw]
        cases b with
        | false =>
          simp only [Bool.false_eq_true, if_false]
          obtain ⟨hv, hr⟩ := hb
          obtain ⟨s2, hs2⟩ := putT_can (v := e.v) hsd
          obtain ⟨e1, e2, e3, e4, e5⟩ := putT_parts hs2
          refine next s2 g _ _ (by rw [p4]; exact F.put hs2 (by rw [hv]; exact .t _ _ (.sc _))) e1 e3 e5 ?_
          intro k; rw [e2, hr]; simp
        | true =>
          simp only [if_true]
          refine .inl ?_
          simp only at hb
          split at hb
          · rename_i f args hc
            obtain ⟨gg, as, r, hcg, hargs, hms', hr, hp, hq⟩ := hb
            obtain ⟨tys, hop'⟩ := isCall_is hc
            have hops : ∀ x, x = f ∨ x ∈ args.toList → x ∈ o.op.operands := by
              intro x hx
              rw [hop']
              simp only [Op.operands, Call.operands]
              rcases hx with rfl | hx
              · simp
              · simp; right; simpa using hx
            obtain ⟨_, h2, h3⟩ := argsAV_mo M (fun x hx => hev x (hops x (.inr hx))) (hev f (hops f (.inl rfl))) hcg hms' hargs
            refine call_sound hΦ hc F h2 hr (by rw [h3]; exact hp) ?_
            intro v w' g' G vs cs _ F' hv hG _
            have hv : VR w' g'.B r v G := by
              rcases hv with ⟨_, hv⟩ | ⟨r0, outs, _, _, e, _⟩
              · exact hv
              · rw [e] at hq; cases hq
            obtain ⟨s2, hs2⟩ := putT_can (v := e.v) hsd
            obtain ⟨s3, g3, F3, n1, n2, n3, n4⟩ := qres_sound F' hv hG hq hfreeo hs2
            rw [p4]
            exact next s3 g3 _ _ F3 n1 n2 n3 n4
          · rcases hb with ⟨hv, _, hr⟩ | ⟨rows, hbq, hv, hr⟩
            case inr =>
              have hfr : s.free e.d = true := by
                have h1 : lk s.o e.d = none := hfreeo (by rw [hr]; rfl)
                have h2 : lk s.h e.d = none := by rw [i2]; exact (free_o (p10 (by rw [hr]; rfl))).1
                unfold St.free; rw [h2, h1]
              obtain ⟨s2, hm2, n1, n2, n3, n4⟩ := build_evalM (buildQ_mo hev hbq) hfr hsd
              rw [← p4] at hm2
              obtain ⟨u, w', g', hrun, F'⟩ := evalM_sound hT F hm2
              have hfin := next s2 g' (a.put o.dst u) w' F' n1 n2 (fun k => by rw [n3, hv]) (fun k => by rw [n4, hr]; simp)
              unfold Oper.wp
              rcases hrun with hrun | ⟨hrun, rfl⟩
              · rw [hrun, Oper.upon_value]; exact hfin
              · rw [hrun, Oper.upon_skip]; exact hfin
            obtain ⟨u, hrun, hcr⟩ := evalV_sound hT F (evalV_mo M hev hv)
            unfold Oper.wp
            rw [hrun, Oper.upon_value]
            obtain ⟨s2, hs2⟩ := putT_can (v := e.v) hsd
            obtain ⟨e1, e2, e3, e4, e5⟩ := putT_parts hs2
            refine next s2 g _ _ (by rw [p4]; exact F.put hs2 hcr) e1 e3 e5 ?_
            intro k; rw [e2, hr]; simp
  obtain ⟨g0, F0⟩ := F0
  have hrep : ∀ q, (Array.replicate ops.size false).getD q false = false := by
    intro q
    rw [Array.getD_eq_getD_getElem?, Array.getElem?_replicate]
    split <;> rfl
  refine main _ _ _ _ (by simp) ?_ (fun i _ _ => hrep i) (fun j o e hj hL => by rw [hrep] at hL; cases hL) ⟨s0, g0, F0, rfl, rfl, ?_, ?_⟩
  · simp
  · intro k; rw [glk_none]; intro i e _ _ _; exact hrep i
  · intro k; rw [glk_none]; intro i e _ _ _; exact hrep i
end
end Go.Ev

