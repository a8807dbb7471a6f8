/- An evaluator over trees: what it tells is so (9): operations that want something to hold. -/
import Derived.Test.YtejioaahmgljgaaEvN3
set_option linter.unusedVariables false
set_option linter.unusedSimpArgs false
namespace Go.Ev
open Go Go.RowKit

section
variable {P : Program} {tab : Tab} {w0 w : World} {B0 Fin : Nat → Prop} {s s' : St} {a : Act} {g : Gh}

theorem bound_is' (F : FR w0 B0 Fin s a w g) {o : Option Operand} {d n : Int} (h : boundAV s o d = some n) : ∃ l, BoundIs (o.map a.eval) l ∧ l.getD d = n := by
  cases o with
  | none => simp only [boundAV] at h; cases h; exact ⟨none, .inl ⟨rfl, rfl⟩, rfl⟩
  | some x =>
    simp only [boundAV] at h
    split at h
    · rename_i k m hm
      cases h
      have := F.ev x
      rw [hm] at this
      exact ⟨some n, .inr ⟨k, n, by simp [cr_sc this], rfl⟩, rfl⟩
    · cases h

theorem run_slice_some {ty e size : Nat} {lo hi : Option Value} {l h : Option Int} {b off n cap : Nat} (hd : (underlying ty).run P w = .ok (.slice e) w) (hs : (sizeOf e).run P w = .ok size w) (hl : BoundIs lo l) (hh : BoundIs hi h) (hc : n ≤ cap)
    (h0 : 0 ≤ l.getD 0) (h1 : l.getD 0 ≤ h.getD n) (h2 : h.getD n ≤ n) :
    (Instr.sliceAt ty (.slice (some ⟨b, off, none⟩) n cap) lo hi none).run P w = .ok (.slice (some (if cap = (l.getD 0).toNat then ⟨b, off, none⟩ else ⟨b, off + (l.getD 0).toNat * size, none⟩)) ((h.getD n).toNat - (l.getD 0).toNat) (cap - (l.getD 0).toNat)) w := by
  have hb := bounds_run (P := P) (w := w) (isS := true) (len := n) (cap := cap) hl hh hc h0 h1 h2
  simp only [Instr.sliceAt, Instr.slice, hd, Sem.run_bind, Result.andThen_ok, hb, hs, Sem.run_pure, Option.map_some, addr_add]
  split <;> rfl
theorem run_slice_none {ty e size : Nat} {lo hi : Option Value} {l h : Option Int} (hd : (underlying ty).run P w = .ok (.slice e) w) (hs : (sizeOf e).run P w = .ok size w) (hl : BoundIs lo l) (hh : BoundIs hi h)
    (h0 : 0 ≤ l.getD 0) (h1 : l.getD 0 ≤ h.getD (0 : Nat)) (h2 : h.getD (0 : Nat) ≤ (0 : Nat)) :
    (Instr.sliceAt ty (.slice none 0 0) lo hi none).run P w = .ok (.slice none 0 0) w := by
  have hb := bounds_run (P := P) (w := w) (isS := true) (len := 0) (cap := 0) hl hh (Nat.le_refl _) h0 h1 h2
  have e1 : (l.getD 0).toNat = 0 := by
    have : l.getD 0 = 0 := by omega
    rw [this]; rfl
  have e2 : (h.getD ((0 : Nat) : Int)).toNat = 0 := by omega
  simp only [Instr.sliceAt, Instr.slice, hd, Sem.run_bind, Result.andThen_ok, hb, hs, e1, e2, Sem.run_pure]
  simp

theorem all_nth {rows : List (List T)} {size : Nat} (h : ∀ r ∈ rows, r.length = size) : ∀ (i : Nat) (r : List T), rows[i]? = some r → r.length = size := fun _ r hi => h r (List.mem_of_getElem? hi)

/-- the size of a row's cells, where it matters -/
theorem root_size {B : Nat → Prop} {q : Nat} {rows : List (List T)} {v : Value} {sz size : Nat} {F : Nat → Prop} (h : Root w B q rows v sz F) (hl : ∀ (i : Nat) (r : List T), rows[i]? = some r → r.length = size) (hq : q = 0 ∨ q = size) :
    (rows = [] ∧ v = .slice none 0 0) ∨ ∃ b off cap, v = .slice (some ⟨b, off, none⟩) rows.length cap ∧ rows.length ≤ cap ∧ (sz = size ∨ (rows = [] ∧ cap = 0)) := by
  rcases h with h | ⟨b, off, cap, us, Fs, cs, ty', rfl, hh, hcap, hc, hl', hw, hd, hb, h1, h2, htt⟩
  · exact .inl h
  · refine .inr ⟨b, off, cap, rfl, hc, ?_⟩
    by_cases hne : rows = []
    · rcases htt with ⟨_, h'⟩ | ⟨h', h''⟩
      · exact .inr ⟨hne, h' hne⟩
      · rcases hq with e | e
        · exact absurd e h'
        · exact .inl (h''.trans e)
    · left
      cases rows with
      | nil => exact absurd rfl hne
      | cons r rs => rw [← hl 0 r rfl]; exact (hl' 0 r rfl).symm

/-- a part of a root is a root -/
theorem Root.part {B : Nat → Prop} {q : Nat} {rows : List (List T)} {v : Value} {sz size : Nat} {F : Nat → Prop} (h : Root w B q rows v sz F) (hl : ∀ (i : Nat) (r : List T), rows[i]? = some r → r.length = size) (hq : q = 0 ∨ q = size) (hs0 : size ≠ 0)
    {L H : Nat} (h1 : L ≤ H) (h2 : H ≤ rows.length) : Root w B size ((rows.take H).drop L) (partV v size L H) size F := by
  have hlen : ((rows.take H).drop L).length = H - L := by simp; omega
  have hsz := root_size h hl hq
  rcases h with ⟨rfl, rfl⟩ | ⟨b, off, cap, us, Fs, cs, ty', rfl, hh, hcap, hc, hl', hw, hd, hb, h3, h4, htt⟩
  · exact .inl ⟨by simp, rfl⟩
  · have hrow : ∀ (i : Nat) (r : List T), ((rows.take H).drop L)[i]? = some r → rows[L + i]? = some r := by
      intro i r hi
      rw [List.getElem?_drop, List.getElem?_take] at hi
      split at hi
      · exact hi
      · cases hi
    have hszz : sz = size ∨ (rows = [] ∧ cap = 0) := by
      rcases hsz with ⟨e, h'⟩ | ⟨b', off', cap', h', _, h''⟩
      · cases h'
      · cases h'; exact h''
    have hkey : ∀ (i : Nat) (r : List T), ((rows.take H).drop L)[i]? = some r → sz = size := by
      intro i r hi
      rcases hszz with e | ⟨e, _⟩
      · exact e
      · have := hrow i r hi; rw [e] at this; simp at this
    simp only [partV]
    rw [← hlen]
    by_cases hcl : cap = L
    · rw [if_pos hcl]
      have hHL : H = L := by omega
      refine .inr ⟨b, off, cap - L, fun i k => us (L + i) k, fun i k => Fs (L + i) k, cs, ty', rfl, hh, by have := Nat.zero_mul size; rw [hcl, Nat.sub_self, Nat.zero_mul]; have := Nat.le_trans (Nat.le_add_right off (cap * sz)) hcap; omega, by rw [hlen]; omega, fun i r hi => hl _ _ (hrow i r hi), fun i r k x hi hk => ?_, fun i k i' k' c hc hc' => by have := hd _ _ _ _ c hc hc'; exact ⟨by omega, this.2⟩, fun i k => hb _ _, h3, fun i k c hc => h4 _ _ c hc, .inr ⟨hs0, rfl⟩⟩
      have := nth_lt hi; omega
    · rw [if_neg hcl, addr_add]
      have hsze : sz = size := by
        rcases hszz with e | ⟨e, e'⟩
        · exact e
        · subst e; simp at h2; omega
      subst hsze
      refine .inr ⟨b, off + L * sz, cap - L, fun i k => us (L + i) k, fun i k => Fs (L + i) k, cs, ty', rfl, hh, ?_, by rw [hlen]; omega, fun i r hi => hl' _ _ (hrow i r hi), fun i r k x hi hk => ?_, fun i k i' k' c hc hc' => by have := hd _ _ _ _ c hc hc'; exact ⟨by omega, this.2⟩, fun i k => hb _ _, h3, fun i k c hc => h4 _ _ c hc, .inr ⟨hs0, rfl⟩⟩
      · have : L * sz + (cap - L) * sz = cap * sz := by rw [← Nat.add_mul]; congr 1; omega
        omega
      · obtain ⟨q1, q2, q3⟩ := hw _ _ _ _ (hrow i r hi) hk
        exact ⟨by rw [show off + L * sz + (i * sz + k) = off + ((L + i) * sz + k) by rw [Nat.add_mul]; omega]; exact q1, q2, q3⟩

theorem made_nth {z : Array Value} {n m : Nat} (h : n ≤ m) {j : Nat} {u : Value} (hj : (madeCells z n).toList[j]? = some u) : (madeCells z m)[j]? = some u := by
  have hlt := nth_lt hj
  simp [size_madeCells] at hlt
  rw [Array.getElem?_toList] at hj
  simp only [madeCells, Array.getElem?_map] at hj ⊢
  rw [Array.getElem?_range] at hj ⊢
  simpa [hlt, show j < m by omega] using hj

/-- make -/
theorem make_sound (hT : TabOk P tab) (F : FR w0 B0 Fin s a w g) {d q e : Nat} {ty : TypeId} {ei : TI} {zs : List T} {l c : Int} (hu : P.underlying ty = some (.slice e)) (he : lk tab e = some ei) (hz : zRow ei = some zs)
    {s1 s2 : St} (h1 : s.clear d = some s1) (h2 : s1.putO d ⟨q, none⟩ (List.replicate l.toNat zs) = some s2) (h0 : 0 ≤ l) (hlc : l ≤ c) (hc : c ≤ 9223372036854775807) (hb : (ei.bytes : Int) * c ≤ 281474976710656) (hq : (q = 0 ∧ l = c) ∨ (q ≠ 0 ∧ ei.size = q)) :
    ∃ g' w', (Instr.makeSlice ty (.int .i64 l) (.int .i64 c)).run P w = .ok (g'.rv d) w' ∧ FR w0 B0 Fin s2 a w' g' := by
  obtain ⟨z, hz1, hzl, hzo, hzm⟩ := zRow_parts hz
  obtain ⟨v, hv, hzv, _⟩ := zero_sound (g := g) (bxs := s.h) (rts := s.o) hT he hz1 w
  obtain ⟨i, dd, hi, hdd, hti⟩ := ti_parts (hT.1 _ _ he)
  have hzone : ∀ u ∈ v.cells.toList, u.oneCell' = true := by
    intro u hu
    obtain ⟨k, hk⟩ := List.mem_iff_getElem?.1 hu
    have : z[k]? = some (.sc u) := by rw [hzv]; simp [hk]
    exact allB_all hzo k _ this
  have hiz : i.zero = some v := by
    simp only [zeroValue, typeInfo, Sem.run_bind, run_program, Result.andThen_ok, hi, Sem.run_pure] at hv
    cases hq : i.zero with
    | none => rw [hq] at hv; simp at hv
    | some v' => rw [hq] at hv; simp at hv; rw [hv]
  have hsz : ei.size = i.size := by rw [hti]
  have hby : ei.bytes = i.bytes := by rw [hti]
  have hrun := run_make (P := P) w ty e i v hu hi hiz .i64 .i64 l c h0 hlc (by rw [← hby]; exact hb) hc
  have L0 := zero_laid (w := w) hzv hzm g.B l.toNat ei.size hzl hzone
  obtain ⟨F1, hf1, hf2, _, _⟩ := F.clear h1
  have hle : l.toNat * ei.size ≤ c.toNat * i.size := by rw [← hsz]; exact Nat.mul_le_mul_right _ (by omega)
  obtain ⟨g', F2, hrv⟩ := F1.allocRoot (q := q) (cap := c.toNat) (cs := madeCells v.cells (c.toNat * i.size)) (ty := e) (w1 := w) L0 (fun _ _ _ h => h.elim) h2 hf2 rfl rfl rfl rfl (fun j u hj => made_nth hle hj) (by rw [size_madeCells, hsz]; exact Nat.le_refl _) (by rw [List.length_replicate]; omega)
    (by
      rcases hq with ⟨e1, e2⟩ | e1
      · refine .inl ⟨e1, fun h => ?_⟩
        have := congrArg List.length h
        simp at this; omega
      · exact .inr e1)
  rw [List.length_replicate] at hrv
  exact ⟨g', _, by rw [hrv]; exact hrun, F2⟩

/-- the ways of append's rows -/
theorem srcRows_sound (F : FR w0 B0 Fin s a w g) {flat : Bool} {x : AV} {v : Value} {c : Prop} {rows : List (List T)} {s2 : St} {size : Nat} (hx : CR w g s.h s.o x v) (h : srcRows s flat x = some (c, rows, s2)) (hc : c) (hl : ∀ r ∈ rows, r.length = size) :
    FR w0 B0 Fin s2 a w g ∧ Subs s s2 ∧ ∃ Gs, Src w g.B size rows v Gs ∧ ∀ j k b, Gs j k b → Freed w0 w Fin g s s2 b := by
  have hl' := all_nth hl
  have flatT_one : ∀ {y : T}, flatT y = true → ∃ u, y = .sc u ∧ u.oneCell' = true := by
    intro y hy
    unfold flatT at hy
    split at hy <;> first | exact ⟨_, rfl, rfl⟩ | cases hy
  unfold srcRows at h
  split at h
  · split at h
    case h_2 => cases h
    rename_i rows' hr
    cases h
    -- whatever it is, its cells are numbers
    have hrep : ∃ B' : Nat → Prop, ∃ o, Rep w B' (.sl o rows) v := by
      unfold rowsAV at hr
      split at hr
      · cases hr
        cases hx with
        | t x v hq => exact ⟨_, _, hq⟩
      · cases hr
        cases hx with
        | t x v hq => cases hq; exact ⟨fun _ => True, false, .nil _⟩
      · rename_i id
        cases hx with
        | rf id rows' hi =>
          obtain ⟨q, rows'⟩ := rows'
          simp only [hi] at hr; cases hr
          exact ⟨fun _ => True, false, (F.rt id _ hi).1.rep (fun _ _ => trivial) (fun _ _ => trivial) _⟩
      · rename_i id lo hh
        cases hx with
        | rw id lo hh rows' hi h1 h2 =>
          obtain ⟨q, rows'⟩ := rows'
          simp only [hi] at hr; cases hr
          have hq := (F.rt id _ hi).1.rep (B' := fun _ => True) (fun _ _ => trivial) (fun _ _ => trivial) false
          refine ⟨fun _ => True, false, ?_⟩
          simp only at hq h2
          -- a part of it
          have hlen : ((rows'.take hh).drop lo).length = hh - lo := by simp; omega
          have hrow : ∀ (i : Nat) (r : List T), ((rows'.take hh).drop lo)[i]? = some r → rows'[lo + i]? = some r := by
            intro i r hi
            rw [List.getElem?_drop, List.getElem?_take] at hi
            split at hi
            · exact hi
            · cases hi
          obtain ⟨hroot, _⟩ := F.rt id _ hi
          simp only at hroot
          rcases hroot with ⟨e, he⟩ | ⟨b, off, cap, us, Fs, cs, ty', he, hh', hcap, hcc, hl', hw, hd, hb, h3, h4, htt⟩
          · rw [he, e]; simp [partV]; exact .nil _
          · rw [he]
            simp only [partV]
            rw [← hlen]
            by_cases hcl : cap = lo
            · rw [if_pos hcl]
              have hE : (rows'.take hh).drop lo = [] := List.length_eq_zero_iff.1 (by rw [hlen]; omega)
              rw [hE]
              exact .sl _ _ b off _ 0 (fun _ _ => undef) (fun _ => trivial) (by simp) (by simp) (by simp) (by simp)
            · rw [if_neg hcl, addr_add]
              refine .sl _ _ b (off + lo * g.sz id) _ (g.sz id) (fun i k => us (lo + i) k) (fun _ => trivial) (by rw [hlen]; omega) (fun i r hi => hl' _ _ (hrow i r hi)) (fun i r k x hi hk => ?_) (fun i r k x hi hk => ?_)
              · obtain ⟨q1, _, _⟩ := hw _ _ _ _ (hrow i r hi) hk
                rw [show off + lo * g.sz id + (i * g.sz id + k) = off + ((lo + i) * g.sz id + k) by rw [Nat.add_mul]; omega]
                simp [World.cell?, hh', q1]
              · exact (hw _ _ _ _ (hrow i r hi) hk).2.1.rep (fun _ _ => trivial) fun _ _ => trivial
      · cases hr
        cases hx with
        | bw x id v rows' hi hq => exact ⟨_, _, hq⟩
      · cases hr
    obtain ⟨B', o, hrep⟩ := hrep
    refine ⟨F, .refl _, _, rep_src hrep hl' rfl (fun i r hi => ⟨r, hi, rfl, fun k y hk => ⟨y, hk, fun u hu => ?_⟩⟩), fun _ _ _ h => h.elim⟩
    obtain ⟨u', rfl, ho⟩ := flatT_one (hc r (List.mem_of_getElem? hi) y (List.mem_of_getElem? hk))
    cases hu
    exact ⟨.sc _ _, ho⟩
  · split at h
    · rename_i o rows0
      cases h
      cases hx with
      | t x v hq =>
        refine ⟨F, .refl _, _, rep_src (rows' := shrR rows0) hq (fun i r hi => ?_) (shrR_len _) (fun i r' hi => ?_), fun _ _ _ h => h.elim⟩
        · have : (shrR rows0)[i]? = some (shrL r) := by rw [shrR_nth, hi]; rfl
          have := hl' i _ this
          rw [shrL_len] at this; exact this
        · obtain ⟨r, hr, rfl⟩ := shrR_inv hi
          refine ⟨r, hr, shrL_len _, fun k y' hk => ?_⟩
          obtain ⟨y, hy, rfl⟩ := shrL_inv hk
          refine ⟨y, hy, fun u hu => ⟨own_share hu _, rep_one hu fun u' e => ?_⟩⟩
          have := hc r (List.mem_of_getElem? hr) y (List.mem_of_getElem? hy)
          rw [e] at this; exact this
    · cases h
      cases hx with
      | t x v hq =>
        cases hq
        exact ⟨F, .refl _, fun _ _ _ => False, ⟨by simp, .inl ⟨rfl, rfl⟩, fun _ _ _ _ _ h => h.elim⟩, fun _ _ _ h => h.elim⟩
    · rename_i id
      split at h
      case h_2 => cases h
      rename_i q rows0 hi
      split at h
      case h_2 => cases h
      rename_i s1 hd
      cases h
      obtain ⟨F', hs, _, hr, hf⟩ := drop_root F hi hd
      cases hx with
      | rf id rows' hi' =>
        obtain ⟨Gs, hS, hG⟩ := Root.src hr hl'
        exact ⟨F', hs, Gs, hS, fun j k b hb => hf b (hG j k b hb)⟩
    · cases h

theorem headRows_sound (F : FR w0 B0 Fin s a w g) {h0 : Bxs} {o0 : Rts} {x : AV} {v : Value} {q : Nat} {rows : List (List T)} {s2 : St} (hx : CR w g h0 o0 x v) (h : headRows s x = some (q, rows, s2)) :
    FR w0 B0 Fin s2 a w g ∧ Subs s s2 ∧ ∃ sz G, Root w g.B q rows v sz G ∧ ∀ b, G b → Freed w0 w Fin g s s2 b := by
  unfold headRows at h
  split at h
  · cases h
    cases hx with
    | t x v hq =>
      cases hq
      exact ⟨F, .refl _, 0, fun _ => False, .inl ⟨rfl, rfl⟩, fun _ h => h.elim⟩
  · rename_i id
    split at h
    case h_2 => cases h
    rename_i q0 rows0 hi
    split at h
    case h_2 => cases h
    rename_i s1 hd
    cases h
    obtain ⟨F', hs, _, hr, hf⟩ := drop_root F hi hd
    cases hx with
    | rf id rows' hi' => exact ⟨F', hs, g.sz id, g.fo id, hr, hf⟩
  · cases h

/-- an operation that wants something to hold -/
theorem evalC_sound (hT : TabOk P tab) (F : FR w0 B0 Fin s a w g) {o : Oper} {c : Prop} (h : evalC tab s o.op o.dst = some (c, s')) (hc : c) :
    ∃ u w' g', (execOp a.eval o).run P w = .ok (.value u) w' ∧ FR w0 B0 Fin s' (a.put o.dst u) w' g' := by
  unfold evalC at h
  split at h
  · rename_i ty l c' ho
    split at h
    case h_2 => cases h
    rename_i d hd
    split at h
    case h_2 => cases h
    rename_i e _ _ _ ht
    split at h
    case h_2 => cases h
    rename_i ei he
    split at h
    case h_2 => cases h
    rename_i zs hz
    split at h
    case h_2 => cases h
    rename_i ln hl
    split at h
    case h_2 => cases h
    rename_i cn hcn
    split at h
    case h_2 => cases h
    rename_i s1 h1
    split at h
    case h_2 => cases h
    rename_i s2 h2
    split at h
    case h_2 => cases h
    rename_i s3 h3
    cases h
    obtain ⟨c1, c2, c3, c4, c5⟩ := hc
    obtain ⟨dd, hdd, htd, hPd⟩ := ti_und (hT.1 _ _ ht) w
    cases td_sl htd
    obtain ⟨g', w', hrun, F'⟩ := make_sound hT F (q := ei.size) hPd he hz h1 h2 c1 c2 c3 c4 (.inr ⟨c5, rfl⟩)
    have hlv := F.ev l
    have hcv := F.ev c'
    rw [hl] at hlv
    rw [hcn] at hcv
    refine ⟨g'.rv d, w', g', ?_, ?_⟩
    · simp only [execOp, ho, cr_sc hlv, cr_sc hcv, Sem.run_bind, hrun, Result.andThen_ok, Sem.run_pure]
    · rw [hd]
      refine F'.put h3 ?_
      obtain ⟨_, _, _, e4⟩ := putO_parts h2
      exact .rf d _ (by rw [e4, if_pos rfl])
  · rename_i ty x lo hi ho
    split at h
    case h_2 => cases h
    rename_i e _ _ _ ht
    split at h
    case h_2 => cases h
    rename_i ei he
    split at h
    case h_2 => cases h
    rename_i id hx
    split at h
    case h_2 => cases h
    rename_i q rows hid
    split at h
    case h_2 => cases h
    rename_i l hl
    split at h
    case h_2 => cases h
    rename_i hh hhi
    split at h
    case h_2 => cases h
    rename_i s1 h1
    cases h
    obtain ⟨c1, c2, c3, c4⟩ := hc
    obtain ⟨dd, hdd, htd, hPd⟩ := ti_und (hT.1 _ _ ht) w
    cases td_sl htd
    have hsz := ti_size (hT.1 _ _ he) w
    obtain ⟨lb, hlb, el⟩ := bound_is' F hl
    obtain ⟨hb, hhb, eh⟩ := bound_is' F hhi
    have hxv := F.ev x
    rw [hx] at hxv
    have hxe : a.eval x = g.rv id := by
      generalize a.eval x = v at hxv
      cases hxv; rfl
    obtain ⟨hroot, _⟩ := F.rt id _ hid
    simp only at hroot
    have hcr : CR w g s.h s.o (.rw id l.toNat hh.toNat) (partV (g.rv id) (g.sz id) l.toNat hh.toNat) := .rw id _ _ _ hid (by omega) (by simp only; omega)
    refine ⟨partV (g.rv id) (g.sz id) l.toNat hh.toNat, w, g, ?_, F.put h1 hcr⟩
    rcases hroot with ⟨e1, e2⟩ | ⟨b, off, cap, us, Fs, cs, ty', e2, hh', hcap, hcc, hl', hw, hd, hbb, h3, h4, htt⟩
    · have hlen : rows.length = 0 := by rw [e1]; rfl
      have hrun := run_slice_none (P := P) (w := w) hdd hsz hlb hhb (by rw [el]; exact c1) (by rw [el]; rw [hlen] at eh; rw [eh]; exact c2) (by rw [hlen] at eh; rw [eh]; rw [hlen] at c3; exact c3)
      rw [e2] at hxe
      simp only [execOp, ho, hxe, Sem.run_bind, Option.map_none]
      rw [hrun, e2]; rfl
    · have hrun := run_slice_some (P := P) (w := w) (b := b) (off := off) (n := rows.length) (cap := cap) hdd hsz hlb hhb hcc (by rw [el]; exact c1) (by rw [el, eh]; exact c2) (by rw [eh]; exact c3)
      rw [e2] at hxe
      simp only [execOp, ho, hxe, Sem.run_bind, Option.map_none]
      rw [hrun, e2, el, eh]
      simp only [partV, Result.andThen_ok, Sem.run_pure]
      have hse : rows ≠ [] → g.sz id = ei.size := by
        intro hne
        cases rows with
        | nil => exact absurd rfl hne
        | cons r rs => rw [← c4 r (by simp)]; exact (hl' 0 r rfl).symm
      by_cases hcl : cap = l.toNat
      · simp [hcl]
      · simp only [if_neg hcl, addr_add]
        by_cases hne : rows = []
        · have : l.toNat = 0 := by rw [hne] at c3; simp at c3; omega
          rw [this]; simp
        · rw [hse hne]
  · rename_i args tys ho
    split at h
    case h_2 => cases h
    rename_i d hd
    split at h
    case h_2 => cases h
    rename_i ty ty2 htys
    split at h
    case h_2 => cases h
    rename_i hbeq
    have hte := beq_t hbeq
    subst hte
    split at h
    case h_2 => cases h
    rename_i e _ _ _ ht
    split at h
    case h_2 => cases h
    rename_i ei he
    split at h
    case h_2 => cases h
    rename_i zs hz
    split at h
    case h_2 => cases h
    rename_i hble
    split at h
    case h_2 => cases h
    rename_i x y hargs
    split at h
    case h_2 => cases h
    rename_i c2 rows2 s1 hsrc
    split at h
    case h_2 => cases h
    rename_i q rows1 s2 hhead
    split at h
    case h_2 => cases h
    rename_i s3 h3
    split at h
    case h_2 => cases h
    rename_i s4 h4
    split at h
    case h_2 => cases h
    rename_i s5 h5
    cases h
    obtain ⟨c1, c3, c4, c5, c6⟩ := hc
    obtain ⟨dd, hdd, htd, hPd⟩ := ti_und (hT.1 _ _ ht) w
    cases td_sl htd
    obtain ⟨z, hz1, hzl, hzo, hzm⟩ := zRow_parts hz
    obtain ⟨v, hv, hzv, _⟩ := zero_sound (g := g) (bxs := s.h) (rts := s.o) hT he hz1 w
    obtain ⟨i, dd, hi, hdd', hti⟩ := ti_parts (hT.1 _ _ he)
    have hiz : i.zero = some v := by
      simp only [zeroValue, typeInfo, Sem.run_bind, run_program, Result.andThen_ok, hi, Sem.run_pure] at hv
      cases hq : i.zero with
      | none => rw [hq] at hv; simp at hv
      | some v' => rw [hq] at hv; simp at hv; rw [hv]
    have hsz : ei.size = i.size := by rw [hti]
    have hby : ei.bytes = i.bytes := by rw [hti]
    simp only [Bool.and_eq_true] at hble
    have hb1 : 1 ≤ i.bytes := by rw [← hby]; exact Nat.le_of_ble_eq_true hble.1
    have hs1 : 1 ≤ i.size := by rw [← hsz]; exact Nat.le_of_ble_eq_true hble.2
    obtain ⟨F1, hsub1, Gs, hS, hG⟩ := srcRows_sound F (F.ev y) hsrc c6 c4
    obtain ⟨F2, hsub2, sz, G, hroot, hGf⟩ := headRows_sound F1 (F1.ev x) hhead
    obtain ⟨F3, hf1, hf2, hbx, hrx⟩ := F2.clear h3
    have hsub3 : Subs s2 s3 := ⟨hbx, hrx⟩
    have hzc : v.cells.size = i.size := by rw [hzv] at hzl; simpa [hsz] using hzl
    rw [hsz] at hS
    obtain ⟨v', w', g', hrun, F', hrv⟩ := append_sound (ty := o.type) F3 h4 hf2 hPd hi hiz hs1 hzc hb1 (by rw [← hby]; exact c1) hroot (by rw [← hsz]; exact c5) (fun j r hj => by rw [← hsz]; exact all_nth c3 j r hj)
      (fun b hb => ⟨(hGf b hb).1, (hGf b hb).2.1, fun hu => (hGf b hb).2.2.1 (hsub3.used hu)⟩) hS
      (fun j k b hb => ⟨(hG j k b hb).1, (hG j k b hb).2.1, fun hu => (hG j k b hb).2.2.1 (hsub2.used (hsub3.used hu)), fun hb' => (hG j k b hb).2.2.1 (hGf b hb').2.2.2⟩)
    refine ⟨v', w', g', ?_, ?_⟩
    · have e1 : args = #[x, y] := by apply Array.ext'; simpa using hargs
      have e2 : tys = #[ty, ty] := by apply Array.ext'; simpa using htys
      subst e1; subst e2
      simp only [execOp, ho, resolve, Sem.run_bind, Sem.run_pure, Result.andThen_ok, invoke, builtin]
      simp only [List.map_toArray, List.map_cons, List.map_nil]
      rw [hrun]; rfl
    · rw [hd]
      refine F'.put h5 ?_
      obtain ⟨_, _, _, e4⟩ := putO_parts h4
      rw [← hrv]
      exact .rf d _ (by rw [e4, if_pos rfl])
  · cases h

theorem evalC2_sound (hT : TabOk P tab) (F : FR w0 B0 Fin s a w g) {o : Oper} {c : Prop} (h : evalC2 tab s o.op o.dst = some (c, s')) (hc : c) :
    ∃ u w' g', (execOp a.eval o).run P w = .ok (.value u) w' ∧ FR w0 B0 Fin s' (a.put o.dst u) w' g' := by
  unfold evalC2 at h
  split at h
  · rename_i ty l c' ho
    split at h
    case h_2 => cases h
    rename_i d hd
    split at h
    case h_2 => cases h
    rename_i e _ _ _ ht
    split at h
    case h_2 => cases h
    rename_i ei he
    split at h
    case h_2 => cases h
    rename_i zs hz
    split at h
    case h_2 => cases h
    rename_i ln hl
    split at h
    case h_2 => cases h
    rename_i cn hcn
    split at h
    case h_2 => cases h
    rename_i s1 h1
    split at h
    case h_2 => cases h
    rename_i s2 h2
    split at h
    case h_2 => cases h
    rename_i s3 h3
    cases h
    obtain ⟨c1, c2, c3, c4⟩ := hc
    obtain ⟨dd, hdd, htd, hPd⟩ := ti_und (hT.1 _ _ ht) w
    cases td_sl htd
    obtain ⟨g', w', hrun, F'⟩ := make_sound hT F (q := 0) hPd he hz h1 h2 c1 (by omega) c3 c4 (.inl ⟨rfl, c2⟩)
    have hlv := F.ev l
    have hcv := F.ev c'
    rw [hl] at hlv
    rw [hcn] at hcv
    refine ⟨g'.rv d, w', g', ?_, ?_⟩
    · simp only [execOp, ho, cr_sc hlv, cr_sc hcv, Sem.run_bind, hrun, Result.andThen_ok, Sem.run_pure]
    · rw [hd]
      refine F'.put h3 ?_
      obtain ⟨_, _, _, e4⟩ := putO_parts h2
      exact .rf d _ (by rw [e4, if_pos rfl])
  · rename_i ty x lo hi ho
    split at h
    case h_2 => cases h
    rename_i d hd
    split at h
    case h_2 => cases h
    rename_i e _ _ _ ht
    split at h
    case h_2 => cases h
    rename_i ei he
    split at h
    case h_2 => cases h
    rename_i id hx
    split at h
    case h_2 => cases h
    rename_i q rows hid
    split at h
    case h_2 => cases h
    rename_i l hl
    split at h
    case h_2 => cases h
    rename_i hh hhi
    split at h
    case h_2 => cases h
    rename_i s0 h0
    split at h
    case h_2 => cases h
    rename_i s1 h1
    split at h
    case h_2 => cases h
    rename_i s2 h2
    split at h
    case h_2 => cases h
    rename_i s3 h3
    cases h
    obtain ⟨c1, c2, c3, c4, c5, c6⟩ := hc
    obtain ⟨dd, hdd, htd, hPd⟩ := ti_und (hT.1 _ _ ht) w
    cases td_sl htd
    have hsz := ti_size (hT.1 _ _ he) w
    obtain ⟨lb, hlb, el⟩ := bound_is' F hl
    obtain ⟨hb, hhb, eh⟩ := bound_is' F hhi
    have hxv := F.ev x
    rw [hx] at hxv
    have hxe : a.eval x = g.rv id := by
      generalize a.eval x = v at hxv
      cases hxv; rfl
    obtain ⟨F0, hsub0, hn0, hroot, hfr⟩ := drop_root F hid h0
    obtain ⟨F1, hf1, hf2, hbx, hrx⟩ := F0.clear h1
    have hsub1 : Subs s0 s1 := ⟨hbx, hrx⟩
    simp only at hroot
    have hpart := Root.part hroot (all_nth c4) c5 c6 (L := l.toNat) (H := hh.toNat) (by omega) (by omega)
    have F2 := F1.newRoot h2 hf2 hpart (fun b hb => ⟨(hfr b hb).1, (hfr b hb).2.1, fun hu => (hfr b hb).2.2.1 (hsub1.used hu)⟩)
    refine ⟨partV (g.rv id) ei.size l.toNat hh.toNat, w, { g with rv := upd g.rv d (partV (g.rv id) ei.size l.toNat hh.toNat), sz := upd g.sz d ei.size, fo := upd g.fo d (g.fo id) }, ?_, ?_⟩
    case refine_2 =>
      rw [hd]
      refine F2.put h3 ?_
      obtain ⟨_, _, _, e4⟩ := putO_parts h2
      have := CR.rf (w := w) (g := { g with rv := upd g.rv d (partV (g.rv id) ei.size l.toNat hh.toNat), sz := upd g.sz d ei.size, fo := upd g.fo d (g.fo id) }) (h := s2.h) (o := s2.o) d _ (by rw [e4, if_pos rfl])
      simpa [upd] using this
    · rcases root_size hroot (all_nth c4) c5 with ⟨e1, e2⟩ | ⟨b, off, cap, e2, hcc, _⟩
      · have hlen : rows.length = 0 := by rw [e1]; rfl
        have hrun := run_slice_none (P := P) (w := w) hdd hsz hlb hhb (by rw [el]; exact c1) (by rw [el]; rw [hlen] at eh; rw [eh]; exact c2) (by rw [hlen] at eh; rw [eh]; rw [hlen] at c3; exact c3)
        rw [e2] at hxe
        simp only [execOp, ho, hxe, Sem.run_bind, Option.map_none]
        rw [hrun, e2]; rfl
      · have hrun := run_slice_some (P := P) (w := w) (b := b) (off := off) (n := rows.length) (cap := cap) hdd hsz hlb hhb hcc (by rw [el]; exact c1) (by rw [el, eh]; exact c2) (by rw [eh]; exact c3)
        rw [e2] at hxe
        simp only [execOp, ho, hxe, Sem.run_bind, Option.map_none]
        rw [hrun, e2, el, eh]
        simp only [partV, Result.andThen_ok, Sem.run_pure]
        by_cases hcl : cap = l.toNat
        · simp [hcl]
        · simp only [if_neg hcl, addr_add]
  · cases h
end
end Go.Ev
