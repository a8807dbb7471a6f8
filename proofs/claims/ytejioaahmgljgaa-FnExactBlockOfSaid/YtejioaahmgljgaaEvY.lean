/- An evaluator over trees: what it tells is so (13): operations in no order. -/
import Derived.Test.YtejioaahmgljgaaEvX
import Derived.Orders
set_option linter.unusedVariables false
set_option linter.unusedSimpArgs false
namespace Go.Ev
open Go Go.RowKit

structure Ent where
  d : Nat
  v : AV
  r : Option (List (List T))
def pt (e : Ent) : Option AV := some e.v
def po (e : Ent) : Option (QV × List (List T)) := e.r.map fun rows => (0, rows)
/-- what is told of a name when some of the operations are done -/
def glk {α : Type} (p : Ent → Option α) : (Nat → Bool) → (Nat → Option α) → List Ent → Nat → Option α
  | _, base, [], k => base k
  | L, base, e :: es, k => glk p (fun q => L (q + 1)) (fun k => if L 0 = true ∧ e.d = k ∧ (p e).isSome = true then p e else base k) es k

theorem glk_congr {α : Type} {p : Ent → Option α} {k : Nat} : ∀ {es : List Ent} {L L' : Nat → Bool} {base base' : Nat → Option α}, (∀ (i : Nat) (e : Ent), es[i]? = some e → e.d = k → (p e).isSome = true → L i = L' i) → base k = base' k → glk p L base es k = glk p L' base' es k := by
  intro es
  induction es with
  | nil => intro L L' base base' _ h; exact h
  | cons e es ih =>
    intro L L' base base' h hb
    refine ih (fun i e' he => h (i + 1) e' (by simpa using he)) ?_
    have h0 := h 0 e rfl
    by_cases hd : e.d = k
    · by_cases hs : (p e).isSome = true
      · rw [h0 hd hs]; simp only [hd, hs, hb]
      · simp [hs, hb]
    · simp [hd, hb]
theorem glk_none {α : Type} {p : Ent → Option α} {k : Nat} {es : List Ent} {L : Nat → Bool} {base : Nat → Option α} (h : ∀ (i : Nat) (e : Ent), es[i]? = some e → e.d = k → (p e).isSome = true → L i = false) : glk p L base es k = base k := by
  have : ∀ (es : List Ent) (base : Nat → Option α), glk p (fun _ => false) base es k = base k := by
    intro es
    induction es with
    | nil => intro base; rfl
    | cons e es ih => intro base; rw [glk, ih]; simp
  rw [← this es base]
  exact glk_congr h rfl
theorem glk_hit {α : Type} {p : Ent → Option α} {k : Nat} {x : α} : ∀ {es : List Ent} {L : Nat → Bool} {base : Nat → Option α} {i : Nat} {e : Ent}, es[i]? = some e → e.d = k → L i = true → p e = some x → (∀ (i' : Nat) (e' : Ent), es[i']? = some e' → e'.d = k → i' = i) → glk p L base es k = some x := by
  intro es
  induction es with
  | nil => intro L base i e h; simp at h
  | cons e0 es ih =>
    intro L base i e h hd hL hp hu
    cases i with
    | zero =>
      simp at h; subst h
      rw [glk, glk_none]
      · simp [hL, hd, hp]
      · intro i' e' he' hd' _
        have := hu (i' + 1) e' (by simpa using he') hd'
        omega
    | succ i =>
      rw [glk]
      exact ih (i := i) (e := e) (by simpa using h) hd hL hp fun i' e' he' hd' => by have := hu (i' + 1) e' (by simpa using he') hd'; omega

section
variable {P : Program} {w0 : World} {B0 Fin : Nat → Prop} {Φ : Rel3} {E : Env} {all : List Oper}

theorem putT_can {s : St} {d : Nat} {v : AV} (hd : d < s.n) : ∃ s', s.putT (some d) v = some s' := by
  obtain ⟨t, h, o, n⟩ := s
  have hp : ∀ (l : List (Nat × AV)) (y : AV), ∃ l', pu l d y = some l' := by
    intro l y
    induction l with
    | nil => exact ⟨_, rfl⟩
    | cons p r ih =>
      obtain ⟨k, w⟩ := p
      obtain ⟨r', hr⟩ := ih
      rw [pu, hr]
      cases Nat.beq k d <;> exact ⟨_, rfl⟩
  have hf : fA v = some v := by cases v <;> rfl
  obtain ⟨t', ht⟩ := hp t v
  refine ⟨⟨t', h, o, n⟩, ?_⟩
  simp only [St.putT]
  have hb : Nat.blt d n = true := by rw [Nat.blt_eq]; exact hd
  rw [hb, hf]
  simp only [ht]

theorem absorbQ_eq : ∀ {cs : List AV} {ts : List T} {s : St}, absorbQ cs = some ts → absorbL s cs = some (ts, s) := by
  intro cs
  induction cs with
  | nil => intro ts s h; cases h; rfl
  | cons x cs ih =>
    intro ts s h
    cases x
    case t y =>
     rw [absorbQ] at h
     split at h
     case h_2 => cases h
     rename_i ts' hts
     have := ih (s := s) hts
     split at h
     · rename_i v
       split at h
       · cases h; simp [absorbL, absorb1, this]
       · rename_i hne
         cases h
         rw [absorbL, absorb1]
         · simp only [this]
         · exact hne
     · cases h; simp [absorbL, absorb1, this]
     · cases h; simp [absorbL, absorb1, this]
     · cases h; simp [absorbL, absorb1, this]
    all_goals (rw [absorbQ] at h <;> first | cases h | (intro y hy; cases hy))
theorem fillQ_eq {size : Nat} {s : St} : ∀ {ps : List (Nat × AV)} {rows0 rows : List (List T)}, fillQ size rows0 ps = some rows → fillRows size s rows0 ps = some (rows, s) := by
  intro ps
  induction ps with
  | nil => intro rows0 rows h; cases h; rfl
  | cons p ps ih =>
    obtain ⟨i, x⟩ := p
    intro rows0 rows h
    rw [fillQ] at h
    rw [fillRows]
    split at h
    case h_2 => cases h
    rename_i cs hc
    split at h
    case h_2 => cases h
    rename_i hl
    split at h
    case h_2 => cases h
    rename_i ts hts
    split at h
    case h_2 => cases h
    rename_i rows1 hr
    simp only [hc, hl, absorbQ_eq (s := s) hts, hr]
    exact ih h
theorem putO_can {s : St} {d : Nat} {q : QV} {rows : List (List T)} : ∃ s1, s.putO d q rows = some s1 := by
  obtain ⟨t, hh, o, n⟩ := s
  have hp : ∀ (l : Rts), ∃ l', pu l d (q, rows) = some l' := by
    intro l
    induction l with
    | nil => exact ⟨_, rfl⟩
    | cons p r ih =>
      obtain ⟨k, w⟩ := p
      obtain ⟨r', hr⟩ := ih
      rw [pu, hr]
      cases Nat.beq k d <;> exact ⟨_, rfl⟩
  obtain ⟨o', ho'⟩ := hp o
  exact ⟨⟨t, hh, o', n⟩, by simp only [St.putO, ho']⟩
theorem build_evalM {tab : Tab} {s : St} {o : Op} {d : Nat} {rows : List (List T)} (h : buildQ tab s o = some rows) (hf : s.free d = true) (hd : d < s.n) :
    ∃ s2, evalM tab s o (some d) = some s2 ∧ s2.h = s.h ∧ s2.n = s.n ∧ (∀ k, lk s2.t k = if d = k then some (.rf d) else lk s.t k) ∧ (∀ k, lk s2.o k = if d = k then some (0, rows) else lk s.o k) := by
  unfold buildQ at h
  split at h
  case h_2 => cases h
  rename_i ty len parts
  split at h
  case h_2 => cases h
  rename_i e _ _ _ ht
  split at h
  case h_2 => cases h
  rename_i ei he
  split at h
  case h_2 => cases h
  rename_i zs hz
  split at h
  case h_2 => cases h
  rename_i hb
  split at h
  case h_2 => cases h
  rename_i rows0 hr0
  split at h
  case h_2 => cases h
  rename_i ps hps
  obtain ⟨s1, h1⟩ := putO_can (s := s) (d := d) (q := 0) (rows := rows)
  obtain ⟨p1, p2, p3, p4⟩ := putO_parts h1
  obtain ⟨s2, h2⟩ := putT_can (s := s1) (d := d) (v := AV.rf d) (by rw [p3]; exact hd)
  obtain ⟨q1, q2, q3, q4, q5⟩ := putT_parts h2
  refine ⟨s2, ?_, q1.trans p2, q3.trans p3, fun k => by rw [q5, p1], fun k => by rw [q2, p4]⟩
  simp only [evalM, ht, he, hz, hb, hr0, hps, fillQ_eq (s := s) h, St.clear, hf, h1, h2]
theorem buildQ_mo {tab : Tab} {s s' : St} {o : Op} {rows : List (List T)} (hev : ∀ x ∈ o.operands, s'.ev x = s.ev x) (h : buildQ tab s o = some rows) : buildQ tab s' o = some rows := by
  unfold buildQ at h ⊢
  split at h
  case h_2 => cases h
  rename_i ty len parts
  split at h
  case h_2 => cases h
  rename_i e _ _ _ ht
  split at h
  case h_2 => cases h
  rename_i ei he
  split at h
  case h_2 => cases h
  rename_i zs hz
  split at h
  case h_2 => cases h
  rename_i hb
  split at h
  case h_2 => cases h
  rename_i rows0 hr0
  split at h
  case h_2 => cases h
  rename_i ps hps
  have hps' : evParts s' parts.toList = some ps := evParts_mo (fun p hp => hev _ (by simp only [Op.operands]; simp; exact ⟨p.1, by simpa using hp⟩)) hps
  simp only [ht, he, hz, hb, hr0, hps']
  exact h

/-- the operations one by one, in the order that they are told -/
theorem chain : ∀ {l : List Oper} {s : St} {pend : List (Nat × QV × List (List T))} {K : St → Prop}, wpQ Φ E all l s pend K →
    ∃ es sF, es.length = l.length ∧ K sF ∧ sF.h = s.h ∧ sF.n = s.n ∧ (∀ k, lk sF.t k = glk pt (fun _ => true) (lk s.t) es k) ∧ (∀ k, lk sF.o k = glk po (fun _ => true) (lk (pend ++ s.o)) es k) ∧
      ∀ (j : Nat) (op : Oper), l[j]? = some op → ∃ sj e, es[j]? = some e ∧ op.dst = some e.d ∧ e.d < s.n ∧ QOk Φ E all sj op e.d e.v e.r ∧ sj.h = s.h ∧ sj.o = s.o ∧
        (∀ k, lk sj.t k = glk pt (fun q => decide (q < j)) (lk s.t) es k) ∧ (e.r.isSome = true → s.free e.d = true) := by
  intro l
  induction l with
  | nil =>
    intro s pend K h
    obtain ⟨o, ho, hK⟩ := h
    have := appS_eq ho; subst this
    exact ⟨[], _, rfl, hK, rfl, rfl, fun _ => rfl, fun _ => rfl, fun j op hj => by simp at hj⟩
  | cons op l ih =>
    intro s pend K h
    obtain ⟨d, v, root, s', hd, hq, hp, h⟩ := h
    obtain ⟨e1, e2, e3, e4, e5⟩ := putT_parts hp
    have hfr : ∀ q, s'.free q = s.free q := fun q => by unfold St.free; rw [e1, e2]
    have hbase : (fun k => if (fun _ : Nat => true) 0 = true ∧ d = k ∧ (pt ⟨d, v, root⟩).isSome = true then pt ⟨d, v, root⟩ else lk s.t k) = lk s'.t := by
      funext k
      rw [e5]
      by_cases hk : d = k <;> simp [hk, pt]
    have fin : ∀ pend', wpQ Φ E all l s' pend' K → (∀ k, lk (pend' ++ s'.o) k = if d = k ∧ root.isSome = true then po ⟨d, v, root⟩ else lk (pend ++ s.o) k) → (root.isSome = true → s.free d = true) →
        ∃ es sF, es.length = (op :: l).length ∧ K sF ∧ sF.h = s.h ∧ sF.n = s.n ∧ (∀ k, lk sF.t k = glk pt (fun _ => true) (lk s.t) es k) ∧ (∀ k, lk sF.o k = glk po (fun _ => true) (lk (pend ++ s.o)) es k) ∧
      ∀ (j : Nat) (op' : Oper), (op :: l)[j]? = some op' → ∃ sj e, es[j]? = some e ∧ op'.dst = some e.d ∧ e.d < s.n ∧ QOk Φ E all sj op' e.d e.v e.r ∧ sj.h = s.h ∧ sj.o = s.o ∧
        (∀ k, lk sj.t k = glk pt (fun q => decide (q < j)) (lk s.t) es k) ∧ (e.r.isSome = true → s.free e.d = true) := by
      intro pend' h hpend hfree
      obtain ⟨es, sF, h1, h2, h3, h4, h5, h6, h7⟩ := ih h
      refine ⟨⟨d, v, root⟩ :: es, sF, by simp [h1], h2, h3.trans e1, h4.trans e3, ?_, ?_, ?_⟩
      · intro k
        rw [h5, glk, hbase]
      · intro k
        rw [h6, glk]
        congr 1
        funext k
        rw [hpend]
        by_cases hk : d = k <;> simp [hk, po]
      · intro j op' hj
        cases j with
        | zero =>
          simp at hj; subst hj
          refine ⟨s, _, rfl, hd, e4, hq, rfl, rfl, ?_, hfree⟩
          intro k
          rw [glk_none]
          intro i e _ _ _; simp
        | succ j =>
          obtain ⟨sj, e, g1, g2, g3, g4, g5, g6, g7, g8⟩ := h7 j op' (by simpa using hj)
          refine ⟨sj, e, by simpa using g1, g2, by rw [← e3]; exact g3, g4, g5.trans e1, g6.trans e2, ?_, fun hr => by rw [← hfr]; exact g8 hr⟩
          intro k
          rw [g7, glk]
          have hb2 : (fun k => if decide (0 < j + 1) = true ∧ d = k ∧ (pt ⟨d, v, root⟩).isSome = true then pt ⟨d, v, root⟩ else lk s.t k) = lk s'.t := by
            rw [← hbase]; funext k; simp
          rw [hb2]
          congr 1
          funext q; simp
    cases root with
    | none => exact fin pend h (fun k => by rw [e2]; simp) (fun h => by cases h)
    | some rows =>
      refine fin _ h.2 (fun k => ?_) (fun _ => h.1)
      rw [e2, List.cons_append, lk_cons]
      simp [po]
end

/-- what 'drawOk' says -/
theorem mask_spec {ops : List Oper} {ms : List Nat} (h : okMask ops ms = true) {j : Nat} {o : Oper} (hj : ops[j]? = some o) :
    (∀ e ∈ o.after.toList, Region.binds .any e = true → e.on < j) ∧ (∀ i, i < ops.length → rch ms j i = true → ∃ e ∈ o.after.toList, Region.binds .any e = true ∧ (e.on = i ∨ rch ms e.on i = true)) := by
  unfold okMask at h
  rw [List.all_eq_true] at h
  have h := h j (by simpa using nth_lt hj)
  simp only [hj, Bool.and_eq_true, List.all_eq_true] at h
  obtain ⟨h1, h2⟩ := h
  refine ⟨fun e he hb => by simpa [hb] using h1 e he, fun i hi hr => ?_⟩
  have := h2 i (by simpa using hi)
  simp only [hr, Bool.not_true, Bool.false_or, List.any_eq_true, Bool.and_eq_true, Bool.or_eq_true, decide_eq_true_eq] at this
  exact this

theorem reach {ops : List Oper} {ms : List Nat} (h : okMask ops ms = true) {L : Nat → Bool} (hc : ∀ (j : Nat) (o : Oper) (e : Edge), ops[j]? = some o → L j = true → e ∈ o.after.toList → Region.binds .any e = true → L e.on = true) :
    ∀ (j : Nat) (o : Oper), ops[j]? = some o → (∀ e ∈ o.after.toList, Region.binds .any e = true → L e.on = true) → ∀ i, i < ops.length → rch ms j i = true → L i = true := by
  intro j
  induction j using Nat.strongRecOn with
  | _ j ih =>
    intro o hj hp i hi hr
    obtain ⟨h1, h2⟩ := mask_spec h hj
    obtain ⟨e, he, hb, hq⟩ := h2 i hi hr
    have hL := hp e he hb
    rcases hq with rfl | hq
    · exact hL
    · have hlt := h1 e he hb
      have hjl := nth_lt hj
      have he' : ops[e.on]? = some ops[e.on] := List.getElem?_eq_getElem (by omega)
      exact ih e.on hlt _ he' (fun e2 h3 h4 => hc _ _ e2 he' hL h3 h4) i hi hq

theorem ready_mem {md : Region.Mode} {ops : Array Oper} {listed : Array Bool} (hs : listed.size = ops.size) {i : Nat} :
    i ∈ Region.ready md ops listed ↔ ∃ o, ops[i]? = some o ∧ listed.getD i false = false ∧ ∀ e ∈ o.after.toList, Region.binds md e = true → listed.getD e.on false = true := by
  unfold Region.ready
  rw [List.mem_filter, List.mem_range]
  constructor
  · rintro ⟨hi, h⟩
    rw [Array.getElem?_eq_getElem hi] at h ⊢
    simp only [Bool.and_eq_true, Option.map_some, Option.getD_some, Bool.not_eq_true', Array.all_eq_true_iff_forall_mem] at h
    refine ⟨_, rfl, ?_, ?_⟩
    · have h1 := h.1
      rw [Array.getD_eq_getD_getElem?, Array.getElem?_eq_getElem (by omega)] at h1 ⊢
      exact h1
    · intro e he hb
      have := h.2 e (by simpa using he)
      simpa [hb] using this
  · rintro ⟨o, ho, hl, he⟩
    have hi : i < ops.size := (Array.getElem?_eq_some_iff.1 ho).1
    refine ⟨hi, ?_⟩
    rw [ho]
    simp only [Bool.and_eq_true, Option.map_some, Option.getD_some, Bool.not_eq_true', Array.all_eq_true_iff_forall_mem]
    refine ⟨?_, fun e hm => ?_⟩
    · rw [Array.getD_eq_getD_getElem?, Array.getElem?_eq_getElem (by omega)] at hl ⊢
      exact hl
    · by_cases hb : Region.binds md e = true
      · simp [he e (by simpa using hm) hb]
      · simp [hb]

theorem getD_set {l : Array Bool} {i k : Nat} (hi : i < l.size) : (l.setIfInBounds i true).getD k false = if i = k then true else l.getD k false := by
  simp only [Array.getD_eq_getD_getElem?, Array.getElem?_setIfInBounds]
  split
  · rename_i e; subst e; simp [hi]
  · rfl

section
variable {P : Program} {w0 : World} {B0 Fin : Nat → Prop} {Φ : Rel3} {E : Env} {ops : Array Oper} {ms : List Nat} {m : Nat}

theorem tail_sound (hT : TabOk P E.tab) (hΦ : ∀ f as r, Φ f as r → Sound P f as r) {Q : Exit → Act → World → Prop} {K : St → Prop} (hk : ∀ s' a' w', K s' → FE w0 B0 Fin s' a' w' → Q .normal a' w')
    (hmask : okMask ops.toList ms = true) (htail : ∀ j, j < ops.size → m ≤ j → ∀ i, i < j → rch ms j i = true) :
    ∀ (fuel k : Nat) (listed : Array Bool) (s : St) (a : Act) (w : World), listed.size = ops.size → (∀ i, i < ops.size → listed.getD i false = decide (i < k)) → k ≤ ops.size → m ≤ k → fuel = ops.size - k → FE w0 B0 Fin s a w →
      Ev.wpOps Φ E ops.toList (ops.toList.drop k) s K → wpAny P .any ops Q fuel listed a w := by
  intro fuel
  induction fuel with
  | zero =>
    intro k listed s a w hs hl hk1 hk2 hf F h
    have hkn : k = ops.size := by omega
    subst hkn
    rw [List.drop_of_length_le (by simp)] at h
    refine ⟨?_, ?_⟩
    · apply List.eq_nil_iff_forall_not_mem.2
      intro i hi
      obtain ⟨o, ho, h1, _⟩ := (ready_mem hs).1 hi
      have hlt := (Array.getElem?_eq_some_iff.1 ho).1
      rw [hl i hlt] at h1
      simp at h1; omega
    · obtain ⟨g, F⟩ := F
      obtain ⟨s', g', h, F⟩ := AdjW.sound h F
      exact hk _ _ _ h ⟨g', F⟩
  | succ fuel ih =>
    intro k listed s a w hs hl hk1 hk2 hf F h
    have hkn : k < ops.size := by omega
    have hok : ops[k]? = some ops[k] := Array.getElem?_eq_getElem hkn
    have hokl : ops.toList[k]? = some ops[k] := by rw [Array.getElem?_toList]; exact hok
    rw [List.drop_eq_getElem_cons (by simpa using hkn)] at h
    have hkr : k ∈ Region.ready .any ops listed := by
      refine (ready_mem hs).2 ⟨_, hok, by rw [hl k hkn]; simp, fun e he hb => ?_⟩
      have hlt := (mask_spec hmask hokl).1 e he hb
      rw [hl _ (by omega)]; simpa using hlt
    refine ⟨fun hn => by rw [hn] at hkr; simp at hkr, ?_⟩
    intro i hi
    have hik : i = k := by
      obtain ⟨o, ho, h1, h2⟩ := (ready_mem hs).1 hi
      have hlt := (Array.getElem?_eq_some_iff.1 ho).1
      rw [hl i hlt] at h1
      have hge : k ≤ i := by simpa using h1
      rcases Nat.lt_or_ge k i with hgt | hle
      · have := reach hmask (L := fun q => listed.getD q false) ?_ i o (by simpa using ho) h2 k (by simpa using hkn) (htail i hlt (by omega) k hgt)
        · rw [hl k hkn] at this; simp at this
        · intro j o' e hj hL he hb
          have hjl : j < ops.size := by have := nth_lt hj; simpa using this
          rw [hl j hjl] at hL
          have hjk : j < k := by simpa using hL
          have := (mask_spec hmask hj).1 e he hb
          rw [hl _ (by omega)]; simp; omega
      · omega
    subst hik
    obtain ⟨g, F⟩ := F
    obtain ⟨s0, g, ⟨b, hg, h⟩, F⟩ := AdjW.sound h F
    have hw : Region.wanted ops[i] (yielded ops a.tmps) = b := guard_sound F hg
    have hset : ∀ q, q < ops.size → (listed.setIfInBounds i true).getD q false = decide (q < i + 1) := by
      intro q hq
      rw [getD_set (by omega), hl q hq]
      by_cases e : i = q
      · simp [e]
      · simp only [e, if_false, decide_eq_decide]; omega
    have next : ∀ s' a' w', FE w0 B0 Fin s' a' w' → Ev.wpOps Φ E ops.toList (ops.toList.drop (i + 1)) s' K → wpAny P .any ops Q fuel (listed.setIfInBounds i true) a' w' :=
      fun s' a' w' F' h' => ih (i + 1) _ s' a' w' (by simpa using hs) hset (by omega) (by omega) (by omega) F' h'
    unfold Go.wpOp
    rw [hok]
    simp only [hw]
    cases b with
    | true =>
      simp only [if_true]
      exact .inl (op_sound hT hΦ ⟨g, F⟩ h fun s' a' w' h' F' => next s' a' w' F' h')
    | false =>
      simp only [Bool.false_eq_true, if_false]
      obtain ⟨s', hp, h⟩ := h
      exact next _ _ _ ⟨g, F.put hp (.t _ _ (.sc _))⟩ h

theorem pair_spec {l : List Oper} {i j : Nat} (h : okPair l ms i j = true) {a b : Oper} (ha : l[i]? = some a) (hb : l[j]? = some b) {da db : Nat} (hda : a.dst = some da) (hdb : b.dst = some db) :
    da ≠ db ∧ (rch ms j i = true ∨ (¬ db ∈ readsOf l a ∧ ¬ da ∈ readsOf l b)) := by
  unfold okPair at h
  simp only [ha, hb, hda, hdb, Bool.and_eq_true, Bool.or_eq_true, Bool.not_eq_true', decide_eq_false_iff_not] at h
  refine ⟨h.1, ?_⟩
  rcases h.2 with h2 | h2
  · exact .inl h2
  · refine .inr ⟨?_, ?_⟩
    · have := h2.1; simpa using this
    · have := h2.2; simpa using this

theorem free_o {s : St} {d : Nat} (h : s.free d = true) : lk s.h d = none ∧ lk s.o d = none := by
  unfold St.free at h
  split at h
  · cases h
  · rename_i h1
    split at h
    · cases h
    · rename_i h2; exact ⟨h1, h2⟩

theorem shT_own {w : World} {B : Nat → Prop} {x : T} {v : Value} {G : Nat → Prop} (hx : Own w B x v G) (hs : shT x = true) : Rep w B x v := by
  cases hx with
  | sc => exact .sc _
  | sh _ _ _ h => exact h
  | pt _ _ _ h => exact h
  | fn _ _ _ _ h => exact h
  | nil => simp [shT] at hs
  | sl => simp [shT] at hs

/-- a result of an operation in no order comes in -/
theorem qres_sound {w : World} {s s' : St} {a : Act} {g : Gh} {d : Nat} {r v : AV} {root : Option (List (List T))} {u : Value} {G : Nat → Prop} (F : FR w0 B0 Fin s a w g) (hr : VR w g.B r u G) (hG : Take w0 w Fin g s G)
    (h : qRes d r = some (v, root)) (hfree : root.isSome = true → lk s.o d = none) (hput : s.putT (some d) v = some s') :
    ∃ s2 g2, FR w0 B0 Fin s2 (a.put (some d) u) w g2 ∧ s2.h = s.h ∧ s2.n = s.n ∧ (∀ k, lk s2.t k = if d = k then some v else lk s.t k) ∧ (∀ k, lk s2.o k = if d = k ∧ root.isSome = true then root.map (fun rows => (0, rows)) else lk s.o k) := by
  obtain ⟨e1, e2, e3, e4, e5⟩ := putT_parts hput
  have flat : root = none → CR w g s.h s.o v u → ∃ s2 g2, FR w0 B0 Fin s2 (a.put (some d) u) w g2 ∧ s2.h = s.h ∧ s2.n = s.n ∧ (∀ k, lk s2.t k = if d = k then some v else lk s.t k) ∧ (∀ k, lk s2.o k = if d = k ∧ root.isSome = true then root.map (fun rows => (0, rows)) else lk s.o k) := by
    rintro rfl hc
    exact ⟨s', g, F.put hput hc, e1, e3, e5, fun k => by rw [e2]; simp⟩
  rcases hr with (⟨y, rfl, hr⟩ | ⟨cs, us, rfl, rfl, hr⟩) | ⟨cs, us, rfl, rfl, hr⟩
  · unfold qRes at h
    simp only at h
    split at h
    · rename_i rows
      cases h
      obtain ⟨sz, hroot⟩ := hr.root
      obtain ⟨o2, ho2⟩ : ∃ s1, s.putO d 0 rows = some s1 := by
        obtain ⟨t, hh, o, n⟩ := s
        have hp : ∀ (l : Rts), ∃ l', pu l d (0, rows) = some l' := by
          intro l
          induction l with
          | nil => exact ⟨_, rfl⟩
          | cons p r ih =>
            obtain ⟨k, w⟩ := p
            obtain ⟨r', hr⟩ := ih
            rw [pu, hr]
            cases Nat.beq k d <;> exact ⟨_, rfl⟩
        obtain ⟨o', ho'⟩ := hp o
        exact ⟨⟨t, hh, o', n⟩, by simp only [St.putO, ho']⟩
      obtain ⟨p1, p2, p3, p4⟩ := putO_parts ho2
      have F1 := F.newRoot ho2 (hfree rfl) hroot hG
      obtain ⟨s2, hs2⟩ := putT_can (s := o2) (d := d) (v := AV.rf d) (by rw [p3]; exact e4)
      obtain ⟨q1, q2, q3, q4, q5⟩ := putT_parts hs2
      refine ⟨s2, _, F1.put hs2 ?_, q1.trans p2, q3.trans p3, fun k => by rw [q5, p1], fun k => by rw [q2, p4]; by_cases hk : d = k <;> simp [hk]⟩
      have := CR.rf (w := w) (g := { g with rv := upd g.rv d u, sz := upd g.sz d sz, fo := upd g.fo d G }) (h := o2.h) (o := o2.o) d _ (by rw [p4, if_pos rfl])
      simpa [upd] using this
    · cases h; exact flat rfl (.t _ _ (shT_own hr rfl))
    · cases h; exact flat rfl (.t _ _ (shT_own hr rfl))
    · cases h; exact flat rfl (.t _ _ (shT_own hr rfl))
    · cases h; exact flat rfl (.t _ _ (shT_own hr rfl))
  · unfold qRes at h
    simp only at h
    split at h
    case h_2 => cases h
    rename_i ha
    cases h
    refine flat rfl ?_
    have key : ∀ {cs : List AV} {us : List Value} {G : Nat → Prop}, Fam (VC w g.B) cs us G → allB shC cs = true → CRs w g s.h s.o cs us := by
      intro cs us G hf
      induction hf with
      | nil => intro _; exact .nil
      | cons x xs v vs G1 G2 F0 hx hs hd h1 h2 ih =>
        intro ha
        obtain ⟨y, rfl, hx⟩ := hx
        refine .cons (.t _ _ (shT_own hx (allB_all ha 0 _ rfl))) (ih ?_)
        rw [allB] at ha
        split at ha
        · exact ha
        · cases ha
    exact .ag _ _ (key hr ha).1 (key hr ha).2
  · unfold qRes at h
    simp only at h
    split at h
    case h_2 => cases h
    rename_i ha
    cases h
    refine flat rfl ?_
    have key : ∀ {cs : List AV} {us : List Value} {G : Nat → Prop}, Fam (VS w g.B) cs us G → allB shC cs = true → CRs w g s.h s.o cs us := by
      intro cs us G hf
      induction hf with
      | nil => intro _; exact .nil
      | cons x xs v vs G1 G2 F0 hx hs hd h1 h2 ih =>
        intro ha
        have ha0 := allB_all ha 0 _ rfl
        rcases hx with ⟨y, rfl, hx⟩ | ⟨ds, us, rfl, rfl, hx⟩
        · refine .cons (.t _ _ (shT_own hx ha0)) (ih ?_)
          rw [allB] at ha
          split at ha
          · exact ha
          · cases ha
        · simp [shC] at ha0
    exact .tp _ _ (key hr ha).1 (key hr ha).2

theorem quiet_sound (hT : TabOk P E.tab) (hΦ : ∀ f as r, Φ f as r → Sound P f as r) {Q : Exit → Act → World → Prop} {K : St → Prop} (hk : ∀ s' a' w', K s' → FE w0 B0 Fin s' a' w' → Q .normal a' w')
    (hm : drawOk ops.toList m = true) {s0 : St} {a0 : Act} {wa : World} (F0 : FE w0 B0 Fin s0 a0 wa)
    (h : wpQ Φ E ops.toList (ops.toList.take m) s0 [] fun s' => Ev.wpOps Φ E ops.toList (ops.toList.drop m) s' K) :
    wpAny P .any ops Q ops.size (Array.replicate ops.size false) a0 wa := by
  unfold drawOk at hm
  generalize hms : masks ops.toList = ms at hm
  simp only [Bool.and_eq_true, decide_eq_true_eq, List.all_eq_true, List.mem_range, Array.length_toList] at hm
  obtain ⟨⟨hmn, hmask⟩, hpair⟩ := hm
  obtain ⟨es, sF, hlen, hK, hFh, hFn, hFt, hFo, hch⟩ := chain h
  have hel : es.length = m := by rw [hlen]; simp; omega
  have htail : ∀ j, j < ops.size → m ≤ j → ∀ i, i < j → rch ms j i = true := by
    intro j hj hmj i hi
    have := hpair j hj i hi
    rw [if_neg (by omega)] at this; exact this
  -- what an operation among the first is
  have hop : ∀ j, j < m → ∃ op sj e, ops[j]? = some op ∧ ops.toList[j]? = some op ∧ es[j]? = some e ∧ op.dst = some e.d ∧ e.d < s0.n ∧ QOk Φ E ops.toList sj op e.d e.v e.r ∧ sj.h = s0.h ∧ sj.o = s0.o ∧
      (∀ k, lk sj.t k = glk pt (fun q => decide (q < j)) (lk s0.t) es k) ∧ (e.r.isSome = true → s0.free e.d = true) := by
    intro j hj
    have hjl : ops.toList[j]? = some ops[j] := by simp
    obtain ⟨sj, e, h1, h2, h3, h4, h5, h6, h7, h8⟩ := hch j ops[j] (by rw [List.getElem?_take, if_pos hj]; exact hjl)
    exact ⟨_, sj, e, by simp, hjl, h1, h2, h3, h4, h5, h6, h7, h8⟩
  have huniq : ∀ (i j : Nat) (e e' : Ent), es[i]? = some e → es[j]? = some e' → e.d = e'.d → i = j := by
    intro i j e e' hi hj hd
    have key : ∀ (i j : Nat) (e e' : Ent), es[i]? = some e → es[j]? = some e' → i < j → e.d ≠ e'.d := by
      intro i j e e' hi hj hij
      have hjm : j < m := by have := nth_lt hj; omega
      obtain ⟨a, _, ea, a1, a2, a3, a4, _⟩ := hop i (by omega)
      obtain ⟨b, _, eb, b1, b2, b3, b4, _⟩ := hop j hjm
      rw [hi] at a3; cases a3
      rw [hj] at b3; cases b3
      have := hpair j (by omega) i hij
      rw [if_pos hjm] at this
      exact (pair_spec this a2 b2 a4 b4).1
    rcases Nat.lt_trichotomy i j with h1 | h1 | h1
    · exact absurd hd (key i j e e' hi hj h1)
    · exact h1
    · exact absurd hd.symm (key j i e' e hj hi h1)
  have least : ∀ (p : Nat → Prop), (∃ n, p n) → ∃ n, p n ∧ ∀ k, k < n → ¬ p k := by
    intro p ⟨n, hn⟩
    induction n using Nat.strongRecOn with
    | _ n ihn =>
      by_cases hk : ∃ k, k < n ∧ p k
      · obtain ⟨k, hkn, hk⟩ := hk; exact ihn k hkn hk
      · exact ⟨n, hn, fun k hk' hp => hk ⟨k, hk', hp⟩⟩
  let Inv : Array Bool → Act → World → Prop := fun listed a w => ∃ s g, FR w0 B0 Fin s a w g ∧ s.n = s0.n ∧ s.h = s0.h ∧ (∀ k, lk s.t k = glk pt (fun q => listed.getD q false) (lk s0.t) es k) ∧ (∀ k, lk s.o k = glk po (fun q => listed.getD q false) (lk s0.o) es k)
  have fin : ∀ (fuel : Nat) (listed : Array Bool) (a : Act) (w : World), listed.size = ops.size → fuel = listed.toList.count false → (∀ i, m ≤ i → i < ops.size → listed.getD i false = false) → (∀ i, i < m → listed.getD i false = true) → Inv listed a w →
      wpAny P .any ops Q fuel listed a w := by
    intro fuel listed a w hs hf hlow hall hinv
    obtain ⟨s, g, F, i1, i2, i3, i4⟩ := hinv
    have hl : ∀ i, i < ops.size → listed.getD i false = decide (i < m) := by
      intro i hi
      by_cases him : i < m
      · rw [hall i him]; simp [him]
      · rw [hlow i (by omega) hi]; simp [him]
    have hlist : listed.toList = List.replicate m true ++ List.replicate (ops.size - m) false := by
      apply List.ext_getElem
      · simp; omega
      · intro i h1 h2
        have hi : i < ops.size := by simpa [hs] using h1
        have h3 := hl i hi
        rw [Array.getD_eq_getD_getElem?, Array.getElem?_eq_getElem (by omega)] at h3
        simp only [Option.getD_some] at h3
        rw [Array.getElem_toList, h3, List.getElem_append]
        by_cases him : i < m <;> simp [him]
    have hfu : fuel = ops.size - m := by
      rw [hf, hlist, List.count_append, List.count_replicate, List.count_replicate]; simp
    have hgl : ∀ {α : Type} (p : Ent → Option α) base k, glk p (fun q => listed.getD q false) base es k = glk p (fun _ => true) base es k := by
      intro α p base k
      refine glk_congr (fun i e he _ _ => ?_) rfl
      exact hall i (by have := nth_lt he; omega)
    have FF : FR w0 B0 Fin sF a w g := F.congr (fun k x hx => by rw [hFt] at hx; rw [i3, hgl]; exact hx) (fun k => by rw [hFh, i2]) (fun k => by rw [hFo, i4, hgl]; simp) (by rw [hFn, i1])
    exact tail_sound hT hΦ hk hmask htail fuel m listed sF a w hs hl hmn (Nat.le_refl _) hfu ⟨g, FF⟩ hK
  have main : ∀ (fuel : Nat) (listed : Array Bool) (a : Act) (w : World), listed.size = ops.size → fuel = listed.toList.count false → (∀ i, m ≤ i → i < ops.size → listed.getD i false = false) →
      (∀ (j : Nat) (o : Oper) (e : Edge), ops.toList[j]? = some o → listed.getD j false = true → e ∈ o.after.toList → Region.binds .any e = true → listed.getD e.on false = true) → Inv listed a w →
      wpAny P .any ops Q fuel listed a w := by
    intro fuel
    induction fuel with
    | zero =>
      intro listed a w hs hf hlow hcl hinv
      by_cases hall : ∀ i, i < m → listed.getD i false = true
      · exact fin _ _ _ _ hs hf hlow hall hinv
      · exfalso
        apply hall
        intro i hi
        have h0 := List.count_eq_zero.1 hf.symm
        have hlt : i < listed.size := by omega
        rw [Array.getD_eq_getD_getElem?, Array.getElem?_eq_getElem hlt, Option.getD_some]
        cases hx : listed[i] with
        | true => rfl
        | false => exact absurd (by rw [← hx]; simp) h0
    | succ fuel ih =>
      intro listed a w hs hf hlow hcl hinv
      by_cases hall : ∀ i, i < m → listed.getD i false = true
      · exact fin _ _ _ _ hs hf hlow hall hinv
      refine ⟨fun hn => ?_, fun i hi => ?_⟩
      · exfalso
        have hex : ∃ q, q < m ∧ listed.getD q false = false := by
          apply Classical.byContradiction
          intro hno
          apply hall
          intro i hi
          cases hx : listed.getD i false with
          | true => rfl
          | false => exact absurd ⟨i, hi, hx⟩ hno
        obtain ⟨q, ⟨hq1, hq2⟩, hq3⟩ := least _ hex
        have hqr : q ∈ Region.ready .any ops listed := by
          have hql : ops.toList[q]? = some ops[q] := by simp
          refine (ready_mem hs).2 ⟨ops[q], by simp, hq2, fun e he hb => ?_⟩
          have hlt := (mask_spec hmask hql).1 e he hb
          cases hx : listed.getD e.on false with
          | true => rfl
          | false => exact absurd ⟨by omega, hx⟩ (hq3 e.on hlt)
        rw [hn] at hqr; simp at hqr
      · obtain ⟨o, ho, hun, haft⟩ := (ready_mem hs).1 hi
        have hin : i < ops.size := (Array.getElem?_eq_some_iff.1 ho).1
        have hol : ops.toList[i]? = some o := by simpa using ho
        have hreach := reach hmask (L := fun q => listed.getD q false) hcl
        have him : i < m := by
          rcases Nat.lt_or_ge i m with h1 | h1
          · exact h1
          · exfalso
            apply hall
            intro j hj
            exact hreach i o hol haft j (by simp; omega) (htail i hin h1 j (by omega))
        obtain ⟨op, sj, e, p1, p2, p3, p4, p5, p6, p7, p8, p9, p10⟩ := hop i him
        rw [ho] at p1; cases p1
        obtain ⟨s, g, F, i1, i2, i3, i4⟩ := hinv
        have hreads : ∀ k, k ∈ readsOf ops.toList o → lk s.t k = lk sj.t k := by
          intro k hkr
          rw [i3, p9]
          refine glk_congr (fun i' e' he' hd' _ => ?_) rfl
          have him' : i' < m := by have := nth_lt he'; omega
          obtain ⟨op', _, e2, q1, q2, q3, q4, _⟩ := hop i' him'
          rw [he'] at q3; cases q3
          rcases Nat.lt_trichotomy i' i with hlt | heq | hgt
          · have hp := hpair i hin i' hlt
            rw [if_pos him] at hp
            rcases (pair_spec hp q2 p2 q4 p4).2 with h1 | h1
            · have := hreach i o hol haft i' (by simp; omega) h1
              rw [this]; simp [hlt]
            · rw [hd'] at h1; exact absurd hkr h1.2
          · subst heq; rw [hun]; simp
          · have hp := hpair i' (by omega) i hgt
            rw [if_pos him'] at hp
            rcases (pair_spec hp p2 q2 p4 q4).2 with h1 | h1
            · cases hx : listed.getD i' false with
              | false => simp; omega
              | true =>
                have := hreach i' op' q2 (fun e3 h3 h4 => hcl i' op' e3 q2 hx h3 h4) i (by simp; omega) h1
                rw [hun] at this; cases this
            · rw [hd'] at h1; exact absurd hkr h1.1
        have hget : ∀ k, k ∈ readsOf ops.toList o → s.get k = sj.get k := fun k hk' => by unfold St.get; rw [hreads k hk']
        have hev : ∀ x ∈ o.op.operands, s.ev x = sj.ev x := by
          intro x hx
          cases x with
          | tmp k =>
            refine hget k ?_
            unfold readsOf Oper.looksAt
            exact List.mem_append_left _ (List.mem_filterMap.2 ⟨.tmp k, by simpa using hx, rfl⟩)
          | const _ => rfl
          | global _ => rfl
          | func _ => rfl
        have hguard : guardAV ops.toList s o.guard = guardAV ops.toList sj o.guard := by
          unfold guardAV
          split
          · rfl
          · rename_i j want hg
            split
            · rename_i q hq
              split
              · rename_i d hd
                rw [hget d ?_]
                unfold readsOf Oper.looksAt
                rw [nthS_eq] at hq
                refine List.mem_append_right _ ?_
                rw [hg]
                simp only [Option.mem_toList]
                rw [List.getElem?_toArray, hq]
                exact hd
              · rfl
            · rfl
        have M : Mo sj s := ⟨by rw [i2, p7], fun k r hr => by
          rw [p8] at hr
          rw [i4, glk_none]
          · exact hr
          · intro i' e' he' hd' hs'
            exfalso
            obtain ⟨_, _, e2, _, _, q3, _, _, _, _, _, _, q10⟩ := hop i' (by have := nth_lt he'; omega)
            rw [he'] at q3; cases q3
            have := (free_o (q10 (by simpa [po] using hs'))).2
            rw [hd', hr] at this; cases this⟩
        have hu : ∀ (i' : Nat) (e' : Ent), es[i']? = some e' → e'.d = e.d → i' = i := fun i' e' he' hd' => huniq i' i e' e he' p3 hd'
        have hset : ∀ q, (listed.setIfInBounds i true).getD q false = if i = q then true else listed.getD q false := fun q => getD_set (by omega)
        have next : ∀ s2 g2 a' w', FR w0 B0 Fin s2 a' w' g2 → s2.h = s.h → s2.n = s.n → (∀ k, lk s2.t k = if e.d = k then some e.v else lk s.t k) → (∀ k, lk s2.o k = if e.d = k ∧ e.r.isSome = true then e.r.map (fun rows => (0, rows)) else lk s.o k) →
            wpAny P .any ops Q fuel (listed.setIfInBounds i true) a' w' := by
          intro s2 g2 a' w' F2 n1 n2 n3 n4
          refine ih _ a' w' (by simpa using hs) ?_ ?_ ?_ ⟨s2, g2, F2, n2.trans i1, n1.trans i2, ?_, ?_⟩
          · rw [Array.toList_setIfInBounds, List.count_set (by simp; omega)]
            have hx : listed.toList[i]'(by simp; omega) = false := by
              rw [Array.getD_eq_getD_getElem?, Array.getElem?_eq_getElem (by omega), Option.getD_some] at hun
              rw [Array.getElem_toList]; exact hun
            rw [hx, ← hf]; simp
          · intro j hj1 hj2
            rw [hset, if_neg (by omega)]; exact hlow j hj1 hj2
          · intro j o' e' hj hL he hb
            rw [hset] at hL ⊢
            split
            · rfl
            split at hL
            · rename_i hij; subst hij
              rw [hol] at hj; cases hj
              exact haft e' he hb
            · exact hcl j o' e' hj hL he hb
          · intro k
            rw [n3]
            by_cases hk' : e.d = k
            · rw [if_pos hk']
              exact (glk_hit (p := pt) (x := e.v) (L := fun q => (listed.setIfInBounds i true).getD q false) p3 hk' (by show (listed.setIfInBounds i true).getD i false = true; rw [hset, if_pos rfl]) rfl (fun i' e' h1 h2 => hu i' e' h1 (h2.trans hk'.symm))).symm
            · rw [if_neg hk', i3]
              refine glk_congr (fun i' e' he' hd' _ => ?_) rfl
              show listed.getD i' false = (listed.setIfInBounds i true).getD i' false
              rw [hset, if_neg]
              intro hii; subst hii
              rw [p3] at he'; cases he'
              exact hk' hd'
          · intro k
            rw [n4]
            by_cases hk' : e.d = k ∧ e.r.isSome = true
            · rw [if_pos hk']
              obtain ⟨rows, hrows⟩ := Option.isSome_iff_exists.1 hk'.2
              rw [glk_hit (L := fun q => (listed.setIfInBounds i true).getD q false) (x := (0, rows)) p3 hk'.1 (by show (listed.setIfInBounds i true).getD i false = true; rw [hset, if_pos rfl]) (by simp [po, hrows]) (fun i' e' h1 h2 => hu i' e' h1 (h2.trans hk'.1.symm))]
              simp [hrows]
            · rw [if_neg hk', i4]
              refine glk_congr (fun i' e' he' hd' hs' => ?_) rfl
              show listed.getD i' false = (listed.setIfInBounds i true).getD i' false
              rw [hset, if_neg]
              intro hii; subst hii
              rw [p3] at he'; cases he'
              exact hk' ⟨hd', by simpa [po] using hs'⟩
        have hfreeo : e.r.isSome = true → lk s.o e.d = none := by
          intro hr
          rw [i4, glk_none]
          · exact (free_o (p10 hr)).2
          · intro i' e' he' hd' _
            have := hu i' e' he' hd'
            subst this; exact hun
        have hsd : e.d < s.n := by rw [i1]; exact p5
        obtain ⟨b, hg, hb⟩ := p6
        rw [← hguard] at hg
        have hw : Region.wanted o (yielded ops a.tmps) = b := guard_sound F hg
        unfold Go.wpOp
        rw [ho]
        simp only [hw]
        cases b with
        | false =>
          simp only [Bool.false_eq_true, if_false]
          obtain ⟨hv, hr⟩ := hb
          obtain ⟨s2, hs2⟩ := putT_can (v := e.v) hsd
          obtain ⟨e1, e2, e3, e4, e5⟩ := putT_parts hs2
          refine next s2 g _ _ (by rw [p4]; exact F.put hs2 (by rw [hv]; exact .t _ _ (.sc _))) e1 e3 e5 ?_
          intro k; rw [e2, hr]; simp
        | true =>
          simp only [if_true]
          refine .inl ?_
          simp only at hb
          split at hb
          · rename_i f args hc
            obtain ⟨gg, as, r, hcg, hargs, hms', hr, hp, hq⟩ := hb
            obtain ⟨tys, hop'⟩ := isCall_is hc
            have hops : ∀ x, x = f ∨ x ∈ args.toList → x ∈ o.op.operands := by
              intro x hx
              rw [hop']
              simp only [Op.operands, Call.operands]
              rcases hx with rfl | hx
              · simp
              · simp; right; simpa using hx
            obtain ⟨_, h2, h3⟩ := argsAV_mo M (fun x hx => hev x (hops x (.inr hx))) (hev f (hops f (.inl rfl))) hcg hms' hargs
            refine call_sound hΦ hc F h2 hr (by rw [h3]; exact hp) ?_
            intro v w' g' G vs cs _ F' hv hG _
            have hv : VR w' g'.B r v G := by
              rcases hv with hv | ⟨r0, outs, _, _, e, _⟩
              · exact hv
              · rw [e] at hq; cases hq
            obtain ⟨s2, hs2⟩ := putT_can (v := e.v) hsd
            obtain ⟨s3, g3, F3, n1, n2, n3, n4⟩ := qres_sound F' hv hG hq hfreeo hs2
            rw [p4]
            exact next s3 g3 _ _ F3 n1 n2 n3 n4
          · rcases hb with ⟨hv, _, hr⟩ | ⟨rows, hbq, hv, hr⟩
            case inr =>
              have hfr : s.free e.d = true := by
                have h1 : lk s.o e.d = none := hfreeo (by rw [hr]; rfl)
                have h2 : lk s.h e.d = none := by rw [i2]; exact (free_o (p10 (by rw [hr]; rfl))).1
                unfold St.free; rw [h2, h1]
              obtain ⟨s2, hm2, n1, n2, n3, n4⟩ := build_evalM (buildQ_mo hev hbq) hfr hsd
              rw [← p4] at hm2
              obtain ⟨u, w', g', hrun, F'⟩ := evalM_sound hT F hm2
              have hfin := next s2 g' (a.put o.dst u) w' F' n1 n2 (fun k => by rw [n3, hv]) (fun k => by rw [n4, hr]; simp)
              unfold Oper.wp
              rcases hrun with hrun | ⟨hrun, rfl⟩
              · rw [hrun, Oper.upon_value]; exact hfin
              · rw [hrun, Oper.upon_skip]; exact hfin
            obtain ⟨u, hrun, hcr⟩ := evalV_sound hT F (evalV_mo M hev hv)
            unfold Oper.wp
            rw [hrun, Oper.upon_value]
            obtain ⟨s2, hs2⟩ := putT_can (v := e.v) hsd
            obtain ⟨e1, e2, e3, e4, e5⟩ := putT_parts hs2
            refine next s2 g _ _ (by rw [p4]; exact F.put hs2 hcr) e1 e3 e5 ?_
            intro k; rw [e2, hr]; simp
  obtain ⟨g0, F0⟩ := F0
  have hrep : ∀ q, (Array.replicate ops.size false).getD q false = false := by
    intro q
    rw [Array.getD_eq_getD_getElem?, Array.getElem?_replicate]
    split <;> rfl
  refine main _ _ _ _ (by simp) ?_ (fun i _ _ => hrep i) (fun j o e hj hL => by rw [hrep] at hL; cases hL) ⟨s0, g0, F0, rfl, rfl, ?_, ?_⟩
  · simp
  · intro k; rw [glk_none]; intro i e _ _ _; exact hrep i
  · intro k; rw [glk_none]; intro i e _ _ _; exact hrep i
end
end Go.Ev
