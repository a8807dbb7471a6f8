/- An evaluator over trees: what it tells is so (6): what goes into roots; stores; slice literals. -/
import Derived.Test.YtejioaahmgljgaaEvM
set_option linter.unusedVariables false
set_option linter.unusedSimpArgs false
namespace Go.Ev
open Go Go.RowKit

theorem idx_inj {sz i k i' k' : Nat} (hk : k < sz) (hk' : k' < sz) (h : i * sz + k = i' * sz + k') : i = i' ∧ k = k' := by
  have h1 : (i * sz + k) / sz = i := by rw [Nat.mul_comm, Nat.mul_add_div (by omega), Nat.div_eq_of_lt hk]; omega
  have h2 : (i' * sz + k') / sz = i' := by rw [Nat.mul_comm, Nat.mul_add_div (by omega), Nat.div_eq_of_lt hk']; omega
  have : i = i' := by rw [← h1, ← h2, h]
  subst this
  exact ⟨rfl, by omega⟩

section
variable {P : Program} {tab : Tab} {w0 w : World} {B0 Fin : Nat → Prop} {s s' : St} {a : Act} {g : Gh}

/-- blocks that come out of a frame: none that it stands on -/
def Freed (w0 w : World) (Fin : Nat → Prop) (g : Gh) (s s' : St) (b : Nat) : Prop := b < w.heap.size ∧ (Fin b ∨ w0.heap.size ≤ b) ∧ ¬ used g s' b ∧ used g s b

def Subs (s s' : St) : Prop := (∀ i c, lk s'.h i = some c → ∃ c', lk s.h i = some c') ∧ (∀ i r, lk s'.o i = some r → lk s.o i = some r)
theorem Subs.refl (s : St) : Subs s s := ⟨fun _ c h => ⟨c, h⟩, fun _ _ h => h⟩
theorem Subs.trans {s1 s2 s3 : St} (h1 : Subs s1 s2) (h2 : Subs s2 s3) : Subs s1 s3 :=
  ⟨fun i c h => by obtain ⟨c', h'⟩ := h2.1 i c h; exact h1.1 i c' h', fun i r h => h1.2 i r (h2.2 i r h)⟩
theorem Subs.used {s1 s2 : St} (h : Subs s1 s2) {b : Nat} (hb : used g s2 b) : used g s1 b := used_sub h.1 (fun i r h' => ⟨r, h.2 i r h'⟩) hb

theorem drop_sub (F : FR w0 B0 Fin s a w g) {id : Nat} (h : s.drop id = some s') : FR w0 B0 Fin s' a w g ∧ Subs s s' ∧ lk s'.h id = none ∧ lk s'.o id = none := by
  obtain ⟨F', h1, h2⟩ := F.drop h
  refine ⟨F', ⟨?_, ?_⟩, (h1 id).2 (.inl rfl), by rw [h2]; simp⟩
  · intro i c hi
    cases hc : lk s.h i with
    | none => have := (h1 i).2 (.inr hc); rw [hi] at this; cases this
    | some c' => exact ⟨c', rfl⟩
  · intro i r hi
    rw [h2 i] at hi
    split at hi
    · cases hi
    · exact hi

/-- a root goes out of a frame -/
theorem drop_root (F : FR w0 B0 Fin s a w g) {id : Nat} {rows : QV × List (List T)} (hi : lk s.o id = some rows) (h : s.drop id = some s') : FR w0 B0 Fin s' a w g ∧ Subs s s' ∧ lk s'.o id = none ∧
    Root w g.B rows.1.n rows.2 (g.rv id) (g.sz id) (g.fo id) ∧ ∀ b, g.fo id b → Freed w0 w Fin g s s' b := by
  obtain ⟨F', hs, hn1, hn2⟩ := drop_sub F h
  obtain ⟨hr, hf⟩ := F.rt id rows hi
  refine ⟨F', hs, hn2, hr, fun b hb => ⟨(hf b hb).1, (hf b hb).2.1, ?_, .inr (.inr ⟨id, rows, hi, hb⟩)⟩⟩
  rintro (h1 | ⟨i, c, hc, rfl⟩ | ⟨j, r, hj, hb'⟩)
  · exact (hf b hb).2.2 h1
  · obtain ⟨c', hc'⟩ := hs.1 i c hc
    exact F.br i id c' rows hc' hi hb
  · have hj' := hs.2 j r hj
    have := F.rr id j rows r b hi hj' hb hb'
    subst this
    rw [hn2] at hj; cases hj

theorem own_share {B : Nat → Prop} {x : T} {v : Value} (h : Rep w B x v) (F : Nat → Prop) : Own w B x.shr v F := by
  have hs := h.shr
  cases x with
  | sc u =>
    simp only [T.shr] at hs ⊢
    split
    · rename_i e; simp at hs; exact .sh _ _ _ hs
    · exact (by cases h; exact .sc _ _)
  | sl o rows => simp only [T.shr] at hs ⊢; exact .sh _ _ _ hs
  | pt cs => simp only [T.shr] at hs ⊢; exact .pt _ _ _ hs
  | fn f cs => simp only [T.shr] at hs ⊢; exact .fn _ _ _ _ hs

theorem absorb1_sound (F : FR w0 B0 Fin s a w g) {h0 : Bxs} {o0 : Rts} {x : AV} {v : Value} {t : T} (hx : CR w g h0 o0 x v) (h : absorb1 s x = some (t, s')) :
    FR w0 B0 Fin s' a w g ∧ Subs s s' ∧ ∃ G : Nat → Prop, Own w g.B t v G ∧ ∀ b, G b → Freed w0 w Fin g s s' b := by
  unfold absorb1 at h
  split at h
  · split at h
    · cases h
      cases hx with
      | t x v hr => cases hr; exact ⟨F, .refl _, fun _ => False, .nil _, fun b hb => hb.elim⟩
    · cases h
      cases hx with
      | t x v hr => cases hr; exact ⟨F, .refl _, fun _ => False, .sc _ _, fun b hb => hb.elim⟩
  · cases h
    cases hx with
    | t x v hr => exact ⟨F, .refl _, fun _ => False, .sh _ _ _ hr.flag, fun b hb => hb.elim⟩
  · cases h
    cases hx with
    | t x v hr => exact ⟨F, .refl _, fun _ => False, .pt _ _ _ hr, fun b hb => hb.elim⟩
  · cases h
    cases hx with
    | t x v hr => exact ⟨F, .refl _, fun _ => False, .fn _ _ _ _ hr, fun b hb => hb.elim⟩
  · rename_i id
    split at h
    case h_2 => cases h
    rename_i q rows hi
    split at h
    case h_2 => cases h
    rename_i hq
    split at h
    case h_2 => cases h
    rename_i s1 hd
    cases h
    obtain ⟨F', hs, _, hr, hf⟩ := drop_root F hi hd
    simp only [hq] at hr
    cases hx with
    | rf id rows' hi' => exact ⟨F', hs, g.fo id, Root.own hr, hf⟩
  · cases h

theorem absorbL_sound {h0 : Bxs} {o0 : Rts} : ∀ {cs : List AV} {s s' : St} {vs : List Value} {ts : List T}, FR w0 B0 Fin s a w g → CRs w g h0 o0 cs vs → absorbL s cs = some (ts, s') →
    FR w0 B0 Fin s' a w g ∧ Subs s s' ∧ ts.length = cs.length ∧ ∃ Gs : Nat → Nat → Prop, (∀ (k : Nat) (t : T) (v : Value), ts[k]? = some t → vs[k]? = some v → Own w g.B t v (Gs k)) ∧
      (∀ k k' b, Gs k b → Gs k' b → k = k') ∧ ∀ k b, Gs k b → Freed w0 w Fin g s s' b := by
  intro cs
  induction cs with
  | nil =>
    intro s s' vs ts F _ h
    rw [absorbL] at h; cases h
    exact ⟨F, .refl _, rfl, fun _ _ => False, fun k t v hk => by simp at hk, fun _ _ _ h => h.elim, fun _ _ h => h.elim⟩
  | cons x cs ih =>
    intro s s' vs ts F hc h
    rw [absorbL] at h
    split at h
    case h_2 => cases h
    rename_i t s1 h1
    split at h
    case h_2 => cases h
    rename_i ts' s2 h2
    cases h
    obtain ⟨v, us, rfl, hx, hcs⟩ := hc.head
    obtain ⟨F1, hs1, G, hG, hGf⟩ := absorb1_sound F hx h1
    obtain ⟨F2, hs2, hl, Gs, hGs, hd, hf⟩ := ih F1 hcs h2
    refine ⟨F2, hs1.trans hs2, by simp [hl], fun k b => match k with | 0 => G b | k + 1 => Gs k b, ?_, ?_, ?_⟩
    · intro k t' v' hk hv
      cases k with
      | zero => simp at hk hv; subst hk; subst hv; exact hG
      | succ k => exact hGs k t' v' (by simpa using hk) (by simpa using hv)
    · intro k k' b hb hb'
      cases k with
      | zero =>
        cases k' with
        | zero => rfl
        | succ k' => exact absurd (hf k' b hb').2.2.2 (hGf b hb).2.2.1
      | succ k =>
        cases k' with
        | zero => exact absurd (hf k b hb).2.2.2 (hGf b hb').2.2.1
        | succ k' => rw [hd k k' b hb hb']
    · intro k b hb
      cases k with
      | zero => obtain ⟨b1, b2, b3, b4⟩ := hGf b hb; exact ⟨b1, b2, fun h => b3 (hs2.used h), b4⟩
      | succ k => obtain ⟨b1, b2, b3, b4⟩ := hf k b hb; exact ⟨b1, b2, b3, hs1.used b4⟩

/-- rows of a root turned where they stand -/
theorem FR.setRoot (F : FR w0 B0 Fin s a w g) {id : Nat} {q : QV} {rows rows' : List (List T)} {w' : World} {F' : Nat → Prop} (hi : lk s.o id = some (q, rows)) (h : s.putO id q rows' = some s') (hlen : rows'.length = rows.length)
    {b off n cap : Nat} (hv : g.rv id = .slice (some ⟨b, off, none⟩) n cap) (hw : ∀ c, c ≠ b → w'.heap[c]? = w.heap[c]?) (hsz : w'.heap.size = w.heap.size) (hos : w'.os = w.os) (htp : w'.tape = w.tape) (hout : w'.output = w.output)
    (hr : Root w' g.B q.n rows' (g.rv id) (g.sz id) F') (hF : ∀ c, g.fo id c → F' c) (hF' : ∀ c, F' c → g.fo id c ∨ (c < w.heap.size ∧ (Fin c ∨ w0.heap.size ≤ c) ∧ ¬ used g s c)) :
    FR w0 B0 Fin s' a w' { g with fo := upd g.fo id F' } := by
  obtain ⟨e1, e2, e3, e4⟩ := putO_parts h
  obtain ⟨hroot, hfo⟩ := F.rt id _ hi
  have hbf : g.fo id b := (root_lt hroot hv).2
  have hk : Keeps Fin w0 w' := F.kp.step (G := fun c => c = b) ⟨hos, htp, hout, by omega, fun c _ hc => hw c hc⟩ (fun c hc e => by
    subst e
    rcases (hfo c hbf).2.1 with h | h
    · exact h
    · omega)
  have hB : ∀ c, g.B c → c ≠ b := fun c hc e => (hfo b hbf).2.2 (e ▸ hc)
  have key : ∀ x v, CR w g s.h s.o x v → CR w' { g with fo := upd g.fo id F' } s'.h s'.o x v := fun x v hx => hx.mono (w' := w') (g' := { g with fo := upd g.fo id F' }) (h' := s'.h) (o' := s'.o) (fun c hc => ⟨hc, hw c (hB c hc)⟩)
    (fun i cs _ h1 => ⟨⟨cs, by rw [e2]; exact h1⟩, rfl⟩)
    (fun i r _ h1 => ⟨by
      rw [e4]
      split
      · rename_i e; subst e; rw [hi] at h1; cases h1; exact ⟨_, rfl, hlen⟩
      · exact ⟨r, h1, rfl⟩, rfl, rfl⟩)
    (fun i r c _ h1 h2 h3 => by
      have hcb : c ≠ b := by
        intro e; subst e
        by_cases ei : i = id
        · subst ei; rw [hv] at h3; exact h3 rfl
        · exact ei (F.rr i id r _ c h1 hi h2 hbf)
      refine ⟨?_, hw c hcb⟩
      show upd g.fo id F' i c
      by_cases ei : i = id
      · subst ei; rw [upd_same]; exact hF c h2
      · rw [upd_other _ _ ei]; exact h2)
  refine ⟨by rw [e3]; exact F.n, F.df, hk, fun c hc => ⟨by rw [hsz]; exact (F.bb c hc).1, (F.bb c hc).2⟩, ?_, ?_, ?_, ?_, ?_, ?_, fun i r u h1 h2 => by
    rw [e4] at h1
    split at h1
    · rename_i e; subst e; cases h1; exact F.tv id (q, rows) u hi h2
    · exact F.tv i r u h1 h2⟩
  · intro k x hx
    rw [e1] at hx
    obtain ⟨u, hu, hq⟩ := F.tm k x hx
    exact ⟨u, hu, key _ _ hq⟩
  · intro i ci hci
    rw [e2] at hci
    obtain ⟨h1, h2, us, ty', h3, h4⟩ := F.bx i ci hci
    exact ⟨h1, h2, us, ty', (hw (g.lc i) (fun e => F.br i id ci _ hci hi (by rw [e]; exact hbf))).trans h3, h4.mono fun k x v _ hx => key _ _ hx⟩
  · intro i r hir
    rw [e4] at hir
    split at hir
    · rename_i e; subst e; cases hir
      simp only [upd_same]
      refine ⟨hr, fun c hc => ?_⟩
      rcases hF' c hc with h1 | ⟨h1, h2, h3⟩
      · rw [hsz]; exact hfo c h1
      · rw [hsz]; exact ⟨h1, h2, fun hb => h3 (.inl hb)⟩
    · rename_i e
      simp only [upd_other _ _ (Ne.symm e)]
      obtain ⟨h1, h2⟩ := F.rt i r hir
      refine ⟨h1.mono (fun c hc => ⟨hc, hw c (hB c hc)⟩) (fun c hc => hw c fun ec => ?_), fun c hc => by rw [hsz]; exact h2 c hc⟩
      subst ec
      exact e (F.rr i id r _ c hir hi hc hbf).symm
  · intro i j ci cj h1 h2
    rw [e2] at h1 h2
    exact F.bi i j ci cj h1 h2
  · intro i j ri rj c h1 h2 hc1 hc2
    rw [e4] at h1 h2
    by_cases ei : id = i
    · by_cases ej : id = j
      · exact ei.symm.trans ej
      · rw [if_neg ej] at h2
        subst ei
        simp only [upd_same, upd_other _ _ (Ne.symm ej)] at hc1 hc2
        rcases hF' c hc1 with h3 | ⟨_, _, h3⟩
        · exact F.rr id j _ rj c hi h2 h3 hc2
        · exact absurd (.inr (.inr ⟨j, rj, h2, hc2⟩)) h3
    · rw [if_neg ei] at h1
      by_cases ej : id = j
      · subst ej
        simp only [upd_same, upd_other _ _ (Ne.symm ei)] at hc1 hc2
        rcases hF' c hc2 with h3 | ⟨_, _, h3⟩
        · exact F.rr i id ri _ c h1 hi hc1 h3
        · exact absurd (.inr (.inr ⟨i, ri, h1, hc1⟩)) h3
      · rw [if_neg ej] at h2
        simp only [upd_other _ _ (Ne.symm ei), upd_other _ _ (Ne.symm ej)] at hc1 hc2
        exact F.rr i j ri rj c h1 h2 hc1 hc2
  · intro i j ci rj h1 h2 hc
    rw [e2] at h1
    rw [e4] at h2
    by_cases ej : id = j
    · subst ej
      simp only [upd_same] at hc
      rcases hF' _ hc with h3 | ⟨_, _, h3⟩
      · exact F.br i id ci _ h1 hi h3
      · exact h3 (.inr (.inl ⟨i, ci, h1, rfl⟩))
    · rw [if_neg ej] at h2
      simp only [upd_other _ _ (Ne.symm ej)] at hc
      exact F.br i j ci rj h1 h2 hc

/-- a store into a root's row, in memory -/
theorem root_store {q : Nat} {rows : List (List T)} {v : Value} {sz : Nat} {F : Nat → Prop} (h : Root w g.B q rows v sz F) {b off n cap i k : Nat} (hv : v = .slice (some ⟨b, off, none⟩) n cap) {r r' : List T} (hi : rows[i]? = some r) {ts : List T} (hset : setS r k ts = some r')
    {vs : List Value} (hlen : ts.length = vs.length) {Gs : Nat → Nat → Prop} (hGs : ∀ (j : Nat) (t : T) (u : Value), ts[j]? = some t → vs[j]? = some u → Own w g.B t u (Gs j)) (hd : ∀ j j' c, Gs j c → Gs j' c → j = j') (hdis : ∀ j c, Gs j c → ¬ F c) (hone : ∀ u ∈ vs, u.oneCell' = true) (hBF : ∀ c, g.B c → ¬ F c) :
    ∃ cs ty, w.heap[b]? = some (.cells cs ty (0, 0)) ∧ off + (i * sz + k) + vs.length ≤ cs.size ∧
      Root (w.setRow b (cs.toList.take (off + (i * sz + k)) ++ vs ++ cs.toList.drop (off + (i * sz + k) + vs.length)).toArray) g.B q (rows.set i r') v sz (fun c => F c ∨ ∃ j, Gs j c) := by
  rcases h with ⟨rfl, rfl⟩ | ⟨b, off, cap, us, Fs, cs, ty, rfl, hh, hcap, hc, hl, hw, hd', hb, h1, h2, htt⟩
  · simp at hi
  cases hv
  obtain ⟨rfl, hkl⟩ := setS_eq hset
  have hil := nth_lt hi
  have hrl := hl i r hi
  have hbound : i * sz + sz ≤ cap * sz := by rw [← Nat.succ_mul]; exact Nat.mul_le_mul_right _ (by omega)
  have hle : off + (i * sz + k) + vs.length ≤ cs.size := by omega
  refine ⟨cs, ty, hh, hle, .inr ?_⟩
  let o := off + (i * sz + k)
  let cs' : Array Value := (cs.toList.take o ++ vs ++ cs.toList.drop (o + vs.length)).toArray
  let w' := w.setRow b cs'
  have hold : ∀ c, c ≠ b → w'.heap[c]? = w.heap[c]? := fun c hc => setRow_other _ _ _ _ hc
  have hnb : ∀ j c, Gs j c → c ≠ b := fun j c hj e => hdis j c hj (e ▸ h1)
  have hBb : ∀ c, g.B c → c ≠ b := fun c hc e => hBF c hc (e ▸ h1)
  let inR : Nat → Nat → Prop := fun i' k' => i' = i ∧ k ≤ k' ∧ k' < k + ts.length
  have hcs' : ∀ j, cs'[j]? = if o ≤ j ∧ j < o + vs.length then vs[j - o]? else cs[j]? := by
    intro j
    simp only [cs', List.getElem?_toArray, List.getElem?_append, List.length_append, List.length_take, Array.length_toList, List.getElem?_take, List.getElem?_drop]
    have hmin : min o cs.size = o := by omega
    rw [hmin]
    by_cases h3 : j < o
    · rw [if_neg (show ¬ (o ≤ j ∧ j < o + vs.length) by omega)]
      simp [h3, show j < o + vs.length by omega]
    · by_cases h4 : j < o + vs.length
      · simp [h3, h4, show o ≤ j by omega]
      · simp [h4, show o + vs.length + (j - (o + vs.length)) = j by omega]
  have hrow : ∀ (i' : Nat) (q : List T), (rows.set i (r.take k ++ ts ++ r.drop (k + ts.length)))[i']? = some q → q.length = sz ∧ ∀ (k' : Nat) (x : T), q[k']? = some x →
      (inR i' k' ∧ ts[k' - k]? = some x) ∨ (¬ inR i' k' ∧ ∃ q0, rows[i']? = some q0 ∧ q0[k']? = some x) := by
    intro i' q hq
    rw [List.getElem?_set] at hq
    by_cases e : i = i'
    · subst e
      simp only [if_true, hil] at hq
      cases hq
      refine ⟨by simp; omega, ?_⟩
      intro k' x hx
      simp only [List.getElem?_append, List.length_append, List.length_take, List.getElem?_take, List.getElem?_drop] at hx
      have hmin : min k r.length = k := by omega
      rw [hmin] at hx
      by_cases h3 : k' < k
      · simp [h3, show k' < k + ts.length by omega] at hx
        exact .inr ⟨fun h => by have := h.2.1; omega, r, hi, hx⟩
      · by_cases h4 : k' < k + ts.length
        · simp [h3, h4] at hx
          exact .inl ⟨⟨rfl, by omega, h4⟩, hx⟩
        · simp [h4, show k + ts.length + (k' - (k + ts.length)) = k' by omega] at hx
          exact .inr ⟨fun h => by have := h.2.2; omega, r, hi, hx⟩
    · simp only [e, if_false] at hq
      exact ⟨hl i' q hq, fun k' x hx => .inr ⟨fun h => e h.1.symm, q, hq, hx⟩⟩
  refine ⟨b, off, cap, fun i' k' => cs'[off + (i' * sz + k')]?.getD undef, fun i' k' c => (inR i' k' ∧ Gs (k' - k) c) ∨ (¬ inR i' k' ∧ Fs i' k' c), cs', ty, by simp, setRow_heap _ _ _ _ _ _ hh, ?_, by simpa using hc, fun i' q hq => (hrow i' q hq).1, ?_, ?_, ?_, .inl h1, ?_, ?_⟩
  · have : cs'.size = cs.size := by simp [cs']; omega
    rw [this]; exact hcap
  · intro i' q k' x hq hx
    obtain ⟨hql, hcase⟩ := hrow i' q hq
    have hk' := nth_lt hx
    rcases hcase k' x hx with ⟨hin, ht⟩ | ⟨hin, q0, hq0, hx0⟩
    · obtain ⟨rfl, h3, h4⟩ := hin
      have hj : k' - k < vs.length := by omega
      have e : cs'[off + (i' * sz + k')]? = some vs[k' - k] := by
        rw [hcs', if_pos ⟨by omega, by omega⟩, show off + (i' * sz + k') - o = k' - k by omega]
        exact List.getElem?_eq_getElem hj
      have hv := List.getElem?_eq_getElem hj
      simp only [e, Option.getD_some]
      refine ⟨trivial, ?_, hone _ (List.getElem_mem hj)⟩
      refine (((hGs _ _ _ ht hv).mono (fun c hc => ⟨hc, hold c (hBb c hc)⟩) fun c hc => hold c (hnb _ c hc))).sub fun c hc => .inl ⟨⟨rfl, h3, h4⟩, hc⟩
    · have hq0l := hl i' q0 hq0
      have hk0 := nth_lt hx0
      obtain ⟨w1, w2, w3⟩ := hw i' q0 k' x hq0 hx0
      have e : cs'[off + (i' * sz + k')]? = some (us i' k') := by
        rw [hcs', if_neg ?_]
        · exact w1
        · rintro ⟨h5, h6⟩
          have h7 : i' * sz + k' = i * sz + (i' * sz + k' - i * sz) := by omega
          obtain ⟨e1, e2⟩ := idx_inj (by omega) (by omega) h7
          exact hin ⟨e1, by omega, by omega⟩
      simp only [e, Option.getD_some]
      refine ⟨trivial, ?_, w3⟩
      exact (w2.mono (fun c hc => ⟨hc, hold c (hBb c hc)⟩) fun c hc => hold c fun ec => hb i' k' (ec ▸ hc)).sub fun c hc => .inr ⟨hin, hc⟩
  · rintro i1 k1 i2 k2 c (⟨a1, a2⟩ | ⟨a1, a2⟩) (⟨b1, b2⟩ | ⟨b1, b2⟩)
    · have e := hd _ _ c a2 b2
      obtain ⟨rfl, a3, a4⟩ := a1
      obtain ⟨rfl, b3, b4⟩ := b1
      exact ⟨rfl, by omega⟩
    · exact absurd (h2 i2 k2 c b2) (hdis _ c a2)
    · exact absurd (h2 i1 k1 c a2) (hdis _ c b2)
    · exact hd' i1 k1 i2 k2 c a2 b2
  · rintro i1 k1 (⟨a1, a2⟩ | ⟨a1, a2⟩)
    · exact hnb _ _ a2 rfl
    · exact hb i1 k1 a2
  · rintro i1 k1 c (⟨a1, a2⟩ | ⟨a1, a2⟩)
    · exact .inr ⟨_, a2⟩
    · exact .inl (h2 i1 k1 c a2)
  · rcases htt with ⟨e, h⟩ | h
    · refine .inl ⟨e, fun h' => ?_⟩
      have := congrArg List.length h'
      simp at this
      subst this
      simp at hil
    · exact .inr h

/-- a store into a root's row -/
theorem storeRp_sound (F : FR w0 B0 Fin s a w g) {id i k size : Nat} {cs : List AV} {vs : List Value} {p : Value} (hp : CR w g s.h s.o (.rp id i k) p) (hcs : CRs w g s.h s.o cs vs) (hone : ∀ u ∈ vs, u.oneCell' = true) (h : storeRp s id i k size cs = some s') :
    ∃ b o w' g', p = .pointer (some ⟨b, o, none⟩) ∧ vs.length = size ∧ (storeCells ⟨b, o, none⟩ vs).run P w = .ok () w' ∧ FR w0 B0 Fin s' a w' g' := by
  unfold storeRp at h
  split at h
  case h_2 => cases h
  rename_i hlen
  split at h
  case h_2 => cases h
  rename_i ts s1 hab
  split at h
  case h_2 => cases h
  rename_i q rows hi
  split at h
  case h_2 => cases h
  rename_i r hr
  split at h
  case h_2 => cases h
  rename_i r' hset
  obtain ⟨F1, hs1, htl, Gs, hGs, hd, hf⟩ := absorbL_sound F hcs hab
  obtain ⟨hroot, hfo⟩ := F1.rt id _ hi
  cases hp with
  | rp _ _ _ rows0 hi0 b off n cap hv =>
    have hvl : vs.length = size := by have := hcs.1; have := lenS_eq hlen; omega
    obtain ⟨cells, ty, hh, hle, hroot'⟩ := root_store (v := g.rv id) hroot hv hr hset (by have := hcs.1; omega) hGs hd
      (fun j c hj hc => (hf j c hj).2.2.1 (.inr (.inr ⟨id, _, hi, hc⟩))) hone (fun c hc hfc => (hfo c hfc).2.2 hc)
    have hrun := run_storeCells_at (P := P) b (off + (i * g.sz id + k)) ty vs 0 cells w hh (by omega) hone
    refine ⟨b, off + (i * g.sz id + k), _, { g with fo := upd g.fo id fun c => g.fo id c ∨ ∃ j, Gs j c }, rfl, hvl, hrun, ?_⟩
    simp only [Nat.add_zero]
    exact F1.setRoot hi h (by simp) hv (fun c hc => setRow_other _ _ _ _ hc) (by simp) rfl rfl rfl hroot' (fun c hc => .inl hc) fun c hc => by
      rcases hc with hc | ⟨j, hj⟩
      · exact .inl hc
      · obtain ⟨b1, b2, b3, _⟩ := hf j c hj; exact .inr ⟨b1, b2, b3⟩
end
end Go.Ev
