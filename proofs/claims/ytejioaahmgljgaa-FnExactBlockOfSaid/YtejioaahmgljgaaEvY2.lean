/- An evaluator over trees: what it tells is so (13b): operations beside others that may be done late. -/
import Derived.Test.YtejioaahmgljgaaEvY
set_option linter.unusedVariables false
set_option linter.unusedSimpArgs false
namespace Go.Ev
open Go Go.RowKit

theorem picks_spec {all : List Oper} : ∀ {X : List Nat} {l : List Oper}, picks all X = some l → l.length = X.length ∧ ∀ (q i : Nat), X[q]? = some i → ∃ o, all[i]? = some o ∧ l[q]? = some o := by
  intro X
  induction X with
  | nil => intro l h; cases h; simp
  | cons i X ih =>
    intro l h
    rw [picks] at h
    split at h
    case h_2 => cases h
    rename_i o ho
    split at h
    case h_2 => cases h
    rename_i l' hl
    cases h
    obtain ⟨h1, h2⟩ := ih hl
    rw [nthS_eq] at ho
    refine ⟨by simp [h1], ?_⟩
    intro q j hq
    cases q with
    | zero => simp at hq; subst hq; exact ⟨o, ho, by simp⟩
    | succ q => simpa using h2 q j (by simpa using hq)
theorem sorted_pw : ∀ {l : List Nat}, sortedB l = true → l.Pairwise (· < ·) := by
  intro l
  induction l with
  | nil => intro _; exact .nil
  | cons x l ih =>
    intro h
    cases l with
    | nil => exact .cons (by simp) .nil
    | cons y r =>
      simp only [sortedB, Bool.and_eq_true, decide_eq_true_eq] at h
      have hp := ih h.2
      refine .cons ?_ hp
      intro z hz
      rcases List.mem_cons.1 hz with rfl | hz
      · exact h.1
      · exact Nat.lt_trans h.1 ((List.pairwise_cons.1 hp).1 z hz)

/-- two frames that tell the same but at some slots -/
structure Agree (U : Nat → Prop) (a av : Act) : Prop where
  size : av.tmps.size = a.tmps.size
  df : av.defers = a.defers
  at_ : ∀ k, ¬ U k → av.tmps[k]? = a.tmps[k]?
theorem Agree.eval {U : Nat → Prop} {a av : Act} (h : Agree U a av) {x : Operand} (hx : ∀ k, x = .tmp k → ¬ U k) : a.eval x = av.eval x := by
  cases x with
  | tmp k => simp only [Act.eval, Array.getD_eq_getD_getElem?, h.at_ k (hx k rfl)]
  | const _ => rfl
  | global _ => rfl
  | func _ => rfl
theorem Agree.put {U : Nat → Prop} {a av : Act} (h : Agree U a av) (dst : Option Nat) (v : Value) : Agree U (a.put dst v) (av.put dst v) := by
  cases dst with
  | none => exact h
  | some d =>
    refine ⟨by simp [Act.put, h.size], by simp [Act.put, h.df], fun k hk => ?_⟩
    simp only [Act.put, Array.getElem?_setIfInBounds, h.size, h.at_ k hk]
theorem Agree.put1 {U U' : Nat → Prop} {a av : Act} (h : Agree U a av) (d : Nat) (v : Value) (hU : ∀ k, ¬ U' k → ¬ U k ∨ k = d) : Agree U' (a.put (some d) v) (av.put (some d) v) := by
  refine ⟨by simp [Act.put, h.size], by simp [Act.put, h.df], fun k hk => ?_⟩
  simp only [Act.put, Array.getElem?_setIfInBounds, h.size]
  by_cases e : d = k
  · subst e; simp
  · rw [if_neg e, if_neg e]
    rcases hU k hk with h1 | h1
    · exact h.at_ k h1
    · exact absurd h1.symm e
theorem Agree.wanted {U : Nat → Prop} {a av : Act} {ops : Array Oper} (h : Agree U a av) {o : Oper} (hr : ∀ k ∈ readsOf ops.toList o, ¬ U k) : Region.wanted o (yielded ops a.tmps) = Region.wanted o (yielded ops av.tmps) := by
  unfold Region.wanted
  cases hg : o.guard with
  | none => rfl
  | some gw =>
    obtain ⟨g, want⟩ := gw
    have hy : yielded ops a.tmps g = yielded ops av.tmps g := by
      unfold yielded
      cases ht : (ops[g]?).bind (·.dst) with
      | none => rfl
      | some t =>
        have hm : t ∈ readsOf ops.toList o := by
          unfold readsOf Oper.looksAt
          refine List.mem_append_right _ ?_
          simp [hg, ht]
        simp only [Option.bind_some, h.at_ t (hr t hm)]
    simp only [hy]
theorem Agree.exec {U : Nat → Prop} {a av : Act} {ops : Array Oper} (h : Agree U a av) {o : Oper} (hs : ∀ cs b, o.op ≠ .select cs b) (hr : ∀ k ∈ readsOf ops.toList o, ¬ U k) : execOp a.eval o = execOp av.eval o :=
  execOp_congr o hs fun x hx => h.eval fun k hk => hr k (by
    subst hk
    unfold readsOf Oper.looksAt
    exact List.mem_append_left _ (List.mem_filterMap.2 ⟨.tmp k, by simpa using hx, rfl⟩))
theorem wp_agree {P : Program} {Q : Exit → Act → World → Prop} {o : Oper} {a av : Act} {w : World} {K K' : Act → World → Prop} (he : execOp a.eval o = execOp av.eval o) (hd : ∀ a' w', K' a' w' → a'.defers = []) (hQ : ∀ c a w, ¬ Q (.panic c) a w)
    (hk : ∀ v w', K' (av.put o.dst v) w' → K (a.put o.dst v) w') (h : o.wp P av w K' Q) : o.wp P a w K Q := by
  unfold Oper.wp at *
  rw [he]
  generalize (execOp av.eval o).run P w = r at *
  cases r with
  | ok n w' =>
    cases n <;> simp only [Oper.upon] at h ⊢
    case value => exact hk _ _ h
    case skip => exact hk _ _ h
    case defer d => exfalso; have := hd _ _ h; cases hd' : o.dst <;> rw [hd'] at this <;> simp [Act.put] at this
    case enter => exact Calls.mono h (fun e w'' he => by cases e <;> first | exact hk _ _ he | exact he | exact absurd he (hQ _ _ _))
    case row => exact Rows.mono h (fun _ _ he => hk _ _ he)
  | halt x w' => cases x <;> simp only [Oper.upon] at h ⊢ <;> exact absurd h (hQ _ _ _)

/-- what is told again -/
def rep1 (tab : Tab) (all : List Oper) (s : St) (j : Nat) : Prop :=
  ∃ o d b, all[j]? = some o ∧ o.dst = some d ∧ guardAV all s o.guard = some b ∧ match b with
    | true => ∃ v, evalV tab s o.op = some v ∧ lk s.t d = some v
    | false => lk s.t d = some (.t (.sc undef))
theorem repL_spec {tab : Tab} {all : List Oper} {ms : List Nat} {i : Nat} {s : St} : ∀ {X : List Nat} {acc acc' : List (Nat × AV)}, repL tab all ms i s X acc = some acc' →
    X.Pairwise (fun j k => ∀ o o' d, all[j]? = some o → all[k]? = some o' → o.dst = some d → o'.dst ≠ some d) →
    (∀ k, (∀ j ∈ X, ∀ o, all[j]? = some o → o.dst ≠ some k) → lk acc' k = lk acc k) ∧
    ∀ j ∈ X, rch ms i j = false → ∃ o d b, all[j]? = some o ∧ o.dst = some d ∧ guardAV all s o.guard = some b ∧ match b with
    | true => ∃ v, evalV tab s o.op = some v ∧ lk acc' d = some v
    | false => lk acc' d = some (.t (.sc undef)) := by
  intro X
  induction X with
  | nil => intro acc acc' h _; rw [repL] at h; cases h; exact ⟨fun _ _ => rfl, fun j hj => by cases hj⟩
  | cons j X ih =>
    intro acc acc' h hp
    obtain ⟨hp1, hp2⟩ := List.pairwise_cons.1 hp
    rw [repL] at h
    split at h
    · rename_i hr
      obtain ⟨h1, h2⟩ := ih h hp2
      refine ⟨fun k hk => h1 k fun j' hj' => hk j' (List.mem_cons_of_mem _ hj'), fun j' hj' hr' => ?_⟩
      rcases List.mem_cons.1 hj' with rfl | hj'
      · rw [hr] at hr'; cases hr'
      · exact h2 j' hj' hr'
    · split at h
      case h_2 => cases h
      rename_i o ho
      rw [nthS_eq] at ho
      split at h
      case h_2 => cases h
      rename_i d hd
      have fin : ∀ (v : AV) (acc1 : List (Nat × AV)), pu acc d v = some acc1 → repL tab all ms i s X acc1 = some acc' →
          (∀ k, (∀ j' ∈ j :: X, ∀ o, all[j']? = some o → o.dst ≠ some k) → lk acc' k = lk acc k) ∧ lk acc' d = some v ∧ ∀ j' ∈ X, rch ms i j' = false → ∃ o d b, all[j']? = some o ∧ o.dst = some d ∧ guardAV all s o.guard = some b ∧ match b with
            | true => ∃ v, evalV tab s o.op = some v ∧ lk acc' d = some v
            | false => lk acc' d = some (.t (.sc undef)) := by
        intro v acc1 hpu h
        obtain ⟨h1, h2⟩ := ih h hp2
        refine ⟨fun k hk => ?_, ?_, h2⟩
        · rw [h1 k fun j' hj' => hk j' (List.mem_cons_of_mem _ hj'), lk_pu hpu, if_neg]
          intro e; subst e
          exact hk j (List.mem_cons_self ..) o ho hd
        · rw [h1 d fun j' hj' o' ho' => hp1 j' hj' o o' d ho ho' hd, lk_pu hpu, if_pos rfl]
      split at h
      · rename_i hg
        split at h
        case h_2 => cases h
        rename_i v hv
        split at h
        case h_2 => cases h
        rename_i acc1 hpu
        obtain ⟨f1, f2, f3⟩ := fin v acc1 hpu h
        refine ⟨f1, fun j' hj' hr' => ?_⟩
        rcases List.mem_cons.1 hj' with rfl | hj'
        · exact ⟨o, d, true, ho, hd, hg, v, hv, f2⟩
        · exact f3 j' hj' hr'
      · rename_i hg
        split at h
        case h_2 => cases h
        rename_i acc1 hpu
        obtain ⟨f1, f2, f3⟩ := fin _ acc1 hpu h
        refine ⟨f1, fun j' hj' hr' => ?_⟩
        rcases List.mem_cons.1 hj' with rfl | hj'
        · exact ⟨o, d, false, ho, hd, hg, f2⟩
        · exact f3 j' hj' hr'
      · cases h
section
variable {P : Program} {w0 : World} {B0 Fin : Nat → Prop} {Φ : Rel3} {E : Env} {ops : Array Oper}

/-- what 'drawOk2' says -/
theorem draw2_spec {l : List Oper} {X M : List Nat} (h : drawOk2 l X M = true) :
    X.length + M.length ≤ l.length ∧ okMask l (masks l) = true ∧ sortedB X = true ∧ sortedB M = true ∧ (∀ i, i < X.length + M.length → i ∈ X ∨ i ∈ M) ∧ (∀ i, i ∈ X → i ∈ M → False) ∧ (∀ i ∈ X, i < X.length + M.length) ∧ (∀ i ∈ M, i < X.length + M.length) ∧
    (∀ j, j < l.length → X.length + M.length ≤ j → ∀ i, i < j → rch (masks l) j i = true) ∧ (∀ j ∈ X, ∀ i ∈ X, i < j → okPair l (masks l) i j = true) ∧ (∀ j ∈ X, ∀ i ∈ X, i ≤ j → okRead l i j = true) ∧ (∀ j ∈ M, ∀ i ∈ M, i < j → rch (masks l) j i = true) ∧
    (∀ x ∈ X, ∀ i ∈ M, okLate l (masks l) x i = true ∧ ((∃ o, l[x]? = some o ∧ late? o = true) ∨ rch (masks l) i x = true)) ∧ ∀ o ∈ l, noDefer o = true := by
  unfold drawOk2 at h
  generalize masks l = ms at h ⊢
  simp only [Bool.and_eq_true, decide_eq_true_eq, List.all_eq_true, List.mem_range, Bool.or_eq_true] at h
  obtain ⟨⟨⟨⟨⟨⟨⟨⟨⟨⟨⟨⟨h1, h2⟩, h3⟩, h4⟩, h5⟩, h6⟩, h7⟩, h8⟩, h9⟩, h10⟩, h11⟩, h12⟩, h13⟩ := h
  refine ⟨h1, h2, h3, h4, ?_, ?_, h6, h7, ?_, ?_, ?_, ?_, ?_, h13⟩
  · intro i hi
    have := h5 i hi
    by_cases hx : i ∈ X
    · exact .inl hx
    · right
      have e : X.contains i = false := by simpa using hx
      rw [e] at this
      simpa using this
  · intro i hx hm
    have := h5 i (h6 i hx)
    rw [show X.contains i = true by simpa using hx, show M.contains i = true by simpa using hm] at this
    simp at this
  · intro j hj hmj i hi
    have := h8 j hj i hi
    rw [if_neg (by omega)] at this; exact this
  · intro j hj i hi hij
    rcases h9 j hj i hi with h | h
    · omega
    · exact h
  · intro j hj i hi hij
    rcases h10 j hj i hi with h | h
    · omega
    · exact h
  · intro j hj i hi hij
    rcases h11 j hj i hi with h | h
    · omega
    · exact h
  · intro x hx i hi
    obtain ⟨a, b⟩ := h12 x hx i hi
    refine ⟨a, ?_⟩
    rcases b with b | b
    · left
      split at b
      · rename_i o ho; exact ⟨o, ho, b⟩
      · cases b
    · exact .inr b

theorem late_sound (hT : TabOk P E.tab) (hΦ : ∀ f as r, Φ f as r → Sound P f as r) {Q : Exit → Act → World → Prop} {K : St → Prop} (hk : ∀ s' a' w', K s' → FE w0 B0 Fin s' a' w' → Q .normal a' w') (hQ : ∀ c a w, ¬ Q (.panic c) a w)
    {X M : List Nat} {l : List Oper} (hm : drawOk2 ops.toList X M = true) (hl : picks ops.toList X = some l) {s0 : St} {a0 : Act} {wa : World} (F0 : FE w0 B0 Fin s0 a0 wa)
    (h : wpQ Φ E ops.toList l s0 [] fun s' => wpL Φ E ops.toList (masks ops.toList) X M s' fun s' => Ev.wpOps Φ E ops.toList (ops.toList.drop (X.length + M.length)) s' K) :
    wpAny P .any ops Q ops.size (Array.replicate ops.size false) a0 wa := by
  obtain ⟨hmn, hmask, hsX, hsM, hcov, hdis, hXm, hMm, htail, hXX, hRR, hMM, hXM, hnd⟩ := draw2_spec hm
  generalize hms : masks ops.toList = ms at *
  generalize hmm : X.length + M.length = m at *
  have hmn : m ≤ ops.size := by simpa using hmn
  have htail : ∀ j, j < ops.size → m ≤ j → ∀ i, i < j → rch ms j i = true := by simpa using htail
  obtain ⟨es, sF, hlen, hK, hFh, hFn, hFt, hFo, hch⟩ := chain h
  obtain ⟨hll, hpk⟩ := picks_spec hl
  have hel : es.length = X.length := hlen.trans hll
  let x : Nat → Nat := fun q => X.getD q 0
  have hxq : ∀ q, q < X.length → X[q]? = some (x q) := fun q hq => by simp [x, hq]
  have hxX : ∀ q, q < X.length → x q ∈ X := fun q hq => List.mem_of_getElem? (hxq q hq)
  have hXx : ∀ i, i ∈ X → ∃ q, q < X.length ∧ x q = i := fun i hi => by
    obtain ⟨q, hq, e⟩ := List.getElem_of_mem hi
    exact ⟨q, hq, by simp [x, hq, e]⟩
  have hpwX := sorted_pw hsX
  have hxlt : ∀ q q', q < q' → q' < X.length → x q < x q' := fun q q' hqq hq' => by
    have := List.pairwise_iff_getElem.1 hpwX q q' (by omega) hq' hqq
    simpa [x, hq', show q < X.length by omega] using this
  have hxinj : ∀ q q', q < X.length → q' < X.length → x q = x q' → q = q' := fun q q' hq hq' e => by
    rcases Nat.lt_trichotomy q q' with h1 | h1 | h1
    · have := hxlt q q' h1 hq'; omega
    · exact h1
    · have := hxlt q' q h1 hq; omega
  have hop : ∀ q, q < X.length → ∃ op sj e, ops[x q]? = some op ∧ ops.toList[x q]? = some op ∧ es[q]? = some e ∧ op.dst = some e.d ∧ e.d < s0.n ∧ QOk Φ E ops.toList sj op e.d e.v e.r ∧ sj.h = s0.h ∧ sj.o = s0.o ∧
      (∀ k, lk sj.t k = glk pt (fun q' => decide (q' < q)) (lk s0.t) es k) ∧ (e.r.isSome = true → s0.free e.d = true) := by
    intro q hq
    obtain ⟨op, h1, h2⟩ := hpk q (x q) (hxq q hq)
    obtain ⟨sj, e, h3, h4, h5, h6, h7, h8, h9, h10⟩ := hch q op h2
    exact ⟨op, sj, e, by simpa using h1, h1, h3, h4, h5, h6, h7, h8, h9, h10⟩
  have huniq : ∀ (i j : Nat) (e e' : Ent), es[i]? = some e → es[j]? = some e' → e.d = e'.d → i = j := by
    intro i j e e' hi hj hd
    have key : ∀ (i j : Nat) (e e' : Ent), es[i]? = some e → es[j]? = some e' → i < j → e.d ≠ e'.d := by
      intro i j e e' hi hj hij
      have hjl : j < X.length := by have := nth_lt hj; omega
      obtain ⟨a, _, ea, _, a2, a3, a4, _⟩ := hop i (by omega)
      obtain ⟨b, _, eb, _, b2, b3, b4, _⟩ := hop j hjl
      rw [hi] at a3; cases a3
      rw [hj] at b3; cases b3
      exact (pair_spec (hXX _ (hxX j hjl) _ (hxX i (by omega)) (hxlt i j hij hjl)) a2 b2 a4 b4).1
    rcases Nat.lt_trichotomy i j with h1 | h1 | h1
    · exact absurd hd (key i j e e' hi hj h1)
    · exact h1
    · exact absurd hd.symm (key j i e' e hj hi h1)
  let Inv : (Nat → Bool) → Act → World → Prop := fun L a w => ∃ s g, FR w0 B0 Fin s a w g ∧ s.n = s0.n ∧ s.h = s0.h ∧ (∀ k, lk s.t k = glk pt (fun q => L (x q)) (lk s0.t) es k) ∧ (∀ k, lk s.o k = glk po (fun q => L (x q)) (lk s0.o) es k)
  have invc : ∀ (L L' : Nat → Bool) (a : Act) (w : World), (∀ q, q < X.length → L (x q) = L' (x q)) → Inv L a w → Inv L' a w := by
    rintro L L' a w hL ⟨s, g, F, i1, i2, i3, i4⟩
    exact ⟨s, g, F, i1, i2, fun k => (i3 k).trans (glk_congr (fun i e he _ _ => hL i (by have := nth_lt he; omega)) rfl), fun k => (i4 k).trans (glk_congr (fun i e he _ _ => hL i (by have := nth_lt he; omega)) rfl)⟩
  have estep : ∀ (L : Nat → Bool) (a : Act) (w : World) (q : Nat) (o : Oper) (e : Ent), q < X.length → ops.toList[x q]? = some o → es[q]? = some e → L (x q) = false →
      (∀ q' e', es[q']? = some e' → q' ≠ q → e'.d ∈ readsOf ops.toList o → L (x q') = decide (q' < q)) → Inv L a w →
      ∃ b, Region.wanted o (yielded ops a.tmps) = b ∧ (b = false → Inv (fun j => if x q = j then true else L j) (a.put o.dst undef) w) ∧
        (b = true → ∀ K' : Act → World → Prop, (∀ a' w', Inv (fun j => if x q = j then true else L j) a' w' → K' a' w') → o.wp P a w K' Q) ∧
        (b = true → late? o = true → ∃ u, (execOp a.eval o).run P w = .ok (.value u) w ∧ Inv (fun j => if x q = j then true else L j) (a.put o.dst u) w) := by
    intro L a w q o e hq hol hes hun hrd hinv
    obtain ⟨op, sj, e2, p1, p2, p3, p4, p5, p6, p7, p8, p9, p10⟩ := hop q hq
    rw [hol] at p2; cases p2
    rw [hes] at p3; cases p3
    obtain ⟨s, g, F, i1, i2, i3, i4⟩ := hinv
    have hreads : ∀ k, k ∈ readsOf ops.toList o → lk s.t k = lk sj.t k := by
      intro k hkr
      rw [i3, p9]
      refine glk_congr (fun i' e' he' hd' _ => ?_) rfl
      by_cases hii : i' = q
      · subst hii; rw [hun]; simp
      · exact hrd i' e' he' hii (by rw [hd']; exact hkr)
    have hget : ∀ k, k ∈ readsOf ops.toList o → s.get k = sj.get k := fun k hk' => by unfold St.get; rw [hreads k hk']
    have hev : ∀ y ∈ o.op.operands, s.ev y = sj.ev y := by
      intro y hy
      cases y with
      | tmp k =>
        refine hget k ?_
        unfold readsOf Oper.looksAt
        exact List.mem_append_left _ (List.mem_filterMap.2 ⟨.tmp k, by simpa using hy, rfl⟩)
      | const _ => rfl
      | global _ => rfl
      | func _ => rfl
    have hguard : guardAV ops.toList s o.guard = guardAV ops.toList sj o.guard := by
      unfold guardAV
      split
      · rfl
      · rename_i j want hg
        split
        · rename_i q' hq'
          split
          · rename_i d hd
            rw [hget d ?_]
            unfold readsOf Oper.looksAt
            rw [nthS_eq] at hq'
            refine List.mem_append_right _ ?_
            rw [hg]
            simp only [Option.mem_toList]
            rw [List.getElem?_toArray, hq']
            exact hd
          · rfl
        · rfl
    have M' : Mo sj s := ⟨by rw [i2, p7], fun k r hr => by
      rw [p8] at hr
      rw [i4, glk_none]
      · exact hr
      · intro i' e' he' hd' hs'
        exfalso
        obtain ⟨_, _, e2, _, _, q3, _, _, _, _, _, _, q10⟩ := hop i' (by have := nth_lt he'; omega)
        rw [he'] at q3; cases q3
        have := (free_o (q10 (by simpa [po] using hs'))).2
        rw [hd', hr] at this; cases this⟩
    have hu : ∀ (i' : Nat) (e' : Ent), es[i']? = some e' → e'.d = e.d → i' = q := fun i' e' he' hd' => huniq i' q e' e he' hes hd'
    have next : ∀ s2 g2 a' w', FR w0 B0 Fin s2 a' w' g2 → s2.h = s.h → s2.n = s.n → (∀ k, lk s2.t k = if e.d = k then some e.v else lk s.t k) → (∀ k, lk s2.o k = if e.d = k ∧ e.r.isSome = true then e.r.map (fun rows => (0, rows)) else lk s.o k) →
        Inv (fun j => if x q = j then true else L j) a' w' := by
      intro s2 g2 a' w' F2 n1 n2 n3 n4
      have hne : ∀ i', i' < X.length → i' ≠ q → (if x q = x i' then true else L (x i')) = L (x i') := fun i' hi' hq' => by
        rw [if_neg]; intro e; exact hq' (hxinj i' q hi' hq e.symm)
      refine ⟨s2, g2, F2, n2.trans i1, n1.trans i2, ?_, ?_⟩
      · intro k
        rw [n3]
        by_cases hk' : e.d = k
        · rw [if_pos hk']
          exact (glk_hit (p := pt) (x := e.v) (L := fun q' => if x q = x q' then true else L (x q')) hes hk' (by simp) rfl (fun i' e' h1 h2 => hu i' e' h1 (h2.trans hk'.symm))).symm
        · rw [if_neg hk', i3]
          refine glk_congr (fun i' e' he' hd' _ => ?_) rfl
          refine (hne i' (by have := nth_lt he'; omega) ?_).symm
          intro hii; subst hii
          rw [hes] at he'; cases he'
          exact hk' hd'
      · intro k
        rw [n4]
        by_cases hk' : e.d = k ∧ e.r.isSome = true
        · rw [if_pos hk']
          obtain ⟨rows, hrows⟩ := Option.isSome_iff_exists.1 hk'.2
          rw [glk_hit (L := fun q' => if x q = x q' then true else L (x q')) (x := (0, rows)) hes hk'.1 (by simp) (by simp [po, hrows]) (fun i' e' h1 h2 => hu i' e' h1 (h2.trans hk'.1.symm))]
          simp [hrows]
        · rw [if_neg hk', i4]
          refine glk_congr (fun i' e' he' hd' hs' => ?_) rfl
          refine (hne i' (by have := nth_lt he'; omega) ?_).symm
          intro hii; subst hii
          rw [hes] at he'; cases he'
          exact hk' ⟨hd', by simpa [po] using hs'⟩
    have hfreeo : e.r.isSome = true → lk s.o e.d = none := by
      intro hr
      rw [i4, glk_none]
      · exact (free_o (p10 hr)).2
      · intro i' e' he' hd' _
        have := hu i' e' he' hd'
        subst this; exact hun
    have hsd : e.d < s.n := by rw [i1]; exact p5
    obtain ⟨b, hg, hb⟩ := p6
    rw [← hguard] at hg
    have hw : Region.wanted o (yielded ops a.tmps) = b := guard_sound F hg
    refine ⟨b, hw, ?_, ?_, ?_⟩
    · rintro rfl
      obtain ⟨hv, hr⟩ := hb
      obtain ⟨s2, hs2⟩ := putT_can (v := e.v) hsd
      obtain ⟨e1, e2, e3, e4, e5⟩ := putT_parts hs2
      refine next s2 g _ _ (by rw [p4]; exact F.put hs2 (by rw [hv]; exact .t _ _ (.sc _))) e1 e3 e5 ?_
      intro k; rw [e2, hr]; simp
    · rintro rfl K' hK'
      simp only at hb
      split at hb
      · rename_i f args hc
        obtain ⟨gg, as, r, hcg, hargs, hms', hr, hp, hq'⟩ := hb
        obtain ⟨tys, hop'⟩ := isCall_is hc
        have hops : ∀ y, y = f ∨ y ∈ args.toList → y ∈ o.op.operands := by
          intro y hy
          rw [hop']
          simp only [Op.operands, Call.operands]
          rcases hy with rfl | hy
          · simp
          · simp; right; simpa using hy
        obtain ⟨_, h2, h3⟩ := argsAV_mo M' (fun y hy => hev y (hops y (.inr hy))) (hev f (hops f (.inl rfl))) hcg hms' hargs
        refine call_sound hΦ hc F h2 hr (by rw [h3]; exact hp) ?_
        intro v w' g' G vs cs _ F' hv hG _
        have hv : VR w' g'.B r v G := by
          rcases hv with hv | ⟨r0, outs, _, _, e, _⟩
          · exact hv
          · rw [e] at hq'; cases hq'
        obtain ⟨s2, hs2⟩ := putT_can (v := e.v) hsd
        obtain ⟨s3, g3, F3, n1, n2, n3, n4⟩ := qres_sound F' hv hG hq' hfreeo hs2
        rw [p4]
        exact hK' _ _ (next s3 g3 _ _ F3 n1 n2 n3 n4)
      · rcases hb with ⟨hv, _, hr⟩ | ⟨rows, hbq, hv, hr⟩
        case inr =>
          have hfr : s.free e.d = true := by
            have h1 : lk s.o e.d = none := hfreeo (by rw [hr]; rfl)
            have h2 : lk s.h e.d = none := by rw [i2]; exact (free_o (p10 (by rw [hr]; rfl))).1
            unfold St.free; rw [h2, h1]
          obtain ⟨s2, hm2, n1, n2, n3, n4⟩ := build_evalM (buildQ_mo hev hbq) hfr hsd
          rw [← p4] at hm2
          obtain ⟨u, w', g', hrun, F'⟩ := evalM_sound hT F hm2
          have hfin := hK' _ _ (next s2 g' (a.put o.dst u) w' F' n1 n2 (fun k => by rw [n3, hv]) (fun k => by rw [n4, hr]; simp))
          unfold Oper.wp
          rcases hrun with hrun | ⟨hrun, rfl⟩
          · rw [hrun, Oper.upon_value]; exact hfin
          · rw [hrun, Oper.upon_skip]; exact hfin
        obtain ⟨u, hrun, hcr⟩ := evalV_sound hT F (evalV_mo M' hev hv)
        unfold Oper.wp
        rw [hrun, Oper.upon_value]
        obtain ⟨s2, hs2⟩ := putT_can (v := e.v) hsd
        obtain ⟨e1, e2, e3, e4, e5⟩ := putT_parts hs2
        refine hK' _ _ (next s2 g _ _ (by rw [p4]; exact F.put hs2 hcr) e1 e3 e5 ?_)
        intro k; rw [e2, hr]; simp
    · rintro rfl hlate
      unfold late? at hlate
      simp only at hb
      split at hb
      · rename_i f args hc
        rw [hc] at hlate; cases hlate
      · rename_i hc
        rw [hc] at hlate
        rcases hb with ⟨hv, _, hr⟩ | ⟨rows, hbq, hv, hr⟩
        case inr =>
          exfalso
          unfold buildQ at hbq
          split at hbq
          · rename_i ho; rw [ho] at hlate; simp [turns] at hlate
          · cases hbq
        obtain ⟨u, hrun, hcr⟩ := evalV_sound hT F (evalV_mo M' hev hv)
        obtain ⟨s2, hs2⟩ := putT_can (v := e.v) hsd
        obtain ⟨e1, e2, e3, e4, e5⟩ := putT_parts hs2
        refine ⟨u, hrun, next s2 g _ _ (by rw [p4]; exact F.put hs2 hcr) e1 e3 e5 ?_⟩
        intro k; rw [e2, hr]; simp
  -- what is not done yet, done ahead
  have vcomp : ∀ (L : Nat → Bool) (a : Act) (w : World), Inv L a w → (∀ q, q < X.length → L (x q) = false → ∃ o, ops.toList[x q]? = some o ∧ late? o = true) →
      (∀ (j : Nat) (o : Oper) (e : Edge), ops.toList[j]? = some o → L j = true → e ∈ o.after.toList → Region.binds .any e = true → L e.on = true) →
      ∃ av, Inv (fun _ => true) av w ∧ Agree (fun k => ∃ q e, q < X.length ∧ L (x q) = false ∧ es[q]? = some e ∧ e.d = k) a av := by
    intro L a w hinv hlate hcl
    have hreach := reach hmask (L := L) hcl
    have main : ∀ c, c ≤ X.length → ∃ av, Inv (fun j => L j || decide (∃ q, q < c ∧ x q = j)) av w ∧ Agree (fun k => ∃ q e, q < X.length ∧ L (x q) = false ∧ es[q]? = some e ∧ e.d = k) a av := by
      intro c
      induction c with
      | zero => intro _; exact ⟨a, invc L (fun j => L j || decide (∃ q : Nat, q < 0 ∧ x q = j)) a w (fun q _ => by simp) hinv, rfl, rfl, fun _ _ => rfl⟩
      | succ c ih =>
        intro hc
        obtain ⟨av, hI, hA⟩ := ih (by omega)
        have hcl' : c < X.length := by omega
        by_cases hLc : L (x c) = true
        · refine ⟨av, invc (fun j => L j || decide (∃ q, q < c ∧ x q = j)) (fun j => L j || decide (∃ q, q < (c + 1) ∧ x q = j)) av w (fun q hq => ?_) hI, hA⟩
          by_cases hqc : q = c
          · subst hqc; simp [hLc]
          · have e : decide (∃ q', q' < c ∧ x q' = x q) = decide (∃ q', q' < c + 1 ∧ x q' = x q) := by
              rw [decide_eq_decide]
              constructor
              · rintro ⟨q', h1, h2⟩; exact ⟨q', by omega, h2⟩
              · rintro ⟨q', h1, h2⟩
                have := hxinj q' q (by omega) hq h2
                exact ⟨q', by omega, h2⟩
            rw [e]
        · have hLc : L (x c) = false := by simpa using hLc
          obtain ⟨op, sj, e, p1, p2, p3, p4, p5, p6, p7, p8, p9, p10⟩ := hop c hcl'
          obtain ⟨o', ho', hlo⟩ := hlate c hcl' hLc
          rw [p2] at ho'; cases ho'
          have hun : (L (x c) || decide (∃ q', q' < c ∧ x q' = x c)) = false := by
            rw [hLc, Bool.false_or, decide_eq_false_iff_not]
            rintro ⟨q', h1, h2⟩
            have := hxinj q' c (by omega) hcl' h2
            omega
          obtain ⟨b, hb, hf, _, ht⟩ := estep (fun j => L j || decide (∃ q, q < c ∧ x q = j)) av w c op e hcl' p2 p3 hun (fun q' e' he' hne hrd => by
            have hq' : q' < X.length := by have := nth_lt he'; omega
            obtain ⟨op', _, e2, q1, q2, q3, q4, _⟩ := hop q' hq'
            rw [he'] at q3; cases q3
            rcases Nat.lt_trichotomy q' c with hlt | heq | hgt
            · have : decide (∃ q'', q'' < c ∧ x q'' = x q') = true := by simp; exact ⟨q', hlt, rfl⟩
              rw [this]; simp [hlt]
            · exact absurd heq hne
            · have hp := pair_spec (hXX _ (hxX q' hq') _ (hxX c hcl') (hxlt c q' hgt hq')) p2 q2 p4 q4
              have hd : decide (∃ q'', q'' < c ∧ x q'' = x q') = false := by
                rw [decide_eq_false_iff_not]
                rintro ⟨q'', h1, h2⟩
                have := hxinj q'' q' (by omega) hq' h2
                omega
              rw [hd]
              have : L (x q') = false := by
                cases hx : L (x q') with
                | false => rfl
                | true =>
                  rcases hp.2 with h1 | h1
                  · have := hreach (x q') op' q2 (fun e3 h3 h4 => hcl (x q') op' e3 q2 hx h3 h4) (x c) (by have := hXm _ (hxX c hcl'); simp; omega) h1
                    rw [hLc] at this; cases this
                  · exact absurd hrd h1.1
              rw [this]; simp; omega) hI
          have fin : ∀ u, Inv (fun j => if x c = j then true else (L j || decide (∃ q, q < c ∧ x q = j))) (av.put op.dst u) w → ∃ av, Inv (fun j => L j || decide (∃ q, q < c + 1 ∧ x q = j)) av w ∧ Agree (fun k => ∃ q e, q < X.length ∧ L (x q) = false ∧ es[q]? = some e ∧ e.d = k) a av := by
            intro u hI'
            refine ⟨_, invc (fun j => if x c = j then true else (L j || decide (∃ q, q < c ∧ x q = j))) (fun j => L j || decide (∃ q, q < (c + 1) ∧ x q = j)) _ w (fun q hq => ?_) hI', ?_, ?_, ?_⟩
            · by_cases hqc : x c = x q
              · rw [if_pos hqc]
                have : decide (∃ q', q' < c + 1 ∧ x q' = x q) = true := by simp; exact ⟨c, by omega, hqc⟩
                rw [this]; simp
              · rw [if_neg hqc]
                have e : decide (∃ q', q' < c ∧ x q' = x q) = decide (∃ q', q' < c + 1 ∧ x q' = x q) := by
                  rw [decide_eq_decide]
                  constructor
                  · rintro ⟨q', h1, h2⟩; exact ⟨q', by omega, h2⟩
                  · rintro ⟨q', h1, h2⟩
                    refine ⟨q', ?_, h2⟩
                    rcases Nat.lt_or_ge q' c with h3 | h3
                    · exact h3
                    · have : q' = c := by omega
                      subst this; exact absurd h2 hqc
                rw [e]
            · rw [p4]; simp [Act.put, hA.size]
            · rw [p4]; simp [Act.put, hA.df]
            · intro k hk'
              rw [p4]
              simp only [Act.put, Array.getElem?_setIfInBounds]
              rw [if_neg]
              · exact hA.at_ k hk'
              · intro hek
                exact hk' ⟨c, e, hcl', hLc, p3, hek⟩
          cases b with
          | false => exact fin undef (hf rfl)
          | true => obtain ⟨u, _, hI'⟩ := ht rfl hlo; exact fin u hI'
    obtain ⟨av, hI, hA⟩ := main X.length (Nat.le_refl _)
    refine ⟨av, invc (fun j => L j || decide (∃ q, q < X.length ∧ x q = j)) (fun _ => true) av w (fun q hq => ?_) hI, hA⟩
    have : decide (∃ q', q' < X.length ∧ x q' = x q) = true := by simp; exact ⟨q, hq, rfl⟩
    rw [this]; simp
  let Un : (Nat → Bool) → Nat → Prop := fun L k => ∃ q e, q < X.length ∧ L (x q) = false ∧ es[q]? = some e ∧ e.d = k
  have hdst : X.Pairwise (fun j k => ∀ o o' d, ops.toList[j]? = some o → ops.toList[k]? = some o' → o.dst = some d → o'.dst ≠ some d) := by
    rw [List.pairwise_iff_getElem]
    intro i j hi hj hij o o' d ho ho' hd hd'
    have hi' : X[i] = x i := by simp [x, hi]
    have hj' : X[j] = x j := by simp [x, hj]
    rw [hi'] at ho; rw [hj'] at ho'
    exact (pair_spec (hXX _ (hxX j hj) _ (hxX i hi) (hxlt i j hij hj)) ho ho' hd hd').1 rfl
  have hset : ∀ (listed : Array Bool) (i : Nat), i < listed.size → ∀ q, (listed.setIfInBounds i true).getD q false = if i = q then true else listed.getD q false := fun listed i hi q => getD_set hi
  -- one of the others
  have mstep : ∀ (fuel : Nat) (listed : Array Bool) (a : Act) (w : World) (i : Nat) (o : Oper) (r : List Nat) (s : St) (av : Act), listed.size = ops.size →
      (∀ (j : Nat) (o : Oper) (e : Edge), ops.toList[j]? = some o → listed.getD j false = true → e ∈ o.after.toList → Region.binds .any e = true → listed.getD e.on false = true) →
      i ∈ M → ops[i]? = some o → (∀ e ∈ o.after.toList, Region.binds .any e = true → listed.getD e.on false = true) →
      FE w0 B0 Fin s av w → Agree (Un fun j => listed.getD j false) a av → wpL Φ E ops.toList ms X (i :: r) s (fun s' => Ev.wpOps Φ E ops.toList (ops.toList.drop m) s' K) →
      (∀ s' av' a' w', FE w0 B0 Fin s' av' w' → Agree (Un fun j => listed.getD j false) a' av' → wpL Φ E ops.toList ms X r s' (fun s' => Ev.wpOps Φ E ops.toList (ops.toList.drop m) s' K) → (∀ q, q < X.length → listed.getD (x q) false = false → rep1 E.tab ops.toList s' (x q)) →
        wpAny P .any ops Q fuel (listed.setIfInBounds i true) a' w') →
      Go.wpOp P ops Q i (wpAny P .any ops Q fuel (listed.setIfInBounds i true)) a w := by
    intro fuel listed a w i o r s av hs hcl hiM ho haft hF hA hw hcont
    have hol : ops.toList[i]? = some o := by simpa using ho
    have him := hMm i hiM
    have hreach := reach hmask (L := fun q => listed.getD q false) hcl
    have hlatei : ∀ q e, q < X.length → listed.getD (x q) false = false → es[q]? = some e → o.dst ≠ some e.d ∧ e.d ∉ readsOf ops.toList o ∧ rch ms i (x q) = false := by
      intro q e hq hun he
      obtain ⟨op, sj, e2, p1, p2, p3, p4, _⟩ := hop q hq
      rw [he] at p3; cases p3
      have h1 := (hXM _ (hxX q hq) i hiM).1
      have hnr : rch ms i (x q) = false := by
        cases hx : rch ms i (x q) with
        | false => rfl
        | true =>
          have := hreach i o hol haft (x q) (by have := hXm _ (hxX q hq); simp; omega) hx
          rw [hun] at this; cases this
      unfold okLate at h1
      simp only [p2, hol, p4, hnr, Bool.false_or, Bool.and_eq_true, Bool.not_eq_true', decide_eq_false_iff_not] at h1
      refine ⟨fun hd => h1.1.2 hd, ?_, hnr⟩
      have := h1.2.1
      simpa using this
    have hreads : ∀ k ∈ readsOf ops.toList o, ¬ Un (fun j => listed.getD j false) k := by
      rintro k hk' ⟨q, e, hq, hun, he, rfl⟩
      exact (hlatei q e hq hun he).2.1 hk'
    have hns : ∀ cs b, o.op ≠ .select cs b := by
      intro cs b e
      have := hnd o (List.mem_of_getElem? hol)
      unfold noDefer at this
      rw [e] at this; cases this
    rw [wpL] at hw
    obtain ⟨o2, ho2, b, hg, hw⟩ := hw
    rw [nthS_eq, hol] at ho2; cases ho2
    obtain ⟨g, F⟩ := hF
    have hwav : Region.wanted o (yielded ops av.tmps) = b := guard_sound F hg
    have hwa : Region.wanted o (yielded ops a.tmps) = b := by rw [hA.wanted hreads]; exact hwav
    have hrep : ∀ s', repL E.tab ops.toList ms i s' X s'.t = some s'.t → ∀ q, q < X.length → listed.getD (x q) false = false → rep1 E.tab ops.toList s' (x q) := by
      intro s' hr q hq hun
      obtain ⟨op, sj, e2, p1, p2, p3, p4, _⟩ := hop q hq
      exact (repL_spec hr hdst).2 _ (hxX q hq) (hlatei q e2 hq hun p3).2.2
    unfold Go.wpOp
    rw [ho]
    simp only [hwa]
    cases b with
    | false =>
      simp only [Bool.false_eq_true, if_false]
      obtain ⟨s', hp, hr, hw⟩ := hw
      exact hcont s' _ _ _ ⟨g, F.put hp (.t _ _ (.sc _))⟩ (hA.put _ _) hw (hrep s' hr)
    | true =>
      simp only [if_true]
      refine .inl (wp_agree (K' := fun a' w' => ∃ s', FE w0 B0 Fin s' a' w' ∧ repL E.tab ops.toList ms i s' X s'.t = some s'.t ∧ wpL Φ E ops.toList ms X r s' (fun s' => Ev.wpOps Φ E ops.toList (ops.toList.drop m) s' K)) (hA.exec hns hreads) ?_ hQ ?_ (op_sound hT hΦ ⟨g, F⟩ hw fun s' a' w' h' F' => ⟨s', F', h'.1, h'.2⟩))
      · rintro a' w' ⟨s', ⟨g', F'⟩, _⟩; exact F'.df
      · rintro v w' ⟨s', F', hr, hw⟩
        exact hcont s' _ _ _ F' (hA.put _ _) hw (hrep s' hr)
  have least : ∀ (p : Nat → Prop), (∃ n, p n) → ∃ n, p n ∧ ∀ k, k < n → ¬ p k := by
    intro p ⟨n, hn⟩
    induction n using Nat.strongRecOn with
    | _ n ihn =>
      by_cases hk : ∃ k, k < n ∧ p k
      · obtain ⟨k, hkn, hk⟩ := hk; exact ihn k hkn hk
      · exact ⟨n, hn, fun k hk' hp => hk ⟨k, hk', hp⟩⟩
  have tailfin : ∀ (fuel : Nat) (listed : Array Bool) (s : St) (a : Act) (w : World), listed.size = ops.size → fuel = listed.toList.count false → (∀ i, m ≤ i → i < ops.size → listed.getD i false = false) → (∀ i, i < m → listed.getD i false = true) → FE w0 B0 Fin s a w →
      Ev.wpOps Φ E ops.toList (ops.toList.drop m) s K → wpAny P .any ops Q fuel listed a w := by
    intro fuel listed s a w hs hf hlow hall F hw
    have hl : ∀ i, i < ops.size → listed.getD i false = decide (i < m) := by
      intro i hi
      by_cases him : i < m
      · rw [hall i him]; simp [him]
      · rw [hlow i (by omega) hi]; simp [him]
    have hlist : listed.toList = List.replicate m true ++ List.replicate (ops.size - m) false := by
      apply List.ext_getElem
      · simp; omega
      · intro i h1 h2
        have hi : i < ops.size := by simpa [hs] using h1
        have h3 := hl i hi
        rw [Array.getD_eq_getD_getElem?, Array.getElem?_eq_getElem (by omega)] at h3
        simp only [Option.getD_some] at h3
        rw [Array.getElem_toList, h3, List.getElem_append]
        by_cases him : i < m <;> simp [him]
    have hfu : fuel = ops.size - m := by
      rw [hf, hlist, List.count_append, List.count_replicate, List.count_replicate]; simp
    exact tail_sound hT hΦ hk hmask htail fuel m listed s a w hs hl hmn (Nat.le_refl _) hfu F hw
  have all0 : ∀ (listed : Array Bool), listed.size = ops.size → listed.toList.count false = 0 → ∀ i, i < m → listed.getD i false = true := by
    intro listed hs hf i hi
    have h0 := List.count_eq_zero.1 hf
    have hlt : i < listed.size := by omega
    rw [Array.getD_eq_getD_getElem?, Array.getElem?_eq_getElem hlt, Option.getD_some]
    cases hx : listed[i] with
    | true => rfl
    | false => exact absurd (by rw [← hx]; simp) h0
  have nonempty : ∀ (listed : Array Bool), listed.size = ops.size → ¬ (∀ i, i < m → listed.getD i false = true) → Region.ready .any ops listed ≠ [] := by
    intro listed hs hall hn
    have hex : ∃ q, q < m ∧ listed.getD q false = false := by
      apply Classical.byContradiction
      intro hno
      apply hall
      intro i hi
      cases hx : listed.getD i false with
      | true => rfl
      | false => exact absurd ⟨i, hi, hx⟩ hno
    obtain ⟨q, ⟨hq1, hq2⟩, hq3⟩ := least _ hex
    have hqr : q ∈ Region.ready .any ops listed := by
      have hql : ops.toList[q]? = some ops[q] := by simp
      refine (ready_mem hs).2 ⟨ops[q], by simp, hq2, fun e he hb => ?_⟩
      have hlt := (mask_spec hmask hql).1 e he hb
      cases hx : listed.getD e.on false with
      | true => rfl
      | false => exact absurd ⟨by omega, hx⟩ (hq3 e.on hlt)
    rw [hn] at hqr; simp at hqr
  have keep : ∀ (fuel : Nat) (listed : Array Bool) (i : Nat) (o : Oper), listed.size = ops.size → fuel + 1 = listed.toList.count false → (∀ j, m ≤ j → j < ops.size → listed.getD j false = false) →
      (∀ (j : Nat) (o : Oper) (e : Edge), ops.toList[j]? = some o → listed.getD j false = true → e ∈ o.after.toList → Region.binds .any e = true → listed.getD e.on false = true) →
      i < m → ops.toList[i]? = some o → listed.getD i false = false → (∀ e ∈ o.after.toList, Region.binds .any e = true → listed.getD e.on false = true) →
      (listed.setIfInBounds i true).size = ops.size ∧ fuel = (listed.setIfInBounds i true).toList.count false ∧ (∀ j, m ≤ j → j < ops.size → (listed.setIfInBounds i true).getD j false = false) ∧
      (∀ (j : Nat) (o : Oper) (e : Edge), ops.toList[j]? = some o → (listed.setIfInBounds i true).getD j false = true → e ∈ o.after.toList → Region.binds .any e = true → (listed.setIfInBounds i true).getD e.on false = true) := by
    intro fuel listed i o hs hf hlow hcl him hol hun haft
    have hil : i < listed.size := by omega
    refine ⟨by simpa using hs, ?_, ?_, ?_⟩
    · rw [Array.toList_setIfInBounds, List.count_set (by simp; omega)]
      have hx : listed.toList[i]'(by simp; omega) = false := by
        rw [Array.getD_eq_getD_getElem?, Array.getElem?_eq_getElem (by omega), Option.getD_some] at hun
        rw [Array.getElem_toList]; exact hun
      rw [hx, ← hf]; simp
    · intro j hj1 hj2
      rw [hset listed i hil, if_neg (by omega)]; exact hlow j hj1 hj2
    · intro j o' e' hj hL he hb
      rw [hset listed i hil] at hL ⊢
      split
      · rfl
      split at hL
      · rename_i hij; subst hij
        rw [hol] at hj; cases hj
        exact haft e' he hb
      · exact hcl j o' e' hj hL he hb
  have head : ∀ (listed : Array Bool) (i : Nat) (o : Oper) (Mr : List Nat), (∀ (j : Nat) (o : Oper) (e : Edge), ops.toList[j]? = some o → listed.getD j false = true → e ∈ o.after.toList → Region.binds .any e = true → listed.getD e.on false = true) →
      (∀ i ∈ Mr, i ∈ M ∧ listed.getD i false = false) → Mr.Pairwise (· < ·) → i ∈ Mr → ops.toList[i]? = some o → (∀ e ∈ o.after.toList, Region.binds .any e = true → listed.getD e.on false = true) → ∃ r, Mr = i :: r := by
    intro listed i o Mr hcl hMr hp hi hol haft
    cases Mr with
    | nil => cases hi
    | cons i0 r =>
      refine ⟨r, ?_⟩
      rcases List.mem_cons.1 hi with rfl | hir
      · rfl
      · exfalso
        have hlt := (List.pairwise_cons.1 hp).1 i hir
        obtain ⟨h1, h2⟩ := hMr i0 (List.mem_cons_self ..)
        have := reach hmask (L := fun q => listed.getD q false) hcl i o hol haft i0 (by have := hMm i0 h1; simp; omega) (hMM i (hMr i hi).1 i0 h1 hlt)
        rw [h2] at this; cases this
  have lmain : ∀ (fuel : Nat) (listed : Array Bool) (a : Act) (w : World) (Mr : List Nat) (s : St) (av : Act), listed.size = ops.size → fuel = listed.toList.count false → (∀ i, m ≤ i → i < ops.size → listed.getD i false = false) →
      (∀ (j : Nat) (o : Oper) (e : Edge), ops.toList[j]? = some o → listed.getD j false = true → e ∈ o.after.toList → Region.binds .any e = true → listed.getD e.on false = true) →
      (∀ i ∈ M, i ∈ Mr ∨ listed.getD i false = true) → (∀ i ∈ Mr, i ∈ M ∧ listed.getD i false = false) → Mr.Pairwise (· < ·) →
      FE w0 B0 Fin s av w → Agree (Un fun j => listed.getD j false) a av → wpL Φ E ops.toList ms X Mr s (fun s' => Ev.wpOps Φ E ops.toList (ops.toList.drop m) s' K) → (∀ q, q < X.length → listed.getD (x q) false = false → rep1 E.tab ops.toList s (x q)) →
      wpAny P .any ops Q fuel listed a w := by
    intro fuel
    have fin : ∀ (fuel : Nat) (listed : Array Bool) (a : Act) (w : World) (Mr : List Nat) (s : St) (av : Act), listed.size = ops.size → fuel = listed.toList.count false → (∀ i, m ≤ i → i < ops.size → listed.getD i false = false) → (∀ i, i < m → listed.getD i false = true) →
        (∀ i ∈ Mr, i ∈ M ∧ listed.getD i false = false) → FE w0 B0 Fin s av w → Agree (Un fun j => listed.getD j false) a av → wpL Φ E ops.toList ms X Mr s (fun s' => Ev.wpOps Φ E ops.toList (ops.toList.drop m) s' K) → wpAny P .any ops Q fuel listed a w := by
      intro fuel listed a w Mr s av hs hf hlow hall hMr hF hA hw
      have hM0 : Mr = [] := by
        apply List.eq_nil_iff_forall_not_mem.2
        intro i hi
        obtain ⟨h1, h2⟩ := hMr i hi
        rw [hall i (hMm i h1)] at h2; cases h2
      subst hM0
      rw [wpL] at hw
      have hav : av = a := by
        obtain ⟨t1, d1⟩ := av
        obtain ⟨t2, d2⟩ := a
        have e1 : t1 = t2 := by
          apply Array.ext_getElem?
          intro k
          refine hA.at_ k ?_
          rintro ⟨q, e, hq, hun, _⟩
          have := hall _ (hXm _ (hxX q hq))
          simp only at hun
          rw [hun] at this; cases this
        have e2 : d1 = d2 := hA.df
        rw [e1, e2]
      subst hav
      exact tailfin fuel listed s av w hs hf hlow hall hF hw
    induction fuel with
    | zero =>
      intro listed a w Mr s av hs hf hlow hcl hM1 hM2 hp hF hA hw hrp
      exact fin _ _ _ _ _ _ _ hs hf hlow (all0 listed hs hf.symm) hM2 hF hA hw
    | succ fuel ih =>
      intro listed a w Mr s av hs hf hlow hcl hM1 hM2 hp hF hA hw hrp
      by_cases hall : ∀ i, i < m → listed.getD i false = true
      · exact fin _ _ _ _ _ _ _ hs hf hlow hall hM2 hF hA hw
      refine ⟨fun hn => absurd hn (nonempty listed hs hall), fun i hi => ?_⟩
      obtain ⟨o, ho, hun, haft⟩ := (ready_mem hs).1 hi
      have hin : i < ops.size := (Array.getElem?_eq_some_iff.1 ho).1
      have hol : ops.toList[i]? = some o := by simpa using ho
      have hreach := reach hmask (L := fun q => listed.getD q false) hcl
      have him : i < m := by
        rcases Nat.lt_or_ge i m with h1 | h1
        · exact h1
        · exfalso
          apply hall
          intro j hj
          exact hreach i o hol haft j (by simp; omega) (htail i hin h1 j (by omega))
      obtain ⟨k1, k2, k3, k4⟩ := keep fuel listed i o hs hf hlow hcl him hol hun haft
      have hil : i < listed.size := by omega
      rcases hcov i him with hiX | hiM
      · obtain ⟨q, hq, hqi⟩ := hXx i hiX
        subst hqi
        obtain ⟨op, sj, e, p1, p2, p3, p4, p5, _⟩ := hop q hq
        rw [hol] at p2; cases p2
        have hreads : ∀ k ∈ readsOf ops.toList o, ¬ Un (fun j => listed.getD j false) k := by
          rintro k hk' ⟨q', e', hq', hun', he', rfl⟩
          obtain ⟨op', _, e2, r1, r2, r3, r4, _⟩ := hop q' hq'
          rw [he'] at r3; cases r3
          rcases Nat.lt_or_ge q' q with hlt | hge
          · rcases (pair_spec (hXX _ (hxX q hq) _ (hxX q' hq') (hxlt q' q hlt hq)) r2 hol r4 p4).2 with h1 | h1
            · have := hreach (x q) o hol haft (x q') (by have := hXm _ (hxX q' hq'); simp; omega) h1
              simp only at hun'
              rw [hun'] at this; cases this
            · exact h1.2 hk'
          · have hle : x q ≤ x q' := by
              rcases Nat.eq_or_lt_of_le hge with h1 | h1
              · subst h1; exact Nat.le_refl _
              · exact Nat.le_of_lt (hxlt q q' h1 hq')
            have h1 := hRR _ (hxX q' hq') _ (hxX q hq) hle
            unfold okRead at h1
            simp only [hol, r2, r4, Bool.not_eq_true'] at h1
            have : e'.d ∉ readsOf ops.toList o := by simpa using h1
            exact this hk'
        have hns : ∀ cs b, o.op ≠ .select cs b := by
          intro cs b e
          have := hnd o (List.mem_of_getElem? hol)
          unfold noDefer at this
          rw [e] at this; cases this
        obtain ⟨o2, d, b, r1, r2, r3, r4⟩ := hrp q hq hun
        rw [hol] at r1; cases r1
        have hde : d = e.d := by rw [p4] at r2; cases r2; rfl
        obtain ⟨g, F⟩ := hF
        have hwa : Region.wanted o (yielded ops a.tmps) = b := by rw [hA.wanted hreads]; exact guard_sound F r3
        have fin2 : ∀ (v : AV) (u : Value), lk s.t d = some v → CR w g s.h s.o v u → wpAny P .any ops Q fuel (listed.setIfInBounds (x q) true) (a.put o.dst u) w := by
          intro v u hlk hcr
          have hdn : d < s.n := by
            obtain ⟨z, hz, _⟩ := F.tm d v hlk
            have := (Array.getElem?_eq_some_iff.1 hz).1
            rw [F.n] at this; exact this
          obtain ⟨s2, hs2⟩ := putT_can (s := s) (v := v) hdn
          obtain ⟨e1, e2, e3, e4, e5⟩ := putT_parts hs2
          have F2 : FR w0 B0 Fin s (av.put (some d) u) w g := (F.put hs2 hcr).congr (fun k y hk' => by
            rw [e5]
            by_cases hdk : d = k
            · subst hdk; rw [hlk] at hk'; cases hk'; simp
            · rw [if_neg hdk]; exact hk') (fun k => by rw [e1]) (fun k => by rw [e2]) e3.symm
          rw [r2]
          refine ih _ _ _ Mr s (av.put (some d) u) k1 k2 k3 k4 ?_ ?_ hp ⟨g, F2⟩ (hA.put1 d u ?_) hw ?_
          · intro j hj
            rcases hM1 j hj with h1 | h1
            · exact .inl h1
            · right; rw [hset listed _ hil]; split <;> first | rfl | exact h1
          · intro j hj
            obtain ⟨h1, h2⟩ := hM2 j hj
            refine ⟨h1, ?_⟩
            rw [hset listed _ hil, if_neg]; exact h2
            intro hej; exact hdis j (by rw [← hej]; exact hxX q hq) h1
          · intro k hk'
            by_cases hUk : Un (fun j => listed.getD j false) k
            · obtain ⟨q', e', hq', hun', he', hke⟩ := hUk
              by_cases hqq : q' = q
              · subst hqq; rw [p3] at he'; cases he'; right; rw [← hke, hde]
              · exfalso
                refine hk' ⟨q', e', hq', ?_, he', hke⟩
                show (listed.setIfInBounds (x q) true).getD (x q') false = false
                rw [hset listed _ hil, if_neg]; exact hun'
                intro hxx; exact hqq (hxinj q' q hq' hq hxx.symm)
            · exact .inl hUk
          · intro q' hq' hun'
            refine hrp q' hq' ?_
            rw [hset listed _ hil] at hun'
            split at hun'
            · cases hun'
            · exact hun'
        unfold Go.wpOp
        rw [ho]
        simp only [hwa]
        cases b with
        | false =>
          simp only [Bool.false_eq_true, if_false]
          exact fin2 _ undef r4 (.t _ _ (.sc _))
        | true =>
          simp only [if_true]
          obtain ⟨v, hv, hlk⟩ := r4
          obtain ⟨u, hrun, hcr⟩ := evalV_sound hT F hv
          refine .inl ?_
          unfold Oper.wp
          rw [hA.exec hns hreads, hrun, Oper.upon_value]
          exact fin2 v u hlk hcr
      · have hiMr : i ∈ Mr := by
          rcases hM1 i hiM with h1 | h1
          · exact h1
          · rw [hun] at h1; cases h1
        obtain ⟨r, hr⟩ := head listed i o Mr hcl hM2 hp hiMr hol haft
        subst hr
        have hpr := List.pairwise_cons.1 hp
        refine mstep fuel listed a w i o r s av hs hcl hiM ho haft hF hA hw ?_
        intro s' av' a' w' F' hA' hw' hrp'
        refine ih _ a' w' r s' av' k1 k2 k3 k4 ?_ ?_ hpr.2 F' ?_ hw' ?_
        · intro j hj
          rw [hset listed _ hil]
          by_cases hij : i = j
          · right; rw [if_pos hij]
          · rw [if_neg hij]
            rcases hM1 j hj with h1 | h1
            · rcases List.mem_cons.1 h1 with h2 | h2
              · exact absurd h2.symm hij
              · exact .inl h2
            · exact .inr h1
        · intro j hj
          obtain ⟨h1, h2⟩ := hM2 j (List.mem_cons_of_mem _ hj)
          refine ⟨h1, ?_⟩
          rw [hset listed _ hil, if_neg]; exact h2
          intro hij; have := hpr.1 j hj; omega
        · refine ⟨hA'.size, hA'.df, fun k hk' => hA'.at_ k fun hu => hk' ?_⟩
          obtain ⟨q, e, hq, hun', he, hke⟩ := hu
          refine ⟨q, e, hq, ?_, he, hke⟩
          show (listed.setIfInBounds i true).getD (x q) false = false
          rw [hset listed _ hil, if_neg]; exact hun'
          intro hix; exact hdis i (by rw [hix]; exact hxX q hq) hiM
        · intro q hq hun'
          refine hrp' q hq ?_
          rw [hset listed _ hil] at hun'
          split at hun'
          · cases hun'
          · exact hun'
  have toF : ∀ (L : Nat → Bool) (a : Act) (w : World), (∀ q, q < X.length → L (x q) = true) → Inv L a w → FE w0 B0 Fin sF a w := by
    rintro L a w hL ⟨s, g, F, i1, i2, i3, i4⟩
    have hgl : ∀ {α : Type} (p : Ent → Option α) base k, glk p (fun q => L (x q)) base es k = glk p (fun _ => true) base es k := by
      intro α p base k
      refine glk_congr (fun i e he _ _ => ?_) rfl
      exact hL i (by have := nth_lt he; omega)
    exact ⟨g, F.congr (fun k y hy => by rw [hFt] at hy; rw [i3, hgl]; exact hy) (fun k => by rw [hFh, i2]) (fun k => by rw [hFo, i4, hgl]; simp) (by rw [hFn, i1])⟩
  have main : ∀ (fuel : Nat) (listed : Array Bool) (a : Act) (w : World), listed.size = ops.size → fuel = listed.toList.count false → (∀ i, m ≤ i → i < ops.size → listed.getD i false = false) →
      (∀ (j : Nat) (o : Oper) (e : Edge), ops.toList[j]? = some o → listed.getD j false = true → e ∈ o.after.toList → Region.binds .any e = true → listed.getD e.on false = true) →
      (∀ i ∈ M, listed.getD i false = false) → Inv (fun j => listed.getD j false) a w → wpAny P .any ops Q fuel listed a w := by
    have fin : ∀ (fuel : Nat) (listed : Array Bool) (a : Act) (w : World), listed.size = ops.size → fuel = listed.toList.count false → (∀ i, m ≤ i → i < ops.size → listed.getD i false = false) → (∀ i, i < m → listed.getD i false = true) →
        (∀ i ∈ M, listed.getD i false = false) → Inv (fun j => listed.getD j false) a w → wpAny P .any ops Q fuel listed a w := by
      intro fuel listed a w hs hf hlow hall hMl hinv
      have hM0 : M = [] := by
        apply List.eq_nil_iff_forall_not_mem.2
        intro i hi
        have := hMl i hi
        rw [hall i (hMm i hi)] at this; cases this
      have hK' := hK
      rw [hM0, wpL] at hK'
      exact tailfin fuel listed sF a w hs hf hlow hall (toF (fun j => listed.getD j false) a w (fun q hq => hall _ (hXm _ (hxX q hq))) hinv) hK'
    intro fuel
    induction fuel with
    | zero => intro listed a w hs hf hlow hcl hMl hinv; exact fin _ _ _ _ hs hf hlow (all0 listed hs hf.symm) hMl hinv
    | succ fuel ih =>
      intro listed a w hs hf hlow hcl hMl hinv
      by_cases hall : ∀ i, i < m → listed.getD i false = true
      · exact fin _ _ _ _ hs hf hlow hall hMl hinv
      refine ⟨fun hn => absurd hn (nonempty listed hs hall), fun i hi => ?_⟩
      obtain ⟨o, ho, hun, haft⟩ := (ready_mem hs).1 hi
      have hin : i < ops.size := (Array.getElem?_eq_some_iff.1 ho).1
      have hol : ops.toList[i]? = some o := by simpa using ho
      have hreach := reach hmask (L := fun q => listed.getD q false) hcl
      have him : i < m := by
        rcases Nat.lt_or_ge i m with h1 | h1
        · exact h1
        · exfalso
          apply hall
          intro j hj
          exact hreach i o hol haft j (by simp; omega) (htail i hin h1 j (by omega))
      obtain ⟨k1, k2, k3, k4⟩ := keep fuel listed i o hs hf hlow hcl him hol hun haft
      have hil : i < listed.size := by omega
      rcases hcov i him with hiX | hiM
      · obtain ⟨q, hq, hqi⟩ := hXx i hiX
        subst hqi
        obtain ⟨op, sj, e, p1, p2, p3, p4, p5, _⟩ := hop q hq
        rw [hol] at p2; cases p2
        have hrd : ∀ q' e', es[q']? = some e' → q' ≠ q → e'.d ∈ readsOf ops.toList o → listed.getD (x q') false = decide (q' < q) := by
          intro q' e' he' hne hr
          have hq' : q' < X.length := by have := nth_lt he'; omega
          obtain ⟨op', _, e2, r1, r2, r3, r4, _⟩ := hop q' hq'
          rw [he'] at r3; cases r3
          rcases Nat.lt_trichotomy q' q with hlt | heq | hgt
          · rcases (pair_spec (hXX _ (hxX q hq) _ (hxX q' hq') (hxlt q' q hlt hq)) r2 hol r4 p4).2 with h1 | h1
            · have := hreach (x q) o hol haft (x q') (by have := hXm _ (hxX q' hq'); simp; omega) h1
              rw [this]; simp [hlt]
            · exact absurd hr h1.2
          · exact absurd heq hne
          · rcases (pair_spec (hXX _ (hxX q' hq') _ (hxX q hq) (hxlt q q' hgt hq')) hol r2 p4 r4).2 with h1 | h1
            · cases hx : listed.getD (x q') false with
              | false => simp; omega
              | true =>
                have := hreach (x q') op' r2 (fun e3 h3 h4 => hcl (x q') op' e3 r2 hx h3 h4) (x q) (by simp; omega) h1
                rw [hun] at this; cases this
            · exact absurd hr h1.1
        obtain ⟨b, hw, hf1, hf2, _⟩ := estep (fun j => listed.getD j false) a w q o e hq hol p3 hun hrd hinv
        have next : ∀ a' w', Inv (fun j => if x q = j then true else listed.getD j false) a' w' → wpAny P .any ops Q fuel (listed.setIfInBounds (x q) true) a' w' := by
          intro a' w' hI
          refine ih _ a' w' k1 k2 k3 k4 ?_ (invc (fun j => if x q = j then true else listed.getD j false) (fun j => (listed.setIfInBounds (x q) true).getD j false) a' w' (fun q' _ => (hset listed _ hil _).symm) hI)
          intro j hj
          rw [hset listed _ hil, if_neg]; exact hMl j hj
          intro hej; exact hdis j (by rw [← hej]; exact hxX q hq) hj
        unfold Go.wpOp
        rw [ho]
        simp only [hw]
        cases b with
        | false =>
          simp only [Bool.false_eq_true, if_false]
          exact next _ _ (hf1 rfl)
        | true =>
          simp only [if_true]
          exact .inl (hf2 rfl _ next)
      · obtain ⟨av, hIv, hAv⟩ := vcomp (fun j => listed.getD j false) a w hinv (fun q hq hunq => by
          rcases (hXM _ (hxX q hq) i hiM).2 with h1 | h1
          · exact h1
          · have := hreach i o hol haft (x q) (by have := hXm _ (hxX q hq); simp; omega) h1
            rw [hunq] at this; cases this) hcl
        have hFF := toF (fun _ => true) av w (fun _ _ => rfl) hIv
        have hpM := sorted_pw hsM
        obtain ⟨r, hr⟩ := head listed i o M hcl (fun j hj => ⟨hj, hMl j hj⟩) hpM hiM hol haft
        have hK' := hK
        rw [hr] at hK' hpM
        have hpr := List.pairwise_cons.1 hpM
        refine mstep fuel listed a w i o r sF av hs hcl hiM ho haft hFF hAv hK' ?_
        intro s' av' a' w' F' hA' hw' hrp'
        refine lmain _ _ a' w' r s' av' k1 k2 k3 k4 ?_ ?_ hpr.2 F' ?_ hw' ?_
        · intro j hj
          rw [hset listed _ hil]
          by_cases hij : i = j
          · right; rw [if_pos hij]
          · left
            rw [hr] at hj
            rcases List.mem_cons.1 hj with h2 | h2
            · exact absurd h2.symm hij
            · exact h2
        · intro j hj
          have hjM : j ∈ M := by rw [hr]; exact List.mem_cons_of_mem _ hj
          refine ⟨hjM, ?_⟩
          rw [hset listed _ hil, if_neg]; exact hMl j hjM
          intro hij; have := hpr.1 j hj; omega
        · refine ⟨hA'.size, hA'.df, fun k hk' => hA'.at_ k fun hu => hk' ?_⟩
          obtain ⟨q, e, hq, hun', he, hke⟩ := hu
          refine ⟨q, e, hq, ?_, he, hke⟩
          show (listed.setIfInBounds i true).getD (x q) false = false
          rw [hset listed _ hil, if_neg]; exact hun'
          intro hix; exact hdis i (by rw [hix]; exact hxX q hq) hiM
        · intro q hq hun'
          refine hrp' q hq ?_
          rw [hset listed _ hil] at hun'
          split at hun'
          · cases hun'
          · exact hun'
  obtain ⟨g0, F0⟩ := F0
  have hrep : ∀ q, (Array.replicate ops.size false).getD q false = false := by
    intro q
    rw [Array.getD_eq_getD_getElem?, Array.getElem?_replicate]
    split <;> rfl
  refine main _ _ _ _ (by simp) ?_ (fun i _ _ => hrep i) (fun j o e hj hL => by rw [hrep] at hL; cases hL) (fun i _ => hrep i) ⟨s0, g0, F0, rfl, rfl, ?_, ?_⟩
  · simp
  · intro k; rw [glk_none]; intro i e _ _ _; exact hrep _
  · intro k; rw [glk_none]; intro i e _ _ _; exact hrep _
end
end Go.Ev
