import Derived.Test.YtamcbocdcnndfaaPF2
set_option linter.unusedVariables false
set_option linter.unusedSimpArgs false
namespace Go.Ev
open Go Go.RowKit

theorem picks_spec {all : List Oper} : ∀ {X : List Nat} {l : List Oper}, picks all X = some l → l.length = X.length ∧ ∀ (q i : Nat), X[q]? = some i → ∃ o, all[i]? = some o ∧ l[q]? = some o := by
  intro X
  induction X with
  | nil => intro l h; cases h; simp
  | cons i X ih =>
    intro l h
    rw [picks] at h
    split at h
    case h_2 => cases h
    rename_i o ho
    split at h
    case h_2 => cases h
    rename_i l' hl
    cases h
    obtain ⟨h1, h2⟩ := ih hl
    rw [nthS_eq] at ho
    refine ⟨by simp [h1], ?_⟩
    intro q j hq
    cases q with
    | zero => simp at hq; subst hq; exact ⟨o, ho, by simp⟩
    | succ q => simpa using h2 q j (by simpa using hq)
theorem sorted_pw : ∀ {l : List Nat}, sortedB l = true → l.Pairwise (· < ·) := by
  intro l
  induction l with
  | nil => intro _; exact .nil
  | cons x l ih =>
    intro h
    cases l with
    | nil => exact .cons (by simp) .nil
    | cons y r =>
      simp only [sortedB, Bool.and_eq_true, decide_eq_true_eq] at h
      have hp := ih h.2
      refine .cons ?_ hp
      intro z hz
      rcases List.mem_cons.1 hz with rfl | hz
      · exact h.1
      · exact Nat.lt_trans h.1 ((List.pairwise_cons.1 hp).1 z hz)

/-- two frames that tell the same but at some slots -/
structure Agree (U : Nat → Prop) (a av : Act) : Prop where
  size : av.tmps.size = a.tmps.size
  df : av.defers = a.defers
  at_ : ∀ k, ¬ U k → av.tmps[k]? = a.tmps[k]?
theorem Agree.eval {U : Nat → Prop} {a av : Act} (h : Agree U a av) {x : Operand} (hx : ∀ k, x = .tmp k → ¬ U k) : a.eval x = av.eval x := by
  cases x with
  | tmp k => simp only [Act.eval, Array.getD_eq_getD_getElem?, h.at_ k (hx k rfl)]
  | const _ => rfl
  | global _ => rfl
  | func _ => rfl
theorem Agree.put {U : Nat → Prop} {a av : Act} (h : Agree U a av) (dst : Option Nat) (v : Value) : Agree U (a.put dst v) (av.put dst v) := by
  cases dst with
  | none => exact h
  | some d =>
    refine ⟨by simp [Act.put, h.size], by simp [Act.put, h.df], fun k hk => ?_⟩
    simp only [Act.put, Array.getElem?_setIfInBounds, h.size, h.at_ k hk]
theorem Agree.put1 {U U' : Nat → Prop} {a av : Act} (h : Agree U a av) (d : Nat) (v : Value) (hU : ∀ k, ¬ U' k → ¬ U k ∨ k = d) : Agree U' (a.put (some d) v) (av.put (some d) v) := by
  refine ⟨by simp [Act.put, h.size], by simp [Act.put, h.df], fun k hk => ?_⟩
  simp only [Act.put, Array.getElem?_setIfInBounds, h.size]
  by_cases e : d = k
  · subst e; simp
  · rw [if_neg e, if_neg e]
    rcases hU k hk with h1 | h1
    · exact h.at_ k h1
    · exact absurd h1.symm e
theorem Agree.wanted {U : Nat → Prop} {a av : Act} {ops : Array Oper} (h : Agree U a av) {o : Oper} (hr : ∀ k ∈ readsOf ops.toList o, ¬ U k) : Region.wanted o (yielded ops a.tmps) = Region.wanted o (yielded ops av.tmps) := by
  unfold Region.wanted
  cases hg : o.guard with
  | none => rfl
  | some gw =>
    obtain ⟨g, want⟩ := gw
    have hy : yielded ops a.tmps g = yielded ops av.tmps g := by
      unfold yielded
      cases ht : (ops[g]?).bind (·.dst) with
      | none => rfl
      | some t =>
        have hm : t ∈ readsOf ops.toList o := by
          unfold readsOf Oper.looksAt
          refine List.mem_append_right _ ?_
          simp [hg, ht]
        simp only [Option.bind_some, h.at_ t (hr t hm)]
    simp only [hy]
theorem Agree.exec {U : Nat → Prop} {a av : Act} {ops : Array Oper} (h : Agree U a av) {o : Oper} (hs : ∀ cs b, o.op ≠ .select cs b) (hr : ∀ k ∈ readsOf ops.toList o, ¬ U k) : execOp a.eval o = execOp av.eval o :=
  execOp_congr o hs fun x hx => h.eval fun k hk => hr k (by
    subst hk
    unfold readsOf Oper.looksAt
    exact List.mem_append_left _ (List.mem_filterMap.2 ⟨.tmp k, by simpa using hx, rfl⟩))
theorem wp_agree {P : Program} {Q : Exit → Act → World → Prop} {o : Oper} {a av : Act} {w : World} {K K' : Act → World → Prop} (he : execOp a.eval o = execOp av.eval o) (hd : ∀ a' w', K' a' w' → a'.defers = []) (hQ : ∀ c a w, ¬ Q (.panic c) a w)
    (hk : ∀ v w', K' (av.put o.dst v) w' → K (a.put o.dst v) w') (h : o.wp P av w K' Q) : o.wp P a w K Q := by
  unfold Oper.wp at *
  rw [he]
  generalize (execOp av.eval o).run P w = r at *
  cases r with
  | ok n w' =>
    cases n <;> simp only [Oper.upon] at h ⊢
    case value => exact hk _ _ h
    case skip => exact hk _ _ h
    case defer d => exfalso; have := hd _ _ h; cases hd' : o.dst <;> rw [hd'] at this <;> simp [Act.put] at this
    case enter => exact Calls.mono h (fun e w'' he => by cases e <;> first | exact hk _ _ he | exact he | exact absurd he (hQ _ _ _))
    case row => exact Rows.mono h (fun _ _ he => hk _ _ he)
  | halt x w' => cases x <;> simp only [Oper.upon] at h ⊢ <;> exact absurd h (hQ _ _ _)

/-- what is told again -/
def rep1 (tab : Tab) (all : List Oper) (s : St) (j : Nat) : Prop :=
  ∃ o d b, all[j]? = some o ∧ o.dst = some d ∧ guardAV all s o.guard = some b ∧ match b with
    | true => ∃ v, evalV tab s o.op = some v ∧ lk s.t d = some v
    | false => lk s.t d = some (.t (.sc undef))
theorem repL_spec {tab : Tab} {all : List Oper} {ms : List Nat} {i : Nat} {s : St} : ∀ {X : List Nat} {acc acc' : List (Nat × AV)}, repL tab all ms i s X acc = some acc' →
    X.Pairwise (fun j k => ∀ o o' d, all[j]? = some o → all[k]? = some o' → o.dst = some d → o'.dst ≠ some d) →
    (∀ k, (∀ j ∈ X, ∀ o, all[j]? = some o → o.dst ≠ some k) → lk acc' k = lk acc k) ∧
    ∀ j ∈ X, rch ms i j = false → ∃ o d b, all[j]? = some o ∧ o.dst = some d ∧ guardAV all s o.guard = some b ∧ match b with
    | true => ∃ v, evalV tab s o.op = some v ∧ lk acc' d = some v
    | false => lk acc' d = some (.t (.sc undef)) := by
  intro X
  induction X with
  | nil => intro acc acc' h _; rw [repL] at h; cases h; exact ⟨fun _ _ => rfl, fun j hj => by cases hj⟩
  | cons j X ih =>
    intro acc acc' h hp
    obtain ⟨hp1, hp2⟩ := List.pairwise_cons.1 hp
    rw [repL] at h
    split at h
    · rename_i hr
      obtain ⟨h1, h2⟩ := ih h hp2
      refine ⟨fun k hk => h1 k fun j' hj' => hk j' (List.mem_cons_of_mem _ hj'), fun j' hj' hr' => ?_⟩
      rcases List.mem_cons.1 hj' with rfl | hj'
      · rw [hr] at hr'; cases hr'
      · exact h2 j' hj' hr'
    · split at h
      case h_2 => cases h
      rename_i o ho
      rw [nthS_eq] at ho
      split at h
      case h_2 => cases h
      rename_i d hd
      have fin : ∀ (v : AV) (acc1 : List (Nat × AV)), pu acc d v = some acc1 → repL tab all ms i s X acc1 = some acc' →
          (∀ k, (∀ j' ∈ j :: X, ∀ o, all[j']? = some o → o.dst ≠ some k) → lk acc' k = lk acc k) ∧ lk acc' d = some v ∧ ∀ j' ∈ X, rch ms i j' = false → ∃ o d b, all[j']? = some o ∧ o.dst = some d ∧ guardAV all s o.guard = some b ∧ match b with
            | true => ∃ v, evalV tab s o.op = some v ∧ lk acc' d = some v
            | false => lk acc' d = some (.t (.sc undef)) := by
        intro v acc1 hpu h
        obtain ⟨h1, h2⟩ := ih h hp2
        refine ⟨fun k hk => ?_, ?_, h2⟩
        · rw [h1 k fun j' hj' => hk j' (List.mem_cons_of_mem _ hj'), lk_pu hpu, if_neg]
          intro e; subst e
          exact hk j (List.mem_cons_self ..) o ho hd
        · rw [h1 d fun j' hj' o' ho' => hp1 j' hj' o o' d ho ho' hd, lk_pu hpu, if_pos rfl]
      split at h
      · rename_i hg
        split at h
        case h_2 => cases h
        rename_i v hv
        split at h
        case h_2 => cases h
        rename_i acc1 hpu
        obtain ⟨f1, f2, f3⟩ := fin v acc1 hpu h
        refine ⟨f1, fun j' hj' hr' => ?_⟩
        rcases List.mem_cons.1 hj' with rfl | hj'
        · exact ⟨o, d, true, ho, hd, hg, v, hv, f2⟩
        · exact f3 j' hj' hr'
      · rename_i hg
        split at h
        case h_2 => cases h
        rename_i acc1 hpu
        obtain ⟨f1, f2, f3⟩ := fin _ acc1 hpu h
        refine ⟨f1, fun j' hj' hr' => ?_⟩
        rcases List.mem_cons.1 hj' with rfl | hj'
        · exact ⟨o, d, false, ho, hd, hg, f2⟩
        · exact f3 j' hj' hr'
      · cases h
section
variable {P : Program} {w0 : World} {B0 Fin : Nat → Prop} {Φ : Rel3} {E : Env} {ops : Array Oper}

/-- what 'drawOk2' says -/
theorem draw2_spec {l : List Oper} {X M : List Nat} (h : drawOk2 l X M = true) :
    X.length + M.length ≤ l.length ∧ okMask l (masks l) = true ∧ sortedB X = true ∧ sortedB M = true ∧ (∀ i, i < X.length + M.length → i ∈ X ∨ i ∈ M) ∧ (∀ i, i ∈ X → i ∈ M → False) ∧ (∀ i ∈ X, i < X.length + M.length) ∧ (∀ i ∈ M, i < X.length + M.length) ∧
    (∀ j, j < l.length → X.length + M.length ≤ j → ∀ i, i < j → rch (masks l) j i = true) ∧ (∀ j ∈ X, ∀ i ∈ X, i < j → okPair l (masks l) i j = true) ∧ (∀ j ∈ X, ∀ i ∈ X, i ≤ j → okRead l i j = true) ∧ (∀ j ∈ M, ∀ i ∈ M, i < j → rch (masks l) j i = true) ∧
    (∀ x ∈ X, ∀ i ∈ M, okLate l (masks l) x i = true ∧ ((∃ o, l[x]? = some o ∧ late? o = true) ∨ rch (masks l) i x = true)) ∧ ∀ o ∈ l, noDefer o = true := by
  unfold drawOk2 at h
  generalize masks l = ms at h ⊢
  simp only [Bool.and_eq_true, decide_eq_true_eq, List.all_eq_true, List.mem_range, Bool.or_eq_true] at h
  obtain ⟨⟨⟨⟨⟨⟨⟨⟨⟨⟨⟨⟨h1, h2⟩, h3⟩, h4⟩, h5⟩, h6⟩, h7⟩, h8⟩, h9⟩, h10⟩, h11⟩, h12⟩, h13⟩ := h
  refine ⟨h1, h2, h3, h4, ?_, ?_, h6, h7, ?_, ?_, ?_, ?_, ?_, h13⟩
  · intro i hi
    have := h5 i hi
    by_cases hx : i ∈ X
    · exact .inl hx
    · right
      have e : X.contains i = false := by simpa using hx
      rw [e] at this
      simpa using this
  · intro i hx hm
    have := h5 i (h6 i hx)
    rw [show X.contains i = true by simpa using hx, show M.contains i = true by simpa using hm] at this
    simp at this
  · intro j hj hmj i hi
    have := h8 j hj i hi
    rw [if_neg (by omega)] at this; exact this
  · intro j hj i hi hij
    rcases h9 j hj i hi with h | h
    · omega
    · exact h
  · intro j hj i hi hij
    rcases h10 j hj i hi with h | h
    · omega
    · exact h
  · intro j hj i hi hij
    rcases h11 j hj i hi with h | h
    · omega
    · exact h
  · intro x hx i hi
    obtain ⟨a, b⟩ := h12 x hx i hi
    refine ⟨a, ?_⟩
    rcases b with b | b
    · left
      split at b
      · rename_i o ho; exact ⟨o, ho, b⟩
      · cases b
    · exact .inr b

/-- what 'drawOk3' says -/
theorem draw3_spec {l : List Oper} {X M : List Nat} (h : drawOk3 l X M = true) :
    X.length + M.length ≤ l.length ∧ okMask l (masks l) = true ∧ sortedB X = true ∧ (∀ i, i < X.length + M.length → i ∈ X ∨ i ∈ M) ∧ (∀ i, i ∈ X → i ∈ M → False) ∧ (∀ i ∈ X, i < X.length + M.length) ∧ (∀ i ∈ M, i < X.length + M.length) ∧
    (∀ j, j < l.length → X.length + M.length ≤ j → ∀ i, i < j → rch (masks l) j i = true) ∧ (∀ j ∈ X, ∀ i ∈ X, i < j → okPair l (masks l) i j = true) ∧ (∀ j ∈ X, ∀ i ∈ X, i ≤ j → okRead l i j = true) ∧
    (∀ x ∈ X, ∀ i ∈ M, okLate l (masks l) x i = true ∧ ((∃ o, l[x]? = some o ∧ late? o = true) ∨ rch (masks l) i x = true)) ∧ ∀ o ∈ l, noDefer o = true := by
  unfold drawOk3 at h
  generalize masks l = ms at h ⊢
  simp only [Bool.and_eq_true, decide_eq_true_eq, List.all_eq_true, List.mem_range, Bool.or_eq_true] at h
  obtain ⟨⟨⟨⟨⟨⟨⟨⟨⟨⟨h1, h2⟩, h3⟩, h5⟩, h6⟩, h7⟩, h8⟩, h9⟩, h10⟩, h12⟩, h13⟩ := h
  refine ⟨h1, h2, h3, ?_, ?_, h6, h7, ?_, ?_, ?_, ?_, h13⟩
  · intro i hi
    have := h5 i hi
    by_cases hx : i ∈ X
    · exact .inl hx
    · right
      have e : X.contains i = false := by simpa using hx
      rw [e] at this
      simpa using this
  · intro i hx hm
    have := h5 i (h6 i hx)
    rw [show X.contains i = true by simpa using hx, show M.contains i = true by simpa using hm] at this
    simp at this
  · intro j hj hmj i hi
    have := h8 j hj i hi
    rw [if_neg (by omega)] at this; exact this
  · intro j hj i hi hij
    rcases h9 j hj i hi with h | h
    · omega
    · exact h
  · intro j hj i hi hij
    rcases h10 j hj i hi with h | h
    · omega
    · exact h
  · intro x hx i hi
    obtain ⟨a, b⟩ := h12 x hx i hi
    refine ⟨a, ?_⟩
    rcases b with b | b
    · left
      split at b
      · rename_i o ho; exact ⟨o, ho, b⟩
      · cases b
    · exact .inr b

theorem draw_23 {l : List Oper} {X M : List Nat} (h : drawOk2 l X M = true) : drawOk3 l X M = true := by
  unfold drawOk2 at h
  unfold drawOk3
  generalize masks l = ms at h ⊢
  simp only [Bool.and_eq_true] at h ⊢
  obtain ⟨⟨⟨⟨⟨⟨⟨⟨⟨⟨⟨⟨h1, h2⟩, h3⟩, h4⟩, h5⟩, h6⟩, h7⟩, h8⟩, h9⟩, h10⟩, h11⟩, h12⟩, h13⟩ := h
  exact ⟨⟨⟨⟨⟨⟨⟨⟨⟨⟨h1, h2⟩, h3⟩, h5⟩, h6⟩, h7⟩, h8⟩, h9⟩, h10⟩, h12⟩, h13⟩
theorem wpOp_imp {Φ : Rel3} {E : Env} {op : Op} {dst : Option Nat} {s : St} {K K' : St → Prop} (hk : ∀ s, K s → K' s) (h : Ev.wpOp Φ E op dst s K) : Ev.wpOp Φ E op dst s K' := by
  unfold Ev.wpOp at h ⊢
  split at h
  · rcases h with ⟨g, as, r, s1, s2, h1, h2, h3, h4, h5⟩ | ⟨ks, g, as, r, s1, s2, h1, h2, h3, h4, h5, h6⟩
    · exact .inl ⟨g, as, r, s1, s2, h1, h2, h3, h4, hk _ h5⟩
    · exact .inr ⟨ks, g, as, r, s1, s2, h1, h2, h3, h4, h5, hk _ h6⟩
  · rcases h with ⟨s', h1, h2⟩ | ⟨c, s', h1, h2, h3⟩ | ⟨n, rows, f, h1, h2, h3, h4⟩
    · exact .inl ⟨s', h1, hk _ h2⟩
    · exact .inr (.inl ⟨c, s', h1, h2, hk _ h3⟩)
    · exact .inr (.inr ⟨n, rows, f, h1, h2, fun e => hk _ (h3 e), fun e b => hk _ (h4 e b)⟩)
theorem wpQ_imp {Φ : Rel3} {E : Env} {all : List Oper} {K K' : St → Prop} (hk : ∀ s, K s → K' s) : ∀ {l : List Oper} {s : St} {pend : List (Nat × QV × List (List T))}, wpQ Φ E all l s pend K → wpQ Φ E all l s pend K' := by
  intro l
  induction l with
  | nil => intro s pend h; obtain ⟨o, h1, h2⟩ := h; exact ⟨o, h1, hk _ h2⟩
  | cons op l ih =>
    intro s pend h
    obtain ⟨d, v, root, s', h1, h2, h3, h4⟩ := h
    refine ⟨d, v, root, s', h1, h2, h3, ?_⟩
    cases root with
    | none => exact ih h4
    | some rows => exact ⟨h4.1, ih h4.2⟩
theorem mem_remN {i j : Nat} : ∀ {l : List Nat}, j ∈ remN i l ↔ j ∈ l ∧ j ≠ i := by
  intro l
  induction l with
  | nil => simp [remN]
  | cons x r ih =>
    rw [remN]
    cases hx : Nat.beq x i with
    | true =>
      have : x = i := Nat.eq_of_beq_eq_true hx
      subst this
      simp only [ih, List.mem_cons]
      constructor
      · rintro ⟨a, b⟩; exact ⟨.inr a, b⟩
      · rintro ⟨a | a, b⟩
        · exact absurd a b
        · exact ⟨a, b⟩
    | false =>
      have hne : x ≠ i := Nat.ne_of_beq_eq_false hx
      simp only [ih, List.mem_cons]
      constructor
      · rintro (rfl | ⟨a, b⟩)
        · exact ⟨.inl rfl, hne⟩
        · exact ⟨.inr a, b⟩
      · rintro ⟨a | a, b⟩
        · exact .inl a
        · exact .inr ⟨a, b⟩
theorem rdyM_of {ms : List Nat} {i : Nat} : ∀ {l : List Nat}, (∀ j ∈ l, rch ms i j = false) → rdyM ms i l = true := by
  intro l
  induction l with
  | nil => intro _; rfl
  | cons x r ih =>
    intro h
    rw [rdyM, h x (List.mem_cons_self ..)]
    exact ih fun j hj => h j (List.mem_cons_of_mem _ hj)
theorem rdyM_is {ms : List Nat} {i : Nat} : ∀ {l : List Nat}, rdyM ms i l = true → ∀ j ∈ l, rch ms i j = false := by
  intro l
  induction l with
  | nil => intro _ j hj; cases hj
  | cons x r ih =>
    intro h j hj
    rw [rdyM] at h
    split at h
    · cases h
    · rename_i hx
      rcases List.mem_cons.1 hj with rfl | hj
      · exact hx
      · exact ih h j hj
theorem stepM_imp {Φ : Rel3} {E : Env} {all : List Oper} {ms X : List Nat} {i : Nat} {s : St} {K K' : St → Prop} (hk : ∀ s, K s → K' s) (h : stepM Φ E all ms X i s K) : stepM Φ E all ms X i s K' := by
  obtain ⟨o, ho, b, hg, h⟩ := h
  refine ⟨o, ho, b, hg, ?_⟩
  cases b with
  | false => obtain ⟨s', h1, h2, h3⟩ := h; exact ⟨s', h1, h2, hk _ h3⟩
  | true => exact wpOp_imp (fun s h => ⟨h.1, hk _ h.2⟩) h
theorem wpM_nil {Φ : Rel3} {E : Env} {all : List Oper} {ms X : List Nat} {n : Nat} {s : St} {K : St → Prop} (h : wpM Φ E all ms X n [] s K) : K s := by
  cases n with
  | zero => exact h.2
  | succ n => exact h.1 rfl
theorem wpM_step {Φ : Rel3} {E : Env} {all : List Oper} {ms X Mr : List Nat} {n i : Nat} {s : St} {K : St → Prop} (h : wpM Φ E all ms X n Mr s K) (hi : i ∈ Mr) (hr : rdyM ms i Mr = true) : stepM Φ E all ms X i s fun s' => ∃ n, wpM Φ E all ms X n (remN i Mr) s' K := by
  cases n with
  | zero => rw [h.1] at hi; cases hi
  | succ n => exact stepM_imp (fun s h => ⟨n, h⟩) (h.2 i hi hr)
theorem insS_lk {α : Type} {k : Nat} {v : α} {n : Nat} : ∀ {l l' : List (Nat × α)}, insS k v l = some l' → lk l' n = if k = n then some v else lk l n := by
  intro l
  induction l with
  | nil => intro l' h; cases h; rw [lk_cons]
  | cons p r ih =>
    intro l' h
    obtain ⟨j, w⟩ := p
    rw [insS] at h
    split at h
    · cases h; rw [lk_cons]
    · rename_i hj
      have hj : ¬ k ≤ j := fun h => by rw [Nat.ble_eq_true_of_le h] at hj; cases hj
      split at h
      · rename_i r' hr
        cases h
        rw [lk_cons, lk_cons, ih hr]
        by_cases h1 : k = n
        · subst h1; rw [if_neg (by omega), if_pos rfl, if_pos rfl]
        · rw [if_neg h1, if_neg h1]
      · cases h
theorem sortS_lk {α : Type} {n : Nat} : ∀ {l l' : List (Nat × α)}, sortS l = some l' → lk l' n = lk l n := by
  intro l
  induction l with
  | nil => intro l' h; cases h; rfl
  | cons p r ih =>
    intro l' h
    obtain ⟨k, v⟩ := p
    rw [sortS] at h
    split at h
    · rename_i r' hr
      rw [insS_lk h, lk_cons, ih hr]
    · cases h
theorem canS_fe {w0 w : World} {B0 Fin : Nat → Prop} {s s' : St} {a : Act} (h : canS s = some s') (F : FE w0 B0 Fin s a w) : FE w0 B0 Fin s' a w := by
  obtain ⟨g, F⟩ := F
  obtain ⟨t, hh, o, n⟩ := s
  unfold canS at h
  simp only at h
  split at h
  case h_2 => cases h
  rename_i t' ht
  split at h
  case h_2 => cases h
  rename_i h' hh'
  split at h
  case h_2 => cases h
  rename_i o' ho'
  cases h
  exact ⟨g, F.congr (fun k x hx => by rw [← sortS_lk (n := k) ht]; exact hx) (fun k => sortS_lk hh') (fun k => sortS_lk ho') rfl⟩
theorem late3_sound (hT : TabOk P E.tab) (hΦ : ∀ f as r, Φ f as r → Sound P f as r) {Q : Exit → Act → World → Prop} {K : St → Prop} (hk : ∀ s' a' w', K s' → FE w0 B0 Fin s' a' w' → Q .normal a' w') (hQ : ∀ c a w, ¬ Q (.panic c) a w)
    {KL : St → Prop} {X M : List Nat} {l : List Oper} (hkl : ∀ s' a' w', KL s' → FE w0 B0 Fin s' a' w' → ∃ s2, FE w0 B0 Fin s2 a' w' ∧ Ev.wpOps Φ E ops.toList (ops.toList.drop (X.length + M.length)) s2 K) (hm : drawOk3 ops.toList X M = true) (hl : picks ops.toList X = some l) {s0 : St} {a0 : Act} {wa : World} (F0 : FE w0 B0 Fin s0 a0 wa)
    (h : wpQ Φ E ops.toList l s0 [] fun s' => ∃ n, wpM Φ E ops.toList (masks ops.toList) X n M s' KL) :
    wpAny P .any ops Q ops.size (Array.replicate ops.size false) a0 wa := by
  obtain ⟨hmn, hmask, hsX, hcov, hdis, hXm, hMm, htail, hXX, hRR, hXM, hnd⟩ := draw3_spec hm
  generalize hms : masks ops.toList = ms at *
  generalize hmm : X.length + M.length = m at *
  have hmn : m ≤ ops.size := by simpa using hmn
  have htail : ∀ j, j < ops.size → m ≤ j → ∀ i, i < j → rch ms j i = true := by simpa using htail
  obtain ⟨es, sF, hlen, hK, hFh, hFn, hFt, hFo, hch⟩ := chain h
  obtain ⟨hll, hpk⟩ := picks_spec hl
  have hel : es.length = X.length := hlen.trans hll
  let x : Nat → Nat := fun q => X.getD q 0
  have hxq : ∀ q, q < X.length → X[q]? = some (x q) := fun q hq => by simp [x, hq]
  have hxX : ∀ q, q < X.length → x q ∈ X := fun q hq => List.mem_of_getElem? (hxq q hq)
  have hXx : ∀ i, i ∈ X → ∃ q, q < X.length ∧ x q = i := fun i hi => by
    obtain ⟨q, hq, e⟩ := List.getElem_of_mem hi
    exact ⟨q, hq, by simp [x, hq, e]⟩
  have hpwX := sorted_pw hsX
  have hxlt : ∀ q q', q < q' → q' < X.length → x q < x q' := fun q q' hqq hq' => by
    have := List.pairwise_iff_getElem.1 hpwX q q' (by omega) hq' hqq
    simpa [x, hq', show q < X.length by omega] using this
  have hxinj : ∀ q q', q < X.length → q' < X.length → x q = x q' → q = q' := fun q q' hq hq' e => by
    rcases Nat.lt_trichotomy q q' with h1 | h1 | h1
    · have := hxlt q q' h1 hq'; omega
    · exact h1
    · have := hxlt q' q h1 hq; omega
  have hop : ∀ q, q < X.length → ∃ op sj e, ops[x q]? = some op ∧ ops.toList[x q]? = some op ∧ es[q]? = some e ∧ op.dst = some e.d ∧ e.d < s0.n ∧ QOk Φ E ops.toList sj op e.d e.v e.r ∧ sj.h = s0.h ∧ sj.o = s0.o ∧
      (∀ k, lk sj.t k = glk pt (fun q' => decide (q' < q)) (lk s0.t) es k) ∧ (e.r.isSome = true → s0.free e.d = true) := by
    intro q hq
    obtain ⟨op, h1, h2⟩ := hpk q (x q) (hxq q hq)
    obtain ⟨sj, e, h3, h4, h5, h6, h7, h8, h9, h10⟩ := hch q op h2
    exact ⟨op, sj, e, by simpa using h1, h1, h3, h4, h5, h6, h7, h8, h9, h10⟩
  have huniq : ∀ (i j : Nat) (e e' : Ent), es[i]? = some e → es[j]? = some e' → e.d = e'.d → i = j := by
    intro i j e e' hi hj hd
    have key : ∀ (i j : Nat) (e e' : Ent), es[i]? = some e → es[j]? = some e' → i < j → e.d ≠ e'.d := by
      intro i j e e' hi hj hij
      have hjl : j < X.length := by have := nth_lt hj; omega
      obtain ⟨a, _, ea, _, a2, a3, a4, _⟩ := hop i (by omega)
      obtain ⟨b, _, eb, _, b2, b3, b4, _⟩ := hop j hjl
      rw [hi] at a3; cases a3
      rw [hj] at b3; cases b3
      exact (pair_spec (hXX _ (hxX j hjl) _ (hxX i (by omega)) (hxlt i j hij hjl)) a2 b2 a4 b4).1
    rcases Nat.lt_trichotomy i j with h1 | h1 | h1
    · exact absurd hd (key i j e e' hi hj h1)
    · exact h1
    · exact absurd hd.symm (key j i e' e hj hi h1)
  let Inv : (Nat → Bool) → Act → World → Prop := fun L a w => ∃ s g, FR w0 B0 Fin s a w g ∧ s.n = s0.n ∧ s.h = s0.h ∧ (∀ k, lk s.t k = glk pt (fun q => L (x q)) (lk s0.t) es k) ∧ (∀ k, lk s.o k = glk po (fun q => L (x q)) (lk s0.o) es k)
  have invc : ∀ (L L' : Nat → Bool) (a : Act) (w : World), (∀ q, q < X.length → L (x q) = L' (x q)) → Inv L a w → Inv L' a w := by
    rintro L L' a w hL ⟨s, g, F, i1, i2, i3, i4⟩
    exact ⟨s, g, F, i1, i2, fun k => (i3 k).trans (glk_congr (fun i e he _ _ => hL i (by have := nth_lt he; omega)) rfl), fun k => (i4 k).trans (glk_congr (fun i e he _ _ => hL i (by have := nth_lt he; omega)) rfl)⟩
  have estep : ∀ (L : Nat → Bool) (a : Act) (w : World) (q : Nat) (o : Oper) (e : Ent), q < X.length → ops.toList[x q]? = some o → es[q]? = some e → L (x q) = false →
      (∀ q' e', es[q']? = some e' → q' ≠ q → e'.d ∈ readsOf ops.toList o → L (x q') = decide (q' < q)) → Inv L a w →
      ∃ b, Region.wanted o (yielded ops a.tmps) = b ∧ (b = false → Inv (fun j => if x q = j then true else L j) (a.put o.dst undef) w) ∧
        (b = true → ∀ K' : Act → World → Prop, (∀ a' w', Inv (fun j => if x q = j then true else L j) a' w' → K' a' w') → o.wp P a w K' Q) ∧
        (b = true → late? o = true → ∃ u, (execOp a.eval o).run P w = .ok (.value u) w ∧ Inv (fun j => if x q = j then true else L j) (a.put o.dst u) w) := by
    intro L a w q o e hq hol hes hun hrd hinv
    obtain ⟨op, sj, e2, p1, p2, p3, p4, p5, p6, p7, p8, p9, p10⟩ := hop q hq
    rw [hol] at p2; cases p2
    rw [hes] at p3; cases p3
    obtain ⟨s, g, F, i1, i2, i3, i4⟩ := hinv
    have hreads : ∀ k, k ∈ readsOf ops.toList o → lk s.t k = lk sj.t k := by
      intro k hkr
      rw [i3, p9]
      refine glk_congr (fun i' e' he' hd' _ => ?_) rfl
      by_cases hii : i' = q
      · subst hii; rw [hun]; simp
      · exact hrd i' e' he' hii (by rw [hd']; exact hkr)
    have hget : ∀ k, k ∈ readsOf ops.toList o → s.get k = sj.get k := fun k hk' => by unfold St.get; rw [hreads k hk']
    have hev : ∀ y ∈ o.op.operands, s.ev y = sj.ev y := by
      intro y hy
      cases y with
      | tmp k =>
        refine hget k ?_
        unfold readsOf Oper.looksAt
        exact List.mem_append_left _ (List.mem_filterMap.2 ⟨.tmp k, by simpa using hy, rfl⟩)
      | const _ => rfl
      | global _ => rfl
      | func _ => rfl
    have hguard : guardAV ops.toList s o.guard = guardAV ops.toList sj o.guard := by
      unfold guardAV
      split
      · rfl
      · rename_i j want hg
        split
        · rename_i q' hq'
          split
          · rename_i d hd
            rw [hget d ?_]
            unfold readsOf Oper.looksAt
            rw [nthS_eq] at hq'
            refine List.mem_append_right _ ?_
            rw [hg]
            simp only [Option.mem_toList]
            rw [List.getElem?_toArray, hq']
            exact hd
          · rfl
        · rfl
    have M' : Mo sj s := ⟨by rw [i2, p7], fun k r hr => by
      rw [p8] at hr
      rw [i4, glk_none]
      · exact hr
      · intro i' e' he' hd' hs'
        exfalso
        obtain ⟨_, _, e2, _, _, q3, _, _, _, _, _, _, q10⟩ := hop i' (by have := nth_lt he'; omega)
        rw [he'] at q3; cases q3
        have := (free_o (q10 (by simpa [po] using hs'))).2
        rw [hd', hr] at this; cases this⟩
    have hu : ∀ (i' : Nat) (e' : Ent), es[i']? = some e' → e'.d = e.d → i' = q := fun i' e' he' hd' => huniq i' q e' e he' hes hd'
    have next : ∀ s2 g2 a' w', FR w0 B0 Fin s2 a' w' g2 → s2.h = s.h → s2.n = s.n → (∀ k, lk s2.t k = if e.d = k then some e.v else lk s.t k) → (∀ k, lk s2.o k = if e.d = k ∧ e.r.isSome = true then e.r.map (fun rows => (0, rows)) else lk s.o k) →
        Inv (fun j => if x q = j then true else L j) a' w' := by
      intro s2 g2 a' w' F2 n1 n2 n3 n4
      have hne : ∀ i', i' < X.length → i' ≠ q → (if x q = x i' then true else L (x i')) = L (x i') := fun i' hi' hq' => by
        rw [if_neg]; intro e; exact hq' (hxinj i' q hi' hq e.symm)
      refine ⟨s2, g2, F2, n2.trans i1, n1.trans i2, ?_, ?_⟩
      · intro k
        rw [n3]
        by_cases hk' : e.d = k
        · rw [if_pos hk']
          exact (glk_hit (p := pt) (x := e.v) (L := fun q' => if x q = x q' then true else L (x q')) hes hk' (by simp) rfl (fun i' e' h1 h2 => hu i' e' h1 (h2.trans hk'.symm))).symm
        · rw [if_neg hk', i3]
          refine glk_congr (fun i' e' he' hd' _ => ?_) rfl
          refine (hne i' (by have := nth_lt he'; omega) ?_).symm
          intro hii; subst hii
          rw [hes] at he'; cases he'
          exact hk' hd'
      · intro k
        rw [n4]
        by_cases hk' : e.d = k ∧ e.r.isSome = true
        · rw [if_pos hk']
          obtain ⟨rows, hrows⟩ := Option.isSome_iff_exists.1 hk'.2
          rw [glk_hit (L := fun q' => if x q = x q' then true else L (x q')) (x := (0, rows)) hes hk'.1 (by simp) (by simp [po, hrows]) (fun i' e' h1 h2 => hu i' e' h1 (h2.trans hk'.1.symm))]
          simp [hrows]
        · rw [if_neg hk', i4]
          refine glk_congr (fun i' e' he' hd' hs' => ?_) rfl
          refine (hne i' (by have := nth_lt he'; omega) ?_).symm
          intro hii; subst hii
          rw [hes] at he'; cases he'
          exact hk' ⟨hd', by simpa [po] using hs'⟩
    have hfreeo : e.r.isSome = true → lk s.o e.d = none := by
      intro hr
      rw [i4, glk_none]
      · exact (free_o (p10 hr)).2
      · intro i' e' he' hd' _
        have := hu i' e' he' hd'
        subst this; exact hun
    have hsd : e.d < s.n := by rw [i1]; exact p5
    obtain ⟨b, hg, hb⟩ := p6
    rw [← hguard] at hg
    have hw : Region.wanted o (yielded ops a.tmps) = b := guard_sound F hg
    refine ⟨b, hw, ?_, ?_, ?_⟩
    · rintro rfl
      obtain ⟨hv, hr⟩ := hb
      obtain ⟨s2, hs2⟩ := putT_can (v := e.v) hsd
      obtain ⟨e1, e2, e3, e4, e5⟩ := putT_parts hs2
      refine next s2 g _ _ (by rw [p4]; exact F.put hs2 (by rw [hv]; exact .t _ _ (.sc _))) e1 e3 e5 ?_
      intro k; rw [e2, hr]; simp
    · rintro rfl K' hK'
      simp only at hb
      split at hb
      · rename_i f args hc
        obtain ⟨gg, as, r, hcg, hargs, hms', hr, hp, hq'⟩ := hb
        obtain ⟨tys, hop'⟩ := isCall_is hc
        have hops : ∀ y, y = f ∨ y ∈ args.toList → y ∈ o.op.operands := by
          intro y hy
          rw [hop']
          simp only [Op.operands, Call.operands]
          rcases hy with rfl | hy
          · simp
          · simp; right; simpa using hy
        obtain ⟨_, h2, h3⟩ := argsAV_mo M' (fun y hy => hev y (hops y (.inr hy))) (hev f (hops f (.inl rfl))) hcg hms' hargs
        refine call_sound hΦ hc F h2 hr (by rw [h3]; exact hp) ?_
        intro v w' g' G vs cs _ F' hv hG _
        have hv : VR w' g'.B r v G := by
          rcases hv with ⟨_, hv⟩ | ⟨r0, outs, _, _, e, _⟩
          · exact hv
          · rw [e] at hq'; cases hq'
        obtain ⟨s2, hs2⟩ := putT_can (v := e.v) hsd
        obtain ⟨s3, g3, F3, n1, n2, n3, n4⟩ := qres_sound F' hv hG hq' hfreeo hs2
        rw [p4]
        exact hK' _ _ (next s3 g3 _ _ F3 n1 n2 n3 n4)
      · rcases hb with ⟨hv, _, hr⟩ | ⟨rows, hbq, hv, hr⟩
        case inr =>
          have hfr : s.free e.d = true := by
            have h1 : lk s.o e.d = none := hfreeo (by rw [hr]; rfl)
            have h2 : lk s.h e.d = none := by rw [i2]; exact (free_o (p10 (by rw [hr]; rfl))).1
            unfold St.free; rw [h2, h1]
          obtain ⟨s2, hm2, n1, n2, n3, n4⟩ := build_evalM (buildQ_mo hev hbq) hfr hsd
          rw [← p4] at hm2
          obtain ⟨u, w', g', hrun, F'⟩ := evalM_sound hT F hm2
          have hfin := hK' _ _ (next s2 g' (a.put o.dst u) w' F' n1 n2 (fun k => by rw [n3, hv]) (fun k => by rw [n4, hr]; simp))
          unfold Oper.wp
          rcases hrun with hrun | ⟨hrun, rfl⟩
          · rw [hrun, Oper.upon_value]; exact hfin
          · rw [hrun, Oper.upon_skip]; exact hfin
        obtain ⟨u, hrun, hcr⟩ := evalV_sound hT F (evalV_mo M' hev hv)
        unfold Oper.wp
        rw [hrun, Oper.upon_value]
        obtain ⟨s2, hs2⟩ := putT_can (v := e.v) hsd
        obtain ⟨e1, e2, e3, e4, e5⟩ := putT_parts hs2
        refine hK' _ _ (next s2 g _ _ (by rw [p4]; exact F.put hs2 hcr) e1 e3 e5 ?_)
        intro k; rw [e2, hr]; simp
    · rintro rfl hlate
      unfold late? at hlate
      simp only at hb
      split at hb
      · rename_i f args hc
        rw [hc] at hlate; cases hlate
      · rename_i hc
        rw [hc] at hlate
        rcases hb with ⟨hv, _, hr⟩ | ⟨rows, hbq, hv, hr⟩
        case inr =>
          exfalso
          unfold buildQ at hbq
          split at hbq
          · rename_i ho; rw [ho] at hlate; simp [turns] at hlate
          · cases hbq
        obtain ⟨u, hrun, hcr⟩ := evalV_sound hT F (evalV_mo M' hev hv)
        obtain ⟨s2, hs2⟩ := putT_can (v := e.v) hsd
        obtain ⟨e1, e2, e3, e4, e5⟩ := putT_parts hs2
        refine ⟨u, hrun, next s2 g _ _ (by rw [p4]; exact F.put hs2 hcr) e1 e3 e5 ?_⟩
        intro k; rw [e2, hr]; simp
  -- what is not done yet, done ahead
  have vcomp : ∀ (L : Nat → Bool) (a : Act) (w : World), Inv L a w → (∀ q, q < X.length → L (x q) = false → ∃ o, ops.toList[x q]? = some o ∧ late? o = true) →
      (∀ (j : Nat) (o : Oper) (e : Edge), ops.toList[j]? = some o → L j = true → e ∈ o.after.toList → Region.binds .any e = true → L e.on = true) →
      ∃ av, Inv (fun _ => true) av w ∧ Agree (fun k => ∃ q e, q < X.length ∧ L (x q) = false ∧ es[q]? = some e ∧ e.d = k) a av := by
    intro L a w hinv hlate hcl
    have hreach := reach hmask (L := L) hcl
    have main : ∀ c, c ≤ X.length → ∃ av, Inv (fun j => L j || decide (∃ q, q < c ∧ x q = j)) av w ∧ Agree (fun k => ∃ q e, q < X.length ∧ L (x q) = false ∧ es[q]? = some e ∧ e.d = k) a av := by
      intro c
      induction c with
      | zero => intro _; exact ⟨a, invc L (fun j => L j || decide (∃ q : Nat, q < 0 ∧ x q = j)) a w (fun q _ => by simp) hinv, rfl, rfl, fun _ _ => rfl⟩
      | succ c ih =>
        intro hc
        obtain ⟨av, hI, hA⟩ := ih (by omega)
        have hcl' : c < X.length := by omega
        by_cases hLc : L (x c) = true
        · refine ⟨av, invc (fun j => L j || decide (∃ q, q < c ∧ x q = j)) (fun j => L j || decide (∃ q, q < (c + 1) ∧ x q = j)) av w (fun q hq => ?_) hI, hA⟩
          by_cases hqc : q = c
          · subst hqc; simp [hLc]
          · have e : decide (∃ q', q' < c ∧ x q' = x q) = decide (∃ q', q' < c + 1 ∧ x q' = x q) := by
              rw [decide_eq_decide]
              constructor
              · rintro ⟨q', h1, h2⟩; exact ⟨q', by omega, h2⟩
              · rintro ⟨q', h1, h2⟩
                have := hxinj q' q (by omega) hq h2
                exact ⟨q', by omega, h2⟩
            rw [e]
        · have hLc : L (x c) = false := by simpa using hLc
          obtain ⟨op, sj, e, p1, p2, p3, p4, p5, p6, p7, p8, p9, p10⟩ := hop c hcl'
          obtain ⟨o', ho', hlo⟩ := hlate c hcl' hLc
          rw [p2] at ho'; cases ho'
          have hun : (L (x c) || decide (∃ q', q' < c ∧ x q' = x c)) = false := by
            rw [hLc, Bool.false_or, decide_eq_false_iff_not]
            rintro ⟨q', h1, h2⟩
            have := hxinj q' c (by omega) hcl' h2
            omega
          obtain ⟨b, hb, hf, _, ht⟩ := estep (fun j => L j || decide (∃ q, q < c ∧ x q = j)) av w c op e hcl' p2 p3 hun (fun q' e' he' hne hrd => by
            have hq' : q' < X.length := by have := nth_lt he'; omega
            obtain ⟨op', _, e2, q1, q2, q3, q4, _⟩ := hop q' hq'
            rw [he'] at q3; cases q3
            rcases Nat.lt_trichotomy q' c with hlt | heq | hgt
            · have : decide (∃ q'', q'' < c ∧ x q'' = x q') = true := by simp; exact ⟨q', hlt, rfl⟩
              rw [this]; simp [hlt]
            · exact absurd heq hne
            · have hp := pair_spec (hXX _ (hxX q' hq') _ (hxX c hcl') (hxlt c q' hgt hq')) p2 q2 p4 q4
              have hd : decide (∃ q'', q'' < c ∧ x q'' = x q') = false := by
                rw [decide_eq_false_iff_not]
                rintro ⟨q'', h1, h2⟩
                have := hxinj q'' q' (by omega) hq' h2
                omega
              rw [hd]
              have : L (x q') = false := by
                cases hx : L (x q') with
                | false => rfl
                | true =>
                  rcases hp.2 with h1 | h1
                  · have := hreach (x q') op' q2 (fun e3 h3 h4 => hcl (x q') op' e3 q2 hx h3 h4) (x c) (by have := hXm _ (hxX c hcl'); simp; omega) h1
                    rw [hLc] at this; cases this
                  · exact absurd hrd h1.1
              rw [this]; simp; omega) hI
          have fin : ∀ u, Inv (fun j => if x c = j then true else (L j || decide (∃ q, q < c ∧ x q = j))) (av.put op.dst u) w → ∃ av, Inv (fun j => L j || decide (∃ q, q < c + 1 ∧ x q = j)) av w ∧ Agree (fun k => ∃ q e, q < X.length ∧ L (x q) = false ∧ es[q]? = some e ∧ e.d = k) a av := by
            intro u hI'
            refine ⟨_, invc (fun j => if x c = j then true else (L j || decide (∃ q, q < c ∧ x q = j))) (fun j => L j || decide (∃ q, q < (c + 1) ∧ x q = j)) _ w (fun q hq => ?_) hI', ?_, ?_, ?_⟩
            · by_cases hqc : x c = x q
              · rw [if_pos hqc]
                have : decide (∃ q', q' < c + 1 ∧ x q' = x q) = true := by simp; exact ⟨c, by omega, hqc⟩
                rw [this]; simp
              · rw [if_neg hqc]
                have e : decide (∃ q', q' < c ∧ x q' = x q) = decide (∃ q', q' < c + 1 ∧ x q' = x q) := by
                  rw [decide_eq_decide]
                  constructor
                  · rintro ⟨q', h1, h2⟩; exact ⟨q', by omega, h2⟩
                  · rintro ⟨q', h1, h2⟩
                    refine ⟨q', ?_, h2⟩
                    rcases Nat.lt_or_ge q' c with h3 | h3
                    · exact h3
                    · have : q' = c := by omega
                      subst this; exact absurd h2 hqc
                rw [e]
            · rw [p4]; simp [Act.put, hA.size]
            · rw [p4]; simp [Act.put, hA.df]
            · intro k hk'
              rw [p4]
              simp only [Act.put, Array.getElem?_setIfInBounds]
              rw [if_neg]
              · exact hA.at_ k hk'
              · intro hek
                exact hk' ⟨c, e, hcl', hLc, p3, hek⟩
          cases b with
          | false => exact fin undef (hf rfl)
          | true => obtain ⟨u, _, hI'⟩ := ht rfl hlo; exact fin u hI'
    obtain ⟨av, hI, hA⟩ := main X.length (Nat.le_refl _)
    refine ⟨av, invc (fun j => L j || decide (∃ q, q < X.length ∧ x q = j)) (fun _ => true) av w (fun q hq => ?_) hI, hA⟩
    have : decide (∃ q', q' < X.length ∧ x q' = x q) = true := by simp; exact ⟨q, hq, rfl⟩
    rw [this]; simp
  let Un : (Nat → Bool) → Nat → Prop := fun L k => ∃ q e, q < X.length ∧ L (x q) = false ∧ es[q]? = some e ∧ e.d = k
  have hdst : X.Pairwise (fun j k => ∀ o o' d, ops.toList[j]? = some o → ops.toList[k]? = some o' → o.dst = some d → o'.dst ≠ some d) := by
    rw [List.pairwise_iff_getElem]
    intro i j hi hj hij o o' d ho ho' hd hd'
    have hi' : X[i] = x i := by simp [x, hi]
    have hj' : X[j] = x j := by simp [x, hj]
    rw [hi'] at ho; rw [hj'] at ho'
    exact (pair_spec (hXX _ (hxX j hj) _ (hxX i hi) (hxlt i j hij hj)) ho ho' hd hd').1 rfl
  have hset : ∀ (listed : Array Bool) (i : Nat), i < listed.size → ∀ q, (listed.setIfInBounds i true).getD q false = if i = q then true else listed.getD q false := fun listed i hi q => getD_set hi
  -- one of the others
  have mstep : ∀ (fuel : Nat) (listed : Array Bool) (a : Act) (w : World) (i : Nat) (o : Oper) (r : List Nat) (s : St) (av : Act), listed.size = ops.size →
      (∀ (j : Nat) (o : Oper) (e : Edge), ops.toList[j]? = some o → listed.getD j false = true → e ∈ o.after.toList → Region.binds .any e = true → listed.getD e.on false = true) →
      i ∈ M → ops[i]? = some o → (∀ e ∈ o.after.toList, Region.binds .any e = true → listed.getD e.on false = true) →
      FE w0 B0 Fin s av w → Agree (Un fun j => listed.getD j false) a av → stepM Φ E ops.toList ms X i s (fun s' => ∃ n, wpM Φ E ops.toList ms X n r s' KL) →
      (∀ s' av' a' w', FE w0 B0 Fin s' av' w' → Agree (Un fun j => listed.getD j false) a' av' → (∃ n, wpM Φ E ops.toList ms X n r s' KL) → (∀ q, q < X.length → listed.getD (x q) false = false → rep1 E.tab ops.toList s' (x q)) →
        wpAny P .any ops Q fuel (listed.setIfInBounds i true) a' w') →
      Go.wpOp P ops Q i (wpAny P .any ops Q fuel (listed.setIfInBounds i true)) a w := by
    intro fuel listed a w i o r s av hs hcl hiM ho haft hF hA hw hcont
    have hol : ops.toList[i]? = some o := by simpa using ho
    have him := hMm i hiM
    have hreach := reach hmask (L := fun q => listed.getD q false) hcl
    have hlatei : ∀ q e, q < X.length → listed.getD (x q) false = false → es[q]? = some e → o.dst ≠ some e.d ∧ e.d ∉ readsOf ops.toList o ∧ rch ms i (x q) = false := by
      intro q e hq hun he
      obtain ⟨op, sj, e2, p1, p2, p3, p4, _⟩ := hop q hq
      rw [he] at p3; cases p3
      have h1 := (hXM _ (hxX q hq) i hiM).1
      have hnr : rch ms i (x q) = false := by
        cases hx : rch ms i (x q) with
        | false => rfl
        | true =>
          have := hreach i o hol haft (x q) (by have := hXm _ (hxX q hq); simp; omega) hx
          rw [hun] at this; cases this
      unfold okLate at h1
      simp only [p2, hol, p4, hnr, Bool.false_or, Bool.and_eq_true, Bool.not_eq_true', decide_eq_false_iff_not] at h1
      refine ⟨fun hd => h1.1.2 hd, ?_, hnr⟩
      have := h1.2.1
      simpa using this
    have hreads : ∀ k ∈ readsOf ops.toList o, ¬ Un (fun j => listed.getD j false) k := by
      rintro k hk' ⟨q, e, hq, hun, he, rfl⟩
      exact (hlatei q e hq hun he).2.1 hk'
    have hns : ∀ cs b, o.op ≠ .select cs b := by
      intro cs b e
      have := hnd o (List.mem_of_getElem? hol)
      unfold noDefer at this
      rw [e] at this; cases this
    obtain ⟨o2, ho2, b, hg, hw⟩ := hw
    rw [nthS_eq, hol] at ho2; cases ho2
    obtain ⟨g, F⟩ := hF
    have hwav : Region.wanted o (yielded ops av.tmps) = b := guard_sound F hg
    have hwa : Region.wanted o (yielded ops a.tmps) = b := by rw [hA.wanted hreads]; exact hwav
    have hrep : ∀ s', repL E.tab ops.toList ms i s' X s'.t = some s'.t → ∀ q, q < X.length → listed.getD (x q) false = false → rep1 E.tab ops.toList s' (x q) := by
      intro s' hr q hq hun
      obtain ⟨op, sj, e2, p1, p2, p3, p4, _⟩ := hop q hq
      exact (repL_spec hr hdst).2 _ (hxX q hq) (hlatei q e2 hq hun p3).2.2
    unfold Go.wpOp
    rw [ho]
    simp only [hwa]
    cases b with
    | false =>
      simp only [Bool.false_eq_true, if_false]
      obtain ⟨s', hp, hr, hw⟩ := hw
      exact hcont s' _ _ _ ⟨g, F.put hp (.t _ _ (.sc _))⟩ (hA.put _ _) hw (hrep s' hr)
    | true =>
      simp only [if_true]
      refine .inl (wp_agree (K' := fun a' w' => ∃ s', FE w0 B0 Fin s' a' w' ∧ repL E.tab ops.toList ms i s' X s'.t = some s'.t ∧ (∃ n, wpM Φ E ops.toList ms X n r s' KL)) (hA.exec hns hreads) ?_ hQ ?_ (op_sound hT hΦ ⟨g, F⟩ hw fun s' a' w' h' F' => ⟨s', F', h'.1, h'.2⟩))
      · rintro a' w' ⟨s', ⟨g', F'⟩, _⟩; exact F'.df
      · rintro v w' ⟨s', F', hr, hw⟩
        exact hcont s' _ _ _ F' (hA.put _ _) hw (hrep s' hr)
  have least : ∀ (p : Nat → Prop), (∃ n, p n) → ∃ n, p n ∧ ∀ k, k < n → ¬ p k := by
    intro p ⟨n, hn⟩
    induction n using Nat.strongRecOn with
    | _ n ihn =>
      by_cases hk : ∃ k, k < n ∧ p k
      · obtain ⟨k, hkn, hk⟩ := hk; exact ihn k hkn hk
      · exact ⟨n, hn, fun k hk' hp => hk ⟨k, hk', hp⟩⟩
  have tailfin : ∀ (fuel : Nat) (listed : Array Bool) (s : St) (a : Act) (w : World), listed.size = ops.size → fuel = listed.toList.count false → (∀ i, m ≤ i → i < ops.size → listed.getD i false = false) → (∀ i, i < m → listed.getD i false = true) → FE w0 B0 Fin s a w →
      Ev.wpOps Φ E ops.toList (ops.toList.drop m) s K → wpAny P .any ops Q fuel listed a w := by
    intro fuel listed s a w hs hf hlow hall F hw
    have hl : ∀ i, i < ops.size → listed.getD i false = decide (i < m) := by
      intro i hi
      by_cases him : i < m
      · rw [hall i him]; simp [him]
      · rw [hlow i (by omega) hi]; simp [him]
    have hlist : listed.toList = List.replicate m true ++ List.replicate (ops.size - m) false := by
      apply List.ext_getElem
      · simp; omega
      · intro i h1 h2
        have hi : i < ops.size := by simpa [hs] using h1
        have h3 := hl i hi
        rw [Array.getD_eq_getD_getElem?, Array.getElem?_eq_getElem (by omega)] at h3
        simp only [Option.getD_some] at h3
        rw [Array.getElem_toList, h3, List.getElem_append]
        by_cases him : i < m <;> simp [him]
    have hfu : fuel = ops.size - m := by
      rw [hf, hlist, List.count_append, List.count_replicate, List.count_replicate]; simp
    exact tail_sound hT hΦ hk hmask htail fuel m listed s a w hs hl hmn (Nat.le_refl _) hfu F hw
  have all0 : ∀ (listed : Array Bool), listed.size = ops.size → listed.toList.count false = 0 → ∀ i, i < m → listed.getD i false = true := by
    intro listed hs hf i hi
    have h0 := List.count_eq_zero.1 hf
    have hlt : i < listed.size := by omega
    rw [Array.getD_eq_getD_getElem?, Array.getElem?_eq_getElem hlt, Option.getD_some]
    cases hx : listed[i] with
    | true => rfl
    | false => exact absurd (by rw [← hx]; simp) h0
  have nonempty : ∀ (listed : Array Bool), listed.size = ops.size → ¬ (∀ i, i < m → listed.getD i false = true) → Region.ready .any ops listed ≠ [] := by
    intro listed hs hall hn
    have hex : ∃ q, q < m ∧ listed.getD q false = false := by
      apply Classical.byContradiction
      intro hno
      apply hall
      intro i hi
      cases hx : listed.getD i false with
      | true => rfl
      | false => exact absurd ⟨i, hi, hx⟩ hno
    obtain ⟨q, ⟨hq1, hq2⟩, hq3⟩ := least _ hex
    have hqr : q ∈ Region.ready .any ops listed := by
      have hql : ops.toList[q]? = some ops[q] := by simp
      refine (ready_mem hs).2 ⟨ops[q], by simp, hq2, fun e he hb => ?_⟩
      have hlt := (mask_spec hmask hql).1 e he hb
      cases hx : listed.getD e.on false with
      | true => rfl
      | false => exact absurd ⟨by omega, hx⟩ (hq3 e.on hlt)
    rw [hn] at hqr; simp at hqr
  have keep : ∀ (fuel : Nat) (listed : Array Bool) (i : Nat) (o : Oper), listed.size = ops.size → fuel + 1 = listed.toList.count false → (∀ j, m ≤ j → j < ops.size → listed.getD j false = false) →
      (∀ (j : Nat) (o : Oper) (e : Edge), ops.toList[j]? = some o → listed.getD j false = true → e ∈ o.after.toList → Region.binds .any e = true → listed.getD e.on false = true) →
      i < m → ops.toList[i]? = some o → listed.getD i false = false → (∀ e ∈ o.after.toList, Region.binds .any e = true → listed.getD e.on false = true) →
      (listed.setIfInBounds i true).size = ops.size ∧ fuel = (listed.setIfInBounds i true).toList.count false ∧ (∀ j, m ≤ j → j < ops.size → (listed.setIfInBounds i true).getD j false = false) ∧
      (∀ (j : Nat) (o : Oper) (e : Edge), ops.toList[j]? = some o → (listed.setIfInBounds i true).getD j false = true → e ∈ o.after.toList → Region.binds .any e = true → (listed.setIfInBounds i true).getD e.on false = true) := by
    intro fuel listed i o hs hf hlow hcl him hol hun haft
    have hil : i < listed.size := by omega
    refine ⟨by simpa using hs, ?_, ?_, ?_⟩
    · rw [Array.toList_setIfInBounds, List.count_set (by simp; omega)]
      have hx : listed.toList[i]'(by simp; omega) = false := by
        rw [Array.getD_eq_getD_getElem?, Array.getElem?_eq_getElem (by omega), Option.getD_some] at hun
        rw [Array.getElem_toList]; exact hun
      rw [hx, ← hf]; simp
    · intro j hj1 hj2
      rw [hset listed i hil, if_neg (by omega)]; exact hlow j hj1 hj2
    · intro j o' e' hj hL he hb
      rw [hset listed i hil] at hL ⊢
      split
      · rfl
      split at hL
      · rename_i hij; subst hij
        rw [hol] at hj; cases hj
        exact haft e' he hb
      · exact hcl j o' e' hj hL he hb
  have head : ∀ (listed : Array Bool) (i : Nat) (o : Oper) (Mr : List Nat), (∀ (j : Nat) (o : Oper) (e : Edge), ops.toList[j]? = some o → listed.getD j false = true → e ∈ o.after.toList → Region.binds .any e = true → listed.getD e.on false = true) →
      (∀ i ∈ Mr, i ∈ M ∧ listed.getD i false = false) → ops.toList[i]? = some o → (∀ e ∈ o.after.toList, Region.binds .any e = true → listed.getD e.on false = true) → rdyM ms i Mr = true := by
    intro listed i o Mr hcl hMr hol haft
    refine rdyM_of fun j hj => ?_
    obtain ⟨h1, h2⟩ := hMr j hj
    cases hx : rch ms i j with
    | false => rfl
    | true =>
      have := reach hmask (L := fun q => listed.getD q false) hcl i o hol haft j (by have := hMm j h1; simp; omega) hx
      rw [h2] at this; cases this
  have lmain : ∀ (fuel : Nat) (listed : Array Bool) (a : Act) (w : World) (Mr : List Nat) (s : St) (av : Act), listed.size = ops.size → fuel = listed.toList.count false → (∀ i, m ≤ i → i < ops.size → listed.getD i false = false) →
      (∀ (j : Nat) (o : Oper) (e : Edge), ops.toList[j]? = some o → listed.getD j false = true → e ∈ o.after.toList → Region.binds .any e = true → listed.getD e.on false = true) →
      (∀ i ∈ M, i ∈ Mr ∨ listed.getD i false = true) → (∀ i ∈ Mr, i ∈ M ∧ listed.getD i false = false) →
      FE w0 B0 Fin s av w → Agree (Un fun j => listed.getD j false) a av → (∃ n, wpM Φ E ops.toList ms X n Mr s KL) → (∀ q, q < X.length → listed.getD (x q) false = false → rep1 E.tab ops.toList s (x q)) →
      wpAny P .any ops Q fuel listed a w := by
    intro fuel
    have fin : ∀ (fuel : Nat) (listed : Array Bool) (a : Act) (w : World) (Mr : List Nat) (s : St) (av : Act), listed.size = ops.size → fuel = listed.toList.count false → (∀ i, m ≤ i → i < ops.size → listed.getD i false = false) → (∀ i, i < m → listed.getD i false = true) →
        (∀ i ∈ Mr, i ∈ M ∧ listed.getD i false = false) → FE w0 B0 Fin s av w → Agree (Un fun j => listed.getD j false) a av → (∃ n, wpM Φ E ops.toList ms X n Mr s KL) → wpAny P .any ops Q fuel listed a w := by
      intro fuel listed a w Mr s av hs hf hlow hall hMr hF hA hw
      have hM0 : Mr = [] := by
        apply List.eq_nil_iff_forall_not_mem.2
        intro i hi
        obtain ⟨h1, h2⟩ := hMr i hi
        rw [hall i (hMm i h1)] at h2; cases h2
      subst hM0
      obtain ⟨nn, hw⟩ := hw
      have hw := wpM_nil hw
      have hav : av = a := by
        obtain ⟨t1, d1⟩ := av
        obtain ⟨t2, d2⟩ := a
        have e1 : t1 = t2 := by
          apply Array.ext_getElem?
          intro k
          refine hA.at_ k ?_
          rintro ⟨q, e, hq, hun, _⟩
          have := hall _ (hXm _ (hxX q hq))
          simp only at hun
          rw [hun] at this; cases this
        have e2 : d1 = d2 := hA.df
        rw [e1, e2]
      subst hav
      obtain ⟨s2, F2, hw2⟩ := hkl _ _ _ hw hF
      exact tailfin fuel listed s2 av w hs hf hlow hall F2 hw2
    induction fuel with
    | zero =>
      intro listed a w Mr s av hs hf hlow hcl hM1 hM2 hF hA hw hrp
      exact fin _ _ _ _ _ _ _ hs hf hlow (all0 listed hs hf.symm) hM2 hF hA hw
    | succ fuel ih =>
      intro listed a w Mr s av hs hf hlow hcl hM1 hM2 hF hA hw hrp
      by_cases hall : ∀ i, i < m → listed.getD i false = true
      · exact fin _ _ _ _ _ _ _ hs hf hlow hall hM2 hF hA hw
      refine ⟨fun hn => absurd hn (nonempty listed hs hall), fun i hi => ?_⟩
      obtain ⟨o, ho, hun, haft⟩ := (ready_mem hs).1 hi
      have hin : i < ops.size := (Array.getElem?_eq_some_iff.1 ho).1
      have hol : ops.toList[i]? = some o := by simpa using ho
      have hreach := reach hmask (L := fun q => listed.getD q false) hcl
      have him : i < m := by
        rcases Nat.lt_or_ge i m with h1 | h1
        · exact h1
        · exfalso
          apply hall
          intro j hj
          exact hreach i o hol haft j (by simp; omega) (htail i hin h1 j (by omega))
      obtain ⟨k1, k2, k3, k4⟩ := keep fuel listed i o hs hf hlow hcl him hol hun haft
      have hil : i < listed.size := by omega
      rcases hcov i him with hiX | hiM
      · obtain ⟨q, hq, hqi⟩ := hXx i hiX
        subst hqi
        obtain ⟨op, sj, e, p1, p2, p3, p4, p5, _⟩ := hop q hq
        rw [hol] at p2; cases p2
        have hreads : ∀ k ∈ readsOf ops.toList o, ¬ Un (fun j => listed.getD j false) k := by
          rintro k hk' ⟨q', e', hq', hun', he', rfl⟩
          obtain ⟨op', _, e2, r1, r2, r3, r4, _⟩ := hop q' hq'
          rw [he'] at r3; cases r3
          rcases Nat.lt_or_ge q' q with hlt | hge
          · rcases (pair_spec (hXX _ (hxX q hq) _ (hxX q' hq') (hxlt q' q hlt hq)) r2 hol r4 p4).2 with h1 | h1
            · have := hreach (x q) o hol haft (x q') (by have := hXm _ (hxX q' hq'); simp; omega) h1
              simp only at hun'
              rw [hun'] at this; cases this
            · exact h1.2 hk'
          · have hle : x q ≤ x q' := by
              rcases Nat.eq_or_lt_of_le hge with h1 | h1
              · subst h1; exact Nat.le_refl _
              · exact Nat.le_of_lt (hxlt q q' h1 hq')
            have h1 := hRR _ (hxX q' hq') _ (hxX q hq) hle
            unfold okRead at h1
            simp only [hol, r2, r4, Bool.not_eq_true'] at h1
            have : e'.d ∉ readsOf ops.toList o := by simpa using h1
            exact this hk'
        have hns : ∀ cs b, o.op ≠ .select cs b := by
          intro cs b e
          have := hnd o (List.mem_of_getElem? hol)
          unfold noDefer at this
          rw [e] at this; cases this
        obtain ⟨o2, d, b, r1, r2, r3, r4⟩ := hrp q hq hun
        rw [hol] at r1; cases r1
        have hde : d = e.d := by rw [p4] at r2; cases r2; rfl
        obtain ⟨g, F⟩ := hF
        have hwa : Region.wanted o (yielded ops a.tmps) = b := by rw [hA.wanted hreads]; exact guard_sound F r3
        have fin2 : ∀ (v : AV) (u : Value), lk s.t d = some v → CR w g s.h s.o v u → wpAny P .any ops Q fuel (listed.setIfInBounds (x q) true) (a.put o.dst u) w := by
          intro v u hlk hcr
          have hdn : d < s.n := by
            obtain ⟨z, hz, _⟩ := F.tm d v hlk
            have := (Array.getElem?_eq_some_iff.1 hz).1
            rw [F.n] at this; exact this
          obtain ⟨s2, hs2⟩ := putT_can (s := s) (v := v) hdn
          obtain ⟨e1, e2, e3, e4, e5⟩ := putT_parts hs2
          have F2 : FR w0 B0 Fin s (av.put (some d) u) w g := (F.put hs2 hcr).congr (fun k y hk' => by
            rw [e5]
            by_cases hdk : d = k
            · subst hdk; rw [hlk] at hk'; cases hk'; simp
            · rw [if_neg hdk]; exact hk') (fun k => by rw [e1]) (fun k => by rw [e2]) e3.symm
          rw [r2]
          refine ih _ _ _ Mr s (av.put (some d) u) k1 k2 k3 k4 ?_ ?_ ⟨g, F2⟩ (hA.put1 d u ?_) hw ?_
          · intro j hj
            rcases hM1 j hj with h1 | h1
            · exact .inl h1
            · right; rw [hset listed _ hil]; split <;> first | rfl | exact h1
          · intro j hj
            obtain ⟨h1, h2⟩ := hM2 j hj
            refine ⟨h1, ?_⟩
            rw [hset listed _ hil, if_neg]; exact h2
            intro hej; exact hdis j (by rw [← hej]; exact hxX q hq) h1
          · intro k hk'
            by_cases hUk : Un (fun j => listed.getD j false) k
            · obtain ⟨q', e', hq', hun', he', hke⟩ := hUk
              by_cases hqq : q' = q
              · subst hqq; rw [p3] at he'; cases he'; right; rw [← hke, hde]
              · exfalso
                refine hk' ⟨q', e', hq', ?_, he', hke⟩
                show (listed.setIfInBounds (x q) true).getD (x q') false = false
                rw [hset listed _ hil, if_neg]; exact hun'
                intro hxx; exact hqq (hxinj q' q hq' hq hxx.symm)
            · exact .inl hUk
          · intro q' hq' hun'
            refine hrp q' hq' ?_
            rw [hset listed _ hil] at hun'
            split at hun'
            · cases hun'
            · exact hun'
        unfold Go.wpOp
        rw [ho]
        simp only [hwa]
        cases b with
        | false =>
          simp only [Bool.false_eq_true, if_false]
          exact fin2 _ undef r4 (.t _ _ (.sc _))
        | true =>
          simp only [if_true]
          obtain ⟨v, hv, hlk⟩ := r4
          obtain ⟨u, hrun, hcr⟩ := evalV_sound hT F hv
          refine .inl ?_
          unfold Oper.wp
          rw [hA.exec hns hreads, hrun, Oper.upon_value]
          exact fin2 v u hlk hcr
      · have hiMr : i ∈ Mr := by
          rcases hM1 i hiM with h1 | h1
          · exact h1
          · rw [hun] at h1; cases h1
        have hrdy := head listed i o Mr hcl hM2 hol haft
        obtain ⟨nn, hw⟩ := hw
        have hst := wpM_step hw hiMr hrdy
        refine mstep fuel listed a w i o (remN i Mr) s av hs hcl hiM ho haft hF hA hst ?_
        intro s' av' a' w' F' hA' hw' hrp'
        refine ih _ a' w' (remN i Mr) s' av' k1 k2 k3 k4 ?_ ?_ F' ?_ hw' ?_
        · intro j hj
          rw [hset listed _ hil]
          by_cases hij : i = j
          · right; rw [if_pos hij]
          · rw [if_neg hij]
            rcases hM1 j hj with h1 | h1
            · exact .inl (mem_remN.2 ⟨h1, fun e => hij e.symm⟩)
            · exact .inr h1
        · intro j hj
          obtain ⟨hj1, hj2⟩ := mem_remN.1 hj
          obtain ⟨h1, h2⟩ := hM2 j hj1
          refine ⟨h1, ?_⟩
          rw [hset listed _ hil, if_neg]; exact h2
          intro hij; exact hj2 hij.symm
        · refine ⟨hA'.size, hA'.df, fun k hk' => hA'.at_ k fun hu => hk' ?_⟩
          obtain ⟨q, e, hq, hun', he, hke⟩ := hu
          refine ⟨q, e, hq, ?_, he, hke⟩
          show (listed.setIfInBounds i true).getD (x q) false = false
          rw [hset listed _ hil, if_neg]; exact hun'
          intro hix; exact hdis i (by rw [hix]; exact hxX q hq) hiM
        · intro q hq hun'
          refine hrp' q hq ?_
          rw [hset listed _ hil] at hun'
          split at hun'
          · cases hun'
          · exact hun'
  have toF : ∀ (L : Nat → Bool) (a : Act) (w : World), (∀ q, q < X.length → L (x q) = true) → Inv L a w → FE w0 B0 Fin sF a w := by
    rintro L a w hL ⟨s, g, F, i1, i2, i3, i4⟩
    have hgl : ∀ {α : Type} (p : Ent → Option α) base k, glk p (fun q => L (x q)) base es k = glk p (fun _ => true) base es k := by
      intro α p base k
      refine glk_congr (fun i e he _ _ => ?_) rfl
      exact hL i (by have := nth_lt he; omega)
    exact ⟨g, F.congr (fun k y hy => by rw [hFt] at hy; rw [i3, hgl]; exact hy) (fun k => by rw [hFh, i2]) (fun k => by rw [hFo, i4, hgl]; simp) (by rw [hFn, i1])⟩
  have main : ∀ (fuel : Nat) (listed : Array Bool) (a : Act) (w : World), listed.size = ops.size → fuel = listed.toList.count false → (∀ i, m ≤ i → i < ops.size → listed.getD i false = false) →
      (∀ (j : Nat) (o : Oper) (e : Edge), ops.toList[j]? = some o → listed.getD j false = true → e ∈ o.after.toList → Region.binds .any e = true → listed.getD e.on false = true) →
      (∀ i ∈ M, listed.getD i false = false) → Inv (fun j => listed.getD j false) a w → wpAny P .any ops Q fuel listed a w := by
    have fin : ∀ (fuel : Nat) (listed : Array Bool) (a : Act) (w : World), listed.size = ops.size → fuel = listed.toList.count false → (∀ i, m ≤ i → i < ops.size → listed.getD i false = false) → (∀ i, i < m → listed.getD i false = true) →
        (∀ i ∈ M, listed.getD i false = false) → Inv (fun j => listed.getD j false) a w → wpAny P .any ops Q fuel listed a w := by
      intro fuel listed a w hs hf hlow hall hMl hinv
      have hM0 : M = [] := by
        apply List.eq_nil_iff_forall_not_mem.2
        intro i hi
        have := hMl i hi
        rw [hall i (hMm i hi)] at this; cases this
      obtain ⟨nn, hK'⟩ := hK
      rw [hM0] at hK'
      have hK' := wpM_nil hK'
      obtain ⟨s2, F2, hw2⟩ := hkl _ _ _ hK' (toF (fun j => listed.getD j false) a w (fun q hq => hall _ (hXm _ (hxX q hq))) hinv)
      exact tailfin fuel listed s2 a w hs hf hlow hall F2 hw2
    intro fuel
    induction fuel with
    | zero => intro listed a w hs hf hlow hcl hMl hinv; exact fin _ _ _ _ hs hf hlow (all0 listed hs hf.symm) hMl hinv
    | succ fuel ih =>
      intro listed a w hs hf hlow hcl hMl hinv
      by_cases hall : ∀ i, i < m → listed.getD i false = true
      · exact fin _ _ _ _ hs hf hlow hall hMl hinv
      refine ⟨fun hn => absurd hn (nonempty listed hs hall), fun i hi => ?_⟩
      obtain ⟨o, ho, hun, haft⟩ := (ready_mem hs).1 hi
      have hin : i < ops.size := (Array.getElem?_eq_some_iff.1 ho).1
      have hol : ops.toList[i]? = some o := by simpa using ho
      have hreach := reach hmask (L := fun q => listed.getD q false) hcl
      have him : i < m := by
        rcases Nat.lt_or_ge i m with h1 | h1
        · exact h1
        · exfalso
          apply hall
          intro j hj
          exact hreach i o hol haft j (by simp; omega) (htail i hin h1 j (by omega))
      obtain ⟨k1, k2, k3, k4⟩ := keep fuel listed i o hs hf hlow hcl him hol hun haft
      have hil : i < listed.size := by omega
      rcases hcov i him with hiX | hiM
      · obtain ⟨q, hq, hqi⟩ := hXx i hiX
        subst hqi
        obtain ⟨op, sj, e, p1, p2, p3, p4, p5, _⟩ := hop q hq
        rw [hol] at p2; cases p2
        have hrd : ∀ q' e', es[q']? = some e' → q' ≠ q → e'.d ∈ readsOf ops.toList o → listed.getD (x q') false = decide (q' < q) := by
          intro q' e' he' hne hr
          have hq' : q' < X.length := by have := nth_lt he'; omega
          obtain ⟨op', _, e2, r1, r2, r3, r4, _⟩ := hop q' hq'
          rw [he'] at r3; cases r3
          rcases Nat.lt_trichotomy q' q with hlt | heq | hgt
          · rcases (pair_spec (hXX _ (hxX q hq) _ (hxX q' hq') (hxlt q' q hlt hq)) r2 hol r4 p4).2 with h1 | h1
            · have := hreach (x q) o hol haft (x q') (by have := hXm _ (hxX q' hq'); simp; omega) h1
              rw [this]; simp [hlt]
            · exact absurd hr h1.2
          · exact absurd heq hne
          · rcases (pair_spec (hXX _ (hxX q' hq') _ (hxX q hq) (hxlt q q' hgt hq')) hol r2 p4 r4).2 with h1 | h1
            · cases hx : listed.getD (x q') false with
              | false => simp; omega
              | true =>
                have := hreach (x q') op' r2 (fun e3 h3 h4 => hcl (x q') op' e3 r2 hx h3 h4) (x q) (by simp; omega) h1
                rw [hun] at this; cases this
            · exact absurd hr h1.1
        obtain ⟨b, hw, hf1, hf2, _⟩ := estep (fun j => listed.getD j false) a w q o e hq hol p3 hun hrd hinv
        have next : ∀ a' w', Inv (fun j => if x q = j then true else listed.getD j false) a' w' → wpAny P .any ops Q fuel (listed.setIfInBounds (x q) true) a' w' := by
          intro a' w' hI
          refine ih _ a' w' k1 k2 k3 k4 ?_ (invc (fun j => if x q = j then true else listed.getD j false) (fun j => (listed.setIfInBounds (x q) true).getD j false) a' w' (fun q' _ => (hset listed _ hil _).symm) hI)
          intro j hj
          rw [hset listed _ hil, if_neg]; exact hMl j hj
          intro hej; exact hdis j (by rw [← hej]; exact hxX q hq) hj
        unfold Go.wpOp
        rw [ho]
        simp only [hw]
        cases b with
        | false =>
          simp only [Bool.false_eq_true, if_false]
          exact next _ _ (hf1 rfl)
        | true =>
          simp only [if_true]
          exact .inl (hf2 rfl _ next)
      · obtain ⟨av, hIv, hAv⟩ := vcomp (fun j => listed.getD j false) a w hinv (fun q hq hunq => by
          rcases (hXM _ (hxX q hq) i hiM).2 with h1 | h1
          · exact h1
          · have := hreach i o hol haft (x q) (by have := hXm _ (hxX q hq); simp; omega) h1
            rw [hunq] at this; cases this) hcl
        have hFF := toF (fun _ => true) av w (fun _ _ => rfl) hIv
        have hrdy := head listed i o M hcl (fun j hj => ⟨hj, hMl j hj⟩) hol haft
        obtain ⟨nn, hK'⟩ := hK
        have hst := wpM_step hK' hiM hrdy
        refine mstep fuel listed a w i o (remN i M) sF av hs hcl hiM ho haft hFF hAv hst ?_
        intro s' av' a' w' F' hA' hw' hrp'
        refine lmain _ _ a' w' (remN i M) s' av' k1 k2 k3 k4 ?_ ?_ F' ?_ hw' ?_
        · intro j hj
          rw [hset listed _ hil]
          by_cases hij : i = j
          · right; rw [if_pos hij]
          · exact .inl (mem_remN.2 ⟨hj, fun e => hij e.symm⟩)
        · intro j hj
          obtain ⟨hjM, hj2⟩ := mem_remN.1 hj
          refine ⟨hjM, ?_⟩
          rw [hset listed _ hil, if_neg]; exact hMl j hjM
          intro hij; exact hj2 hij.symm
        · refine ⟨hA'.size, hA'.df, fun k hk' => hA'.at_ k fun hu => hk' ?_⟩
          obtain ⟨q, e, hq, hun', he, hke⟩ := hu
          refine ⟨q, e, hq, ?_, he, hke⟩
          show (listed.setIfInBounds i true).getD (x q) false = false
          rw [hset listed _ hil, if_neg]; exact hun'
          intro hix; exact hdis i (by rw [hix]; exact hxX q hq) hiM
        · intro q hq hun'
          refine hrp' q hq ?_
          rw [hset listed _ hil] at hun'
          split at hun'
          · cases hun'
          · exact hun'
  obtain ⟨g0, F0⟩ := F0
  have hrep : ∀ q, (Array.replicate ops.size false).getD q false = false := by
    intro q
    rw [Array.getD_eq_getD_getElem?, Array.getElem?_replicate]
    split <;> rfl
  refine main _ _ _ _ (by simp) ?_ (fun i _ _ => hrep i) (fun j o e hj hL => by rw [hrep] at hL; cases hL) (fun i _ => hrep i) ⟨s0, g0, F0, rfl, rfl, ?_, ?_⟩
  · simp
  · intro k; rw [glk_none]; intro i e _ _ _; exact hrep _
  · intro k; rw [glk_none]; intro i e _ _ _; exact hrep _
/-- a chain beside what may be done late -/
theorem wpL_wpM {Φ : Rel3} {E : Env} {all : List Oper} {ms X M : List Nat} {K : St → Prop} (hMM : ∀ j ∈ M, ∀ i ∈ M, i < j → rch ms j i = true) : ∀ (Mr : List Nat) (s : St), (∀ i ∈ Mr, i ∈ M) → Mr.Pairwise (· < ·) → wpL Φ E all ms X Mr s K → wpM Φ E all ms X Mr.length Mr s K := by
  intro Mr
  induction Mr with
  | nil => intro s _ _ h; exact ⟨rfl, h⟩
  | cons i0 r ih =>
    intro s hM hp h
    refine ⟨fun e => by (cases e), fun i hi hr => ?_⟩
    obtain ⟨hp1, hp2⟩ := List.pairwise_cons.1 hp
    have hi0 : i = i0 := by
      rcases List.mem_cons.1 hi with h1 | h1
      · exact h1
      · exfalso
        have h2 := rdyM_is hr i0 (List.mem_cons_self ..)
        rw [hMM i (hM i hi) i0 (hM i0 (List.mem_cons_self ..)) (hp1 i h1)] at h2; cases h2
    subst hi0
    have hrem : remN i (i :: r) = r := by
      have hr' : ∀ (l : List Nat), (∀ j ∈ l, j ≠ i) → remN i l = l := by
        intro l
        induction l with
        | nil => intro _; rfl
        | cons x l ihl =>
          intro hl
          rw [remN]
          have : Nat.beq x i = false := by
            cases hx : Nat.beq x i with
            | false => rfl
            | true => exact absurd (Nat.eq_of_beq_eq_true hx) (hl x (List.mem_cons_self ..))
          rw [this]
          simp only
          rw [ihl fun j hj => hl j (List.mem_cons_of_mem _ hj)]
      rw [remN]
      simp only [Nat.beq_refl]
      exact hr' r fun j hj e => by have := hp1 j hj; omega
    rw [hrem]
    exact stepM_imp (fun s h => ih s (fun j hj => hM j (List.mem_cons_of_mem _ hj)) hp2 h) h
theorem late_sound (hT : TabOk P E.tab) (hΦ : ∀ f as r, Φ f as r → Sound P f as r) {Q : Exit → Act → World → Prop} {K : St → Prop} (hk : ∀ s' a' w', K s' → FE w0 B0 Fin s' a' w' → Q .normal a' w') (hQ : ∀ c a w, ¬ Q (.panic c) a w)
    {X M : List Nat} {l : List Oper} (hm : drawOk2 ops.toList X M = true) (hl : picks ops.toList X = some l) {s0 : St} {a0 : Act} {wa : World} (F0 : FE w0 B0 Fin s0 a0 wa)
    (h : wpQ Φ E ops.toList l s0 [] fun s' => wpL Φ E ops.toList (masks ops.toList) X M s' fun s' => Ev.wpOps Φ E ops.toList (ops.toList.drop (X.length + M.length)) s' K) :
    wpAny P .any ops Q ops.size (Array.replicate ops.size false) a0 wa := by
  obtain ⟨_, _, _, hsM, _, _, _, _, _, _, _, hMM, _, _⟩ := draw2_spec hm
  refine late3_sound hT hΦ hk hQ (KL := fun s' => Ev.wpOps Φ E ops.toList (ops.toList.drop (X.length + M.length)) s' K) (fun s' a' w' h F => ⟨s', F, h⟩) (draw_23 hm) hl F0 (wpQ_imp (fun s' h => ⟨_, wpL_wpM hMM M s' (fun i hi => hi) (sorted_pw hsM) h⟩) h)

end
end Go.Ev

set_option linter.unusedVariables false
set_option linter.unusedSimpArgs false
namespace Go.Ev
open Go Go.RowKit

section
variable {P : Program} {E : Env} {w0 w : World} {B0 Fin : Nat → Prop} {Φ : Rel3} {s s' : St} {a : Act} {g : Gh}

/-- where a piece of code comes out -/
def QR (w0 : World) (B0 Fin : Nat → Prop) (Q : Ex → St → Prop) : Exit → Act → World → Prop
  | .normal, a, w => ∃ s, FE w0 B0 Fin s a w ∧ Q .normal s
  | .exit i, a, w => ∃ s, FE w0 B0 Fin s a w ∧ Q (.exit i) s
  | .ret, a, w => ∃ s, FE w0 B0 Fin s a w ∧ Q .ret s
  | _, _, _ => False

theorem FE.drawn (F : FE w0 B0 Fin s a w) (n : Nat) : FE w0 B0 Fin s a { w with drawn := n } := by
  obtain ⟨g, F⟩ := F
  exact ⟨g, F.world (w' := { w with drawn := n }) (Nat.le_refl _) (fun _ _ => rfl) ⟨F.kp.os, F.kp.tape, F.kp.output, F.kp.size, F.kp.block⟩⟩

theorem wp_sound (hT : TabOk P E.tab) (hΦ : ∀ f as r, Φ f as r → Sound P f as r) : ∀ (c : Code) {s : St} {a : Act} {w : World} {Q : Ex → St → Prop}, FE w0 B0 Fin s a w → Ev.wp Φ E c s Q → c.wp P (QR w0 B0 Fin Q) a w := by
  intro c
  induction c with
  | skip => intro s a w Q F h; exact wp_skip ⟨s, F, h⟩
  | region id ops draw =>
    intro s a w Q F h
    cases draw with
    | false => exact wp_region_list (ops_sound hT hΦ F h fun s' a' w' h' F' => ⟨s', F', h'⟩)
    | true =>
      rcases h with ⟨m, hm, h⟩ | ⟨X, M, l, hm, hl, h⟩ | ⟨X, M, l, n, S, hm, hl, h, h2⟩
      · exact wp_region_any hT.2 (quiet_sound hT hΦ (Q := QR w0 B0 Fin Q) (fun s' a' w' h' F' => ⟨s', F', h'⟩) hm (F.drawn _) h)
      · exact wp_region_any hT.2 (late_sound hT hΦ (Q := QR w0 B0 Fin Q) (fun s' a' w' h' F' => ⟨s', F', h'⟩) (fun _ _ _ h => h) hm hl (F.drawn _) h)
      · exact wp_region_any hT.2 (late3_sound hT hΦ (Q := QR w0 B0 Fin Q) (fun s' a' w' h' F' => ⟨s', F', h'⟩) (fun _ _ _ h => h) (KL := fun s2 => canS s2 = some S) (fun s' a' w' hc F' => ⟨S, canS_fe hc F', h2⟩) hm hl (F.drawn _) (wpQ_imp (fun s' h => ⟨n, h⟩) h))
  | seq x y ihx ihy =>
    intro s a w Q F h
    refine wp_seq (Code.wp_mono ?_ (ihx F h))
    intro e a' w' hq
    cases e with
    | normal => obtain ⟨s', F', h'⟩ := hq; exact ihy F' h'
    | exit i => exact hq
    | ret => exact hq
    | goto _ => exact hq.elim
    | panic _ => exact hq.elim
    | outgrown => exact hq.elim
  | cond c x y ihx ihy =>
    intro s a w Q F h
    obtain ⟨p, hc, ht, hf⟩ := h
    obtain ⟨g, F0⟩ := F
    have hv := F0.ev c
    rw [hc] at hv
    have hv := cr_sc hv
    cases p with
    | true => exact wp_cond_true hv (ihx ⟨g, F0⟩ (ht rfl))
    | false => exact wp_cond_false hv (ihy ⟨g, F0⟩ (hf rfl))
  | block id b ih =>
    intro s a w Q F h
    refine wp_block (Code.wp_mono ?_ (ih F h))
    intro e a' w' hq
    cases e with
    | normal => exact hq
    | exit i =>
      obtain ⟨s', F', h'⟩ := hq
      simp only [Exit.inBlock, exBlock] at h' ⊢
      split
      · rename_i hi; simp only [hi, if_true] at h'; exact ⟨s', F', h'⟩
      · rename_i hi; simp only [hi, if_false] at h'; exact ⟨s', F', h'⟩
    | ret => exact hq
    | goto _ => exact hq.elim
    | panic _ => exact hq.elim
    | outgrown => exact hq.elim
  | loop b ih =>
    intro s a w Q F h
    obtain ⟨n, h⟩ := h
    let R : Nat → Act → World → Prop := fun n a w => ∃ s, FE w0 B0 Fin s a w ∧ loopN (fun s Q => Ev.wp Φ E b s Q) n s Q
    have hex : ∀ a w, (∃ n, R n a w) → ∃ m, R m a w ∧ ∀ k, R k a w → m ≤ k := by
      intro a w ⟨n, hn⟩
      induction n using Nat.strongRecOn with
      | _ n ihn =>
        by_cases hk : ∃ k, k < n ∧ R k a w
        · obtain ⟨k, hkn, hk⟩ := hk; exact ihn k hkn hk
        · exact ⟨n, hn, fun k hk' => Nat.le_of_not_lt fun hlt => hk ⟨k, hlt, hk'⟩⟩
    let μ : Act → World → Nat := fun a w => by
      classical exact if h : ∃ n, R n a w then Classical.choose (hex a w h) else 0
    have hμ : ∀ a w n, R n a w → R (μ a w) a w ∧ μ a w ≤ n := by
      intro a w n hn
      have h : ∃ n, R n a w := ⟨n, hn⟩
      have e : μ a w = Classical.choose (hex a w h) := by simp only [μ]; rw [dif_pos h]
      obtain ⟨h1, h2⟩ := Classical.choose_spec (hex a w h)
      rw [e]; exact ⟨h1, h2 n hn⟩
    refine wp_loop (fun a w => ∃ n, R n a w) μ ⟨n, s, F, h⟩ ?_
    intro a w ⟨n, hn⟩
    obtain ⟨hm, _⟩ := hμ a w n hn
    generalize hmm : μ a w = m at hm
    cases m with
    | zero => obtain ⟨s', F', h'⟩ := hm; exact h'.elim
    | succ m =>
      obtain ⟨s', ⟨g, F'⟩, hm⟩ := hm
      obtain ⟨s2, g2, h', F2⟩ := AdjW.sound hm F'
      refine Code.wp_mono ?_ (ih ⟨g2, F2⟩ h')
      intro e a' w' hq
      cases e with
      | normal =>
        obtain ⟨s3, F3, h3⟩ := hq
        have hr : R m a' w' := ⟨s3, F3, h3⟩
        exact ⟨⟨m, hr⟩, by have := (hμ a' w' m hr).2; omega⟩
      | exit i => exact hq
      | ret => exact hq
      | goto _ => exact hq.elim
      | panic _ => exact hq.elim
      | outgrown => exact hq.elim
  | exit id => intro s a w Q F h; exact wp_exit ⟨s, F, h⟩
  | ret => intro s a w Q F h; exact wp_ret ⟨s, F, h⟩
  | rangeFunc => intro s a w Q F h; exact h.elim
  | scope => intro s a w Q F h; exact h.elim
  | label => intro s a w Q F h; exact h.elim
  | goto => intro s a w Q F h; exact h.elim
  | refuse => intro s a w Q F h; exact h.elim

/-- what a result's place holds -/
theorem place_sound (hT : TabOk P E.tab) (F : FR w0 B0 Fin s a w g) (x : ResultVar) {y : AV} (h : (match x with
    | .tmp k => some (s.get k)
    | .cell c ty => loadAV E.tab s ty (s.get c)) = some y) :
    ∃ v, ((match x with
      | .tmp t => pure (a.tmps.getD t undef)
      | .cell c t => do loadVar t (← asAddr (a.tmps.getD c undef)) : Sem Value)).run P w = .ok v w ∧ CR w g s.h s.o y v := by
  cases x with
  | tmp k =>
    cases h
    exact ⟨_, rfl, F.ev (.tmp k)⟩
  | cell c ty =>
    have hv := F.ev (.tmp c)
    obtain ⟨u, hu, hr⟩ := load_sound hT F hv h
    refine ⟨u, ?_, hr⟩
    have he : a.eval (.tmp c) = a.tmps.getD c undef := rfl
    rw [he] at hu
    have hq : ∀ q : Value, (Instr.loadAt ty q).run P w = .ok u w → (do loadVar ty (← asAddr q) : Sem Value).run P w = .ok u w := by
      intro q hq
      cases q with
      | pointer ad =>
        cases ad with
        | none => simp [Instr.loadAt, Instr.sureAddr] at hq
        | some ad => simpa [Instr.loadAt, Instr.sureAddr, asAddr] using hq
      | _ => simp [Instr.loadAt, Instr.sureAddr] at hq
    exact hq _ hu

theorem resultM_sound (hT : TabOk P E.tab) (F : FR w0 B0 Fin s a w g) (x : ResultVar) {y : AV} (h : resultM E.tab s x = some (y, s')) :
    ∃ v, ((match x with
      | .tmp t => pure (a.tmps.getD t undef)
      | .cell c t => do loadVar t (← asAddr (a.tmps.getD c undef)) : Sem Value)).run P w = .ok v w ∧ FR w0 B0 Fin s' a w g ∧ Subs s s' ∧ VS w g.B y v (Freed w0 w Fin g s s') := by
  cases x with
  | tmp k =>
    obtain ⟨v, hv, hc⟩ := place_sound hT F (.tmp k) rfl
    obtain ⟨F1, hs1, hr⟩ := moveA_sound F hc h
    exact ⟨v, hv, F1, hs1, hr⟩
  | cell c ty =>
    simp only [resultM] at h
    split at h
    case h_2 => cases h
    rename_i z hz
    obtain ⟨v, hv, hc⟩ := place_sound hT F (.cell c ty) hz
    obtain ⟨F1, hs1, hr⟩ := moveA_sound F hc h
    exact ⟨v, hv, F1, hs1, hr⟩
theorem resultS_sound (hT : TabOk P E.tab) (F : FR w0 B0 Fin s a w g) (x : ResultVar) {y : AV} (h : resultS E.tab s x = some y) :
    ∃ v, ((match x with
      | .tmp t => pure (a.tmps.getD t undef)
      | .cell c t => do loadVar t (← asAddr (a.tmps.getD c undef)) : Sem Value)).run P w = .ok v w ∧ VS w (used g s) y v (fun _ => False) := by
  cases x with
  | tmp k =>
    obtain ⟨v, hv, hc⟩ := place_sound hT F (.tmp k) rfl
    exact ⟨v, hv, snapA_sound F h hc _⟩
  | cell c ty =>
    simp only [resultS] at h
    split at h
    case h_2 => cases h
    rename_i z hz
    obtain ⟨v, hv, hc⟩ := place_sound hT F (.cell c ty) hz
    exact ⟨v, hv, snapA_sound F h hc _⟩

theorem resultsM_key (f : ResultVar → Sem Value) (hf : ∀ s x y s', FR w0 B0 Fin s a w g → resultM E.tab s x = some (y, s') → ∃ v, (f x).run P w = .ok v w ∧ FR w0 B0 Fin s' a w g ∧ Subs s s' ∧ VS w g.B y v (Freed w0 w Fin g s s')) :
    ∀ (l : List ResultVar) (s s2 : St) (rs : List AV), FR w0 B0 Fin s a w g → resultsML E.tab s l = some (rs, s2) → ∃ vs, (l.mapM f).run P w = .ok vs w ∧ FR w0 B0 Fin s2 a w g ∧ Subs s s2 ∧ Fam (VS w g.B) rs vs (Freed w0 w Fin g s s2) := by
  intro l
  induction l with
  | nil => intro s s2 rs F h; rw [resultsML] at h; cases h; exact ⟨[], rfl, F, .refl _, .nil _⟩
  | cons x l ih =>
    intro s s2 rs F h
    rw [resultsML] at h
    split at h
    case h_2 => cases h
    rename_i y s1 h1
    split at h
    case h_2 => cases h
    rename_i l' s2' h2
    cases h
    obtain ⟨v, hv, F1, hs1, hr⟩ := hf _ _ _ _ F h1
    obtain ⟨vs, hvs, F2, hs2, hrs⟩ := ih s1 _ l' F1 h2
    refine ⟨v :: vs, ?_, F2, hs1.trans hs2, .cons _ _ _ _ _ _ _ hr hrs ?_ (fun b hb => hb.left hs2) (fun b hb => hb.right hs1)⟩
    · rw [List.mapM_cons, Sem.run_bind, hv, Result.andThen_ok, Sem.run_bind, hvs]
      rfl
    · intro b hb hb'; exact hb.2.2.1 hb'.2.2.2
theorem resultsS_key (f : ResultVar → Sem Value) (hf : ∀ x y, resultS E.tab s x = some y → ∃ v, (f x).run P w = .ok v w ∧ VS w (used g s) y v (fun _ => False)) :
    ∀ (l : List ResultVar) (rs : List AV), mapS (resultS E.tab s) l = some rs → ∃ vs, (l.mapM f).run P w = .ok vs w ∧ Fam (VS w (used g s)) rs vs (fun _ => False) := by
  intro l
  induction l with
  | nil => intro rs h; cases h; exact ⟨[], rfl, .nil _⟩
  | cons x l ih =>
    intro rs h
    rw [mapS] at h
    split at h
    case h_2 => cases h
    rename_i y hy
    split at h
    case h_2 => cases h
    rename_i rs' hrs
    cases h
    obtain ⟨v, hv, hr⟩ := hf _ _ hy
    obtain ⟨vs, hvs, hrs'⟩ := ih _ hrs
    refine ⟨v :: vs, ?_, .cons _ _ _ _ (fun _ => False) (fun _ => False) _ hr hrs' (fun _ h => h.elim) (fun _ h => h) (fun _ h => h)⟩
    rw [List.mapM_cons, Sem.run_bind, hv, Result.andThen_ok, Sem.run_bind, hvs]
    rfl

/-- one result, or many -/
theorem pack_one (f : ResultVar → Sem Value) {rv : Array ResultVar} {x : ResultVar} (hx : rv.toList = [x]) {v : Value} (hv : (f x).run P w = .ok v w) :
    (do
      let vs ← rv.mapM f
      pure (if h : vs.size = 1 then vs[0] else .tuple vs) : Sem Value).run P w = .ok v w := by
  have hvs : (rv.toList.mapM f).run P w = .ok [v] w := by
    rw [hx, List.mapM_cons, Sem.run_bind, hv, Result.andThen_ok, Sem.run_bind]
    rfl
  rw [Sem.run_bind, Array.mapM_eq_mapM_toList, Sem.run_map, hvs]
  simp
theorem pack_many (f : ResultVar → Sem Value) {rv : Array ResultVar} {vs : List Value} (hvs : (rv.toList.mapM f).run P w = .ok vs w) (hlen : vs.length ≠ 1) :
    (do
      let vs ← rv.mapM f
      pure (if h : vs.size = 1 then vs[0] else .tuple vs) : Sem Value).run P w = .ok (.tuple vs.toArray) w := by
  rw [Sem.run_bind, Array.mapM_eq_mapM_toList, Sem.run_map, hvs]
  simp [hlen]
theorem resultsML_len : ∀ {l : List ResultVar} {s s2 : St} {rs : List AV}, resultsML E.tab s l = some (rs, s2) → rs.length = l.length := by
  intro l
  induction l with
  | nil => intro s s2 rs h; rw [resultsML] at h; cases h; rfl
  | cons x l ih =>
    intro s s2 rs h
    rw [resultsML] at h
    split at h
    case h_2 => cases h
    split at h
    case h_2 => cases h
    rename_i h2
    cases h
    simp [ih h2]

theorem resultsM_all (f : ResultVar → Sem Value) (hf : ∀ s x y s', FR w0 B0 Fin s a w g → resultM E.tab s x = some (y, s') → ∃ v, (f x).run P w = .ok v w ∧ FR w0 B0 Fin s' a w g ∧ Subs s s' ∧ VS w g.B y v (Freed w0 w Fin g s s'))
    (F : FR w0 B0 Fin s a w g) {rv : Array ResultVar} {r : AV} {s2 : St} (h : resultsM E.tab rv.toList s = some (r, s2)) :
    ∃ v, (do
      let vs ← rv.mapM f
      pure (if h : vs.size = 1 then vs[0] else .tuple vs) : Sem Value).run P w = .ok v w ∧ FR w0 B0 Fin s2 a w g ∧ Subs s s2 ∧ VR w g.B r v (Freed w0 w Fin g s s2) := by
  unfold resultsM at h
  split at h
  · rename_i x hx
    obtain ⟨v, hv, F1, hs1, hr⟩ := hf _ _ _ _ F h
    exact ⟨v, pack_one f hx hv, F1, hs1, .inl hr⟩
  · rename_i hne
    split at h
    case h_2 => cases h
    rename_i l s2' hl
    cases h
    obtain ⟨vs, hvs, F2, hs2, hrs⟩ := resultsM_key f hf _ _ _ _ F hl
    refine ⟨_, pack_many f hvs ?_, F2, hs2, .inr ⟨_, vs, rfl, rfl, hrs⟩⟩
    intro h1
    have h2 := hrs.length
    have h3 := resultsML_len hl
    obtain ⟨x, hx⟩ := List.length_eq_one_iff.1 (show rv.toList.length = 1 by omega)
    exact hne x hx
theorem resultsS_all (f : ResultVar → Sem Value) (hf : ∀ x y, resultS E.tab s x = some y → ∃ v, (f x).run P w = .ok v w ∧ VS w (used g s) y v (fun _ => False))
    {rv : Array ResultVar} {r : AV} (h : resultsS E.tab rv.toList s = some r) :
    ∃ v, (do
      let vs ← rv.mapM f
      pure (if h : vs.size = 1 then vs[0] else .tuple vs) : Sem Value).run P w = .ok v w ∧ VR w (used g s) r v (fun _ => False) := by
  unfold resultsS at h
  split at h
  · rename_i x hx
    obtain ⟨v, hv, hr⟩ := hf _ _ h
    exact ⟨v, pack_one f hx hv, .inl hr⟩
  · rename_i hne
    split at h
    case h_2 => cases h
    rename_i l hl
    cases h
    obtain ⟨vs, hvs, hrs⟩ := resultsS_key f hf _ _ hl
    refine ⟨_, pack_many f hvs ?_, .inr ⟨_, vs, rfl, rfl, hrs⟩⟩
    intro h1
    have h2 := hrs.length
    have h3 := (mapS_eq hl).1
    obtain ⟨x, hx⟩ := List.length_eq_one_iff.1 (show rv.toList.length = 1 by omega)
    exact hne x hx

theorem results_M (hT : TabOk P E.tab) (F : FR w0 B0 Fin s a w g) {fn : Func} {r : AV} {s2 : St} (h : resultsM E.tab fn.results.toList s = some (r, s2)) :
    ∃ v, (results fn a.tmps).run P w = .ok v w ∧ FR w0 B0 Fin s2 a w g ∧ Subs s s2 ∧ VR w g.B r v (Freed w0 w Fin g s s2) :=
  resultsM_all _ (fun s x y s' F h => resultM_sound hT F x h) F h
theorem results_S (hT : TabOk P E.tab) (F : FR w0 B0 Fin s a w g) {fn : Func} {r : AV} (h : resultsS E.tab fn.results.toList s = some r) :
    ∃ v, (results fn a.tmps).run P w = .ok v w ∧ VR w (used g s) r v (fun _ => False) :=
  resultsS_all _ (fun x y h => resultS_sound hT F x h) h

theorem snapA_io {x y : AV} (h : snapA s x = some y) : isIo y = false := by
  have hc : ∀ {x y : AV}, snapC s x = some y → isIo y = false := by
    intro x y h
    unfold snapC at h
    split at h
    · cases h; rfl
    · cases h
  unfold snapA at h
  split at h
  · split at h
    · cases h; rfl
    · cases h
  · cases h
  · exact hc h
theorem resultsS_io {rs : List ResultVar} {r : AV} (h : resultsS E.tab rs s = some r) : isIo r = false := by
  unfold resultsS at h
  split at h
  · rename_i x
    cases x with
    | tmp k => exact snapA_io h
    | cell c ty =>
      simp only [resultS] at h
      split at h
      · exact snapA_io h
      · cases h
  · split at h
    · cases h; rfl
    · cases h
theorem resultsM1_eq {rs : List ResultVar} {r : AV} {s2 : St} (h : resultsM1 E.tab rs s = some (r, s2)) : resultsM E.tab rs s = some (r, s2) ∧ isIo r = false := by
  unfold resultsM1 at h
  split at h
  · rename_i r' s' h'
    split at h
    · cases h
    · rename_i hi; cases h; exact ⟨h', hi⟩
  · cases h

theorem FR.used_in (F : FR w0 B0 Fin s a w g) {b : Nat} (h : used g s b) : B0 b ∨ Fin b ∨ w0.heap.size ≤ b := by
  rcases h with h | ⟨i, c, hi, rfl⟩ | ⟨j, r, hj, hb⟩
  · exact (F.bb b h).2
  · exact .inr (F.bx i c hi).1
  · exact .inr ((F.rt j r hj).2 b hb).2.1

theorem impL_n : ∀ {cs l : List AV} {s s' : St} {id n : Nat}, impL s id cs = some (l, s', n) → n = id + 1000 * cs.length := by
  intro cs
  induction cs with
  | nil => intro l s s' id n h; rw [impL] at h; cases h; simp
  | cons x cs ih =>
    intro l s s' id n h
    rw [impL] at h
    split at h
    case h_2 => cases h
    split at h
    case h_2 => cases h
    rename_i h2
    cases h
    have := ih h2
    simp only [List.length_cons, Nat.add_eq] at this ⊢
    omega
theorem imp2_n {s s' : St} {id n : Nat} {x y : AV} (h : imp2 s id x = some (y, s', n)) : (∀ cs, x = .ag cs → n = id + 1000 * cs.length) ∧ ((∀ cs, x ≠ .ag cs) → n = id + 1000) := by
  unfold imp2 at h
  split at h
  · split at h
    case h_2 => cases h
    rename_i h1
    cases h
    exact ⟨fun cs e => by cases e; exact impL_n h1, fun e => absurd rfl (e _)⟩
  · rename_i hne
    split at h
    case h_2 => cases h
    cases h
    exact ⟨fun cs e => absurd e (hne cs), fun _ => rfl⟩
theorem ArgA.ext {g' : Gh} {id lo : Nat} {x : AV} {v : Value} (h : ArgA s g id x v) (he : ∀ i r, i < lo → lk s.o i = some r → lk s'.o i = some r ∧ g'.rv i = g.rv i) (h1 : ∀ rows, x = .t (.sl true rows) → id < lo) (h2 : ∀ cs, x = .ag cs → id + 1000 * cs.length ≤ lo) : ArgA s' g' id x v := by
  refine ⟨fun rows hx => ?_, fun cs vs hx hv => ?_⟩
  · obtain ⟨⟨r, hr⟩, h3⟩ := h.1 rows hx
    obtain ⟨h4, h5⟩ := he id r (h1 rows hx) hr
    exact ⟨⟨r, h4⟩, h5.trans h3⟩
  · obtain ⟨hl, h3⟩ := h.2 cs vs hx hv
    refine ⟨hl, fun j y u hy hu rows hy' => ?_⟩
    obtain ⟨⟨r, hr⟩, h4⟩ := h3 j y u hy hu rows hy'
    have hj := nth_lt hy
    have := h2 cs hx
    obtain ⟨h5, h6⟩ := he _ r (by omega) hr
    exact ⟨⟨r, h5⟩, h6.trans h4⟩

theorem imp3_sound (F : FR w0 B0 Fin s a w g) {id n : Nat} {x y : AV} {v : Value} {G : Nat → Prop} (hx : VS w g.B x v G) (hG : Take w0 w Fin g s G) (h : imp3 s id x = some (y, s', n))
    (hl : ∀ b b', v = .pointer (some ⟨b, 0, none⟩) → s'.n ≤ id → Loc w0 Fin id b' → b = b') :
    ∃ g', FR w0 B0 Fin s' a w g' ∧ Ext s g s' g' id n G ∧ id ≤ n ∧ CR w g' s'.h s'.o y v ∧ ArgA s' g' id x v ∧ ∀ cs, x = .ag cs → n = id + 1000 * cs.length := by
  unfold imp3 at h
  split at h
  · rename_i cs
    have hx' : VB w g.B (.io cs) v G := by
      rcases hx with ⟨t, e, _⟩ | ⟨cs', vs, e, _⟩ | hx
      · cases e
      · cases e
      · exact hx
    obtain ⟨g1, F1, E1, hn, c1⟩ := impB_sound F hx' hG h hl
    exact ⟨g1, F1, E1, hn, c1, ⟨fun _ h => (by cases h), fun _ _ h => (by cases h)⟩, fun _ h => (by cases h)⟩
  · obtain ⟨g1, F1, E1, hn, I1, A1⟩ := imp2_sound F hx hG h
    exact ⟨g1, F1, E1, hn, I1.cr _, A1, (imp2_n h).1⟩

/-- the arguments in their slots -/
theorem init_sound : ∀ {args : List AV} {ks : List (Nat × Nat)} {s s' : St} {g : Gh} {vs : List Value} {G : Nat → Prop} {lo : Nat}, FR w0 B0 Fin s a w g → Fam (VS w g.B) args vs G → Take w0 w Fin g s G →
    (∀ (i : Nat) (p : Nat × Nat) (v : Value), ks[i]? = some p → vs[i]? = some v → a.tmps[p.1]? = some v) → (∀ (i : Nat) (p : Nat × Nat), ks[i]? = some p → lo + 100000 * i ≤ p.2 ∧ p.2 ≤ lo + 100000 * i) →
    (∀ (i : Nat) (p : Nat × Nat) (b b' : Nat), ks[i]? = some p → vs[i]? = some (.pointer (some ⟨b, 0, none⟩)) → Loc w0 Fin p.2 b' → b = b') → initT s ks args = some s' →
    ∃ g', FR w0 B0 Fin s' a w g' ∧ (∀ i r, i < lo → lk s.o i = some r → lk s'.o i = some r ∧ g'.rv i = g.rv i) ∧ ∀ (i : Nat) (p : Nat × Nat) (x : AV) (v : Value), ks[i]? = some p → args[i]? = some x → vs[i]? = some v → ArgA s' g' p.2 x v := by
  intro args
  induction args with
  | nil => intro ks s s' g vs G lo F _ _ _ _ _ h; rw [initT] at h; cases h; exact ⟨g, F, fun i r _ h => ⟨h, rfl⟩, fun i p x v _ hx => by simp at hx⟩
  | cons x args ih =>
    intro ks s s' g vs G lo F hf hG hv hks hL h
    match ks with
    | [] => rw [initT] at h; cases h
    | (k, b) :: ks =>
      rw [initT] at h
      split at h
      case h_2 => cases h
      rename_i y s1 n h1
      split at h
      case h_2 => cases h
      rename_i hn
      split at h
      case h_2 => cases h
      rename_i s2 h2
      have hn : n ≤ b + 100000 := Nat.le_of_ble_eq_true hn
      have hb := hks 0 (k, b) rfl
      simp only at hb
      cases hf with
      | cons _ _ v us G1 G2 _ hx hs hd hs1 hs2 =>
        obtain ⟨g1, F1, E1, hbn, C1, A1, nn1⟩ := imp3_sound F hx (hG.sub hs1) h1 (fun b1 b2 e _ hb2 => hL 0 (k, b) b1 b2 rfl (by simp [e]) hb2)
        have F2 := F1.retell (hv 0 (k, b) v rfl rfl) h2 C1
        obtain ⟨e1, e2, _⟩ := putT_parts h2
        have hT2 : Take w0 w Fin g1 s2 G2 := by
          have := (hG.sub hs2).ext E1 fun b hb hb' => hd b hb' hb
          intro b hb
          obtain ⟨a1, a2, a3⟩ := this b hb
          refine ⟨a1, a2, ?_⟩
          unfold used at a3 ⊢
          rw [e1, e2]; exact a3
        obtain ⟨g3, F3, P3, A3⟩ := ih (lo := b + 100000) F2 (by rw [E1.B]; exact hs) hT2 (fun i k' v' hk hv' => hv (i + 1) k' v' (by simpa using hk) (by simpa using hv')) (fun i p hp => by have := hks (i + 1) p (by simpa using hp); omega) (fun i p b1 b2 hp hv' => hL (i + 1) p b1 b2 (by simpa using hp) (by simpa using hv')) h
        refine ⟨g3, F3, ?_, ?_⟩
        · intro i r hi hr
          obtain ⟨a1, a2⟩ := E1.o i r (.inl (by omega)) hr
          obtain ⟨a3, a4⟩ := P3 i r (by omega) (by rw [e2]; exact a1)
          exact ⟨a3, a4.trans a2⟩
        · intro i p z u hp hz hu
          cases i with
          | zero =>
            simp at hp hz hu; subst hp; subst hz; subst hu
            refine A1.ext (fun i r hi hr => P3 i r hi (by rw [e2]; exact hr)) (fun rows hx' => by simp) (fun cs hx' => ?_)
            have := nn1 cs hx'
            omega
          | succ i => exact A3 i p z u (by simpa using hp) (by simpa using hz) (by simpa using hu)

theorem lk_tel {f : Nat → Value} : ∀ {o o' : Rts}, telV f o = some o' → ∀ i, lk o' i = (lk o i).map fun r => (⟨r.1.n, some (f i)⟩, r.2) := by
  intro o
  induction o with
  | nil => intro o' h; rw [telV] at h; cases h; intro i; rfl
  | cons p r ih =>
    obtain ⟨id, q, rows⟩ := p
    intro o' h
    rw [telV] at h
    split at h
    case h_2 => cases h
    rename_i l hl
    cases h
    intro i
    rw [lk_cons, lk_cons, ih hl]
    split
    · rename_i e; subst e; rfl
    · rfl
theorem tel_sound (F : FR w0 B0 Fin s a w g) {o' : Rts} (h : telV g.rv s.o = some o') : FR w0 B0 Fin ⟨s.t, s.h, o', s.n⟩ a w g := by
  have hl := lk_tel h
  have hl' : ∀ i r, lk o' i = some r → ∃ r0, lk s.o i = some r0 ∧ r = (⟨r0.1.n, some (g.rv i)⟩, r0.2) := by
    intro i r hr
    rw [hl] at hr
    cases hx : lk s.o i with
    | none => rw [hx] at hr; cases hr
    | some r0 => rw [hx] at hr; cases hr; exact ⟨r0, rfl, rfl⟩
  have key : ∀ x v, CR w g s.h s.o x v → CR w g s.h o' x v := fun x v hx => hx.mono (fun b hb => ⟨hb, rfl⟩) (fun i cs _ h1 => ⟨⟨cs, h1⟩, rfl⟩) (fun i r _ h1 => ⟨⟨(⟨r.1.n, some (g.rv i)⟩, r.2), by rw [hl, h1]; rfl, rfl⟩, rfl, rfl⟩) (fun i r b _ h1 h2 _ => ⟨h2, rfl⟩)
  refine ⟨F.n, F.df, F.kp, F.bb, ?_, ?_, ?_, F.bi, ?_, ?_, ?_, F.bl⟩
  · intro k x hk
    obtain ⟨v, hv, hr⟩ := F.tm k x hk
    exact ⟨v, hv, key _ _ hr⟩
  · intro i cs h1
    obtain ⟨h2, h2', vs, ty, h3, h4⟩ := F.bx i cs h1
    exact ⟨h2, h2', vs, ty, h3, h4.mono fun k x v _ hx => key _ _ hx⟩
  · intro i r hr
    obtain ⟨r0, hr0, rfl⟩ := hl' i r hr
    exact F.rt i r0 hr0
  · intro i j ri rj b h1 h2 h3 h4
    obtain ⟨r1, h1, _⟩ := hl' i ri h1
    obtain ⟨r2, h2, _⟩ := hl' j rj h2
    exact F.rr i j r1 r2 b h1 h2 h3 h4
  · intro i j ci rj h1 h2
    obtain ⟨r2, h2, _⟩ := hl' j rj h2
    exact F.br i j ci r2 h1 h2
  · intro i r u h1 h2
    obtain ⟨r0, hr0, rfl⟩ := hl' i r h1
    cases h2; rfl

/-- what the arguments are at the end -/
theorem outC_sound (F : FR w0 B0 Fin s a w g) {B : Nat → Prop} (hB : ∀ b, B0 b → w.heap[b]? = w0.heap[b]?) (hBB : ∀ b, B0 b → B b) (hgB : ∀ b, g.B b → B b) {f : Nat → Value} {id : Nat} {x y : AV} {v : Value} {G : Nat → Prop} {p : Prop} (hx : VC w0 B0 x v G) (hf : ∀ rows, x = .t (.sl true rows) → f id = v)
    (h : outC f s id x = some (y, p, s')) (hp : p) : FR w0 B0 Fin s' a w g ∧ Subs s s' ∧ VC w B y v (Freed w0 w Fin g s s') := by
  obtain ⟨z, rfl, hz⟩ := hx
  have hrep : ∀ {u : Value}, Rep w0 B0 z u → Rep w B z u := fun h => h.mono fun b hb => ⟨hBB b hb, hB b hb⟩
  simp only [outC] at h
  split at h
  · rename_i rows0
    split at h
    case h_2 => cases h
    rename_i q rows hi
    split at h
    case h_2 => cases h
    rename_i hq
    split at h
    case h_2 => cases h
    rename_i u hu
    split at h
    case h_2 => cases h
    rename_i s1 hd
    cases h
    obtain ⟨F1, hs, _, hr, hfr⟩ := drop_root F hi hd
    simp only [hq] at hr
    have e1 := F.tv id _ u hi hu
    have e2 := hf rows0 rfl
    have hv : g.rv id = v := by rw [e1, hp, e2]
    rw [hv] at hr
    exact ⟨F1, hs, _, rfl, ((Root.own hr).sub hfr).mono (fun b hb => ⟨hgB b hb, rfl⟩) fun _ _ => rfl⟩
  · cases h
    cases hz with
    | sh rows v F' h => exact ⟨F, .refl _, _, rfl, .sh _ _ _ (hrep h)⟩
  · cases h
    cases hz with
    | sc v F' => exact ⟨F, .refl _, _, rfl, .sc _ _⟩
  · cases h
    cases hz with
    | pt cs v F' h => exact ⟨F, .refl _, _, rfl, .pt _ _ _ (hrep h)⟩
  · cases h
    cases hz with
    | fn g1 cs v F' h => exact ⟨F, .refl _, _, rfl, .fn _ _ _ _ (hrep h)⟩

theorem outCL_sound {B : Nat → Prop} (hB : ∀ b, B0 b → w.heap[b]? = w0.heap[b]?) (hBB : ∀ b, B0 b → B b) (hgB : ∀ b, g.B b → B b) {f : Nat → Value} : ∀ {cs ys : List AV} {s s' : St} {id : Nat} {vs : List Value} {G : Nat → Prop} {p : Prop}, FR w0 B0 Fin s a w g → Fam (VC w0 B0) cs vs G →
    (∀ (j : Nat) (y : AV) (u : Value), cs[j]? = some y → vs[j]? = some u → ∀ rows, y = .t (.sl true rows) → f (id + 1000 * j) = u) → outCL f s id cs = some (ys, p, s') → p → FR w0 B0 Fin s' a w g ∧ Subs s s' ∧ Fam (VC w B) ys vs (Freed w0 w Fin g s s') := by
  intro cs
  induction cs with
  | nil => intro ys s s' id vs G p F hc _ h _; rw [outCL] at h; cases h; cases hc; exact ⟨F, .refl _, .nil _⟩
  | cons x cs ih =>
    intro ys s s' id vs G p F hc hf h hp
    rw [outCL] at h
    split at h
    case h_2 => cases h
    rename_i y p1 s1 h1
    split at h
    case h_2 => cases h
    rename_i l p2 s2 h2
    cases h
    cases hc with
    | cons _ _ v us G1 G2 _ hx hs _ _ _ =>
      obtain ⟨F1, hs1, hv⟩ := outC_sound F hB hBB hgB hx (fun rows hx' => hf 0 x v rfl rfl rows hx') h1 hp.1
      obtain ⟨F2, hs2, hvs⟩ := ih F1 hs (fun j y u hy hu rows hy' => by
        have := hf (j + 1) y u (by simpa using hy) (by simpa using hu) rows hy'
        rw [← this]; congr 1; simp; omega) h2 hp.2
      exact ⟨F2, hs1.trans hs2, .cons _ _ _ _ _ _ _ hv hvs (fun b hb hb' => hb.2.2.1 hb'.2.2.2) (fun b hb => hb.left hs2) (fun b hb => hb.right hs1)⟩

theorem outA_sound (F : FR w0 B0 Fin s a w g) {B : Nat → Prop} (hB : ∀ b, B0 b → w.heap[b]? = w0.heap[b]?) (hBB : ∀ b, B0 b → B b) (hgB : ∀ b, g.B b → B b) {g0 : Gh} {si : St} {id : Nat} {x y : AV} {v : Value} {G : Nat → Prop} {p : Prop} (hx : VS w0 B0 x v G) (hA : ArgA si g0 id x v) (hL : ∀ cs b, x = .io cs → v = .pointer (some ⟨b, 0, none⟩) → Loc w0 Fin id b)
    (h : outA g0.rv s id x = some (y, p, s')) (hp : p) : FR w0 B0 Fin s' a w g ∧ Subs s s' ∧ VS w B y v (Freed w0 w Fin g s s') := by
  rcases hx with hx | ⟨cs, vs, rfl, rfl, hx⟩ | ⟨cs, vs, b, ty, F1, rfl, rfl, _⟩
  rotate_left 2
  · simp only [outA] at h
    split at h
    case h_2 => cases h
    rename_i hn
    split at h
    case h_2 => cases h
    rename_i cells hi
    split at h
    case h_2 => cases h
    rename_i ts s1 h1
    split at h
    case h_2 => cases h
    rename_i l hl
    split at h
    case h_2 => cases h
    rename_i c1 hin
    split at h
    case h_2 => cases h
    rename_i s2 h2
    cases h
    obtain ⟨F2, hs2, hb⟩ := boxOut_sound F hi h1 hl hin h2
    rw [F.bl id cells b hi (Nat.le_of_ble_eq_true hn) (hL cs b rfl rfl)] at hb
    obtain ⟨ds, us, b', ty', F1', e, e2, q1, q2, q3⟩ := hb
    exact ⟨F2, hs2, .inr (.inr ⟨ds, us, b', ty', F1', e, e2, q1, q2.imp fun x v G _ hx => hx.mono (fun b hb => ⟨hgB b hb, rfl⟩) fun _ _ => rfl, q3⟩)⟩
  · have h' : outC g0.rv s id x = some (y, p, s') := by
      obtain ⟨z, rfl, _⟩ := hx
      exact h
    obtain ⟨F1, hs1, hv⟩ := outC_sound F hB hBB hgB hx (fun rows hx' => (hA.1 rows hx').2) h' hp
    exact ⟨F1, hs1, .inl hv⟩
  · simp only [outA] at h
    split at h
    case h_2 => cases h
    rename_i l p1 s1 h1
    cases h
    obtain ⟨F1, hs1, hv⟩ := outCL_sound hB hBB hgB F hx (fun j y u hy hu rows hy' => (((hA.2 cs vs rfl rfl).2 j y u hy hu) rows hy').2) h1 hp
    exact ⟨F1, hs1, .inr (.inl ⟨_, vs, rfl, rfl, hv⟩)⟩

theorem outs_sound {B : Nat → Prop} (hB : ∀ b, B0 b → w.heap[b]? = w0.heap[b]?) (hBB : ∀ b, B0 b → B b) (hgB : ∀ b, g.B b → B b) {g0 : Gh} {si : St} : ∀ {args ys : List AV} {ks : List (Nat × Nat)} {fl : List Bool} {s s' : St} {vs : List Value} {G : Nat → Prop} {p : Prop}, FR w0 B0 Fin s a w g → Fam (VS w0 B0) args vs G →
    (∀ (i : Nat) (q : Nat × Nat) (x : AV) (v : Value), ks[i]? = some q → args[i]? = some x → vs[i]? = some v → ArgA si g0 q.2 x v) → (∀ (i : Nat) (q : Nat × Nat) (cs : List AV) (b : Nat), ks[i]? = some q → args[i]? = some (.io cs) → vs[i]? = some (.pointer (some ⟨b, 0, none⟩)) → Loc w0 Fin q.2 b) → outsL g0.rv s ks args fl = some (ys, p, s') → p → FR w0 B0 Fin s' a w g ∧ Subs s s' ∧ Fam (VO w B) ys vs (Freed w0 w Fin g s s') := by
  intro args
  induction args with
  | nil => intro ys ks fl s s' vs G p F hc _ _ h _; rw [outsL] at h; cases h; cases hc; exact ⟨F, .refl _, .nil _⟩
  | cons x args ih =>
    intro ys ks fl s s' vs G p F hc hA hL h hp
    match ks with
    | [] => simp [outsL] at h
    | (k, b) :: ks =>
      cases hc with
      | cons _ _ v us G1 G2 _ hx hs _ _ _ =>
        have hA' : ∀ (i : Nat) (q : Nat × Nat) (x : AV) (v : Value), ks[i]? = some q → args[i]? = some x → us[i]? = some v → ArgA si g0 q.2 x v := fun i q z u h1 h2 h3 => hA (i + 1) q z u (by simpa using h1) (by simpa using h2) (by simpa using h3)
        have hL' : ∀ (i : Nat) (q : Nat × Nat) (cs : List AV) (b : Nat), ks[i]? = some q → args[i]? = some (.io cs) → us[i]? = some (.pointer (some ⟨b, 0, none⟩)) → Loc w0 Fin q.2 b := fun i q cs b h1 h2 h3 => hL (i + 1) q cs b (by simpa using h1) (by simpa using h2) (by simpa using h3)
        have skip : ∀ {fl : List Bool}, (match outsL g0.rv s ks args fl with
            | some (l, ps, s) => some (AV.u :: l, ps, s)
            | none => none) = some (ys, p, s') → FR w0 B0 Fin s' a w g ∧ Subs s s' ∧ Fam (VO w B) ys (v :: us) (Freed w0 w Fin g s s') := by
          intro fl h
          split at h
          case h_2 => cases h
          rename_i l p2 s2 h2
          cases h
          obtain ⟨F2, hs2, hvs⟩ := ih F hs hA' hL' h2 hp
          exact ⟨F2, hs2, .cons _ _ _ _ (fun _ => False) _ _ (.inl rfl) hvs (fun _ h => h.elim) (fun _ h => h.elim) (fun _ h => h)⟩
        match fl with
        | true :: fl =>
          rw [outsL] at h
          split at h
          case h_2 => cases h
          rename_i y p1 s1 h1
          split at h
          case h_2 => cases h
          rename_i l p2 s2 h2
          cases h
          obtain ⟨F1, hs1, hv⟩ := outA_sound F hB hBB hgB hx (hA 0 (k, b) x v rfl rfl rfl) (fun cs b' e1 e => hL 0 (k, b) cs b' rfl (by simp [e1]) (by simp [e])) h1 hp.1
          obtain ⟨F2, hs2, hvs⟩ := ih F1 hs hA' hL' h2 hp.2
          exact ⟨F2, hs1.trans hs2, .cons _ _ _ _ _ _ _ (.inr hv) hvs (fun b hb hb' => hb.2.2.1 hb'.2.2.2) (fun b hb => hb.left hs2) (fun b hb => hb.right hs1)⟩
        | false :: fl => rw [outsL] at h; exact skip h
        | [] => rw [outsL] at h; exact skip h

theorem body_sound (hT : TabOk P E.tab) (hΦ : ∀ f as r, Φ f as r → Sound P f as r) {f : FuncId} {fn : Func} {args : List AV} {r : AV} (hf : P.funcs[f]? = some fn) (hname : (fn.name == "runtime.NumGoroutine") = false) (h : Body Φ E fn args r) : Sound P f args r := by
  obtain ⟨c, s, hb, hn, hi, h⟩ := h
  refine ⟨⟨fn, hf, by simp [hb], hname⟩, ?_⟩
  intro w vs B Fin hB hFin hargs
  refine calls_of_wp hf hb ?_
  have hlen := hargs.length
  have hks : ∀ (i : Nat) (p : Nat × Nat), initKs[i]? = some p → p = (i, 100000 + 100000 * i) := by
    intro i p hp
    rw [show initKs = (List.range 12).map fun i => (i, 100000 + 100000 * i) from rfl] at hp
    rw [List.getElem?_map] at hp
    cases hr : (List.range 12)[i]? with
    | none => rw [hr] at hp; cases hp
    | some k =>
      rw [hr] at hp
      rw [List.getElem?_range (by have := nth_lt hr; simpa using this)] at hr
      cases hr; cases hp; rfl
  -- where the parameters' boxes stand is told beyond the blocks
  let Fn : Nat → Prop := fun x => Fin x ∨ ∃ (i b : Nat), vs[i]? = some (.pointer (some ⟨b, 0, none⟩)) ∧ b < w.heap.size ∧ x = w.heap.size * (100000 + 100000 * i + 1) + b
  have hFn : ∀ b, b < w.heap.size → (Fn b ↔ Fin b) := by
    intro b hb
    refine ⟨?_, .inl⟩
    rintro (h | ⟨i, b', _, hb', rfl⟩)
    · exact h
    · exfalso
      have := Nat.le_mul_of_pos_right w.heap.size (show 0 < 100000 + 100000 * i + 1 by omega)
      omega
  have hLoc : ∀ (i b b' : Nat), vs[i]? = some (.pointer (some ⟨b, 0, none⟩)) → Loc w Fn (100000 + 100000 * i) b' → b = b' := by
    rintro i b b' hv ⟨hb', hF⟩
    rcases hF with h | ⟨j, c, hj, hc, e⟩
    · exfalso
      have h2 := hFin _ h
      have := Nat.le_mul_of_pos_right w.heap.size (show 0 < 100000 + 100000 * i + 1 by omega)
      omega
    · have hpos : 0 < w.heap.size := by omega
      have e1 := congrArg (· / w.heap.size) e
      have e2 := congrArg (· % w.heap.size) e
      simp only [Nat.mul_add_div hpos, Nat.mul_add_mod, Nat.div_eq_of_lt hb', Nat.div_eq_of_lt hc, Nat.mod_eq_of_lt hb', Nat.mod_eq_of_lt hc] at e1 e2
      have : i = j := by omega
      subst this
      rw [hv] at hj
      cases hj
      omega
  let a0 : Act := { tmps := vs.toArray ++ Array.replicate (fn.ntmps - vs.toArray.size) undef, defers := [] }
  let g0 : Gh := { B := B, lc := fun _ => 0, rv := fun _ => undef, sz := fun _ => 0, fo := fun _ _ => False }
  have F0 : FR w B Fn ⟨[], [], [], fn.ntmps⟩ a0 w g0 := by
    refine ⟨by simp [a0]; omega, rfl, .refl _ _, fun b hb => ⟨(hB b hb).1, .inl hb⟩, fun k x hk => by simp [lk] at hk, fun id cs hi => by simp [lk] at hi, fun id cs hi => by simp [lk] at hi, fun i j ci cj hi => by simp [lk] at hi, fun i j ri rj b hi => by simp [lk] at hi, fun i j ci rj hi => by simp [lk] at hi, fun i r u hi => by simp [lk] at hi, fun i c b hi => by simp [lk] at hi⟩
  have hTk : Take w w Fn g0 ⟨[], [], [], fn.ntmps⟩ Fin := by
    intro b hb
    refine ⟨hFin b hb, .inl (.inl hb), ?_⟩
    rintro (h1 | ⟨i, c, hi, _⟩ | ⟨j, r, hj, _⟩)
    · exact (hB b h1).2 hb
    · simp [lk] at hi
    · simp [lk] at hj
  obtain ⟨g1, F1, _, hA⟩ := init_sound (lo := 100000) F0 hargs hTk (fun i p v hp hv => by
      have := hks i p hp
      subst this
      have hlt := nth_lt hv
      simp only [a0, Array.getElem?_append, List.size_toArray, hlt, if_true, List.getElem?_toArray, hv]) (fun i p hp => by have := hks i p hp; subst this; simp) (fun i p b b' hp hv hL => by have := hks i p hp; subst this; exact hLoc i b b' hv hL) hi
  obtain ⟨o, ho, h⟩ := h g1.rv
  have F : FE w B Fn ⟨s.t, s.h, o, s.n⟩ a0 w := ⟨g1, tel_sound F1 ho⟩
  have keep : ∀ {w' : World}, Keeps Fn w w' → Keeps Fin w w' := fun k => ⟨k.os, k.tape, k.output, k.size, fun b hb hF => k.block b hb fun h => hF ((hFn b hb).1 h)⟩
  have inF : ∀ b, (Fn b ∨ w.heap.size ≤ b) → Fin b ∨ w.heap.size ≤ b := fun b h => by
    by_cases hb : b < w.heap.size
    · exact h.imp (hFn b hb).1 fun h => h
    · exact .inr (by omega)
  refine Code.wp_mono ?_ (wp_sound (w0 := w) (B0 := B) (Fin := Fn) hT hΦ c F h)
  intro e a' w' hq
  have fin : ∀ s, FE w B Fn s a' w' → AdjW (Ret E.tab fn args g1.rv r) s → a'.defers = [] ∧ ∃ v, (results fn a'.tmps).run P w' = .ok v w' ∧
      ∃ u B' F', Ending.returned v = .returned u ∧ VX w' B' vs r u F' ∧ (∀ b, B' b → b < w'.heap.size ∧ ¬ F' b ∧ (B b ∨ Fin b ∨ w.heap.size ≤ b)) ∧ (∀ b, F' b → b < w'.heap.size ∧ (Fin b ∨ w.heap.size ≤ b)) ∧ Keeps Fin w w' := by
    rintro s ⟨g, F'⟩ ha
    obtain ⟨s1, g, hr, F'⟩ := AdjW.sound ha F'
    refine ⟨F'.df, ?_⟩
    rcases hr with ⟨s2, hr⟩ | hr | ⟨fl, r0, outs, p, s2, s3, hr, hos, hp, rfl⟩
    · obtain ⟨hr, hio⟩ := resultsM1_eq hr
      obtain ⟨v, hv, _, _, hres⟩ := results_M hT F' hr
      refine ⟨v, hv, v, g.B, _, rfl, .inl ⟨hio, hres⟩, fun b hb => ⟨(F'.bb b hb).1, fun hf => hf.2.2.1 (.inl hb), (F'.bb b hb).2.imp (fun h => h) (inF b)⟩, fun b hb => ⟨hb.1, inF b hb.2.1⟩, keep F'.kp⟩
    · obtain ⟨v, hv, hres⟩ := results_S hT F' hr
      exact ⟨v, hv, v, used g s1, _, rfl, .inl ⟨resultsS_io hr, hres⟩, fun b hb => ⟨F'.used_lt hb, fun h => h, (F'.used_in hb).imp (fun h => h) (inF b)⟩, fun b hb => hb.elim, keep F'.kp⟩
    · obtain ⟨v, hv, F2, hs2, hres⟩ := results_M hT F' hr
      have hBk : ∀ b, B b → w'.heap[b]? = w.heap[b]? := fun b hb => F'.kp.block b (hB b hb).1 fun h => (hB b hb).2 ((hFn b (hB b hb).1).1 h)
      obtain ⟨F3, hs3, hvo⟩ := outs_sound (B := fun b => g.B b ∨ B b) hBk (fun b hb => .inr hb) (fun b hb => .inl hb) F2 hargs hA (fun i q cs b hq hy hv => by
        have := hks i q hq; subst this
        have hb : b < w.heap.size := by
          obtain ⟨G, hx, hG⟩ := hargs.nth hy hv
          rcases hx with ⟨y, e, _⟩ | ⟨_, _, e, _⟩ | ⟨_, _, b', _, _, _, e, _, _, _, _, hb'⟩
          · cases e
          · cases e
          · cases e; exact hFin _ (hG _ hb')
        exact ⟨hb, .inr ⟨i, b, hv, hb, rfl⟩⟩) hos hp
      refine ⟨v, hv, v, fun b => g.B b ∨ B b, Freed w w' Fn g s1 s3, rfl, .inr ⟨r0, outs, _, _, rfl, hres.mono (fun b hb => ⟨.inl hb, rfl⟩) (fun _ _ => rfl), hvo, (fun b hb hb' => hb.2.2.1 hb'.2.2.2), (fun b hb => hb.left hs3), (fun b hb => hb.right hs2)⟩, ?_, fun b hb => ⟨hb.1, inF b hb.2.1⟩, keep F'.kp⟩
      rintro b (hb | hb)
      · exact ⟨(F'.bb b hb).1, fun hf => hf.2.2.1 (.inl hb), (F'.bb b hb).2.imp (fun h => h) (inF b)⟩
      · refine ⟨Nat.lt_of_lt_of_le (hB b hb).1 F'.kp.size, fun hf => ?_, .inl hb⟩
        rcases inF b hf.2.1 with h1 | h1
        · exact (hB b hb).2 h1
        · have := (hB b hb).1; omega
  cases e with
  | normal => obtain ⟨s', F', h'⟩ := hq; exact fin s' F' h'
  | ret => obtain ⟨s', F', h'⟩ := hq; exact fin s' F' h'
  | exit i => obtain ⟨s', F', h'⟩ := hq; exact h'.elim
  | goto _ => exact hq.elim
  | panic _ => exact hq.elim
  | outgrown => exact hq.elim

/-- What is told is so. -/
theorem Tells.sound {X : Rel3} (hT : TabOk P E.tab) (hX : ∀ f as r, X f as r → Sound P f as r) {f : FuncId} {args : List AV} {r : AV} (h : Tells P E X f args r) : Sound P f args r :=
  h (Sound P) hX fun _ _ _ _ hf hn hb => body_sound hT (fun _ _ _ h => h) hf hn hb
end
end Go.Ev

set_option linter.unusedVariables false
set_option linter.unusedSimpArgs false
namespace Go.Ev
open Go

def memB (n : Nat) : List Nat → Bool
  | [] => false
  | x :: r => match Nat.beq x n with
    | true => true
    | false => memB n r
def isRp : AV → Bool
  | .rp _ _ _ => true
  | _ => false
/-- does the run halt ahead of an operation (it wants to be told something)? D: the slots whose truth is decided -/
def stopsG (D : List Nat) (s : St) : Op → Bool
  | .pick (.tmp c) _ _ => match memB c D with
    | true => false
    | false => true
  | .pick _ _ _ => true
  | .convert _ _ x => match s.ev x with
    | .t (.sc (.string _)) => true
    | _ => false
  | .load _ p => isRp (s.ev p)
  | .store _ p _ => isRp (s.ev p)
  | .indexAddr _ _ _ => true
  | .index _ x (.const _) => match s.ev x with
    | .t (.sc (.string _)) => true
    | _ => false
  | .index _ _ _ => true
  | .slice _ _ _ _ _ => true
  | .makeSlice _ _ _ => true
  | .call { callee := .builtin .append, .. } => true
  | .call { callee := .builtin _, .. } => false
  | .call _ => true
  | _ => false
def stops (all : List Oper) (D : List Nat) (s : St) (o : Oper) : Bool :=
  match o.guard with
  | some (j, _) => match nthS all j with
    | some p => match p.dst with
      | some d => match memB d D with
        | true => match guardAV all s o.guard with
          | some false => false
          | _ => stopsG D s o.op
        | false => match s.get d with
          | .t (.sc (.tuple _)) => match guardAV all s o.guard with
            | some false => false
            | _ => true
          | _ => true
      | none => true
    | none => true
  | none => stopsG D s o.op

def runOps (tab : Tab) (all : List Oper) (D : List Nat) : List Oper → St → Option (List Oper × St)
  | [], s => some ([], s)
  | o :: rest, s => match stops all D s o with
    | true => some (o :: rest, s)
    | false => match guardAV all s o.guard with
      | some true => match evalO tab s o.op o.dst with
        | some s' => runOps tab all D rest s'
        | none => some (o :: rest, s)
      | some false => match s.putT o.dst (.t (.sc undef)) with
        | some s' => runOps tab all D rest s'
        | none => some (o :: rest, s)
      | none => some (o :: rest, s)

/-- at least one of them -/
def runOps1 (tab : Tab) (all : List Oper) (D : List Nat) (ops : List Oper) (s : St) : Option (List Oper × St) :=
  match ops with
  | [] => none
  | o :: rest => match stops all D s o with
    | true => none
    | false => match guardAV all s o.guard with
      | some true => match evalO tab s o.op o.dst with
        | some s' => runOps tab all D rest s'
        | none => none
      | some false => match s.putT o.dst (.t (.sc undef)) with
        | some s' => runOps tab all D rest s'
        | none => none
      | none => none
theorem runOps1_eq {tab : Tab} {all : List Oper} {D : List Nat} {ops : List Oper} {s : St} {r : List Oper × St} (h : runOps1 tab all D ops s = some r) : runOps tab all D ops s = some r := by
  unfold runOps1 at h
  split at h
  · cases h
  · rename_i o rest
    split at h
    · cases h
    · rename_i hst
      split at h
      · rename_i hg
        split at h
        · rename_i s1 he; rw [runOps]; simp only [hst, hg, he]; exact h
        · cases h
      · rename_i hg
        split at h
        · rename_i s1 he; rw [runOps]; simp only [hst, hg, he]; exact h
        · cases h
      · cases h

def runQ (tab : Tab) (all : List Oper) (D : List Nat) : List Oper → St → Option (List Oper × St)
  | [], s => some ([], s)
  | o :: rest, s => match stops all D s o with
    | true => some (o :: rest, s)
    | false => match o.dst with
      | none => some (o :: rest, s)
      | some d => match guardAV all s o.guard with
        | some true => match turns o.op with
          | true => some (o :: rest, s)
          | false => match evalV tab s o.op with
            | some v => match s.putT (some d) v with
              | some s' => runQ tab all D rest s'
              | none => some (o :: rest, s)
            | none => some (o :: rest, s)
        | some false => match s.putT (some d) (.t (.sc undef)) with
          | some s' => runQ tab all D rest s'
          | none => some (o :: rest, s)
        | none => some (o :: rest, s)
def runQ1 (tab : Tab) (all : List Oper) (D : List Nat) (ops : List Oper) (s : St) : Option (List Oper × St) :=
  match ops with
  | [] => none
  | o :: rest => match stops all D s o with
    | true => none
    | false => match o.dst with
      | some d => match guardAV all s o.guard with
        | some true => match turns o.op with
          | true => none
          | false => match evalV tab s o.op with
            | some v => match s.putT (some d) v with
              | some s' => runQ tab all D rest s'
              | none => none
            | none => none
        | some false => match s.putT (some d) (.t (.sc undef)) with
          | some s' => runQ tab all D rest s'
          | none => none
        | none => none
      | none => none
theorem runQ1_eq {tab : Tab} {all : List Oper} {D : List Nat} {ops : List Oper} {s : St} {r : List Oper × St} (h : runQ1 tab all D ops s = some r) : runQ tab all D ops s = some r := by
  unfold runQ1 at h
  split at h
  · cases h
  · rename_i o rest
    split at h
    · cases h
    · rename_i hst
      split at h
      · rename_i d hd
        split at h
        · rename_i hg
          split at h
          · cases h
          · rename_i ht
            split at h
            · rename_i v he
              split at h
              · rename_i s1 hp; rw [runQ]; simp only [hst, hd, hg, ht, he, hp]; exact h
              · cases h
            · cases h
        · rename_i hg
          split at h
          · rename_i s1 hp; rw [runQ]; simp only [hst, hd, hg, hp]; exact h
          · cases h
        · cases h
      · cases h

/-- a region under way; D: the slots whose truth is decided -/
structure Run (Φ : Rel3) (E : Env) (all : List Oper) (D : List Nat) (lo : Option (List Nat)) (ops : List Oper) (s : St) (K : St → Prop) : Prop where
  h : wpOps Φ E all ops s K
/-- a region in no order under way -/
structure RunQ (Φ : Rel3) (E : Env) (all : List Oper) (D : List Nat) (ops : List Oper) (s : St) (pend : List (Nat × QV × List (List T))) (K : St → Prop) : Prop where
  h : wpQ Φ E all ops s pend K

section
variable {Φ : Rel3} {E : Env} {all : List Oper} {D : List Nat} {lo : Option (List Nat)} {ops rest : List Oper} {o : Oper} {s s' s1 : St} {K : St → Prop} {pend : List (Nat × QV × List (List T))}

theorem isCall_of_stops {all : List Oper} {D : List Nat} {o : Oper} (h : stops all D s o = false) (hg : guardAV all s o.guard = some true) : isCall o.op = none := by
  have : stopsG D s o.op = false := by
    unfold stops at h
    split at h
    · split at h
      · split at h
        · split at h
          · rw [hg] at h; exact h
          · split at h
            · rw [hg] at h; cases h
            · cases h
        · cases h
      · cases h
    · exact h
  unfold isCall
  split
  · rename_i heq; rw [heq] at this; simp [stopsG] at this
  · rfl

theorem AdjW.ofL {K : St → Prop} : ∀ {as : List Adj} {s s1 : St}, adjL s as = some s1 → K s1 → AdjW K s := by
  intro as
  induction as with
  | nil => intro s s1 h k; rw [adjL] at h; cases h; exact AdjW.done _ k
  | cons a as ih =>
    intro s s1 h k
    rw [adjL] at h
    split at h
    case h_2 => cases h
    rename_i s2 h2
    exact .one a s s2 h2 (ih h k)
/-- turns at will -/
theorem Run.adjw (h : AdjW (fun s1 => Run Φ E all D lo ops s1 K) s) : Run Φ E all D lo ops s K := by
  have h := AdjW.mono (fun _ r => Run.h r) h
  refine ⟨?_⟩
  cases ops with
  | nil => exact AdjW.join h
  | cons o r => exact AdjW.join h
theorem Run.adj (as : List Adj) (h : adjL s as = some s1) (k : Run Φ E all D lo ops s1 K) : Run Φ E all D lo ops s K := Run.adjw (AdjW.ofL h k)

theorem Run.go (h : runOps E.tab all D ops s = some (rest, s')) (k : Run Φ E all D lo rest s' K) : Run Φ E all D lo ops s K := by
  replace k := k.h
  refine ⟨?_⟩
  induction ops generalizing s with
  | nil => rw [runOps] at h; cases h; exact k
  | cons o r ih =>
    rw [runOps] at h
    cases hst : stops all D s o with
    | true => rw [hst] at h; cases h; exact k
    | false =>
      rw [hst] at h
      cases hg : guardAV all s o.guard with
      | none => rw [hg] at h; cases h; exact k
      | some b =>
        rw [hg] at h
        cases b with
        | true =>
          cases he : evalO E.tab s o.op o.dst with
          | none => simp only [he] at h; cases h; exact k
          | some s1 =>
            simp only [he] at h
            refine AdjW.done _ ⟨true, hg, ?_⟩
            show wpOp _ _ _ _ _ _
            unfold wpOp
            simp only [isCall_of_stops hst hg]
            exact .inl ⟨s1, he, ih h⟩
        | false =>
          cases he : s.putT o.dst (.t (.sc undef)) with
          | none => simp only [he] at h; cases h; exact k
          | some s1 =>
            simp only [he] at h
            exact AdjW.done _ ⟨false, hg, s1, he, ih h⟩

theorem Run.go1 (h : runOps1 E.tab all D ops s = some (rest, s')) (k : Run Φ E all D lo rest s' K) : Run Φ E all D lo ops s K := Run.go (runOps1_eq h) k
/-- what lives on behind a region -/
def adjO (lo : Option (List Nat)) (s : St) : Option St :=
  match lo with
  | none => some s
  | some ts => adj s (.slots ts)
theorem Run.done (h : adjO lo s = some s') (k : K s') : Run Φ E all D lo [] s K := by
  refine ⟨?_⟩
  cases lo with
  | none => cases h; exact AdjW.done _ k
  | some ts => exact AdjW.one (.slots ts) _ _ h (AdjW.done _ k)

theorem RunQ.go (h : runQ E.tab all D ops s = some (rest, s')) (k : RunQ Φ E all D rest s' pend K) : RunQ Φ E all D ops s pend K := by
  replace k := k.h
  refine ⟨?_⟩
  induction ops generalizing s with
  | nil => rw [runQ] at h; cases h; exact k
  | cons o r ih =>
    rw [runQ] at h
    cases hst : stops all D s o with
    | true => rw [hst] at h; cases h; exact k
    | false =>
      rw [hst] at h
      cases hd : o.dst with
      | none => simp only [hd] at h; cases h; exact k
      | some d =>
        simp only [hd] at h
        cases hg : guardAV all s o.guard with
        | none => simp only [hg] at h; cases h; exact k
        | some b =>
          simp only [hg] at h
          cases b with
          | true =>
            cases ht : turns o.op with
            | true => simp only [ht] at h; cases h; exact k
            | false =>
              simp only [ht] at h
              cases he : evalV E.tab s o.op with
              | none => simp only [he] at h; cases h; exact k
              | some v =>
                simp only [he] at h
                cases hp : s.putT (some d) v with
                | none => simp only [hp] at h; cases h; exact k
                | some s1 =>
                  simp only [hp] at h
                  refine ⟨d, v, none, s1, hd, ⟨true, hg, ?_⟩, hp, ih h⟩
                  simp only [isCall_of_stops hst hg]
                  exact .inl ⟨he, ht, trivial⟩
          | false =>
            cases hp : s.putT (some d) (.t (.sc undef)) with
            | none => simp only [hp] at h; cases h; exact k
            | some s1 =>
              simp only [hp] at h
              exact ⟨d, _, none, s1, hd, ⟨false, hg, rfl, rfl⟩, hp, ih h⟩
theorem RunQ.go1 (h : runQ1 E.tab all D ops s = some (rest, s')) (k : RunQ Φ E all D rest s' pend K) : RunQ Φ E all D ops s pend K := RunQ.go (runQ1_eq h) k
theorem RunQ.done {t : List (Nat × AV)} {h : List (Nat × List AV)} {oo os : List (Nat × QV × List (List T))} {n : Nat} (ho : appS pend oo = some os) (k : K ⟨t, h, os, n⟩) : RunQ Φ E all D [] ⟨t, h, oo, n⟩ pend K := ⟨⟨os, ho, k⟩⟩
theorem RunQ.call {d : Nat} {f : Operand} {args : Array Operand} {g : FuncId} {as : List AV} {r v : AV} (hd : o.dst = some d) (hg : guardAV all s o.guard = some true) (hc : isCall o.op = some (f, args)) (hcg : calleeG s f = some g)
    (ha : argsAV E.md s f args.toList = some (g, as, s)) (hm : allF (modeOf E.md g) = true) (hr : Φ g as r) (hp : argsPlain E.md s f args.toList g = true ∨ r.own) (hq : qRes d r = some (v, none)) (he : s.putT (some d) v = some s') (k : RunQ Φ E all D rest s' pend K) : RunQ Φ E all D (o :: rest) s pend K := by
  refine ⟨⟨d, v, none, s', hd, ⟨true, hg, ?_⟩, he, k.h⟩⟩
  simp only [hc]
  exact ⟨g, as, r, hcg, ha, hm, hr, hp, hq⟩
theorem RunQ.callO {d : Nat} {f : Operand} {args : Array Operand} {g : FuncId} {as : List AV} {r v : AV} {rows : List (List T)} (hd : o.dst = some d) (hg : guardAV all s o.guard = some true) (hc : isCall o.op = some (f, args)) (hcg : calleeG s f = some g)
    (ha : argsAV E.md s f args.toList = some (g, as, s)) (hm : allF (modeOf E.md g) = true) (hr : Φ g as r) (hp : argsPlain E.md s f args.toList g = true ∨ r.own) (hq : qRes d r = some (v, some rows)) (he : s.putT (some d) v = some s') (hf : s.free d = true) (k : RunQ Φ E all D rest s' ((d, 0, rows) :: pend) K) : RunQ Φ E all D (o :: rest) s pend K := by
  refine ⟨⟨d, v, some rows, s', hd, ⟨true, hg, ?_⟩, he, hf, k.h⟩⟩
  simp only [hc]
  exact ⟨g, as, r, hcg, ha, hm, hr, hp, hq⟩

theorem RunQ.build {d : Nat} {rows : List (List T)} (hd : o.dst = some d) (hg : guardAV all s o.guard = some true) (hc : isCall o.op = none) (hb : buildQ E.tab s o.op = some rows) (he : s.putT (some d) (.rf d) = some s') (hf : s.free d = true) (k : RunQ Φ E all D rest s' ((d, 0, rows) :: pend) K) : RunQ Φ E all D (o :: rest) s pend K := by
  refine ⟨⟨d, _, some rows, s', hd, ⟨true, hg, ?_⟩, he, hf, k.h⟩⟩
  simp only [hc]
  exact .inr (by simpa using hb)

theorem pu_same {α : Type} {l : List (Nat × α)} {d : Nat} {v : α} (h : lk l d = some v) : pu l d v = some l := by
  induction l with
  | nil => cases h
  | cons x r ih =>
    obtain ⟨k, w⟩ := x
    rw [pu]
    rw [lk] at h
    cases hk : Nat.beq k d with
    | true => rw [hk] at h; cases h; rfl
    | false => rw [hk] at h; simp only [ih h]

/-- a truth in a slot is decided -/
theorem Run.split (d : Nat) {p : Bool} {t t1 t0 : List (Nat × AV)} {h : List (Nat × List AV)} {oo : List (Nat × QV × List (List T))} {n : Nat} (hd : lk t d = some (.t (.sc (.bool p)))) (h1 : pu t d (.t (.sc (.bool true))) = some t1) (h0 : pu t d (.t (.sc (.bool false))) = some t0)
    (k1 : p = true → Run Φ E all (d :: D) lo ops ⟨t1, h, oo, n⟩ K) (k0 : p = false → Run Φ E all (d :: D) lo ops ⟨t0, h, oo, n⟩ K) : Run Φ E all D lo ops ⟨t, h, oo, n⟩ K := by
  cases p with
  | true => rw [pu_same hd] at h1; cases h1; exact ⟨(k1 rfl).h⟩
  | false => rw [pu_same hd] at h0; cases h0; exact ⟨(k0 rfl).h⟩
theorem RunQ.split (d : Nat) {p : Bool} {t t1 t0 : List (Nat × AV)} {h : List (Nat × List AV)} {oo : List (Nat × QV × List (List T))} {n : Nat} (hd : lk t d = some (.t (.sc (.bool p)))) (h1 : pu t d (.t (.sc (.bool true))) = some t1) (h0 : pu t d (.t (.sc (.bool false))) = some t0)
    (k1 : p = true → RunQ Φ E all (d :: D) ops ⟨t1, h, oo, n⟩ pend K) (k0 : p = false → RunQ Φ E all (d :: D) ops ⟨t0, h, oo, n⟩ pend K) : RunQ Φ E all D ops ⟨t, h, oo, n⟩ pend K := by
  cases p with
  | true => rw [pu_same hd] at h1; cases h1; exact ⟨(k1 rfl).h⟩
  | false => rw [pu_same hd] at h0; cases h0; exact ⟨(k0 rfl).h⟩

theorem Run.splitG {j : Nat} {want : Bool} {dst : Option Nat} {op : Op} {tyr : Nat} {pos : String} {after : Array Edge} {q : Oper} {d : Nat} {p : Bool} {t t1 t0 : List (Nat × AV)} {h : List (Nat × List AV)} {oo : List (Nat × QV × List (List T))} {n : Nat}
    (hj : nthS all j = some q) (hq : q.dst = some d) (hD : memB d D = false) (hd : lk t d = some (.t (.sc (.bool p)))) (h1 : pu t d (.t (.sc (.bool true))) = some t1) (h0 : pu t d (.t (.sc (.bool false))) = some t0)
    (k1 : p = true → Run Φ E all (d :: D) lo ({ dst, op, type := tyr, pos, after, guard := some (j, want) } :: rest) ⟨t1, h, oo, n⟩ K)
    (k0 : p = false → Run Φ E all (d :: D) lo ({ dst, op, type := tyr, pos, after, guard := some (j, want) } :: rest) ⟨t0, h, oo, n⟩ K) :
    Run Φ E all D lo ({ dst, op, type := tyr, pos, after, guard := some (j, want) } :: rest) ⟨t, h, oo, n⟩ K := by
  have _ := hj; have _ := hq; have _ := hD
  exact Run.split d hd h1 h0 k1 k0
theorem Run.splitP {dst : Option Nat} {a b : Operand} {tyr : Nat} {pos : String} {after : Array Edge} {g : Option (Nat × Bool)} {d : Nat} {p : Bool} {t t1 t0 : List (Nat × AV)} {h : List (Nat × List AV)} {oo : List (Nat × QV × List (List T))} {n : Nat}
    (hD : memB d D = false) (hd : lk t d = some (.t (.sc (.bool p)))) (h1 : pu t d (.t (.sc (.bool true))) = some t1) (h0 : pu t d (.t (.sc (.bool false))) = some t0)
    (k1 : p = true → Run Φ E all (d :: D) lo ({ dst, op := .pick (.tmp d) a b, type := tyr, pos, after, guard := g } :: rest) ⟨t1, h, oo, n⟩ K)
    (k0 : p = false → Run Φ E all (d :: D) lo ({ dst, op := .pick (.tmp d) a b, type := tyr, pos, after, guard := g } :: rest) ⟨t0, h, oo, n⟩ K) :
    Run Φ E all D lo ({ dst, op := .pick (.tmp d) a b, type := tyr, pos, after, guard := g } :: rest) ⟨t, h, oo, n⟩ K := by
  have _ := hD
  exact Run.split d hd h1 h0 k1 k0
theorem RunQ.splitG {j : Nat} {want : Bool} {dst : Option Nat} {op : Op} {tyr : Nat} {pos : String} {after : Array Edge} {q : Oper} {d : Nat} {p : Bool} {t t1 t0 : List (Nat × AV)} {h : List (Nat × List AV)} {oo : List (Nat × QV × List (List T))} {n : Nat}
    (hj : nthS all j = some q) (hq : q.dst = some d) (hD : memB d D = false) (hd : lk t d = some (.t (.sc (.bool p)))) (h1 : pu t d (.t (.sc (.bool true))) = some t1) (h0 : pu t d (.t (.sc (.bool false))) = some t0)
    (k1 : p = true → RunQ Φ E all (d :: D) ({ dst, op, type := tyr, pos, after, guard := some (j, want) } :: rest) ⟨t1, h, oo, n⟩ pend K)
    (k0 : p = false → RunQ Φ E all (d :: D) ({ dst, op, type := tyr, pos, after, guard := some (j, want) } :: rest) ⟨t0, h, oo, n⟩ pend K) :
    RunQ Φ E all D ({ dst, op, type := tyr, pos, after, guard := some (j, want) } :: rest) ⟨t, h, oo, n⟩ pend K := by
  have _ := hj; have _ := hq; have _ := hD
  exact RunQ.split d hd h1 h0 k1 k0
theorem RunQ.splitP {dst : Option Nat} {a b : Operand} {tyr : Nat} {pos : String} {after : Array Edge} {g : Option (Nat × Bool)} {d : Nat} {p : Bool} {t t1 t0 : List (Nat × AV)} {h : List (Nat × List AV)} {oo : List (Nat × QV × List (List T))} {n : Nat}
    (hD : memB d D = false) (hd : lk t d = some (.t (.sc (.bool p)))) (h1 : pu t d (.t (.sc (.bool true))) = some t1) (h0 : pu t d (.t (.sc (.bool false))) = some t0)
    (k1 : p = true → RunQ Φ E all (d :: D) ({ dst, op := .pick (.tmp d) a b, type := tyr, pos, after, guard := g } :: rest) ⟨t1, h, oo, n⟩ pend K)
    (k0 : p = false → RunQ Φ E all (d :: D) ({ dst, op := .pick (.tmp d) a b, type := tyr, pos, after, guard := g } :: rest) ⟨t0, h, oo, n⟩ pend K) :
    RunQ Φ E all D ({ dst, op := .pick (.tmp d) a b, type := tyr, pos, after, guard := g } :: rest) ⟨t, h, oo, n⟩ pend K := by
  have _ := hD
  exact RunQ.split d hd h1 h0 k1 k0
def told : Option AV → Bool
  | some (.t (.sc (.bool true))) => true
  | some (.t (.sc (.bool false))) => true
  | _ => false
theorem Run.gT {j : Nat} {want : Bool} {dst : Option Nat} {op : Op} {tyr : Nat} {pos : String} {after : Array Edge} {q : Oper} {d : Nat}
    (hj : nthS all j = some q) (hq : q.dst = some d) (hD : memB d D = false) (hd : told (lk s.t d) = true) (k1 : Run Φ E all (d :: D) lo ({ dst, op, type := tyr, pos, after, guard := some (j, want) } :: rest) s K) :
    Run Φ E all D lo ({ dst, op, type := tyr, pos, after, guard := some (j, want) } :: rest) s K := by
  have _ := hj; have _ := hq; have _ := hD; have _ := hd
  exact ⟨k1.h⟩
theorem Run.pT {dst : Option Nat} {a b : Operand} {tyr : Nat} {pos : String} {after : Array Edge} {g : Option (Nat × Bool)} {d : Nat}
    (hD : memB d D = false) (hd : told (lk s.t d) = true) (k1 : Run Φ E all (d :: D) lo ({ dst, op := .pick (.tmp d) a b, type := tyr, pos, after, guard := g } :: rest) s K) :
    Run Φ E all D lo ({ dst, op := .pick (.tmp d) a b, type := tyr, pos, after, guard := g } :: rest) s K := by
  have _ := hD; have _ := hd
  exact ⟨k1.h⟩
theorem RunQ.gT {j : Nat} {want : Bool} {dst : Option Nat} {op : Op} {tyr : Nat} {pos : String} {after : Array Edge} {q : Oper} {d : Nat}
    (hj : nthS all j = some q) (hq : q.dst = some d) (hD : memB d D = false) (hd : told (lk s.t d) = true) (k1 : RunQ Φ E all (d :: D) ({ dst, op, type := tyr, pos, after, guard := some (j, want) } :: rest) s pend K) :
    RunQ Φ E all D ({ dst, op, type := tyr, pos, after, guard := some (j, want) } :: rest) s pend K := by
  have _ := hj; have _ := hq; have _ := hD; have _ := hd
  exact ⟨k1.h⟩
theorem RunQ.pT {dst : Option Nat} {a b : Operand} {tyr : Nat} {pos : String} {after : Array Edge} {g : Option (Nat × Bool)} {d : Nat}
    (hD : memB d D = false) (hd : told (lk s.t d) = true) (k1 : RunQ Φ E all (d :: D) ({ dst, op := .pick (.tmp d) a b, type := tyr, pos, after, guard := g } :: rest) s pend K) :
    RunQ Φ E all D ({ dst, op := .pick (.tmp d) a b, type := tyr, pos, after, guard := g } :: rest) s pend K := by
  have _ := hD; have _ := hd
  exact ⟨k1.h⟩
/-- a guard that is told already -/
theorem Run.hadG {j : Nat} {want : Bool} {dst : Option Nat} {op : Op} {tyr : Nat} {pos : String} {after : Array Edge} {q : Oper} {d : Nat}
    (hj : nthS all j = some q) (hq : q.dst = some d) (hD : memB d D = false) (k1 : Run Φ E all (d :: D) lo ({ dst, op, type := tyr, pos, after, guard := some (j, want) } :: rest) s K) :
    Run Φ E all D lo ({ dst, op, type := tyr, pos, after, guard := some (j, want) } :: rest) s K := by
  have _ := hj; have _ := hq; have _ := hD
  exact ⟨k1.h⟩

theorem Run.one (hg : guardAV all s o.guard = some true) (hc : isCall o.op = none) (he : evalO E.tab s o.op o.dst = some s') (k : Run Φ E all D lo rest s' K) : Run Φ E all D lo (o :: rest) s K := by
  refine ⟨AdjW.done _ ⟨true, hg, ?_⟩⟩
  show wpOp _ _ _ _ _ _
  unfold wpOp
  simp only [hc]
  exact .inl ⟨s', he, k.h⟩
/-- an operation that wants something to hold -/
theorem Run.cnd {c : Prop} (hg : guardAV all s o.guard = some true) (hc : isCall o.op = none) (he : evalC E.tab s o.op o.dst = some (c, s')) (hcc : c) (k : Run Φ E all D lo rest s' K) : Run Φ E all D lo (o :: rest) s K := by
  refine ⟨AdjW.done _ ⟨true, hg, ?_⟩⟩
  show wpOp _ _ _ _ _ _
  unfold wpOp
  simp only [hc]
  exact .inr (.inl ⟨c, s', .inl he, hcc, k.h⟩)
theorem Run.cnd2 {c : Prop} (hg : guardAV all s o.guard = some true) (hc : isCall o.op = none) (he : evalC2 E.tab s o.op o.dst = some (c, s')) (hcc : c) (k : Run Φ E all D lo rest s' K) : Run Φ E all D lo (o :: rest) s K := by
  refine ⟨AdjW.done _ ⟨true, hg, ?_⟩⟩
  show wpOp _ _ _ _ _ _
  unfold wpOp
  simp only [hc]
  exact .inr (.inl ⟨c, s', .inr (.inl he), hcc, k.h⟩)

theorem Run.call {f : Operand} {args : Array Operand} {g : FuncId} {as : List AV} {r : AV} (hg : guardAV all s o.guard = some true) (hc : isCall o.op = some (f, args))
    (ha : argsAV E.md s f args.toList = some (g, as, s1)) (hr : Φ g as r) (hp : argsPlain E.md s1 f args.toList g = true) (he : putBack s s1 o.dst args.toList r = some s') (k : Run Φ E all D lo rest s' K) : Run Φ E all D lo (o :: rest) s K := by
  refine ⟨AdjW.done _ ⟨true, hg, ?_⟩⟩
  show wpOp _ _ _ _ _ _
  unfold wpOp
  simp only [hc]
  exact .inl ⟨g, as, r, s1, s', ha, hr, .inl hp, he, k.h⟩
/-- a closure over boxes that slots ks hold, too -/
theorem Run.callV (ks : List Nat) {f : Operand} {args : Array Operand} {g : FuncId} {as : List AV} {r : AV} {xs : List Operand} {ms : List Bool} (hg : guardAV all s o.guard = some true) (hc : isCall o.op = some (f, args)) (hcap : capsV s f ks = some g) (hx : withCaps args.toList ks = xs) (hm : modeOf E.md g = ms)
    (ha : movesL ms s xs = some (as, s1)) (hr : Φ g as r) (hp : allPlain ms s1 xs = true ∨ r.own) (he : putBack s s1 o.dst xs r = some s') (k : Run Φ E all D lo rest s' K) : Run Φ E all D lo (o :: rest) s K := by
  subst hx; subst hm
  refine ⟨AdjW.done _ ⟨true, hg, ?_⟩⟩
  show wpOp _ _ _ _ _ _
  unfold wpOp
  simp only [hc]
  exact .inr ⟨ks, g, as, r, s1, s', hcap, ha, hr, hp, he, k.h⟩
theorem Run.callB {f : Operand} {args : Array Operand} {g : FuncId} {as : List AV} {r : AV} (hg : guardAV all s o.guard = some true) (hc : isCall o.op = some (f, args))
    (ha : argsAV E.md s f args.toList = some (g, as, s1)) (hr : Φ g as r) (hp : r.own) (he : putBack s s1 o.dst args.toList r = some s') (k : Run Φ E all D lo rest s' K) : Run Φ E all D lo (o :: rest) s K := by
  refine ⟨AdjW.done _ ⟨true, hg, ?_⟩⟩
  show wpOp _ _ _ _ _ _
  unfold wpOp
  simp only [hc]
  exact .inl ⟨g, as, r, s1, s', ha, hr, .inr hp, he, k.h⟩

/-- a call of a function whose number is not told: nothing goes for good -/
def argsM (s : St) (f : Operand) (args : List Operand) : Option (FuncId × List AV × St) :=
  match movesL [] s args with
  | some (as, s) => match calleeAV s f with
    | some (g, caps) => match appS as caps with
      | some l => some (g, l, s)
      | none => none
    | none => none
  | none => none
def plainM (s : St) (f : Operand) (args : List Operand) : Bool :=
  match (s.ev f).plain with
  | true => allPlain [] s args
  | false => false
theorem Run.callF {f : Operand} {args : Array Operand} {g : FuncId} {as : List AV} {r : AV} (hg : guardAV all s o.guard = some true) (hc : isCall o.op = some (f, args)) (hcg : calleeG s f = some g) (hm : modeOf E.md g = [])
    (ha : argsM s f args.toList = some (g, as, s1)) (hr : Φ g as r) (hp : plainM s1 f args.toList = true) (he : putBack s s1 o.dst args.toList r = some s') (k : Run Φ E all D lo rest s' K) : Run Φ E all D lo (o :: rest) s K := by
  refine Run.call (g := g) (as := as) (s1 := s1) hg hc ?_ hr ?_ he k
  · unfold argsAV; unfold argsM at ha; simp only [hcg, hm]; exact ha
  · unfold argsPlain; unfold plainM at hp; simp only [hm]; exact hp
theorem Run.cnd3 {c : Prop} (hg : guardAV all s o.guard = some true) (hc : isCall o.op = none) (he : evalC3 E.tab s o.op o.dst = some (c, s')) (hcc : c) (k : Run Φ E all D lo rest s' K) : Run Φ E all D lo (o :: rest) s K := by
  refine ⟨AdjW.done _ ⟨true, hg, ?_⟩⟩
  show wpOp _ _ _ _ _ _
  unfold wpOp
  simp only [hc]
  exact .inr (.inl ⟨c, s', .inr (.inr (.inl he)), hcc, k.h⟩)

theorem Run.cnd4 {c : Prop} (hg : guardAV all s o.guard = some true) (hc : isCall o.op = none) (he : evalC4 E.tab s o.op o.dst = some (c, s')) (hcc : c) (k : Run Φ E all D lo rest s' K) : Run Φ E all D lo (o :: rest) s K := by
  refine ⟨AdjW.done _ ⟨true, hg, ?_⟩⟩
  show wpOp _ _ _ _ _ _
  unfold wpOp
  simp only [hc]
  exact .inr (.inl ⟨c, s', .inr (.inr (.inr he)), hcc, k.h⟩)
/-- is a slice nil? -/
theorem Run.nilc {n : Bool} {rows : List (List T)} {f : Bool → St} (hg : guardAV all s o.guard = some true) (hc : isCall o.op = none) (he : nilQ E.tab s o.op = some (n, rows)) (hp : ∀ b, s.putT o.dst (.t (.sc (.bool b))) = some (f b))
    (k1 : rows ≠ [] → Run Φ E all D lo rest (f n) K) (k2 : rows = [] → ∀ b, Run Φ E all D lo rest (f b) K) : Run Φ E all D lo (o :: rest) s K := by
  refine ⟨AdjW.done _ ⟨true, hg, ?_⟩⟩
  show wpOp _ _ _ _ _ _
  unfold wpOp
  simp only [hc]
  exact .inr (.inr ⟨n, rows, f, he, hp, fun h => (k1 h).h, fun h b => (k2 h b).h⟩)

/-- xs[i], its row told -/
theorem Run.ix {dst : Option Nat} {ty : Nat} {x i : Operand} {tyr : Nat} {pos : String} {after : Array Edge} {g : Option (Nat × Bool)} {xv y : AV} {rows : List (List T)} {kk : IntKind} {n : Int} {k : Nat} {e sz by' : Nat} {z : Option (List T)} {ei : TI} {r : List T}
    (hg : guardAV all s g = some true) (hx : evA s x = some xv) (hrows : rowsAV s xv = some rows) (hi : s.ev i = .t (.sc (.int kk n))) (ht : lk E.tab ty = some ⟨.sl e, sz, by', z⟩) (he : lk E.tab e = some ei)
    (hn : n = (k : Int)) (hr : rows[k]? = some r) (hl : lenS r ei.size = true) (hy : rowPtr xv k r = some y) (hp : s.putT dst y = some s') (K1 : Run Φ E all D lo rest s' K) :
    Run Φ E all D lo ({ dst, op := .indexAddr ty x i, type := tyr, pos, after, guard := g } :: rest) s K := by
  refine Run.one hg rfl ?_ K1
  subst hn
  have h0 : (0 : Int) ≤ (k : Int) := by omega
  simp only [evalO, turns, evalV, hi, indexAddrAV, ht, hx, hrows, he, h0, if_true, Int.toNat_natCast, hr, hl, hy, hp]
theorem RunQ.ix {d : Nat} {ty : Nat} {x i : Operand} {tyr : Nat} {pos : String} {after : Array Edge} {g : Option (Nat × Bool)} {xv y : AV} {rows : List (List T)} {kk : IntKind} {n : Int} {k : Nat} {e sz by' : Nat} {z : Option (List T)} {ei : TI} {r : List T}
    (hg : guardAV all s g = some true) (hx : evA s x = some xv) (hrows : rowsAV s xv = some rows) (hi : s.ev i = .t (.sc (.int kk n))) (ht : lk E.tab ty = some ⟨.sl e, sz, by', z⟩) (he : lk E.tab e = some ei)
    (hn : n = (k : Int)) (hr : rows[k]? = some r) (hl : lenS r ei.size = true) (hy : rowPtr xv k r = some y) (hp : s.putT (some d) y = some s') (K1 : RunQ Φ E all D rest s' pend K) :
    RunQ Φ E all D ({ dst := some d, op := .indexAddr ty x i, type := tyr, pos, after, guard := g } :: rest) s pend K := by
  refine ⟨⟨d, y, none, s', rfl, ⟨true, hg, ?_⟩, hp, K1.h⟩⟩
  subst hn
  have h0 : (0 : Int) ≤ (k : Int) := by omega
  refine .inl ⟨?_, rfl, rfl⟩
  simp only [evalV, hi, indexAddrAV, ht, hx, hrows, he, h0, if_true, Int.toNat_natCast, hr, hl, hy]

/-- what a load reads in a root's row -/
def loadRow (tab : Tab) (ty id k : Nat) (r : List T) : Option AV :=
  match lk tab ty with
  | some ti => match dropS k r with
    | some cs => match cellsRp id cs with
      | some cs => match ti.d.isAgg with
        | true => match takeS ti.size cs with
          | some l => some (.ag l)
          | none => none
        | false => match nthS cs 0 with
          | some v => fA v
          | none => none
      | none => none
    | none => none
  | none => none
theorem loadRow_eq {tab : Tab} {ty id i k : Nat} {q : QV} {rows : List (List T)} {r : List T} {v : AV} (ho : lk s.o id = some (q, rows)) (hr : rows[i]? = some r) (h : loadRow tab ty id k r = some v) : loadAV tab s ty (.rp id i k) = some v := by
  unfold loadRow at h
  unfold loadAV
  cases h1 : lk tab ty with
  | none => rw [h1] at h; cases h
  | some ti =>
    rw [h1] at h
    simp only [ptrCells, ho, hr] at h ⊢
    cases h2 : dropS k r with
    | none => rw [h2] at h; cases h
    | some c0 =>
      rw [h2] at h
      simp only at h ⊢
      cases h3 : cellsRp id c0 with
      | none => rw [h3] at h; cases h
      | some c1 => rw [h3] at h; exact h
theorem Run.ldr {dst : Option Nat} {ty : Nat} {p : Operand} {tyr : Nat} {pos : String} {after : Array Edge} {g : Option (Nat × Bool)} {id i k : Nat} {q : QV} {rows : List (List T)} {r : List T} {v : AV}
    (hg : guardAV all s g = some true) (hp : s.ev p = .rp id i k) (ho : lk s.o id = some (q, rows)) (hr : rows[i]? = some r) (hv : loadRow E.tab ty id k r = some v) (hput : s.putT dst v = some s') (K1 : Run Φ E all D lo rest s' K) :
    Run Φ E all D lo ({ dst, op := .load ty p, type := tyr, pos, after, guard := g } :: rest) s K := by
  refine Run.one hg rfl ?_ K1
  simp only [evalO, turns, evalV, hp, loadRow_eq ho hr hv, hput]
theorem RunQ.ldr {d : Nat} {ty : Nat} {p : Operand} {tyr : Nat} {pos : String} {after : Array Edge} {g : Option (Nat × Bool)} {id i k : Nat} {q : QV} {rows : List (List T)} {r : List T} {v : AV}
    (hg : guardAV all s g = some true) (hp : s.ev p = .rp id i k) (ho : lk s.o id = some (q, rows)) (hr : rows[i]? = some r) (hv : loadRow E.tab ty id k r = some v) (hput : s.putT (some d) v = some s') (K1 : RunQ Φ E all D rest s' pend K) :
    RunQ Φ E all D ({ dst := some d, op := .load ty p, type := tyr, pos, after, guard := g } :: rest) s pend K := by
  refine ⟨⟨d, v, none, s', rfl, ⟨true, hg, ?_⟩, hput, K1.h⟩⟩
  refine .inl ⟨?_, rfl, rfl⟩
  simp only [evalV, hp, loadRow_eq ho hr hv]

/-- what a store leaves of a root's row -/
def storeRow (s : St) (id i k size : Nat) (cs : List AV) (r : List T) : Option (List (List T) × St) :=
  match lenS cs size with
  | true => match absorbL s cs with
    | some (ts, s) => match lk s.o id with
      | some (q, rows) => match setS r k ts with
        | some r' => match s.putO id q (rows.set i r') with
          | some s => some (rows, s)
          | none => none
        | none => none
      | none => none
    | none => none
  | false => none
theorem storeRow_eq {id i k size : Nat} {cs : List AV} {r : List T} {rows : List (List T)} (h : storeRow s id i k size cs r = some (rows, s1)) (hr : rows[i]? = some r) : storeRp s id i k size cs = some s1 := by
  unfold storeRow at h
  unfold storeRp
  cases h1 : lenS cs size with
  | false => rw [h1] at h; cases h
  | true =>
    rw [h1] at h
    cases h2 : absorbL s cs with
    | none => rw [h2] at h; cases h
    | some p =>
      obtain ⟨ts, s2⟩ := p
      rw [h2] at h
      simp only at h ⊢
      cases h3 : lk s2.o id with
      | none => rw [h3] at h; cases h
      | some p =>
        obtain ⟨q, rows'⟩ := p
        rw [h3] at h
        simp only at h ⊢
        cases h4 : setS r k ts with
        | none => rw [h4] at h; cases h
        | some r' =>
          rw [h4] at h
          simp only at h ⊢
          cases h5 : s2.putO id q (rows'.set i r') with
          | none => rw [h5] at h; cases h
          | some s3 =>
            rw [h5] at h
            simp only at h
            cases h
            rw [hr]; simp only [h4, h5]
theorem Run.str {dst : Option Nat} {ty : Nat} {p x : Operand} {tyr : Nat} {pos : String} {after : Array Edge} {g : Option (Nat × Bool)} {ti : TI} {id i k : Nat} {cs0 cs : List AV} {rows : List (List T)} {r : List T} {q0 : QV}
    (hg : guardAV all s g = some true) (ht : lk E.tab ty = some ti) (hp : s.ev p = .rp id i k) (hx : (s.ev x).cells? = some cs0) (hx2 : mapS fA cs0 = some cs) (ho : lk s.o id = some (q0, rows)) (hr : rows[i]? = some r) (hs : storeRow s id i k ti.size cs r = some (rows, s1))
    (hput : s1.putT dst (.t (.sc undef)) = some s') (K1 : Run Φ E all D lo rest s' K) :
    Run Φ E all D lo ({ dst, op := .store ty p x, type := tyr, pos, after, guard := g } :: rest) s K := by
  have _ := ho
  refine Run.one hg rfl ?_ K1
  simp only [evalO, turns, evalM, ht, hx, hx2, hp, storeRow_eq hs hr, hput]
/-- a part of a shared slice -/
theorem Run.slt {dst : Option Nat} {ty : Nat} {x : Operand} {l0 hi : Option Operand} {tyr : Nat} {pos : String} {after : Array Edge} {g : Option (Nat × Bool)} {ow : Bool} {rows : List (List T)} {e sz by' : Nat} {z : Option (List T)} {ei : TI} {l h : Int}
    (hg : guardAV all s g = some true) (hx : s.ev x = .t (.sl ow rows)) (ht : lk E.tab ty = some ⟨.sl e, sz, by', z⟩) (he : lk E.tab e = some ei) (hl : boundAV s l0 0 = some l) (hh : boundAV s hi rows.length = some h)
    (hc : 0 ≤ l ∧ l ≤ h ∧ h ≤ rows.length ∧ ∀ r ∈ rows, r.length = ei.size) (hp : s.putT dst (.t (.sl false ((rows.take h.toNat).drop l.toNat))) = some s') (K1 : Run Φ E all D lo rest s' K) :
    Run Φ E all D lo ({ dst, op := .slice ty x l0 hi none, type := tyr, pos, after, guard := g } :: rest) s K := by
  refine Run.one hg rfl ?_ K1
  cases hi with
  | none =>
    simp only [boundAV, Option.some.injEq] at hh
    subst hh
    simp only [evalO, turns, evalV, hl, sliceAV, ht, hx, he, Option.getD_some, Option.getD_none]
    rw [if_pos hc]; simp only [hp]
  | some y =>
    have hh' : boundAV s (some y) 0 = some h := by simpa only [boundAV] using hh
    simp only [evalO, turns, evalV, hl, hh', sliceAV, ht, hx, he, Option.getD_some]
    rw [if_pos hc]; simp only [hp]
end

section
variable {Φ : Rel3} {E : Env} {s s' : St} {Q : Ex → St → Prop}
theorem wpOps_mono {Φ' : Rel3} (hΦ : ∀ f as r, Φ f as r → Φ' f as r) {all : List Oper} : ∀ (ops : List Oper) (s : St) (K K' : St → Prop), (∀ s, K s → K' s) → wpOps Φ E all ops s K → wpOps Φ' E all ops s K' := by
  intro ops
  induction ops with
  | nil => intro s K K' hk h; exact AdjW.mono hk h
  | cons o rest ih =>
    intro s K K' hk h
    refine AdjW.mono ?_ h
    rintro s0 ⟨b, hg, h⟩
    refine ⟨b, hg, ?_⟩
    cases b with
    | false => obtain ⟨s', hp, h⟩ := h; exact ⟨s', hp, ih _ _ _ hk h⟩
    | true =>
      simp only [wpOp] at h ⊢
      split
      · rename_i f args heq
        simp only [heq] at h
        rcases h with ⟨g, as, r, s1, s', ha, hr, hp, he, h⟩ | ⟨ks, g, as, r, s1, s', hcp, ha, hr, hp, he, h⟩
        · exact .inl ⟨g, as, r, s1, s', ha, hΦ _ _ _ hr, hp, he, ih _ _ _ hk h⟩
        · exact .inr ⟨ks, g, as, r, s1, s', hcp, ha, hΦ _ _ _ hr, hp, he, ih _ _ _ hk h⟩
      · rename_i heq
        simp only [heq] at h
        rcases h with ⟨s', he, h⟩ | ⟨c, s', he, hc, h⟩ | ⟨n, rows, f, hn, hp, h1, h2⟩
        · exact .inl ⟨s', he, ih _ _ _ hk h⟩
        · exact .inr (.inl ⟨c, s', he, hc, ih _ _ _ hk h⟩)
        · exact .inr (.inr ⟨n, rows, f, hn, hp, fun h => ih _ _ _ hk (h1 h), fun h b => ih _ _ _ hk (h2 h b)⟩)
theorem wpQ_mono {Φ' : Rel3} (hΦ : ∀ f as r, Φ f as r → Φ' f as r) {all : List Oper} : ∀ (ops : List Oper) (s : St) (pend : List (Nat × QV × List (List T))) (K K' : St → Prop), (∀ s, K s → K' s) → wpQ Φ E all ops s pend K → wpQ Φ' E all ops s pend K' := by
  intro ops
  induction ops with
  | nil => intro s pend K K' hk h; obtain ⟨o, ho, h⟩ := h; exact ⟨o, ho, hk _ h⟩
  | cons o rest ih =>
    intro s pend K K' hk h
    obtain ⟨d, v, root, s', hd, ⟨b, hg, hq⟩, hp, h⟩ := h
    refine ⟨d, v, root, s', hd, ⟨b, hg, ?_⟩, hp, ?_⟩
    · cases b with
      | false => exact hq
      | true =>
        simp only at hq ⊢
        split
        · rename_i f args heq
          simp only [heq] at hq
          obtain ⟨g, as, r, hcg, ha, hm, hr, hp, he⟩ := hq
          exact ⟨g, as, r, hcg, ha, hm, hΦ _ _ _ hr, hp, he⟩
        · rename_i heq
          simp only [heq] at hq
          exact hq
    · cases root with
      | none => exact ih _ _ _ _ hk h
      | some rows => exact ⟨h.1, ih _ _ _ _ hk h.2⟩

theorem wpOp_mono' {Φ' : Rel3} (hΦ : ∀ f as r, Φ f as r → Φ' f as r) {op : Op} {dst : Option Nat} {s : St} {K K' : St → Prop} (hk : ∀ s, K s → K' s) (h : wpOp Φ E op dst s K) : wpOp Φ' E op dst s K' := by
  simp only [wpOp] at h ⊢
  split
  · rename_i f args heq
    simp only [heq] at h
    rcases h with ⟨g, as, r, s1, s', ha, hr, hp, he, h⟩ | ⟨ks, g, as, r, s1, s', hcp, ha, hr, hp, he, h⟩
    · exact .inl ⟨g, as, r, s1, s', ha, hΦ _ _ _ hr, hp, he, hk _ h⟩
    · exact .inr ⟨ks, g, as, r, s1, s', hcp, ha, hΦ _ _ _ hr, hp, he, hk _ h⟩
  · rename_i heq
    simp only [heq] at h
    rcases h with ⟨s', he, h⟩ | ⟨c, s', he, hc, h⟩ | ⟨n, rows, f, hn, hp, h1, h2⟩
    · exact .inl ⟨s', he, hk _ h⟩
    · exact .inr (.inl ⟨c, s', he, hc, hk _ h⟩)
    · exact .inr (.inr ⟨n, rows, f, hn, hp, fun h => hk _ (h1 h), fun h b => hk _ (h2 h b)⟩)
theorem wpL_mono {Φ' : Rel3} (hΦ : ∀ f as r, Φ f as r → Φ' f as r) {all : List Oper} {ms X : List Nat} : ∀ (M : List Nat) (s : St) (K K' : St → Prop), (∀ s, K s → K' s) → wpL Φ E all ms X M s K → wpL Φ' E all ms X M s K' := by
  intro M
  induction M with
  | nil => intro s K K' hk h; exact hk _ h
  | cons i M ih =>
    intro s K K' hk h
    obtain ⟨o, ho, b, hg, h⟩ := h
    refine ⟨o, ho, b, hg, ?_⟩
    cases b with
    | false => obtain ⟨s', hp, hr, h⟩ := h; exact ⟨s', hp, hr, ih _ _ _ hk h⟩
    | true => exact wpOp_mono' hΦ (fun s h => ⟨h.1, ih _ _ _ hk h.2⟩) h
theorem stepM_mono {Φ' : Rel3} (hΦ : ∀ f as r, Φ f as r → Φ' f as r) {all : List Oper} {ms X : List Nat} {i : Nat} {s : St} {K K' : St → Prop} (hk : ∀ s, K s → K' s) (h : stepM Φ E all ms X i s K) : stepM Φ' E all ms X i s K' := by
  obtain ⟨o, ho, b, hg, h⟩ := h
  refine ⟨o, ho, b, hg, ?_⟩
  cases b with
  | false => obtain ⟨s', h1, h2, h3⟩ := h; exact ⟨s', h1, h2, hk _ h3⟩
  | true => exact wpOp_mono' hΦ (fun s h => ⟨h.1, hk _ h.2⟩) h
theorem wpM_mono {Φ' : Rel3} (hΦ : ∀ f as r, Φ f as r → Φ' f as r) {all : List Oper} {ms X : List Nat} : ∀ (n : Nat) (Mr : List Nat) (s : St) (K K' : St → Prop), (∀ s, K s → K' s) → wpM Φ E all ms X n Mr s K → wpM Φ' E all ms X n Mr s K' := by
  intro n
  induction n with
  | zero => intro Mr s K K' hk h; exact ⟨h.1, hk _ h.2⟩
  | succ n ih => intro Mr s K K' hk h; exact ⟨fun e => hk _ (h.1 e), fun i hi hr => stepM_mono hΦ (fun s h => ih _ _ _ _ hk h) (h.2 i hi hr)⟩
theorem exThen_mono {K K' : St → Prop} {Q Q' : Ex → St → Prop} (hk : ∀ s, K s → K' s) (hq : ∀ e s, Q e s → Q' e s) : ∀ e s, exThen K Q e s → exThen K' Q' e s := by
  intro e s h
  cases e <;> first | exact hk _ h | exact hq _ _ h
theorem exBlock_mono {id : Nat} {Q Q' : Ex → St → Prop} (hq : ∀ e s, Q e s → Q' e s) : ∀ e s, exBlock id Q e s → exBlock id Q' e s := by
  intro e s h
  cases e with
  | normal => exact hq _ _ h
  | ret => exact hq _ _ h
  | exit i =>
    simp only [exBlock] at h ⊢
    split
    · rename_i hi; simp only [hi, if_true] at h; exact hq _ _ h
    · rename_i hi; simp only [hi, if_false] at h; exact hq _ _ h

theorem wp_mono' {Φ' : Rel3} (hΦ : ∀ f as r, Φ f as r → Φ' f as r) : ∀ (c : Code) (s : St) (Q Q' : Ex → St → Prop), (∀ e s, Q e s → Q' e s) → Ev.wp Φ E c s Q → Ev.wp Φ' E c s Q' := by
  intro c
  induction c with
  | skip => intro s Q Q' hq h; exact hq _ _ h
  | region id ops draw =>
    intro s Q Q' hq h
    cases draw with
    | false => exact wpOps_mono hΦ _ _ _ _ (hq _) h
    | true =>
      rcases h with ⟨m, hm, h⟩ | ⟨X, M, l, hm, hl, h⟩ | ⟨X, M, l, n, S, hm, hl, h, h2⟩
      · exact .inl ⟨m, hm, wpQ_mono hΦ _ _ _ _ _ (fun s h => wpOps_mono hΦ _ _ _ _ (hq _) h) h⟩
      · exact .inr (.inl ⟨X, M, l, hm, hl, wpQ_mono hΦ _ _ _ _ _ (fun s h => wpL_mono hΦ _ _ _ _ (fun s h => wpOps_mono hΦ _ _ _ _ (hq _) h) h) h⟩)
      · exact .inr (.inr ⟨X, M, l, n, S, hm, hl, wpQ_mono hΦ _ _ _ _ _ (fun s h => wpM_mono hΦ _ _ _ _ _ (fun s h => h) h) h, wpOps_mono hΦ _ _ _ _ (hq _) h2⟩)
  | seq a b iha ihb => intro s Q Q' hq h; exact iha _ _ _ (exThen_mono (fun s h => ihb _ _ _ hq h) hq) h
  | cond c a b iha ihb => intro s Q Q' hq h; obtain ⟨p, hc, ht, hf⟩ := h; exact ⟨p, hc, fun e => iha _ _ _ hq (ht e), fun e => ihb _ _ _ hq (hf e)⟩
  | block id b ih => intro s Q Q' hq h; exact ih _ _ _ (exBlock_mono hq) h
  | loop b ih =>
    intro s Q Q' hq h
    obtain ⟨n, h⟩ := h
    refine ⟨n, ?_⟩
    induction n generalizing s with
    | zero => exact h
    | succ n ihn =>
      exact AdjW.mono (fun s' h => ih _ _ _ (exThen_mono (fun s h => ihn s h) hq) h) h
  | exit id => intro s Q Q' hq h; exact hq _ _ h
  | ret => intro s Q Q' hq h; exact hq _ _ h
  | rangeFunc => intro s Q Q' hq h; exact h.elim
  | scope => intro s Q Q' hq h; exact h.elim
  | label => intro s Q Q' hq h; exact h.elim
  | goto => intro s Q Q' hq h; exact h.elim
  | refuse => intro s Q Q' hq h; exact h.elim

/-- code under way -/
structure W (Φ : Rel3) (E : Env) (c : Code) (s : St) (Q : Ex → St → Prop) : Prop where
  h : Ev.wp Φ E c s Q
/-- what is behind a piece of code, a block -/
structure Th (K : St → Prop) (Q : Ex → St → Prop) (e : Ex) (s : St) : Prop where
  h : exThen K Q e s
structure Bl (id : Nat) (Q : Ex → St → Prop) (e : Ex) (s : St) : Prop where
  h : exBlock id Q e s
theorem wp_region_i {id : Nat} {ops : Array Oper} (h : Run Φ E ops.toList [] none ops.toList s (Q .normal)) : W Φ E (.region id ops false) s Q := ⟨h.h⟩
theorem wp_region_t {id : Nat} {ops : Array Oper} (tbl : List (Nat × List Nat)) {lo : Option (List Nat)} (hl : lk tbl id = lo) (h : Run Φ E ops.toList [] lo ops.toList s (Q .normal)) : W Φ E (.region id ops false) s Q := by
  have _ := hl
  exact ⟨h.h⟩
theorem wp_region_q {id : Nat} {ops : Array Oper} (m : Nat) {l1 l2 : List Oper} (hm : drawOk ops.toList m = true) (h1 : ops.toList.take m = l1) (h2 : ops.toList.drop m = l2) (h : RunQ Φ E ops.toList [] l1 s [] fun s' => Run Φ E ops.toList [] none l2 s' (Q .normal)) : W Φ E (.region id ops true) s Q := ⟨.inl ⟨m, hm, by rw [h1, h2]; exact wpQ_mono (fun _ _ _ h => h) _ _ _ _ _ (fun _ r => Run.h r) h.h⟩⟩
theorem wp_region_qt {id : Nat} {ops : Array Oper} (tbl : List (Nat × List Nat)) {lo : Option (List Nat)} (hl : lk tbl id = lo) (m : Nat) {l1 l2 : List Oper} (hm : drawOk ops.toList m = true) (h1 : ops.toList.take m = l1) (h2 : ops.toList.drop m = l2) (h : RunQ Φ E ops.toList [] l1 s [] fun s' => Run Φ E ops.toList [] lo l2 s' (Q .normal)) : W Φ E (.region id ops true) s Q := by
  have _ := hl
  exact ⟨.inl ⟨m, hm, by rw [h1, h2]; exact wpQ_mono (fun _ _ _ h => h) _ _ _ _ _ (fun _ r => Run.h r) h.h⟩⟩
/-- one of the operations beside which others may be done late -/
structure RunL (Φ : Rel3) (E : Env) (all : List Oper) (ms X M : List Nat) (s : St) (K : St → Prop) : Prop where
  h : wpL Φ E all ms X M s K
theorem RunL.done {all : List Oper} {ms X : List Nat} {K : St → Prop} (k : K s) : RunL Φ E all ms X [] s K := ⟨k⟩
theorem RunL.call {all : List Oper} {ms X r : List Nat} {i : Nat} {o : Oper} {s1 : St} {K : St → Prop} {f : Operand} {args : Array Operand} {g : FuncId} {as : List AV} {v : AV} (ho : nthS all i = some o) (hg : guardAV all s o.guard = some true) (hc : isCall o.op = some (f, args))
    (ha : argsAV E.md s f args.toList = some (g, as, s1)) (hr : Φ g as v) (hp : argsPlain E.md s1 f args.toList g = true ∨ v.own) (he : putBack s s1 o.dst args.toList v = some s') (hrep : repL E.tab all ms i s' X s'.t = some s'.t) (k : RunL Φ E all ms X r s' K) : RunL Φ E all ms X (i :: r) s K := by
  refine ⟨o, ho, true, hg, ?_⟩
  show wpOp _ _ _ _ _ _
  unfold wpOp
  simp only [hc]
  exact .inl ⟨g, as, v, s1, s', ha, hr, hp, he, hrep, k.h⟩
theorem RunL.one {all : List Oper} {ms X r : List Nat} {i : Nat} {o : Oper} {K : St → Prop} (ho : nthS all i = some o) (hg : guardAV all s o.guard = some true) (hc : isCall o.op = none) (he : evalO E.tab s o.op o.dst = some s') (hrep : repL E.tab all ms i s' X s'.t = some s'.t) (k : RunL Φ E all ms X r s' K) : RunL Φ E all ms X (i :: r) s K := by
  refine ⟨o, ho, true, hg, ?_⟩
  show wpOp _ _ _ _ _ _
  unfold wpOp
  simp only [hc]
  exact .inl ⟨s', he, hrep, k.h⟩
theorem RunL.cnd {all : List Oper} {ms X r : List Nat} {i : Nat} {o : Oper} {K : St → Prop} {c : Prop} (ho : nthS all i = some o) (hg : guardAV all s o.guard = some true) (hc : isCall o.op = none) (he : evalC E.tab s o.op o.dst = some (c, s')) (hcc : c) (hrep : repL E.tab all ms i s' X s'.t = some s'.t) (k : RunL Φ E all ms X r s' K) : RunL Φ E all ms X (i :: r) s K := by
  refine ⟨o, ho, true, hg, ?_⟩
  show wpOp _ _ _ _ _ _
  unfold wpOp
  simp only [hc]
  exact .inr (.inl ⟨c, s', .inl he, hcc, hrep, k.h⟩)
/-- a region in which operations (X) may be done late beside others (M) -/
theorem wp_region_l {id : Nat} {ops : Array Oper} (tbl : List (Nat × List Nat)) {lo : Option (List Nat)} (X M : List Nat) (ms : List Nat) {l l2 : List Oper} (hlo : lk tbl id = lo) (hm : drawOk2 ops.toList X M = true) (hms : masks ops.toList = ms) (hl : picks ops.toList X = some l) (h2 : ops.toList.drop (Nat.add X.length M.length) = l2)
    (h : RunQ Φ E ops.toList [] l s [] fun s1 => RunL Φ E ops.toList ms X M s1 fun s2 => Run Φ E ops.toList [] lo l2 s2 (Q .normal)) : W Φ E (.region id ops true) s Q := by
  have _ := hlo
  subst h2
  subst hms
  exact ⟨.inr (.inl ⟨X, M, l, hm, hl, wpQ_mono (fun _ _ _ h => h) _ _ _ _ _ (fun _ r => wpL_mono (fun _ _ _ h => h) _ _ _ _ (fun _ r => Run.h r) (RunL.h r)) h.h⟩)⟩
/-- operations in all their orders -/
structure RunM (Φ : Rel3) (E : Env) (all : List Oper) (ms X : List Nat) (n : Nat) (Mr : List Nat) (s : St) (K : St → Prop) : Prop where
  h : wpM Φ E all ms X n Mr s K
structure RunMs (Φ : Rel3) (E : Env) (all : List Oper) (ms X : List Nat) (n : Nat) (Mr td : List Nat) (s : St) (K : St → Prop) : Prop where
  h : ∀ i, i ∈ td → rdyM ms i Mr = true → stepM Φ E all ms X i s fun s' => wpM Φ E all ms X n (remN i Mr) s' K
def remO (i : Nat) (l : List Nat) : Option (List Nat) := some (remN i l)
/-- repL, to be shown step by step -/
structure RepL (tab : Tab) (all : List Oper) (ms : List Nat) (i : Nat) (s : St) (X : List Nat) (acc res : List (Nat × AV)) : Prop where
  h : repL tab all ms i s X acc = some res
section
variable {all : List Oper} {ms X Mr Mr' td : List Nat} {n i : Nat} {K : St → Prop} {o : Oper}
theorem RunM.done (h : canS s = some s') : RunM Φ E all ms X n [] s fun s2 => canS s2 = some s' := by
  refine ⟨?_⟩
  cases n with
  | zero => exact ⟨rfl, h⟩
  | succ n => exact ⟨fun _ => h, fun i hi => by cases hi⟩
theorem RunM.go (h : RunMs Φ E all ms X n (i :: Mr) (i :: Mr) s K) : RunM Φ E all ms X (n + 1) (i :: Mr) s K := ⟨⟨fun e => (by cases e), h.h⟩⟩
theorem RunMs.nil : RunMs Φ E all ms X n Mr [] s K := ⟨fun i hi => by cases hi⟩
theorem RunMs.skip (h : rdyM ms i Mr = false) (k : RunMs Φ E all ms X n Mr td s K) : RunMs Φ E all ms X n Mr (i :: td) s K := ⟨fun j hj hr => by
  rcases List.mem_cons.1 hj with rfl | hj
  · rw [h] at hr; cases hr
  · exact k.h j hj hr⟩
theorem RunMs.of (hs : stepM Φ E all ms X i s fun s' => wpM Φ E all ms X n (remN i Mr) s' K) (k : RunMs Φ E all ms X n Mr td s K) : RunMs Φ E all ms X n Mr (i :: td) s K := ⟨fun j hj hr => by
  rcases List.mem_cons.1 hj with rfl | hj
  · exact hs
  · exact k.h j hj hr⟩
theorem RunMs.one (ho : nthS all i = some o) (hg : guardAV all s o.guard = some true) (hc : isCall o.op = none) (he : evalO E.tab s o.op o.dst = some s') (hm : remO i Mr = some Mr') (hrep : RepL E.tab all ms i s' X s'.t s'.t) (k1 : RunM Φ E all ms X n Mr' s' K) (k : RunMs Φ E all ms X n Mr td s K) : RunMs Φ E all ms X n Mr (i :: td) s K := by
  refine RunMs.of ⟨o, ho, true, hg, ?_⟩ k
  cases hm
  show wpOp _ _ _ _ _ _
  unfold wpOp
  simp only [hc]
  exact .inl ⟨s', he, hrep.h, k1.h⟩
theorem RunMs.cnd {c : Prop} (ho : nthS all i = some o) (hg : guardAV all s o.guard = some true) (hc : isCall o.op = none) (he : evalC E.tab s o.op o.dst = some (c, s')) (hcc : c) (hm : remO i Mr = some Mr') (hrep : RepL E.tab all ms i s' X s'.t s'.t) (k1 : RunM Φ E all ms X n Mr' s' K) (k : RunMs Φ E all ms X n Mr td s K) : RunMs Φ E all ms X n Mr (i :: td) s K := by
  refine RunMs.of ⟨o, ho, true, hg, ?_⟩ k
  cases hm
  show wpOp _ _ _ _ _ _
  unfold wpOp
  simp only [hc]
  exact .inr (.inl ⟨c, s', .inl he, hcc, hrep.h, k1.h⟩)
theorem RunMs.off (ho : nthS all i = some o) (hg : guardAV all s o.guard = some false) (he : s.putT o.dst (.t (.sc undef)) = some s') (hm : remO i Mr = some Mr') (hrep : RepL E.tab all ms i s' X s'.t s'.t) (k1 : RunM Φ E all ms X n Mr' s' K) (k : RunMs Φ E all ms X n Mr td s K) : RunMs Φ E all ms X n Mr (i :: td) s K := by
  cases hm
  exact RunMs.of ⟨o, ho, false, hg, s', he, hrep.h, k1.h⟩ k
theorem RunMs.call {s1 : St} {f : Operand} {args : Array Operand} {g : FuncId} {as : List AV} {v : AV} (ho : nthS all i = some o) (hg : guardAV all s o.guard = some true) (hc : isCall o.op = some (f, args))
    (ha : argsAV E.md s f args.toList = some (g, as, s1)) (hr : Φ g as v) (hp : argsPlain E.md s1 f args.toList g = true ∨ v.own) (he : putBack s s1 o.dst args.toList v = some s') (hm : remO i Mr = some Mr') (hrep : RepL E.tab all ms i s' X s'.t s'.t) (k1 : RunM Φ E all ms X n Mr' s' K) (k : RunMs Φ E all ms X n Mr td s K) : RunMs Φ E all ms X n Mr (i :: td) s K := by
  refine RunMs.of ⟨o, ho, true, hg, ?_⟩ k
  cases hm
  show wpOp _ _ _ _ _ _
  unfold wpOp
  simp only [hc]
  exact .inl ⟨g, as, v, s1, s', ha, hr, hp, he, hrep.h, k1.h⟩
end
/-- a region some operations (M) of which are done in any order -/
theorem wp_region_m {id : Nat} {ops : Array Oper} (tbl : List (Nat × List Nat)) {lo : Option (List Nat)} (X M : List Nat) (n : Nat) (ms : List Nat) {l l2 : List Oper} (hlo : lk tbl id = lo) (hm : drawOk3 ops.toList X M = true) (hms : masks ops.toList = ms) (hl : picks ops.toList X = some l) (h2 : ops.toList.drop (Nat.add X.length M.length) = l2)
    (h : ∃ S, (RunQ Φ E ops.toList [] l s [] fun s1 => RunM Φ E ops.toList ms X n M s1 fun s2 => canS s2 = some S) ∧ Run Φ E ops.toList [] lo l2 S (Q .normal)) : W Φ E (.region id ops true) s Q := by
  subst hms; subst h2
  obtain ⟨S, h, h3⟩ := h
  exact ⟨.inr (.inr ⟨X, M, l, n, S, hm, hl, wpQ_mono (fun _ _ _ h => h) _ _ _ _ _ (fun _ r => r.h) h.h, h3.h⟩)⟩
theorem wp_skip_i (h : Q .normal s) : W Φ E .skip s Q := ⟨h⟩
theorem wp_ret_i (h : Q .ret s) : W Φ E .ret s Q := ⟨h⟩
theorem wp_exit_i {id : Nat} (h : Q (.exit id) s) : W Φ E (.exit id) s Q := ⟨h⟩
theorem wp_seq_i {a b : Code} (h : W Φ E a s (Th (fun s' => W Φ E b s' Q) Q)) : W Φ E (.seq a b) s Q := ⟨wp_mono' (fun _ _ _ h => h) a s _ (exThen (fun s' => Ev.wp Φ E b s' Q) Q) (fun e s h => exThen_mono (fun _ h => W.h h) (fun _ _ h => h) e s h.h) h.h⟩
theorem wp_block_i {id : Nat} {b : Code} (h : W Φ E b s (Bl id Q)) : W Φ E (.block id b) s Q := ⟨wp_mono' (fun _ _ _ h => h) b s _ (exBlock id Q) (fun _ _ h => h.h) h.h⟩
theorem wp_cond_i {c : Operand} {a b : Code} {p : Bool} (hc : s.ev c = .t (.sc (.bool p))) (ht : p = true → W Φ E a s Q) (hf : p = false → W Φ E b s Q) : W Φ E (.cond c a b) s Q := ⟨⟨p, hc, fun e => (ht e).h, fun e => (hf e).h⟩⟩
theorem wp_cond_t {c : Operand} {a b : Code} (hc : s.ev c = .t (.sc (.bool true))) (ht : W Φ E a s Q) : W Φ E (.cond c a b) s Q := ⟨⟨true, hc, fun _ => ht.h, nofun⟩⟩
theorem wp_cond_f {c : Operand} {a b : Code} (hc : s.ev c = .t (.sc (.bool false))) (hf : W Φ E b s Q) : W Φ E (.cond c a b) s Q := ⟨⟨false, hc, nofun, fun _ => hf.h⟩⟩
theorem wp_cond_k {d : Nat} {a b : Code} {p : Bool} {t t1 t0 : List (Nat × AV)} {h : List (Nat × List AV)} {oo : List (Nat × QV × List (List T))} {n : Nat} (hd : lk t d = some (.t (.sc (.bool p)))) (h1 : pu t d (.t (.sc (.bool true))) = some t1) (h0 : pu t d (.t (.sc (.bool false))) = some t0)
    (ht : p = true → W Φ E a ⟨t1, h, oo, n⟩ Q) (hf : p = false → W Φ E b ⟨t0, h, oo, n⟩ Q) : W Φ E (.cond (.tmp d) a b) ⟨t, h, oo, n⟩ Q := by
  refine ⟨⟨p, by simp only [St.ev, St.get, hd], ?_, ?_⟩⟩
  · intro e; subst e; rw [pu_same hd] at h1; cases h1; exact (ht rfl).h
  · intro e; subst e; rw [pu_same hd] at h0; cases h0; exact (hf rfl).h
theorem then_n {K : St → Prop} (h : K s) : Th K Q .normal s := ⟨h⟩
theorem then_e {K : St → Prop} {i : Nat} (h : Q (.exit i) s) : Th K Q (.exit i) s := ⟨h⟩
theorem then_r {K : St → Prop} (h : Q .ret s) : Th K Q .ret s := ⟨h⟩
theorem block_n {id : Nat} (h : Q .normal s) : Bl id Q .normal s := ⟨h⟩
theorem block_r {id : Nat} (h : Q .ret s) : Bl id Q .ret s := ⟨h⟩
theorem block_e {id : Nat} (h : Q .normal s) : Bl id Q (.exit id) s := by refine ⟨?_⟩; simp only [exBlock, if_true]; exact h
theorem block_o {id i : Nat} (hne : Nat.beq i id = false) (h : Q (.exit i) s) : Bl id Q (.exit i) s := by
  have := beq_f hne
  refine ⟨?_⟩
  simp only [exBlock, this, if_false]; exact h

/-- A loop: its head's state by a parameter. -/
theorem wp_loop_i {α : Type} {b : Code} (F : α → St) (I : α → Prop) (μ : α → Nat) (x0 : α) (h0 : AdjW (fun s => s = F x0) s) (hI : I x0)
    (round : ∀ x, I x → W Φ E b (F x) (Th (AdjW fun s' => ∃ y, s' = F y ∧ I y ∧ μ y < μ x) Q)) : W Φ E (.loop b) s Q := by
  have key : ∀ n x, μ x < n → I x → wp Φ E b (F x) (exThen (fun s' => loopN (fun s Q => wp Φ E b s Q) n s' Q) Q) := by
    intro n
    induction n with
    | zero => intro x h; exact absurd h (Nat.not_lt_zero _)
    | succ n ih =>
      intro x hm hx
      refine wp_mono' (fun _ _ _ h => h) _ _ _ _ (fun e s h => exThen_mono ?_ (fun _ _ h => h) e s h.h) (round x hx).h
      intro s' h
      refine AdjW.mono ?_ h
      rintro s1 ⟨y, rfl, hy, hlt⟩
      cases n with
      | zero => omega
      | succ n => exact ih y (by omega) hy
  refine ⟨⟨μ x0 + 2, AdjW.mono ?_ h0⟩⟩
  rintro s1 rfl
  exact key _ x0 (by omega) hI

def putL {α : Type} (l : List (Nat × α)) : List (Nat × α) → Option (List (Nat × α))
  | [] => some l
  | (k, v) :: r => match pu l k v with
    | some l => putL l r
    | none => none
def setSt (s : St) (ts : List (Nat × AV)) (hs : List (Nat × List AV)) (os : List (Nat × QV × List (List T))) : Option St :=
  match s with
  | ⟨t, h, o, n⟩ => match putL t ts with
    | some t => match putL h hs with
      | some h => match putL o os with
        | some o => some ⟨t, h, o, n⟩
        | none => none
      | none => none
    | none => none
/-- A loop whose head's state is what it is at the first time, but for some slots, boxes, roots. -/
theorem wp_loop_k {α : Type} {b : Code} (as : List Adj) (ts : α → List (Nat × AV)) (hs : α → List (Nat × List AV)) (os : α → List (Nat × QV × List (List T))) (I : α → Prop) (μ : α → Nat) (x0 : α) {s0 : St} {F : α → St}
    (h0 : adjL s as = some s0) (hF : ∀ x, setSt s0 (ts x) (hs x) (os x) = some (F x)) (hx : s0 = F x0) (hI : I x0)
    (round : ∀ x, I x → W Φ E b (F x) (Th (AdjW fun s' => ∃ y, s' = F y ∧ I y ∧ μ y < μ x) Q)) : W Φ E (.loop b) s Q := by
  have _ := hF
  exact wp_loop_i F I μ x0 (AdjW.ofL h0 hx) hI round
theorem back_i {α : Type} {F : α → St} {I : α → Prop} {μ : α → Nat} {x : α} {s1 : St} (as : List Adj) (y : α) (h : adjL s as = some s1) (e : s1 = F y) (hI : I y) (hm : μ y < μ x) : AdjW (fun s' => ∃ y, s' = F y ∧ I y ∧ μ y < μ x) s :=
  AdjW.ofL h ⟨y, e, hI, hm⟩

theorem Tells.of {P : Program} {E : Env} {X : Rel3} {f : FuncId} {args : List AV} {r : AV} (h : X f args r) : Tells P E X f args r := fun _ hX _ => hX _ _ _ h

theorem Tells.by {P : Program} {E : Env} {X : Rel3} {f : FuncId} {fn : Func} {args : List AV} {r : AV} (hf : P.funcs[f]? = some fn) (hn : (fn.name == "runtime.NumGoroutine") = false) (h : Body (Tells P E X) E fn args r) : Tells P E X f args r := by
  intro R hX hR
  refine hR _ _ _ _ hf hn ?_
  obtain ⟨c, s, hb, hn, hi, h⟩ := h
  refine ⟨c, s, hb, hn, hi, fun f => ?_⟩
  obtain ⟨o, ho, h⟩ := h f
  exact ⟨o, ho, wp_mono' (fun _ _ _ h => h R hX hR) _ _ _ _ (fun _ _ h => h) h⟩

theorem Body.i {fn : Func} {c : Code} {args : List AV} {r : AV} {t : List (Nat × AV)} {h : List (Nat × List AV)} {o : List (Nat × QV × List (List T))} {n : Nat} {o' : (Nat → Value) → List (Nat × QV × List (List T))} (hb : fn.body = some c) (hn : Nat.ble args.length fn.ntmps = true)
    (hi : initT ⟨[], [], [], fn.ntmps⟩ initKs args = some ⟨t, h, o, n⟩) (ht : ∀ f, telV f o = some (o' f)) (hw : ∀ f, W Φ E c ⟨t, h, o' f, n⟩ (retPost E.tab fn args f r)) : Body Φ E fn args r :=
  ⟨c, _, hb, Nat.le_of_ble_eq_true hn, hi, fun f => ⟨o' f, ht f, (hw f).h⟩⟩
theorem ret_m {fn : Func} {args : List AV} {f : Nat → Value} {r r' : AV} {s2 : St} (as : List Adj) (ha : adjL s as = some s') (h : resultsM1 E.tab fn.results.toList s' = some (r', s2)) (hr : r' = r) : retPost E.tab fn args f r .ret s := by rw [← hr]; exact AdjW.ofL ha (.inl ⟨s2, h⟩)
theorem ret_s {fn : Func} {args : List AV} {f : Nat → Value} {r r' : AV} (as : List Adj) (ha : adjL s as = some s') (h : resultsS E.tab fn.results.toList s' = some r') (hr : r' = r) : retPost E.tab fn args f r .ret s := by rw [← hr]; exact AdjW.ofL ha (.inr (.inl h))
/-- with what the arguments are at the end -/
theorem ret_o {fn : Func} {args : List AV} {f : Nat → Value} {r r0 : AV} {outs : List AV} {p : Prop} {s2 s3 : St} (fl : List Bool) (as : List Adj) (ha : adjL s as = some s') (h : resultsM E.tab fn.results.toList s' = some (r0, s2)) (ho : outsL f s2 initKs args fl = some (outs, p, s3)) (hp : p) (hr : AV.io (r0 :: outs) = r) : retPost E.tab fn args f r .ret s :=
  AdjW.ofL ha (.inr (.inr ⟨fl, r0, outs, p, s2, s3, h, ho, hp, hr⟩))
theorem retn_m {fn : Func} {args : List AV} {f : Nat → Value} {r r' : AV} {s2 : St} (as : List Adj) (ha : adjL s as = some s') (h : resultsM1 E.tab fn.results.toList s' = some (r', s2)) (hr : r' = r) : retPost E.tab fn args f r .normal s := by rw [← hr]; exact AdjW.ofL ha (.inl ⟨s2, h⟩)
theorem retn_s {fn : Func} {args : List AV} {f : Nat → Value} {r r' : AV} (as : List Adj) (ha : adjL s as = some s') (h : resultsS E.tab fn.results.toList s' = some r') (hr : r' = r) : retPost E.tab fn args f r .normal s := by rw [← hr]; exact AdjW.ofL ha (.inr (.inl h))
end
end Go.Ev

set_option linter.unusedVariables false
set_option linter.unusedSimpArgs false
namespace Go.Ev
open Go
/-- a slice expression of a shared tree, of text: what is to be shown, what it tells -/
def evalSl (tab : Tab) (s : St) (o : Op) : Option (Prop × AV) :=
  match o with
  | .slice ty x lo hi none => match lk tab ty with
    | some ⟨.sl e, _, _, _⟩ => match lk tab e with
      | some ei => match s.ev x with
        | .t (.sl _ rows) => match boundAV s lo 0 with
          | some l => match hi with
            | none => some ((0 ≤ l ∧ l ≤ (rows.length : Int) ∧ ∀ r ∈ rows, r.length = ei.size), .t (.sl false (rows.drop l.toNat)))
            | some hx => match boundAV s (some hx) 0 with
              | some h => some ((0 ≤ l ∧ l ≤ h ∧ h ≤ (rows.length : Int) ∧ ∀ r ∈ rows, r.length = ei.size), .t (.sl false ((rows.take h.toNat).drop l.toNat)))
              | none => none
          | none => none
        | _ => none
      | none => none
    | some ⟨.str, _, _, _⟩ => match s.ev x with
      | .t (.sc (.string b)) => match boundAV s lo 0 with
        | some l => match hi with
          | none => some ((0 ≤ l ∧ l ≤ (b.size : Int)), .t (.sc (.string (b.extract l.toNat b.size))))
          | some hx => match boundAV s (some hx) 0 with
            | some h => some ((0 ≤ l ∧ l ≤ h ∧ h ≤ (b.size : Int)), .t (.sc (.string (b.extract l.toNat h.toNat))))
            | none => none
        | none => none
      | _ => none
    | _ => none
  | _ => none
theorem evalSl_eq {tab : Tab} {s : St} {o : Op} {c : Prop} {v : AV} (h : evalSl tab s o = some (c, v)) (hc : c) : evalV tab s o = some v ∧ turns o = false := by
  unfold evalSl at h
  split at h
  case h_2 => cases h
  rename_i ty x lo hi
  split at h
  case h_3 => cases h
  · rename_i e _ _ _ ht
    split at h
    case h_2 => cases h
    rename_i ei hei
    split at h
    case h_2 => cases h
    rename_i o' rows hx
    split at h
    case h_2 => cases h
    rename_i l hl
    split at h
    · cases h
      refine ⟨?_, rfl⟩
      simp only [evalV, hl, sliceAV, ht, hx, hei, Option.getD_some, Option.getD_none]
      rw [if_pos ⟨hc.1, hc.2.1, Int.le_refl _, hc.2.2⟩]
      simp
    · rename_i hx2
      split at h
      case h_2 => cases h
      rename_i hh hhi
      cases h
      refine ⟨?_, rfl⟩
      simp only [evalV, hl, hhi, sliceAV, ht, hx, hei, Option.getD_some]
      rw [if_pos hc]
  · rename_i ht
    split at h
    case h_2 => cases h
    rename_i b hx
    split at h
    case h_2 => cases h
    rename_i l hl
    split at h
    · cases h
      refine ⟨?_, rfl⟩
      simp only [evalV, hl, sliceAV, ht, hx, Option.getD_some, Option.getD_none]
      rw [if_pos ⟨hc.1, hc.2, Int.le_refl _⟩]
      simp
    · rename_i hx2
      split at h
      case h_2 => cases h
      rename_i hh hhi
      cases h
      refine ⟨?_, rfl⟩
      simp only [evalV, hl, hhi, sliceAV, ht, hx, Option.getD_some]
      rw [if_pos hc]
section
variable {Φ : Rel3} {E : Env} {all : List Oper} {D : List Nat} {lo : Option (List Nat)} {ops rest : List Oper} {o : Oper} {s s' : St} {K : St → Prop} {pend : List (Nat × QV × List (List T))}
theorem Run.csl {c : Prop} {v : AV} (hg : guardAV all s o.guard = some true) (hc : isCall o.op = none) (he : evalSl E.tab s o.op = some (c, v)) (hcc : c) (hp : s.putT o.dst v = some s') (k : Run Φ E all D lo rest s' K) : Run Φ E all D lo (o :: rest) s K := by
  obtain ⟨h1, h2⟩ := evalSl_eq he hcc
  refine Run.one hg hc ?_ k
  simp only [evalO, h2, h1]
  exact hp
theorem RunQ.csl {d : Nat} {c : Prop} {v : AV} (hd : o.dst = some d) (hg : guardAV all s o.guard = some true) (hc : isCall o.op = none) (he : evalSl E.tab s o.op = some (c, v)) (hcc : c) (hp : s.putT (some d) v = some s') (k : RunQ Φ E all D rest s' pend K) : RunQ Φ E all D (o :: rest) s pend K := by
  obtain ⟨h1, h2⟩ := evalSl_eq he hcc
  refine ⟨⟨d, v, none, s', hd, ⟨true, hg, ?_⟩, hp, k.h⟩⟩
  simp only [hc]
  exact .inl ⟨h1, h2, by first | rfl | trivial⟩
theorem RunL.cnd2 {ms X r : List Nat} {i : Nat} {o : Oper} {K : St → Prop} {c : Prop} (ho : nthS all i = some o) (hg : guardAV all s o.guard = some true) (hc : isCall o.op = none) (he : evalC2 E.tab s o.op o.dst = some (c, s')) (hcc : c) (hrep : repL E.tab all ms i s' X s'.t = some s'.t) (k : RunL Φ E all ms X r s' K) : RunL Φ E all ms X (i :: r) s K := by
  refine ⟨o, ho, true, hg, ?_⟩
  show wpOp _ _ _ _ _ _
  unfold wpOp
  simp only [hc]
  exact .inr (.inl ⟨c, s', .inr (.inl he), hcc, hrep, k.h⟩)
/-- a turn at a region's end -/
theorem Run.adjwEnd (h : AdjW (fun s1 => Run Φ E all D lo [] s1 K) s) : Run Φ E all D lo [] s K := Run.adjw h
/-- a return of a function without results -/
theorem retn_o {fn : Func} {args : List AV} {f : Nat → Value} {r r0 : AV} {outs : List AV} {p : Prop} {s2 s3 : St} (fl : List Bool) (as : List Adj) (ha : adjL s as = some s') (h : resultsM E.tab fn.results.toList s' = some (r0, s2)) (ho : outsL f s2 initKs args fl = some (outs, p, s3)) (hp : p) (hr : AV.io (r0 :: outs) = r) : retPost E.tab fn args f r .normal s :=
  AdjW.ofL ha (.inr (.inr ⟨fl, r0, outs, p, s2, s3, h, ho, hp, hr⟩))
theorem cat_pure (ty : TypeId) {a b : ByteArray} (h : a.size + b.size ≤ 9223372036854775807) : pureSem (binOp .add ty (.string a) (.string b)) = some (.string (a ++ b)) := by
  have hm : IntKind.i64.max = 9223372036854775807 := by decide
  simp only [binOp, Op.stringOp]
  rw [if_neg (by rw [hm]; omega)]
  rfl
/-- two texts put together -/
theorem Run.cat {d : Nat} {ty ty2 tyr : Nat} {x y : Operand} {pos : String} {after : Array Edge} {g : Option (Nat × Bool)} {a b : ByteArray} (hg : guardAV all s g = some true) (hx : s.ev x = .t (.sc (.string a))) (hy : s.ev y = .t (.sc (.string b))) (hl : a.size + b.size ≤ 9223372036854775807)
    (hp : s.putT (some d) (.t (.sc (.string (a ++ b)))) = some s') (k : Run Φ E all D lo rest s' K) : Run Φ E all D lo ({ dst := some d, op := .binOp .add ty x y ty2, type := tyr, pos, after, guard := g } :: rest) s K := by
  refine Run.one hg rfl ?_ k
  simp only [evalO, turns, evalV, hx, hy, binAV, cat_pure ty hl]
  exact hp
/-- a byte of a text -/
theorem Run.sx {dst : Option Nat} {ty : Nat} {x i : Operand} {tyr : Nat} {pos : String} {after : Array Edge} {g : Option (Nat × Bool)} {b : ByteArray} {kk : IntKind} {n : Int} {k : Nat} {c : UInt8} {sz by' : Nat} {z : Option (List T)}
    (hg : guardAV all s g = some true) (hx : s.ev x = .t (.sc (.string b))) (hi : s.ev i = .t (.sc (.int kk n))) (ht : lk E.tab ty = some ⟨.str, sz, by', z⟩)
    (hn : n = (k : Int)) (hb : b[k]? = some c) (hp : s.putT dst (.t (.sc (.int .u8 (c.toNat : Int)))) = some s') (K1 : Run Φ E all D lo rest s' K) :
    Run Φ E all D lo ({ dst, op := .index ty x i, type := tyr, pos, after, guard := g } :: rest) s K := by
  refine Run.one hg rfl ?_ K1
  subst hn
  have h0 : (0 : Int) ≤ (k : Int) := by omega
  simp only [evalO, turns, evalV, hi, indexAV, ht, hx, h0, if_true, Int.toNat_natCast, hb, hp]
/-- a state is this one -/
structure Tst (s1 s : St) : Prop where
  h : s = s1
theorem W.cutT {Q : Ex → St → Prop} {c : Code} {s1 : St} (h : W Φ E c s (exThen (Tst s1) (fun _ _ => False))) (k : Q .normal s1) : W Φ E c s Q := by
  refine ⟨wp_mono' (fun _ _ _ h => h) c s _ _ ?_ h.h⟩
  intro e s' hq
  cases e with
  | normal => have e : s' = s1 := Tst.h hq; rw [e]; exact k
  | ret => exact (hq : False).elim
  | exit i => exact (hq : False).elim
/-- a region that tells a truth in a slot: all its ways in one -/
theorem wp_region_tB {Q : Ex → St → Prop} {id : Nat} {ops : Array Oper} (d : Nat) (B : Bool) (tbl : List (Nat × List Nat)) {lo : Option (List Nat)} {s0 s1 : St} (hl : lk tbl id = lo) (h0 : s.putT (some d) (.t (.sc (.bool B))) = some s0) (h1 : adjO lo s0 = some s1)
    (h : Run Φ E ops.toList [] lo ops.toList s (Tst s1)) (k : Q .normal s1) : W Φ E (.region id ops false) s Q := by
  have _ := h0; have _ := h1
  exact W.cutT (wp_region_t tbl hl h) k
theorem wp_region_qB {Q : Ex → St → Prop} {id : Nat} {ops : Array Oper} (d : Nat) (B : Bool) (tbl : List (Nat × List Nat)) {lo : Option (List Nat)} {s0 s1 : St} (hl : lk tbl id = lo) (h0 : s.putT (some d) (.t (.sc (.bool B))) = some s0) (h1 : adjO lo s0 = some s1)
    (m : Nat) {l1 l2 : List Oper} (hm : drawOk ops.toList m = true) (e1 : ops.toList.take m = l1) (e2 : ops.toList.drop m = l2) (h : RunQ Φ E ops.toList [] l1 s [] fun s' => Run Φ E ops.toList [] lo l2 s' (Tst s1)) (k : Q .normal s1) : W Φ E (.region id ops true) s Q := by
  have _ := h0; have _ := h1
  exact W.cutT (wp_region_qt tbl hl m hm e1 e2 h) k
end
end Go.Ev

set_option linter.unusedVariables false
set_option linter.unusedSimpArgs false
namespace Go.Ev
open Go
section
variable {tab : Tab} {all : List Oper} {ms X r : List Nat} {i j d : Nat} {s : St} {acc acc' res : List (Nat × AV)} {o : Oper} {v : AV}
theorem RepL.done (h : acc = res) : RepL tab all ms i s [] acc res := ⟨by rw [repL, h]⟩
theorem RepL.skip (hr : rch ms i j = true) (k : RepL tab all ms i s r acc res) : RepL tab all ms i s (j :: r) acc res := ⟨by rw [repL]; simp only [hr]; exact k.h⟩
theorem RepL.one (hr : rch ms i j = false) (ho : nthS all j = some o) (hd : o.dst = some d) (hg : guardAV all s o.guard = some true) (hv : evalV tab s o.op = some v) (hp : pu acc d v = some acc') (k : RepL tab all ms i s r acc' res) : RepL tab all ms i s (j :: r) acc res :=
  ⟨by rw [repL]; simp only [hr, ho, hd, hg, hv, hp]; exact k.h⟩
theorem RepL.off (hr : rch ms i j = false) (ho : nthS all j = some o) (hd : o.dst = some d) (hg : guardAV all s o.guard = some false) (hp : pu acc d (.t (.sc undef)) = some acc') (k : RepL tab all ms i s r acc' res) : RepL tab all ms i s (j :: r) acc res :=
  ⟨by rw [repL]; simp only [hr, ho, hd, hg, hp]; exact k.h⟩
theorem RepL.ix {ty : Nat} {x ix : Operand} {tyr : Nat} {pos : String} {after : Array Edge} {g : Option (Nat × Bool)} {xv y : AV} {rows : List (List T)} {kk : IntKind} {n : Int} {k : Nat} {e sz by' : Nat} {z : Option (List T)} {ei : TI} {r0 : List T}
    (hr : rch ms i j = false) (ho : nthS all j = some ⟨some d, .indexAddr ty x ix, tyr, pos, after, g⟩) (hg : guardAV all s g = some true) (hx : evA s x = some xv) (hrows : rowsAV s xv = some rows) (hi : s.ev ix = .t (.sc (.int kk n))) (ht : lk tab ty = some ⟨.sl e, sz, by', z⟩) (he : lk tab e = some ei)
    (hn : n = (k : Int)) (hrow : rows[k]? = some r0) (hl : lenS r0 ei.size = true) (hy : rowPtr xv k r0 = some y) (hp : pu acc d y = some acc') (kn : RepL tab all ms i s r acc' res) : RepL tab all ms i s (j :: r) acc res := by
  subst hn
  have h0 : (0 : Int) ≤ (k : Int) := by omega
  refine RepL.one (v := y) hr ho rfl hg ?_ hp kn
  simp only [evalV, hi, indexAddrAV, ht, hx, hrows, he, h0, if_true, Int.toNat_natCast, hrow, hl, hy]
theorem RepL.ldr {ty : Nat} {p : Operand} {tyr : Nat} {pos : String} {after : Array Edge} {g : Option (Nat × Bool)} {id k0 k : Nat} {q : QV} {rows : List (List T)} {r0 : List T}
    (hr : rch ms i j = false) (ho : nthS all j = some ⟨some d, .load ty p, tyr, pos, after, g⟩) (hg : guardAV all s g = some true) (hp : s.ev p = .rp id k0 k) (ho2 : lk s.o id = some (q, rows)) (hrow : rows[k0]? = some r0) (hv : loadRow tab ty id k r0 = some v) (hpu : pu acc d v = some acc') (kn : RepL tab all ms i s r acc' res) : RepL tab all ms i s (j :: r) acc res := by
  refine RepL.one (v := v) hr ho rfl hg ?_ hpu kn
  simp only [evalV, hp]
  exact loadRow_eq ho2 hrow hv
end
section
variable {Φ : Rel3} {E : Env} {s s' s1 : St}
theorem RunL.callR {all : List Oper} {ms X r : List Nat} {i : Nat} {o : Oper} {K : St → Prop} {f : Operand} {args : Array Operand} {g : FuncId} {as : List AV} {v : AV} (ho : nthS all i = some o) (hg : guardAV all s o.guard = some true) (hc : isCall o.op = some (f, args))
    (ha : argsAV E.md s f args.toList = some (g, as, s1)) (hr : Φ g as v) (hp : argsPlain E.md s1 f args.toList g = true ∨ v.own) (he : putBack s s1 o.dst args.toList v = some s') (hrep : RepL E.tab all ms i s' X s'.t s'.t) (k : RunL Φ E all ms X r s' K) : RunL Φ E all ms X (i :: r) s K :=
  RunL.call ho hg hc ha hr hp he hrep.h k
theorem RunL.cndR {all : List Oper} {ms X r : List Nat} {i : Nat} {o : Oper} {K : St → Prop} {c : Prop} (ho : nthS all i = some o) (hg : guardAV all s o.guard = some true) (hc : isCall o.op = none) (he : evalC E.tab s o.op o.dst = some (c, s')) (hcc : c) (hrep : RepL E.tab all ms i s' X s'.t s'.t) (k : RunL Φ E all ms X r s' K) : RunL Φ E all ms X (i :: r) s K :=
  RunL.cnd ho hg hc he hcc hrep.h k
end
end Go.Ev

