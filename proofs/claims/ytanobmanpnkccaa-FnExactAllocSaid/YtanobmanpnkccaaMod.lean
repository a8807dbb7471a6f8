import Derived.Test.YtanobmanpnkccaaWLast
import Derived.Test.YtanobmanpnkccaaWMore
namespace Go.Proofs.Ytanobmanpnkccaa.Mod
open Go.RowKit Go.Proofs.YtanobmanpnkccaaW.PrintWords Go.Proofs.YtanobmanpnkccaaW.PrintLast Go.Proofs.YtanobmanpnkccaaW.PrintMore
set_option linter.unusedVariables false

variable {P : Program} {ops : Array Oper} {Q : Exit → Act → World → Prop} {md : Region.Mode}

theorem ready_iff {l : Array Bool} {i : Nat} : i ∈ Region.ready md ops l ↔ i < ops.size ∧ l.getD i true = false ∧ ∀ o, ops[i]? = some o → ∀ e ∈ o.after.toList, Region.binds md e = true → l.getD e.on false = true := by
  unfold Region.ready
  simp only [List.mem_filter, List.mem_range, Bool.and_eq_true, Bool.not_eq_true']
  constructor
  · rintro ⟨h1, h2, h3⟩
    refine ⟨h1, h2, fun o ho e he hb => ?_⟩
    rw [ho] at h3
    simp only [Option.map_some, Option.getD_some, Array.all_eq_true_iff_forall_mem, Bool.or_eq_true, Bool.not_eq_true'] at h3
    rcases h3 e (by simpa using he) with h | h
    · rw [hb] at h; cases h
    · exact h
  · rintro ⟨h1, h2, h3⟩
    refine ⟨h1, h2, ?_⟩
    obtain ⟨o, ho⟩ : ∃ o, ops[i]? = some o := ⟨ops[i], Array.getElem?_eq_getElem h1⟩
    rw [ho]
    simp only [Option.map_some, Option.getD_some, Array.all_eq_true_iff_forall_mem, Bool.or_eq_true, Bool.not_eq_true']
    intro e he
    by_cases hb : Region.binds md e = true
    · exact .inr (h3 o ho e (by simpa using he) hb)
    · exact .inl (by simpa using hb)

/-- How many operations are still to come. -/
def left_ (l : Array Bool) : Nat := l.toList.count false

theorem left_set {l : Array Bool} {i : Nat} (h : l.getD i true = false) : left_ (l.setIfInBounds i true) + 1 = left_ l := by
  have hi : i < l.size := by
    rcases Nat.lt_or_ge i l.size with h' | h'
    · exact h'
    · rw [Array.getD_eq_getD_getElem?, Array.getElem?_eq_none h'] at h
      cases h
  have hv : l[i] = false := by
    rw [Array.getD_eq_getD_getElem?, Array.getElem?_eq_getElem hi] at h
    exact h
  unfold left_
  rw [Array.toList_setIfInBounds, List.count_set (by simpa using hi)]
  have h1 : l.toList[i]'(by simpa using hi) = false := by simpa using hv
  have h2 : 0 < l.toList.count false := List.count_pos_iff.2 (h1 ▸ List.getElem_mem _)
  rw [h1]
  simp only [beq_self_eq_true, if_true, show (true == false) = false from rfl, Bool.false_eq_true, if_false]
  omega

theorem wpAny_mod (Inv : Array Bool → Act → World → Prop)
    (step : ∀ l a w i, i ∈ Region.ready md ops l → Inv l a w → wpOp P ops Q i (Inv (l.setIfInBounds i true)) a w)
    (fin : ∀ l a w, Region.ready md ops l = [] → Inv l a w → Q .normal a w) : ∀ (fuel : Nat) (l : Array Bool) (a : Act) (w : World), left_ l ≤ fuel → Inv l a w → wpAny P md ops Q fuel l a w := by
  intro fuel
  induction fuel with
  | zero =>
    intro l a w hl hi
    have hr : Region.ready md ops l = [] := by
      apply List.eq_nil_iff_forall_not_mem.2
      intro i h
      have := left_set (ready_iff.1 h).2.1
      omega
    exact ⟨hr, fin l a w hr hi⟩
  | succ fuel ih =>
    intro l a w hl hi
    refine ⟨fun hr => fin l a w hr hi, fun i h => ?_⟩
    refine wpOp_mono (fun a' w' h' => ih _ a' w' ?_ h') (step l a w i h hi)
    have := left_set (ready_iff.1 h).2.1
    omega

/-- Each operation waits for some ahead of it. -/
def acyc (ops : Array Oper) : Bool := (List.range ops.size).all fun i => match ops[i]? with | some o => o.after.all (fun e => !Region.binds .any e || decide (e.on < i)) | none => true
/-- A region in whatever order: an invariant of the set of operations that are done, kept by each operation that may come up. -/
theorem region_done {id : Nat} {a : Act} {w : World} (n : Nat) (hn : ops.size = n) (hm : P.follows .mixedOrders = true) (hac : acyc ops = true) (Inv : (Nat → Prop) → Act → World → Prop) (h0 : Inv (fun _ => False) a { w with drawn := w.drawn + 1 })
    (step : ∀ (i : Nat), i < n → ∀ o, ops[i]? = some o → ∀ (D : Nat → Prop) a w, ¬ D i → (∀ j, (o.after.toList.any (fun e => Region.binds .any e && e.on == j)) = true → D j) → Inv D a w → if Region.wanted o (yielded ops a.tmps) = true then Oper.wp P o a w (Inv (fun j => j = i ∨ D j)) Q else Inv (fun j => j = i ∨ D j) (a.put o.dst undef) w)
    (fin : ∀ (D : Nat → Prop) a w, (∀ i, i < n → D i) → Inv D a w → Q .normal a w) : (Code.region id ops true).wp P Q a w := by
  subst hn
  have hacyc : ∀ (i : Nat) (h : i < ops.size), (ops[i]).after.all (fun e => !Region.binds .any e || decide (e.on < i)) = true := by
    intro i h
    have := List.all_eq_true.1 hac i (List.mem_range.2 h)
    rw [Array.getElem?_eq_getElem h] at this
    exact this
  refine wp_region_any hm (wpAny_mod (fun l a w => l.size = ops.size ∧ Inv (fun j => l.getD j false = true) a w) ?_ ?_ _ _ _ _ (by unfold left_; simp) ⟨by simp, ?_⟩)
  · rintro l a w i hr ⟨hs, hi⟩
    obtain ⟨h1, h2, h3⟩ := ready_iff.1 hr
    have ho : ops[i]? = some ops[i] := Array.getElem?_eq_getElem h1
    have hset : (fun j => (l.setIfInBounds i true).getD j false = true) = (fun j => j = i ∨ l.getD j false = true) := by
      funext j
      simp only [Array.getD_eq_getD_getElem?, Array.getElem?_setIfInBounds]
      by_cases hj : i = j
      · subst hj
        simp [hs, h1]
      · simp [hj, show ¬ j = i from fun e => hj e.symm]
    have hnd : ¬ l.getD i false = true := by
      intro hd
      rw [Array.getD_eq_getD_getElem?, Array.getElem?_eq_getElem (by omega)] at h2 hd
      simp only [Option.getD_some] at h2 hd
      rw [h2] at hd; cases hd
    have := step i h1 _ ho (fun j => l.getD j false = true) a w hnd (fun j hj => by
      obtain ⟨e, he, h5⟩ := List.any_eq_true.1 hj
      simp only [Bool.and_eq_true, beq_iff_eq] at h5
      exact h5.2 ▸ h3 _ ho e he h5.1) hi
    unfold wpOp
    simp only [ho]
    rw [← hset] at this
    split
    · rename_i hw
      rw [if_pos hw] at this
      exact .inl (Oper.wp_mono (fun a' w' h' => ⟨by simp [hs], h'⟩) this)
    · rename_i hw
      rw [if_neg hw] at this
      exact ⟨by simp [hs], this⟩
  · rintro l a w hr ⟨hs, hi⟩
    refine fin _ a w (fun i => ?_) hi
    induction i using Nat.strongRecOn with
    | ind i ih =>
      intro h1
      show l.getD i false = true
      cases hv : l.getD i false with
      | true => rfl
      | false =>
        have hmem : i ∈ Region.ready .any ops l := by
          refine ready_iff.2 ⟨h1, ?_, fun o ho e he hb => ?_⟩
          · rw [Array.getD_eq_getD_getElem?, Array.getElem?_eq_getElem (by omega)] at hv ⊢
            exact hv
          · obtain rfl : ops[i] = o := by rw [Array.getElem?_eq_getElem h1] at ho; exact Option.some.inj ho
            have h4 := Array.all_eq_true_iff_forall_mem.1 (hacyc i h1) e (by simpa using he)
            rw [hb] at h4
            have h5 : e.on < i := by simpa using h4
            exact ih e.on h5 (by omega)
        rw [hr] at hmem
        cases hmem
  · have : (fun j => (Array.replicate ops.size false).getD j false = true) = fun _ => False := by
      funext j
      simp only [Array.getD_eq_getD_getElem?, Array.getElem?_replicate]
      by_cases hj : j < ops.size <;> simp [hj]
    rw [this]
    exact h0
/-- One step of a region that draws: a store. -/
theorem skip_step {o : Oper} {a : Act} {w w1 : World} {K : Act → World → Prop} (hw : Region.wanted o (yielded ops a.tmps) = true) (hrun : (execOp a.eval o).run P w = .ok .skip w1) (h : K (a.put o.dst undef) w1) : if Region.wanted o (yielded ops a.tmps) = true then Oper.wp P o a w K Q else K (a.put o.dst undef) w := by
  rw [if_pos hw]
  unfold Oper.wp
  rw [hrun]
  exact h
/-- A region whose first m operations come in whatever order, and whose others come behind all ahead of them: an invariant of what is done of the first, then the others in their row. -/
theorem region_upto {id : Nat} {a : Act} {w : World} (m : Nat) (hm0 : 0 < m) (hmn : m ≤ ops.size) (hm : P.follows .mixedOrders = true)
    (hacyc : ∀ (i : Nat) (h : i < ops.size), (ops[i]).after.all (fun e => !Region.binds .any e || decide (e.on < i)) = true)
    (hlast : ∀ (i : Nat) (h : i < ops.size), m ≤ i → (List.range i).all (fun j => (ops[i]).after.any (fun e => Region.binds .any e && e.on == j)) = true)
    (Inv : (Nat → Prop) → Act → World → Prop) (h0 : Inv (fun _ => False) a { w with drawn := w.drawn + 1 })
    (step : ∀ (i : Nat) (_ : i < m) (h : i < ops.size) (D : Nat → Prop) a w, (∀ e ∈ (ops[i]).after.toList, Region.binds .any e = true → D e.on) → Inv D a w → if Region.wanted ops[i] (yielded ops a.tmps) = true then Oper.wp P ops[i] a w (Inv (fun j => j = i ∨ D j)) Q else Inv (fun j => j = i ∨ D j) (a.put (ops[i]).dst undef) w)
    (fin : ∀ (D : Nat → Prop) a w, (∀ i, i < m → D i) → Inv D a w → wpList P ops Q (ops.toList.drop m) a w) : (Code.region id ops true).wp P Q a w := by
  have hord : ∀ (l : Array Bool) (i : Nat), i ∈ Region.ready .any ops l → m ≤ i → ∀ j, j < i → l.getD j false = true := by
    intro l i hr hi j hj
    obtain ⟨h1, h2, h3⟩ := ready_iff.1 hr
    have h4 := List.all_eq_true.1 (hlast i h1 hi) j (List.mem_range.2 hj)
    rw [← Array.any_toList] at h4
    obtain ⟨e, he, h5⟩ := List.any_eq_true.1 h4
    simp only [Bool.and_eq_true, beq_iff_eq] at h5
    have := h3 _ (Array.getElem?_eq_getElem h1) e (by simpa using he) h5.1
    rwa [h5.2] at this
  have hleast : ∀ (l : Array Bool), l.size = ops.size → Region.ready .any ops l = [] → ∀ i, i < ops.size → l.getD i false = true := by
    intro l hs hr i
    induction i using Nat.strongRecOn with
    | ind i ih =>
      intro h1
      cases hv : l.getD i false with
      | true => rfl
      | false =>
        have hmem : i ∈ Region.ready .any ops l := by
          refine ready_iff.2 ⟨h1, ?_, fun o ho e he hb => ?_⟩
          · rw [Array.getD_eq_getD_getElem?, Array.getElem?_eq_getElem (by omega)] at hv ⊢
            exact hv
          · obtain rfl : ops[i] = o := by rw [Array.getElem?_eq_getElem h1] at ho; exact Option.some.inj ho
            have h4 := Array.all_eq_true_iff_forall_mem.1 (hacyc i h1) e (by simpa using he)
            rw [hb] at h4
            have h5 : e.on < i := by simpa using h4
            exact ih e.on h5 (by omega)
        rw [hr] at hmem
        cases hmem
  have hset : ∀ (l : Array Bool) (i : Nat), i < l.size → (fun j => (l.setIfInBounds i true).getD j false = true) = (fun j => j = i ∨ l.getD j false = true) := by
    intro l i hi
    funext j
    simp only [Array.getD_eq_getD_getElem?, Array.getElem?_setIfInBounds]
    by_cases hj : i = j
    · subst hj
      simp [hi]
    · simp [hj, show ¬ j = i from fun e => hj e.symm]
  have hoff : ∀ (l : Array Bool) (i : Nat), l.size = ops.size → i ∈ Region.ready .any ops l → ¬ l.getD i false = true := by
    intro l i hs hr hd
    obtain ⟨h1, h2, h3⟩ := ready_iff.1 hr
    rw [Array.getD_eq_getD_getElem?, Array.getElem?_eq_getElem (by omega)] at h2 hd
    simp only [Option.getD_some] at h2 hd
    rw [h2] at hd; cases hd
  refine wp_region_any hm (wpAny_mod (fun l a w => l.size = ops.size ∧ ((∃ i, i < m ∧ ¬ l.getD i false = true) ∧ (∀ j, m ≤ j → ¬ l.getD j false = true) ∧ Inv (fun j => l.getD j false = true) a w ∨ ∃ t, m ≤ t ∧ t ≤ ops.size ∧ (∀ j, l.getD j false = true ↔ j < t) ∧ wpList P ops Q (ops.toList.drop t) a w)) ?_ ?_ _ _ _ _ (by unfold left_; simp) ⟨by simp, ?_⟩)
  · rintro l a w i hr ⟨hs, hi⟩
    obtain ⟨h1, h2, h3⟩ := ready_iff.1 hr
    have ho : ops[i]? = some ops[i] := Array.getElem?_eq_getElem h1
    have hs2 : (l.setIfInBounds i true).size = ops.size := by simp [hs]
    have hst : ∀ j, (l.setIfInBounds i true).getD j false = true ↔ j = i ∨ l.getD j false = true := fun j => iff_of_eq (congrFun (hset l i (by omega)) j)
    rcases hi with ⟨⟨q, hq, hqd⟩, hno, hi⟩ | ⟨t, hmt, htn, ht, hi⟩
    · have him : i < m := by
        rcases Nat.lt_or_ge i m with h | h
        · exact h
        · exact absurd (hord l i hr h q (by omega)) hqd
      have key : ∀ a' w', Inv (fun j => j = i ∨ l.getD j false = true) a' w' → (l.setIfInBounds i true).size = ops.size ∧ ((∃ q, q < m ∧ ¬ (l.setIfInBounds i true).getD q false = true) ∧ (∀ j, m ≤ j → ¬ (l.setIfInBounds i true).getD j false = true) ∧ Inv (fun j => (l.setIfInBounds i true).getD j false = true) a' w' ∨ ∃ t, m ≤ t ∧ t ≤ ops.size ∧ (∀ j, (l.setIfInBounds i true).getD j false = true ↔ j < t) ∧ wpList P ops Q (ops.toList.drop t) a' w') := by
        intro a' w' h'
        refine ⟨hs2, ?_⟩
        have hno2 : ∀ j, m ≤ j → ¬ (l.setIfInBounds i true).getD j false = true := by
          intro j hj hd
          rcases (hst j).1 hd with rfl | hd
          · omega
          · exact hno j hj hd
        rw [← hset l i (by omega)] at h'
        by_cases hall : ∀ k, k < m → (l.setIfInBounds i true).getD k false = true
        · refine .inr ⟨m, Nat.le_refl _, hmn, fun j => ⟨fun hj => ?_, fun hj => hall j hj⟩, fin _ a' w' hall h'⟩
          rcases Nat.lt_or_ge j m with h | h
          · exact h
          · exact absurd hj (hno2 j h)
        · obtain ⟨k, hk⟩ := Classical.not_forall.1 hall
          obtain ⟨hk1, hk2⟩ := Classical.not_imp.1 hk
          exact .inl ⟨⟨k, hk1, hk2⟩, hno2, h'⟩
      have := step i him h1 (fun j => l.getD j false = true) a w (h3 _ ho) hi
      unfold wpOp
      simp only [ho]
      split
      · rename_i hw
        rw [if_pos hw] at this
        exact .inl (Oper.wp_mono key this)
      · rename_i hw
        rw [if_neg hw] at this
        exact key _ _ this
    · have hit : i = t := by
        have hnd := hoff l i hs hr
        have h4 : ¬ i < t := fun h => hnd ((ht i).2 h)
        rcases Nat.lt_or_ge t i with h | h
        · have := (ht t).1 (hord l i hr (by omega) t h)
          omega
        · omega
      subst hit
      have key : ∀ a' w', wpList P ops Q (ops.toList.drop (i + 1)) a' w' → (l.setIfInBounds i true).size = ops.size ∧ ((∃ q, q < m ∧ ¬ (l.setIfInBounds i true).getD q false = true) ∧ (∀ j, m ≤ j → ¬ (l.setIfInBounds i true).getD j false = true) ∧ Inv (fun j => (l.setIfInBounds i true).getD j false = true) a' w' ∨ ∃ t, m ≤ t ∧ t ≤ ops.size ∧ (∀ j, (l.setIfInBounds i true).getD j false = true ↔ j < t) ∧ wpList P ops Q (ops.toList.drop t) a' w') := by
        intro a' w' h'
        refine ⟨hs2, .inr ⟨i + 1, by omega, by omega, fun j => ?_, h'⟩⟩
        rw [hst j, ht j]
        omega
      rw [List.drop_eq_getElem_cons (by simpa using h1)] at hi
      unfold wpList at hi
      unfold wpOp
      simp only [ho]
      simp only [Array.getElem_toList] at hi
      split
      · rename_i hw
        rw [if_pos hw] at hi
        exact hi.imp (Oper.wp_mono key) (fun h => h)
      · rename_i hw
        rw [if_neg hw] at hi
        exact key _ _ hi
  · rintro l a w hr ⟨hs, hi⟩
    have hall := hleast l hs hr
    rcases hi with ⟨⟨q, hq, hqd⟩, _⟩ | ⟨t, hmt, htn, ht, hi⟩
    · exact absurd (hall q (by omega)) hqd
    · have : t = ops.size := by
        rcases Nat.lt_or_ge t ops.size with h | h
        · have := (ht t).1 (hall t h); omega
        · omega
      subst this
      rw [List.drop_eq_nil_of_le (by simp)] at hi
      exact hi
  · have hf : ∀ j, ¬ (Array.replicate ops.size false).getD j false = true := by
      intro j
      simp only [Array.getD_eq_getD_getElem?, Array.getElem?_replicate]
      by_cases hj : j < ops.size <;> simp [hj]
    refine .inl ⟨⟨0, hm0, hf 0⟩, fun j _ => hf j, ?_⟩
    have : (fun j => (Array.replicate ops.size false).getD j false = true) = fun _ => False := by
      funext j
      exact eq_false (hf j)
    rw [this]
    exact h0
/-- One step of a region that draws: a call of a function. -/
theorem call_step {o : Oper} {a : Act} {w : World} {K : Act → World → Prop} (hw : Region.wanted o (yielded ops a.tmps) = true) {f : FuncId} {fn : Func} {as : Array Operand} {ts : Array TypeId} (hf : P.funcs[f]? = some fn) (hname : (fn.name == "runtime.NumGoroutine") = false) (hb : fn.body.isSome = true) (args : Array Value)
    (hop : o.op = .call { callee := .value (.func f), args := as, argTypes := ts }) (hargs : as.map a.eval = args)
    (h : Calls P f args w fun e w' => ∃ v, e = .returned v ∧ K (a.put o.dst v) w') : if Region.wanted o (yielded ops a.tmps) = true then Oper.wp P o a w K Q else K (a.put o.dst undef) w := by
  rw [if_pos hw]
  have he := enters_ hf hname hb args w
  have hrun : (execOp a.eval o).run P w = .ok (.enter f args) w := by
    unfold execOp
    simp [hop, resolve, Deferred.ofValue, invoke, Act.eval, hargs, he]
  unfold Oper.wp
  rw [hrun, Oper.upon_enter]
  refine h.mono fun e w'' hh => ?_
  obtain ⟨v, rfl, hk⟩ := hh
  exact hk
section
variable {α : Type} {d : Kd α} {e : Nat} {w w1 w2 : World} {lo hi : Nat} {v : Value} {l : List α}
/-- A row of elements of the blocks from lo to hi alone. -/
def Own (d : Kd α) (e lo hi : Nat) (v : Value) (l : List α) (w : World) : Prop := Kd.R d e w lo (fun k => lo ≤ k ∧ k < hi) v l ∧ hi ≤ w.heap.size ∧ lo ≤ hi
theorem own_new (h : Kd.R d e w1 w.heap.size (fun _ => True) v l) (hb : Below w.heap.size w w1) : Own d e w.heap.size w1.heap.size v l w1 :=
  ⟨Kd.R_mono (Kd.R_bound h) (fun k hk => ⟨hk.2.1, hk.2.2.1⟩), Nat.le_refl _, hb.size⟩
theorem own_ex (h : Kd.R d e w1 w.heap.size (fun _ => True) v l) (hb : Below w.heap.size w w1) : ∃ lo hi, lo = w.heap.size ∧ Own d e lo hi v l w1 := ⟨_, _, rfl, own_new h hb⟩
theorem own_marked {b : Nat} {ok : Nat → Prop} (h : Kd.R d e w1 b ok v l) (hb : b ≤ w1.heap.size) : Own d e b w1.heap.size v l w1 := ⟨Kd.R_mono (Kd.R_bound h) (fun k hk => ⟨hk.2.1, hk.2.2.1⟩), Nat.le_refl _, hb⟩
theorem own_marked_ex {b : Nat} {ok : Nat → Prop} (h : Kd.R d e w1 b ok v l) (hb : b ≤ w1.heap.size) : ∃ lo hi, Own d e lo hi v l w1 ∧ b ≤ lo := ⟨_, _, own_marked h hb, Nat.le_refl _⟩
theorem own_kept {S : Nat → Prop} (h : Own d e lo hi v l w) (hk : Kept w w1 S) (hS : ∀ k, lo ≤ k → k < hi → ¬ S k) : Own d e lo hi v l w1 :=
  ⟨Kd.R_kept h.1 hk (fun k hk => hS k hk.1 hk.2), Nat.le_trans h.2.1 hk.1, h.2.2⟩
theorem own_below (h : Own d e lo hi v l w) (hb : Below w.heap.size w w1) : Own d e lo hi v l w1 :=
  ⟨Kd.R_below h.1 hb, Nat.le_trans h.2.1 hb.size, h.2.2⟩
theorem own_far {g j : Nat} {u : Value} (h : Own d e lo hi v l w) (hg : g < lo ∨ hi ≤ g) : Own d e lo hi v l (w.setCell ⟨g, j, none⟩ u) :=
  ⟨Kd.R_far h.1 (p := ⟨g, j, none⟩) (fun k hk => by show k ≠ g; omega) u, by have := h.2.1; simpa [World.setCell] using this, h.2.2⟩
theorem own_read (h : Own d e lo hi v l w) : ∃ A c, v = .slice A l.length c ∧ l.length ≤ c ∧ Kd.C d w A l.length l := Kd.R_reads h.1
theorem own_low {b : Nat} (h : Own d e lo hi v l w) (hb : b ≤ lo) : Kd.R d e w b (fun k => lo ≤ k ∧ k < hi) v l := Kd.R_lower h.1 hb
end
end Go.Proofs.Ytanobmanpnkccaa.Mod
