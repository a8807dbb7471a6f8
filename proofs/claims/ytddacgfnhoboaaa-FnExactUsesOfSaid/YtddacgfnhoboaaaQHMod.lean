-- written by wip/tools/prune.py: what this claim reaches of the print's and our texts
import Derived.Test.YtddacgfnhoboaaaQHWLast
import Derived.Test.YtddacgfnhoboaaaQHWMore
namespace Go.Proofs.Ytddacgfnhoboaaa.Mod
open Go.RowKit Go.Proofs.YtddacgfnhoboaaaW.PrintWords Go.Proofs.YtddacgfnhoboaaaW.PrintLast Go.Proofs.YtddacgfnhoboaaaW.PrintMore
set_option linter.unusedVariables false
variable {P : Program} {ops : Array Oper} {Q : Exit → Act → World → Prop} {md : Region.Mode}
theorem ready_iff {l : Array Bool} {i : Nat} : i ∈ Region.ready md ops l ↔ i < ops.size ∧ l.getD i true = false ∧ ∀ o, ops[i]? = some o → ∀ e ∈ o.after.toList, Region.binds md e = true → l.getD e.on false = true := by
  unfold Region.ready
  simp only [List.mem_filter, List.mem_range, Bool.and_eq_true, Bool.not_eq_true']
  constructor
  · rintro ⟨h1, h2, h3⟩
    refine ⟨h1, h2, fun o ho e he hb => ?_⟩
    rw [ho] at h3
    simp only [Option.map_some, Option.getD_some, Array.all_eq_true_iff_forall_mem, Bool.or_eq_true, Bool.not_eq_true'] at h3
    rcases h3 e (by simpa using he) with h | h
    · rw [hb] at h; cases h
    · exact h
  · rintro ⟨h1, h2, h3⟩
    refine ⟨h1, h2, ?_⟩
    obtain ⟨o, ho⟩ : ∃ o, ops[i]? = some o := ⟨ops[i], Array.getElem?_eq_getElem h1⟩
    rw [ho]
    simp only [Option.map_some, Option.getD_some, Array.all_eq_true_iff_forall_mem, Bool.or_eq_true, Bool.not_eq_true']
    intro e he
    by_cases hb : Region.binds md e = true
    · exact .inr (h3 o ho e (by simpa using he) hb)
    · exact .inl (by simpa using hb)
def left_ (l : Array Bool) : Nat := l.toList.count false
theorem left_set {l : Array Bool} {i : Nat} (h : l.getD i true = false) : left_ (l.setIfInBounds i true) + 1 = left_ l := by
  have hi : i < l.size := by
    rcases Nat.lt_or_ge i l.size with h' | h'
    · exact h'
    · rw [Array.getD_eq_getD_getElem?, Array.getElem?_eq_none h'] at h
      cases h
  have hv : l[i] = false := by
    rw [Array.getD_eq_getD_getElem?, Array.getElem?_eq_getElem hi] at h
    exact h
  unfold left_
  rw [Array.toList_setIfInBounds, List.count_set (by simpa using hi)]
  have h1 : l.toList[i]'(by simpa using hi) = false := by simpa using hv
  have h2 : 0 < l.toList.count false := List.count_pos_iff.2 (h1 ▸ List.getElem_mem _)
  rw [h1]
  simp only [beq_self_eq_true, if_true, show (true == false) = false from rfl, Bool.false_eq_true, if_false]
  omega
theorem wpAny_mod (Inv : Array Bool → Act → World → Prop)
    (step : ∀ l a w i, i ∈ Region.ready md ops l → Inv l a w → wpOp P ops Q i (Inv (l.setIfInBounds i true)) a w)
    (fin : ∀ l a w, Region.ready md ops l = [] → Inv l a w → Q .normal a w) : ∀ (fuel : Nat) (l : Array Bool) (a : Act) (w : World), left_ l ≤ fuel → Inv l a w → wpAny P md ops Q fuel l a w := by
  intro fuel
  induction fuel with
  | zero =>
    intro l a w hl hi
    have hr : Region.ready md ops l = [] := by
      apply List.eq_nil_iff_forall_not_mem.2
      intro i h
      have := left_set (ready_iff.1 h).2.1
      omega
    exact ⟨hr, fin l a w hr hi⟩
  | succ fuel ih =>
    intro l a w hl hi
    refine ⟨fun hr => fin l a w hr hi, fun i h => ?_⟩
    refine wpOp_mono (fun a' w' h' => ih _ a' w' ?_ h') (step l a w i h hi)
    have := left_set (ready_iff.1 h).2.1
    omega
def acyc (ops : Array Oper) : Bool := (List.range ops.size).all fun i => match ops[i]? with | some o => o.after.all (fun e => !Region.binds .any e || decide (e.on < i)) | none => true
theorem region_done {id : Nat} {a : Act} {w : World} (n : Nat) (hn : ops.size = n) (hm : P.follows .mixedOrders = true) (hac : acyc ops = true) (Inv : (Nat → Prop) → Act → World → Prop) (h0 : Inv (fun _ => False) a { w with drawn := w.drawn + 1 })
    (step : ∀ (i : Nat), i < n → ∀ o, ops[i]? = some o → ∀ (D : Nat → Prop) a w, ¬ D i → (∀ j, (o.after.toList.any (fun e => Region.binds .any e && e.on == j)) = true → D j) → Inv D a w → if Region.wanted o (yielded ops a.tmps) = true then Oper.wp P o a w (Inv (fun j => j = i ∨ D j)) Q else Inv (fun j => j = i ∨ D j) (a.put o.dst undef) w)
    (fin : ∀ (D : Nat → Prop) a w, (∀ i, i < n → D i) → Inv D a w → Q .normal a w) : (Code.region id ops true).wp P Q a w := by
  subst hn
  have hacyc : ∀ (i : Nat) (h : i < ops.size), (ops[i]).after.all (fun e => !Region.binds .any e || decide (e.on < i)) = true := by
    intro i h
    have := List.all_eq_true.1 hac i (List.mem_range.2 h)
    rw [Array.getElem?_eq_getElem h] at this
    exact this
  refine wp_region_any hm (wpAny_mod (fun l a w => l.size = ops.size ∧ Inv (fun j => l.getD j false = true) a w) ?_ ?_ _ _ _ _ (by unfold left_; simp) ⟨by simp, ?_⟩)
  · rintro l a w i hr ⟨hs, hi⟩
    obtain ⟨h1, h2, h3⟩ := ready_iff.1 hr
    have ho : ops[i]? = some ops[i] := Array.getElem?_eq_getElem h1
    have hset : (fun j => (l.setIfInBounds i true).getD j false = true) = (fun j => j = i ∨ l.getD j false = true) := by
      funext j
      simp only [Array.getD_eq_getD_getElem?, Array.getElem?_setIfInBounds]
      by_cases hj : i = j
      · subst hj
        simp [hs, h1]
      · simp [hj, show ¬ j = i from fun e => hj e.symm]
    have hnd : ¬ l.getD i false = true := by
      intro hd
      rw [Array.getD_eq_getD_getElem?, Array.getElem?_eq_getElem (by omega)] at h2 hd
      simp only [Option.getD_some] at h2 hd
      rw [h2] at hd; cases hd
    have := step i h1 _ ho (fun j => l.getD j false = true) a w hnd (fun j hj => by
      obtain ⟨e, he, h5⟩ := List.any_eq_true.1 hj
      simp only [Bool.and_eq_true, beq_iff_eq] at h5
      exact h5.2 ▸ h3 _ ho e he h5.1) hi
    unfold wpOp
    simp only [ho]
    rw [← hset] at this
    split
    · rename_i hw
      rw [if_pos hw] at this
      exact .inl (Oper.wp_mono (fun a' w' h' => ⟨by simp [hs], h'⟩) this)
    · rename_i hw
      rw [if_neg hw] at this
      exact ⟨by simp [hs], this⟩
  · rintro l a w hr ⟨hs, hi⟩
    refine fin _ a w (fun i => ?_) hi
    induction i using Nat.strongRecOn with
    | ind i ih =>
      intro h1
      show l.getD i false = true
      cases hv : l.getD i false with
      | true => rfl
      | false =>
        have hmem : i ∈ Region.ready .any ops l := by
          refine ready_iff.2 ⟨h1, ?_, fun o ho e he hb => ?_⟩
          · rw [Array.getD_eq_getD_getElem?, Array.getElem?_eq_getElem (by omega)] at hv ⊢
            exact hv
          · obtain rfl : ops[i] = o := by rw [Array.getElem?_eq_getElem h1] at ho; exact Option.some.inj ho
            have h4 := Array.all_eq_true_iff_forall_mem.1 (hacyc i h1) e (by simpa using he)
            rw [hb] at h4
            have h5 : e.on < i := by simpa using h4
            exact ih e.on h5 (by omega)
        rw [hr] at hmem
        cases hmem
  · have : (fun j => (Array.replicate ops.size false).getD j false = true) = fun _ => False := by
      funext j
      simp only [Array.getD_eq_getD_getElem?, Array.getElem?_replicate]
      by_cases hj : j < ops.size <;> simp [hj]
    rw [this]
    exact h0
def upd (p : Nat → Value) (i : Nat) (v : Value) : Nat → Value := fun j => if j = i then v else p j
theorem region_test {id : Nat} {a : Act} {w : World} (n : Nat) (hn : ops.size = n) (hm : P.follows .mixedOrders = true) (hac : acyc ops = true) (F : (Nat → Value) → Act) (x p0 : Nat → Value) (ha : a = F p0)
    (hput : ∀ i, i < n → ∀ o, ops[i]? = some o → ∀ p v, (F p).put o.dst v = F (upd p i v))
    (step : ∀ i, i < n → ∀ o, ops[i]? = some o → ∀ p w', Below w.heap.size w w' → (∀ j, (o.after.toList.any (fun e => Region.binds .any e && e.on == j)) = true → p j = x j) → if Region.wanted o (yielded ops (F p).tmps) = true then Oper.wp P o (F p) w' (fun a' w'' => a' = (F p).put o.dst (x i) ∧ Below w.heap.size w w'') Q else x i = undef)
    (fin : ∀ p w', (∀ j, j < n → p j = x j) → Below w.heap.size w w' → Q .normal (F p) w') : (Code.region id ops true).wp P Q a w := by
  have hupd : ∀ (D : Nat → Prop) (p : Nat → Value) i v, (∀ j, D j → p j = x j) → v = x i → ∀ j, (j = i ∨ D j) → upd p i v j = x j := by
    intro D p i v hp hv j hj
    unfold upd
    by_cases h : j = i
    · rw [if_pos h, h]; exact hv
    · rw [if_neg h]; exact hp j (hj.resolve_left h)
  refine region_done n hn hm hac (fun D a' w' => ∃ p, a' = F p ∧ (∀ j, D j → p j = x j) ∧ Below w.heap.size w w') ⟨p0, ha, fun j h => h.elim, below_drew1 (Below.refl _ _)⟩ ?_ ?_
  · rintro i hi o ho D a' w' hnd hd ⟨p, rfl, hp, hb⟩
    have hs := step i hi o ho p w' hb (fun j hj => hp j (hd j hj))
    split
    · rename_i hw
      rw [if_pos hw] at hs
      refine Oper.wp_mono ?_ hs
      rintro a2 w2 ⟨rfl, hb2⟩
      exact ⟨_, hput i hi o ho p _, hupd D p i _ hp rfl, hb2⟩
    · rename_i hw
      rw [if_neg hw] at hs
      exact ⟨_, hput i hi o ho p _, hupd D p i _ hp hs.symm, hb⟩
  · rintro D a' w' hall ⟨p, rfl, hp, hb⟩
    exact fin p w' (fun j hj => hp j (hall j hj)) hb
section
variable {o : Oper} {a : Act} {wE w w1 : World} {X v : Value} {b : Nat}
theorem t_run {c : Bool} (hw : c = true) (hrun : (execOp a.eval o).run P w = .ok (.value v) w) (hv : v = X) (hb : Below b wE w) : if c = true then Oper.wp P o a w (fun a' w'' => a' = a.put o.dst X ∧ Below b wE w'') Q else X = undef := by
  subst hv
  rw [if_pos hw]
  unfold Oper.wp
  rw [hrun]
  exact ⟨rfl, hb⟩
theorem t_skip {K : Act → World → Prop} {c : Bool} (hw : c = false) (h : X = undef) : if c = true then Oper.wp P o a w K Q else X = undef := by
  rw [if_neg (by rw [hw]; decide)]
  exact h
theorem t_call {c : Bool} (hw : c = true) {f : FuncId} {fn : Func} {as : Array Operand} {ts : Array TypeId} (hf : P.funcs[f]? = some fn) (hname : (fn.name == "runtime.NumGoroutine") = false) (hb : fn.body.isSome = true) (args : Array Value)
    (hop : o.op = .call { callee := .value (.func f), args := as, argTypes := ts }) (hargs : as.map a.eval = args)
    (h : Calls P f args w fun e w' => e = .returned X ∧ Below b wE w') : if c = true then Oper.wp P o a w (fun a' w'' => a' = a.put o.dst X ∧ Below b wE w'') Q else X = undef := by
  rw [if_pos hw]
  have he := enters_ hf hname hb args w
  have hrun : (execOp a.eval o).run P w = .ok (.enter f args) w := by
    unfold execOp
    simp [hop, resolve, Deferred.ofValue, invoke, Act.eval, hargs, he]
  unfold Oper.wp
  rw [hrun, Oper.upon_enter]
  refine h.mono fun e w'' hh => ?_
  obtain ⟨rfl, hk⟩ := hh
  exact ⟨rfl, hk⟩
end
section
variable {α : Type} {d : Kd α} {e : Nat} {w w1 w2 : World} {lo hi : Nat} {v : Value} {l : List α}
end
end Go.Proofs.Ytddacgfnhoboaaa.Mod
