/- An evaluator over trees: how its runs are shown. -/
import Derived.Test.YtejioaahmgljgaaEvL
set_option linter.unusedVariables false
set_option linter.unusedSimpArgs false
namespace Go.Ev
open Go

def memB (n : Nat) : List Nat → Bool
  | [] => false
  | x :: r => match Nat.beq x n with
    | true => true
    | false => memB n r
def isRp : AV → Bool
  | .rp _ _ _ => true
  | _ => false
/-- does the run halt ahead of an operation (it wants to be told something)? D: the slots whose truth is decided -/
def stopsG (D : List Nat) (s : St) : Op → Bool
  | .pick (.tmp c) _ _ => match memB c D with
    | true => false
    | false => true
  | .pick _ _ _ => true
  | .convert _ _ x => match s.ev x with
    | .t (.sc (.string _)) => true
    | _ => false
  | .load _ p => isRp (s.ev p)
  | .store _ p _ => isRp (s.ev p)
  | .indexAddr _ _ _ => true
  | .index _ _ (.const _) => false
  | .index _ _ _ => true
  | .slice _ _ _ _ _ => true
  | .makeSlice _ _ _ => true
  | .call { callee := .builtin .append, .. } => true
  | .call { callee := .builtin _, .. } => false
  | .call _ => true
  | _ => false
def stops (all : List Oper) (D : List Nat) (s : St) (o : Oper) : Bool :=
  match o.guard with
  | some (j, _) => match nthS all j with
    | some p => match p.dst with
      | some d => match memB d D with
        | true => match guardAV all s o.guard with
          | some false => false
          | _ => stopsG D s o.op
        | false => match s.get d with
          | .t (.sc (.tuple _)) => match guardAV all s o.guard with
            | some false => false
            | _ => true
          | _ => true
      | none => true
    | none => true
  | none => stopsG D s o.op

def runOps (tab : Tab) (all : List Oper) (D : List Nat) : List Oper → St → Option (List Oper × St)
  | [], s => some ([], s)
  | o :: rest, s => match stops all D s o with
    | true => some (o :: rest, s)
    | false => match guardAV all s o.guard with
      | some true => match evalO tab s o.op o.dst with
        | some s' => runOps tab all D rest s'
        | none => some (o :: rest, s)
      | some false => match s.putT o.dst (.t (.sc undef)) with
        | some s' => runOps tab all D rest s'
        | none => some (o :: rest, s)
      | none => some (o :: rest, s)

/-- at least one of them -/
def runOps1 (tab : Tab) (all : List Oper) (D : List Nat) (ops : List Oper) (s : St) : Option (List Oper × St) :=
  match ops with
  | [] => none
  | o :: rest => match stops all D s o with
    | true => none
    | false => match guardAV all s o.guard with
      | some true => match evalO tab s o.op o.dst with
        | some s' => runOps tab all D rest s'
        | none => none
      | some false => match s.putT o.dst (.t (.sc undef)) with
        | some s' => runOps tab all D rest s'
        | none => none
      | none => none
theorem runOps1_eq {tab : Tab} {all : List Oper} {D : List Nat} {ops : List Oper} {s : St} {r : List Oper × St} (h : runOps1 tab all D ops s = some r) : runOps tab all D ops s = some r := by
  unfold runOps1 at h
  split at h
  · cases h
  · rename_i o rest
    split at h
    · cases h
    · rename_i hst
      split at h
      · rename_i hg
        split at h
        · rename_i s1 he; rw [runOps]; simp only [hst, hg, he]; exact h
        · cases h
      · rename_i hg
        split at h
        · rename_i s1 he; rw [runOps]; simp only [hst, hg, he]; exact h
        · cases h
      · cases h

def runQ (tab : Tab) (all : List Oper) (D : List Nat) : List Oper → St → Option (List Oper × St)
  | [], s => some ([], s)
  | o :: rest, s => match stops all D s o with
    | true => some (o :: rest, s)
    | false => match o.dst with
      | none => some (o :: rest, s)
      | some d => match guardAV all s o.guard with
        | some true => match turns o.op with
          | true => some (o :: rest, s)
          | false => match evalV tab s o.op with
            | some v => match s.putT (some d) v with
              | some s' => runQ tab all D rest s'
              | none => some (o :: rest, s)
            | none => some (o :: rest, s)
        | some false => match s.putT (some d) (.t (.sc undef)) with
          | some s' => runQ tab all D rest s'
          | none => some (o :: rest, s)
        | none => some (o :: rest, s)
def runQ1 (tab : Tab) (all : List Oper) (D : List Nat) (ops : List Oper) (s : St) : Option (List Oper × St) :=
  match ops with
  | [] => none
  | o :: rest => match stops all D s o with
    | true => none
    | false => match o.dst with
      | some d => match guardAV all s o.guard with
        | some true => match turns o.op with
          | true => none
          | false => match evalV tab s o.op with
            | some v => match s.putT (some d) v with
              | some s' => runQ tab all D rest s'
              | none => none
            | none => none
        | some false => match s.putT (some d) (.t (.sc undef)) with
          | some s' => runQ tab all D rest s'
          | none => none
        | none => none
      | none => none
theorem runQ1_eq {tab : Tab} {all : List Oper} {D : List Nat} {ops : List Oper} {s : St} {r : List Oper × St} (h : runQ1 tab all D ops s = some r) : runQ tab all D ops s = some r := by
  unfold runQ1 at h
  split at h
  · cases h
  · rename_i o rest
    split at h
    · cases h
    · rename_i hst
      split at h
      · rename_i d hd
        split at h
        · rename_i hg
          split at h
          · cases h
          · rename_i ht
            split at h
            · rename_i v he
              split at h
              · rename_i s1 hp; rw [runQ]; simp only [hst, hd, hg, ht, he, hp]; exact h
              · cases h
            · cases h
        · rename_i hg
          split at h
          · rename_i s1 hp; rw [runQ]; simp only [hst, hd, hg, hp]; exact h
          · cases h
        · cases h
      · cases h

/-- a region under way; D: the slots whose truth is decided -/
structure Run (Φ : Rel3) (E : Env) (all : List Oper) (D : List Nat) (lo : Option (List Nat)) (ops : List Oper) (s : St) (K : St → Prop) : Prop where
  h : wpOps Φ E all ops s K
/-- a region in no order under way -/
structure RunQ (Φ : Rel3) (E : Env) (all : List Oper) (D : List Nat) (ops : List Oper) (s : St) (pend : List (Nat × QV × List (List T))) (K : St → Prop) : Prop where
  h : wpQ Φ E all ops s pend K

section
variable {Φ : Rel3} {E : Env} {all : List Oper} {D : List Nat} {lo : Option (List Nat)} {ops rest : List Oper} {o : Oper} {s s' s1 : St} {K : St → Prop} {pend : List (Nat × QV × List (List T))}

theorem isCall_of_stops {all : List Oper} {D : List Nat} {o : Oper} (h : stops all D s o = false) (hg : guardAV all s o.guard = some true) : isCall o.op = none := by
  have : stopsG D s o.op = false := by
    unfold stops at h
    split at h
    · split at h
      · split at h
        · split at h
          · rw [hg] at h; exact h
          · split at h
            · rw [hg] at h; cases h
            · cases h
        · cases h
      · cases h
    · exact h
  unfold isCall
  split
  · rename_i heq; rw [heq] at this; simp [stopsG] at this
  · rfl

theorem AdjW.ofL {K : St → Prop} : ∀ {as : List Adj} {s s1 : St}, adjL s as = some s1 → K s1 → AdjW K s := by
  intro as
  induction as with
  | nil => intro s s1 h k; rw [adjL] at h; cases h; exact AdjW.done _ k
  | cons a as ih =>
    intro s s1 h k
    rw [adjL] at h
    split at h
    case h_2 => cases h
    rename_i s2 h2
    exact .one a s s2 h2 (ih h k)
/-- turns at will -/
theorem Run.adjw (h : AdjW (fun s1 => Run Φ E all D lo ops s1 K) s) : Run Φ E all D lo ops s K := by
  have h := AdjW.mono (fun _ r => Run.h r) h
  refine ⟨?_⟩
  cases ops with
  | nil => exact AdjW.join h
  | cons o r => exact AdjW.join h
theorem Run.adj (as : List Adj) (h : adjL s as = some s1) (k : Run Φ E all D lo ops s1 K) : Run Φ E all D lo ops s K := Run.adjw (AdjW.ofL h k)

theorem Run.go (h : runOps E.tab all D ops s = some (rest, s')) (k : Run Φ E all D lo rest s' K) : Run Φ E all D lo ops s K := by
  replace k := k.h
  refine ⟨?_⟩
  induction ops generalizing s with
  | nil => rw [runOps] at h; cases h; exact k
  | cons o r ih =>
    rw [runOps] at h
    cases hst : stops all D s o with
    | true => rw [hst] at h; cases h; exact k
    | false =>
      rw [hst] at h
      cases hg : guardAV all s o.guard with
      | none => rw [hg] at h; cases h; exact k
      | some b =>
        rw [hg] at h
        cases b with
        | true =>
          cases he : evalO E.tab s o.op o.dst with
          | none => simp only [he] at h; cases h; exact k
          | some s1 =>
            simp only [he] at h
            refine AdjW.done _ ⟨true, hg, ?_⟩
            show wpOp _ _ _ _ _ _
            unfold wpOp
            simp only [isCall_of_stops hst hg]
            exact .inl ⟨s1, he, ih h⟩
        | false =>
          cases he : s.putT o.dst (.t (.sc undef)) with
          | none => simp only [he] at h; cases h; exact k
          | some s1 =>
            simp only [he] at h
            exact AdjW.done _ ⟨false, hg, s1, he, ih h⟩

theorem Run.go1 (h : runOps1 E.tab all D ops s = some (rest, s')) (k : Run Φ E all D lo rest s' K) : Run Φ E all D lo ops s K := Run.go (runOps1_eq h) k
/-- what lives on behind a region -/
def adjO (lo : Option (List Nat)) (s : St) : Option St :=
  match lo with
  | none => some s
  | some ts => adj s (.slots ts)
theorem Run.done (h : adjO lo s = some s') (k : K s') : Run Φ E all D lo [] s K := by
  refine ⟨?_⟩
  cases lo with
  | none => cases h; exact AdjW.done _ k
  | some ts => exact AdjW.one (.slots ts) _ _ h (AdjW.done _ k)

theorem RunQ.go (h : runQ E.tab all D ops s = some (rest, s')) (k : RunQ Φ E all D rest s' pend K) : RunQ Φ E all D ops s pend K := by
  replace k := k.h
  refine ⟨?_⟩
  induction ops generalizing s with
  | nil => rw [runQ] at h; cases h; exact k
  | cons o r ih =>
    rw [runQ] at h
    cases hst : stops all D s o with
    | true => rw [hst] at h; cases h; exact k
    | false =>
      rw [hst] at h
      cases hd : o.dst with
      | none => simp only [hd] at h; cases h; exact k
      | some d =>
        simp only [hd] at h
        cases hg : guardAV all s o.guard with
        | none => simp only [hg] at h; cases h; exact k
        | some b =>
          simp only [hg] at h
          cases b with
          | true =>
            cases ht : turns o.op with
            | true => simp only [ht] at h; cases h; exact k
            | false =>
              simp only [ht] at h
              cases he : evalV E.tab s o.op with
              | none => simp only [he] at h; cases h; exact k
              | some v =>
                simp only [he] at h
                cases hp : s.putT (some d) v with
                | none => simp only [hp] at h; cases h; exact k
                | some s1 =>
                  simp only [hp] at h
                  refine ⟨d, v, none, s1, hd, ⟨true, hg, ?_⟩, hp, ih h⟩
                  simp only [isCall_of_stops hst hg]
                  exact .inl ⟨he, ht, trivial⟩
          | false =>
            cases hp : s.putT (some d) (.t (.sc undef)) with
            | none => simp only [hp] at h; cases h; exact k
            | some s1 =>
              simp only [hp] at h
              exact ⟨d, _, none, s1, hd, ⟨false, hg, rfl, rfl⟩, hp, ih h⟩
theorem RunQ.go1 (h : runQ1 E.tab all D ops s = some (rest, s')) (k : RunQ Φ E all D rest s' pend K) : RunQ Φ E all D ops s pend K := RunQ.go (runQ1_eq h) k
theorem RunQ.done {t : List (Nat × AV)} {h : List (Nat × List AV)} {oo os : List (Nat × QV × List (List T))} {n : Nat} (ho : appS pend oo = some os) (k : K ⟨t, h, os, n⟩) : RunQ Φ E all D [] ⟨t, h, oo, n⟩ pend K := ⟨⟨os, ho, k⟩⟩
theorem RunQ.call {d : Nat} {f : Operand} {args : Array Operand} {g : FuncId} {as : List AV} {r v : AV} (hd : o.dst = some d) (hg : guardAV all s o.guard = some true) (hc : isCall o.op = some (f, args)) (hcg : calleeG s f = some g)
    (ha : argsAV E.md s f args.toList = some (g, as, s)) (hm : allF (modeOf E.md g) = true) (hr : Φ g as r) (hp : argsPlain E.md s f args.toList g = true ∨ r.own) (hq : qRes d r = some (v, none)) (he : s.putT (some d) v = some s') (k : RunQ Φ E all D rest s' pend K) : RunQ Φ E all D (o :: rest) s pend K := by
  refine ⟨⟨d, v, none, s', hd, ⟨true, hg, ?_⟩, he, k.h⟩⟩
  simp only [hc]
  exact ⟨g, as, r, hcg, ha, hm, hr, hp, hq⟩
theorem RunQ.callO {d : Nat} {f : Operand} {args : Array Operand} {g : FuncId} {as : List AV} {r v : AV} {rows : List (List T)} (hd : o.dst = some d) (hg : guardAV all s o.guard = some true) (hc : isCall o.op = some (f, args)) (hcg : calleeG s f = some g)
    (ha : argsAV E.md s f args.toList = some (g, as, s)) (hm : allF (modeOf E.md g) = true) (hr : Φ g as r) (hp : argsPlain E.md s f args.toList g = true ∨ r.own) (hq : qRes d r = some (v, some rows)) (he : s.putT (some d) v = some s') (hf : s.free d = true) (k : RunQ Φ E all D rest s' ((d, 0, rows) :: pend) K) : RunQ Φ E all D (o :: rest) s pend K := by
  refine ⟨⟨d, v, some rows, s', hd, ⟨true, hg, ?_⟩, he, hf, k.h⟩⟩
  simp only [hc]
  exact ⟨g, as, r, hcg, ha, hm, hr, hp, hq⟩

theorem RunQ.build {d : Nat} {rows : List (List T)} (hd : o.dst = some d) (hg : guardAV all s o.guard = some true) (hc : isCall o.op = none) (hb : buildQ E.tab s o.op = some rows) (he : s.putT (some d) (.rf d) = some s') (hf : s.free d = true) (k : RunQ Φ E all D rest s' ((d, 0, rows) :: pend) K) : RunQ Φ E all D (o :: rest) s pend K := by
  refine ⟨⟨d, _, some rows, s', hd, ⟨true, hg, ?_⟩, he, hf, k.h⟩⟩
  simp only [hc]
  exact .inr (by simpa using hb)

theorem pu_same {α : Type} {l : List (Nat × α)} {d : Nat} {v : α} (h : lk l d = some v) : pu l d v = some l := by
  induction l with
  | nil => cases h
  | cons x r ih =>
    obtain ⟨k, w⟩ := x
    rw [pu]
    rw [lk] at h
    cases hk : Nat.beq k d with
    | true => rw [hk] at h; cases h; rfl
    | false => rw [hk] at h; simp only [ih h]

/-- a truth in a slot is decided -/
theorem Run.split (d : Nat) {p : Bool} {t t1 t0 : List (Nat × AV)} {h : List (Nat × List AV)} {oo : List (Nat × QV × List (List T))} {n : Nat} (hd : lk t d = some (.t (.sc (.bool p)))) (h1 : pu t d (.t (.sc (.bool true))) = some t1) (h0 : pu t d (.t (.sc (.bool false))) = some t0)
    (k1 : p = true → Run Φ E all (d :: D) lo ops ⟨t1, h, oo, n⟩ K) (k0 : p = false → Run Φ E all (d :: D) lo ops ⟨t0, h, oo, n⟩ K) : Run Φ E all D lo ops ⟨t, h, oo, n⟩ K := by
  cases p with
  | true => rw [pu_same hd] at h1; cases h1; exact ⟨(k1 rfl).h⟩
  | false => rw [pu_same hd] at h0; cases h0; exact ⟨(k0 rfl).h⟩
theorem RunQ.split (d : Nat) {p : Bool} {t t1 t0 : List (Nat × AV)} {h : List (Nat × List AV)} {oo : List (Nat × QV × List (List T))} {n : Nat} (hd : lk t d = some (.t (.sc (.bool p)))) (h1 : pu t d (.t (.sc (.bool true))) = some t1) (h0 : pu t d (.t (.sc (.bool false))) = some t0)
    (k1 : p = true → RunQ Φ E all (d :: D) ops ⟨t1, h, oo, n⟩ pend K) (k0 : p = false → RunQ Φ E all (d :: D) ops ⟨t0, h, oo, n⟩ pend K) : RunQ Φ E all D ops ⟨t, h, oo, n⟩ pend K := by
  cases p with
  | true => rw [pu_same hd] at h1; cases h1; exact ⟨(k1 rfl).h⟩
  | false => rw [pu_same hd] at h0; cases h0; exact ⟨(k0 rfl).h⟩

theorem Run.splitG {j : Nat} {want : Bool} {dst : Option Nat} {op : Op} {tyr : Nat} {pos : String} {after : Array Edge} {q : Oper} {d : Nat} {p : Bool} {t t1 t0 : List (Nat × AV)} {h : List (Nat × List AV)} {oo : List (Nat × QV × List (List T))} {n : Nat}
    (hj : nthS all j = some q) (hq : q.dst = some d) (hD : memB d D = false) (hd : lk t d = some (.t (.sc (.bool p)))) (h1 : pu t d (.t (.sc (.bool true))) = some t1) (h0 : pu t d (.t (.sc (.bool false))) = some t0)
    (k1 : p = true → Run Φ E all (d :: D) lo ({ dst, op, type := tyr, pos, after, guard := some (j, want) } :: rest) ⟨t1, h, oo, n⟩ K)
    (k0 : p = false → Run Φ E all (d :: D) lo ({ dst, op, type := tyr, pos, after, guard := some (j, want) } :: rest) ⟨t0, h, oo, n⟩ K) :
    Run Φ E all D lo ({ dst, op, type := tyr, pos, after, guard := some (j, want) } :: rest) ⟨t, h, oo, n⟩ K := by
  have _ := hj; have _ := hq; have _ := hD
  exact Run.split d hd h1 h0 k1 k0
theorem Run.splitP {dst : Option Nat} {a b : Operand} {tyr : Nat} {pos : String} {after : Array Edge} {g : Option (Nat × Bool)} {d : Nat} {p : Bool} {t t1 t0 : List (Nat × AV)} {h : List (Nat × List AV)} {oo : List (Nat × QV × List (List T))} {n : Nat}
    (hD : memB d D = false) (hd : lk t d = some (.t (.sc (.bool p)))) (h1 : pu t d (.t (.sc (.bool true))) = some t1) (h0 : pu t d (.t (.sc (.bool false))) = some t0)
    (k1 : p = true → Run Φ E all (d :: D) lo ({ dst, op := .pick (.tmp d) a b, type := tyr, pos, after, guard := g } :: rest) ⟨t1, h, oo, n⟩ K)
    (k0 : p = false → Run Φ E all (d :: D) lo ({ dst, op := .pick (.tmp d) a b, type := tyr, pos, after, guard := g } :: rest) ⟨t0, h, oo, n⟩ K) :
    Run Φ E all D lo ({ dst, op := .pick (.tmp d) a b, type := tyr, pos, after, guard := g } :: rest) ⟨t, h, oo, n⟩ K := by
  have _ := hD
  exact Run.split d hd h1 h0 k1 k0
theorem RunQ.splitG {j : Nat} {want : Bool} {dst : Option Nat} {op : Op} {tyr : Nat} {pos : String} {after : Array Edge} {q : Oper} {d : Nat} {p : Bool} {t t1 t0 : List (Nat × AV)} {h : List (Nat × List AV)} {oo : List (Nat × QV × List (List T))} {n : Nat}
    (hj : nthS all j = some q) (hq : q.dst = some d) (hD : memB d D = false) (hd : lk t d = some (.t (.sc (.bool p)))) (h1 : pu t d (.t (.sc (.bool true))) = some t1) (h0 : pu t d (.t (.sc (.bool false))) = some t0)
    (k1 : p = true → RunQ Φ E all (d :: D) ({ dst, op, type := tyr, pos, after, guard := some (j, want) } :: rest) ⟨t1, h, oo, n⟩ pend K)
    (k0 : p = false → RunQ Φ E all (d :: D) ({ dst, op, type := tyr, pos, after, guard := some (j, want) } :: rest) ⟨t0, h, oo, n⟩ pend K) :
    RunQ Φ E all D ({ dst, op, type := tyr, pos, after, guard := some (j, want) } :: rest) ⟨t, h, oo, n⟩ pend K := by
  have _ := hj; have _ := hq; have _ := hD
  exact RunQ.split d hd h1 h0 k1 k0
theorem RunQ.splitP {dst : Option Nat} {a b : Operand} {tyr : Nat} {pos : String} {after : Array Edge} {g : Option (Nat × Bool)} {d : Nat} {p : Bool} {t t1 t0 : List (Nat × AV)} {h : List (Nat × List AV)} {oo : List (Nat × QV × List (List T))} {n : Nat}
    (hD : memB d D = false) (hd : lk t d = some (.t (.sc (.bool p)))) (h1 : pu t d (.t (.sc (.bool true))) = some t1) (h0 : pu t d (.t (.sc (.bool false))) = some t0)
    (k1 : p = true → RunQ Φ E all (d :: D) ({ dst, op := .pick (.tmp d) a b, type := tyr, pos, after, guard := g } :: rest) ⟨t1, h, oo, n⟩ pend K)
    (k0 : p = false → RunQ Φ E all (d :: D) ({ dst, op := .pick (.tmp d) a b, type := tyr, pos, after, guard := g } :: rest) ⟨t0, h, oo, n⟩ pend K) :
    RunQ Φ E all D ({ dst, op := .pick (.tmp d) a b, type := tyr, pos, after, guard := g } :: rest) ⟨t, h, oo, n⟩ pend K := by
  have _ := hD
  exact RunQ.split d hd h1 h0 k1 k0
def told : Option AV → Bool
  | some (.t (.sc (.bool true))) => true
  | some (.t (.sc (.bool false))) => true
  | _ => false
theorem Run.gT {j : Nat} {want : Bool} {dst : Option Nat} {op : Op} {tyr : Nat} {pos : String} {after : Array Edge} {q : Oper} {d : Nat}
    (hj : nthS all j = some q) (hq : q.dst = some d) (hD : memB d D = false) (hd : told (lk s.t d) = true) (k1 : Run Φ E all (d :: D) lo ({ dst, op, type := tyr, pos, after, guard := some (j, want) } :: rest) s K) :
    Run Φ E all D lo ({ dst, op, type := tyr, pos, after, guard := some (j, want) } :: rest) s K := by
  have _ := hj; have _ := hq; have _ := hD; have _ := hd
  exact ⟨k1.h⟩
theorem Run.pT {dst : Option Nat} {a b : Operand} {tyr : Nat} {pos : String} {after : Array Edge} {g : Option (Nat × Bool)} {d : Nat}
    (hD : memB d D = false) (hd : told (lk s.t d) = true) (k1 : Run Φ E all (d :: D) lo ({ dst, op := .pick (.tmp d) a b, type := tyr, pos, after, guard := g } :: rest) s K) :
    Run Φ E all D lo ({ dst, op := .pick (.tmp d) a b, type := tyr, pos, after, guard := g } :: rest) s K := by
  have _ := hD; have _ := hd
  exact ⟨k1.h⟩
theorem RunQ.gT {j : Nat} {want : Bool} {dst : Option Nat} {op : Op} {tyr : Nat} {pos : String} {after : Array Edge} {q : Oper} {d : Nat}
    (hj : nthS all j = some q) (hq : q.dst = some d) (hD : memB d D = false) (hd : told (lk s.t d) = true) (k1 : RunQ Φ E all (d :: D) ({ dst, op, type := tyr, pos, after, guard := some (j, want) } :: rest) s pend K) :
    RunQ Φ E all D ({ dst, op, type := tyr, pos, after, guard := some (j, want) } :: rest) s pend K := by
  have _ := hj; have _ := hq; have _ := hD; have _ := hd
  exact ⟨k1.h⟩
theorem RunQ.pT {dst : Option Nat} {a b : Operand} {tyr : Nat} {pos : String} {after : Array Edge} {g : Option (Nat × Bool)} {d : Nat}
    (hD : memB d D = false) (hd : told (lk s.t d) = true) (k1 : RunQ Φ E all (d :: D) ({ dst, op := .pick (.tmp d) a b, type := tyr, pos, after, guard := g } :: rest) s pend K) :
    RunQ Φ E all D ({ dst, op := .pick (.tmp d) a b, type := tyr, pos, after, guard := g } :: rest) s pend K := by
  have _ := hD; have _ := hd
  exact ⟨k1.h⟩
/-- a guard that is told already -/
theorem Run.hadG {j : Nat} {want : Bool} {dst : Option Nat} {op : Op} {tyr : Nat} {pos : String} {after : Array Edge} {q : Oper} {d : Nat}
    (hj : nthS all j = some q) (hq : q.dst = some d) (hD : memB d D = false) (k1 : Run Φ E all (d :: D) lo ({ dst, op, type := tyr, pos, after, guard := some (j, want) } :: rest) s K) :
    Run Φ E all D lo ({ dst, op, type := tyr, pos, after, guard := some (j, want) } :: rest) s K := by
  have _ := hj; have _ := hq; have _ := hD
  exact ⟨k1.h⟩

theorem Run.one (hg : guardAV all s o.guard = some true) (hc : isCall o.op = none) (he : evalO E.tab s o.op o.dst = some s') (k : Run Φ E all D lo rest s' K) : Run Φ E all D lo (o :: rest) s K := by
  refine ⟨AdjW.done _ ⟨true, hg, ?_⟩⟩
  show wpOp _ _ _ _ _ _
  unfold wpOp
  simp only [hc]
  exact .inl ⟨s', he, k.h⟩
/-- an operation that wants something to hold -/
theorem Run.cnd {c : Prop} (hg : guardAV all s o.guard = some true) (hc : isCall o.op = none) (he : evalC E.tab s o.op o.dst = some (c, s')) (hcc : c) (k : Run Φ E all D lo rest s' K) : Run Φ E all D lo (o :: rest) s K := by
  refine ⟨AdjW.done _ ⟨true, hg, ?_⟩⟩
  show wpOp _ _ _ _ _ _
  unfold wpOp
  simp only [hc]
  exact .inr (.inl ⟨c, s', .inl he, hcc, k.h⟩)
theorem Run.cnd2 {c : Prop} (hg : guardAV all s o.guard = some true) (hc : isCall o.op = none) (he : evalC2 E.tab s o.op o.dst = some (c, s')) (hcc : c) (k : Run Φ E all D lo rest s' K) : Run Φ E all D lo (o :: rest) s K := by
  refine ⟨AdjW.done _ ⟨true, hg, ?_⟩⟩
  show wpOp _ _ _ _ _ _
  unfold wpOp
  simp only [hc]
  exact .inr (.inl ⟨c, s', .inr (.inl he), hcc, k.h⟩)

theorem Run.call {f : Operand} {args : Array Operand} {g : FuncId} {as : List AV} {r : AV} (hg : guardAV all s o.guard = some true) (hc : isCall o.op = some (f, args))
    (ha : argsAV E.md s f args.toList = some (g, as, s1)) (hr : Φ g as r) (hp : argsPlain E.md s1 f args.toList g = true) (he : putBack s s1 o.dst args.toList r = some s') (k : Run Φ E all D lo rest s' K) : Run Φ E all D lo (o :: rest) s K := by
  refine ⟨AdjW.done _ ⟨true, hg, ?_⟩⟩
  show wpOp _ _ _ _ _ _
  unfold wpOp
  simp only [hc]
  exact ⟨g, as, r, s1, s', ha, hr, .inl hp, he, k.h⟩
theorem Run.callB {f : Operand} {args : Array Operand} {g : FuncId} {as : List AV} {r : AV} (hg : guardAV all s o.guard = some true) (hc : isCall o.op = some (f, args))
    (ha : argsAV E.md s f args.toList = some (g, as, s1)) (hr : Φ g as r) (hp : r.own) (he : putBack s s1 o.dst args.toList r = some s') (k : Run Φ E all D lo rest s' K) : Run Φ E all D lo (o :: rest) s K := by
  refine ⟨AdjW.done _ ⟨true, hg, ?_⟩⟩
  show wpOp _ _ _ _ _ _
  unfold wpOp
  simp only [hc]
  exact ⟨g, as, r, s1, s', ha, hr, .inr hp, he, k.h⟩

/-- a call of a function whose number is not told: nothing goes for good -/
def argsM (s : St) (f : Operand) (args : List Operand) : Option (FuncId × List AV × St) :=
  match movesL [] s args with
  | some (as, s) => match calleeAV s f with
    | some (g, caps) => match appS as caps with
      | some l => some (g, l, s)
      | none => none
    | none => none
  | none => none
def plainM (s : St) (f : Operand) (args : List Operand) : Bool :=
  match (s.ev f).plain with
  | true => allPlain [] s args
  | false => false
theorem Run.callF {f : Operand} {args : Array Operand} {g : FuncId} {as : List AV} {r : AV} (hg : guardAV all s o.guard = some true) (hc : isCall o.op = some (f, args)) (hcg : calleeG s f = some g) (hm : modeOf E.md g = [])
    (ha : argsM s f args.toList = some (g, as, s1)) (hr : Φ g as r) (hp : plainM s1 f args.toList = true) (he : putBack s s1 o.dst args.toList r = some s') (k : Run Φ E all D lo rest s' K) : Run Φ E all D lo (o :: rest) s K := by
  refine Run.call (g := g) (as := as) (s1 := s1) hg hc ?_ hr ?_ he k
  · unfold argsAV; unfold argsM at ha; simp only [hcg, hm]; exact ha
  · unfold argsPlain; unfold plainM at hp; simp only [hm]; exact hp
theorem Run.cnd3 {c : Prop} (hg : guardAV all s o.guard = some true) (hc : isCall o.op = none) (he : evalC3 E.tab s o.op o.dst = some (c, s')) (hcc : c) (k : Run Φ E all D lo rest s' K) : Run Φ E all D lo (o :: rest) s K := by
  refine ⟨AdjW.done _ ⟨true, hg, ?_⟩⟩
  show wpOp _ _ _ _ _ _
  unfold wpOp
  simp only [hc]
  exact .inr (.inl ⟨c, s', .inr (.inr (.inl he)), hcc, k.h⟩)

theorem Run.cnd4 {c : Prop} (hg : guardAV all s o.guard = some true) (hc : isCall o.op = none) (he : evalC4 E.tab s o.op o.dst = some (c, s')) (hcc : c) (k : Run Φ E all D lo rest s' K) : Run Φ E all D lo (o :: rest) s K := by
  refine ⟨AdjW.done _ ⟨true, hg, ?_⟩⟩
  show wpOp _ _ _ _ _ _
  unfold wpOp
  simp only [hc]
  exact .inr (.inl ⟨c, s', .inr (.inr (.inr he)), hcc, k.h⟩)
/-- is a slice nil? -/
theorem Run.nilc {n : Bool} {rows : List (List T)} {f : Bool → St} (hg : guardAV all s o.guard = some true) (hc : isCall o.op = none) (he : nilQ E.tab s o.op = some (n, rows)) (hp : ∀ b, s.putT o.dst (.t (.sc (.bool b))) = some (f b))
    (k1 : rows ≠ [] → Run Φ E all D lo rest (f n) K) (k2 : rows = [] → ∀ b, Run Φ E all D lo rest (f b) K) : Run Φ E all D lo (o :: rest) s K := by
  refine ⟨AdjW.done _ ⟨true, hg, ?_⟩⟩
  show wpOp _ _ _ _ _ _
  unfold wpOp
  simp only [hc]
  exact .inr (.inr ⟨n, rows, f, he, hp, fun h => (k1 h).h, fun h b => (k2 h b).h⟩)

/-- xs[i], its row told -/
theorem Run.ix {dst : Option Nat} {ty : Nat} {x i : Operand} {tyr : Nat} {pos : String} {after : Array Edge} {g : Option (Nat × Bool)} {xv y : AV} {rows : List (List T)} {kk : IntKind} {n : Int} {k : Nat} {e sz by' : Nat} {z : Option (List T)} {ei : TI} {r : List T}
    (hg : guardAV all s g = some true) (hx : evA s x = some xv) (hrows : rowsAV s xv = some rows) (hi : s.ev i = .t (.sc (.int kk n))) (ht : lk E.tab ty = some ⟨.sl e, sz, by', z⟩) (he : lk E.tab e = some ei)
    (hn : n = (k : Int)) (hr : rows[k]? = some r) (hl : lenS r ei.size = true) (hy : rowPtr xv k r = some y) (hp : s.putT dst y = some s') (K1 : Run Φ E all D lo rest s' K) :
    Run Φ E all D lo ({ dst, op := .indexAddr ty x i, type := tyr, pos, after, guard := g } :: rest) s K := by
  refine Run.one hg rfl ?_ K1
  subst hn
  have h0 : (0 : Int) ≤ (k : Int) := by omega
  simp only [evalO, turns, evalV, hi, indexAddrAV, ht, hx, hrows, he, h0, if_true, Int.toNat_natCast, hr, hl, hy, hp]
theorem RunQ.ix {d : Nat} {ty : Nat} {x i : Operand} {tyr : Nat} {pos : String} {after : Array Edge} {g : Option (Nat × Bool)} {xv y : AV} {rows : List (List T)} {kk : IntKind} {n : Int} {k : Nat} {e sz by' : Nat} {z : Option (List T)} {ei : TI} {r : List T}
    (hg : guardAV all s g = some true) (hx : evA s x = some xv) (hrows : rowsAV s xv = some rows) (hi : s.ev i = .t (.sc (.int kk n))) (ht : lk E.tab ty = some ⟨.sl e, sz, by', z⟩) (he : lk E.tab e = some ei)
    (hn : n = (k : Int)) (hr : rows[k]? = some r) (hl : lenS r ei.size = true) (hy : rowPtr xv k r = some y) (hp : s.putT (some d) y = some s') (K1 : RunQ Φ E all D rest s' pend K) :
    RunQ Φ E all D ({ dst := some d, op := .indexAddr ty x i, type := tyr, pos, after, guard := g } :: rest) s pend K := by
  refine ⟨⟨d, y, none, s', rfl, ⟨true, hg, ?_⟩, hp, K1.h⟩⟩
  subst hn
  have h0 : (0 : Int) ≤ (k : Int) := by omega
  refine .inl ⟨?_, rfl, rfl⟩
  simp only [evalV, hi, indexAddrAV, ht, hx, hrows, he, h0, if_true, Int.toNat_natCast, hr, hl, hy]

/-- what a load reads in a root's row -/
def loadRow (tab : Tab) (ty id k : Nat) (r : List T) : Option AV :=
  match lk tab ty with
  | some ti => match dropS k r with
    | some cs => match cellsRp id cs with
      | some cs => match ti.d.isAgg with
        | true => match takeS ti.size cs with
          | some l => some (.ag l)
          | none => none
        | false => match nthS cs 0 with
          | some v => fA v
          | none => none
      | none => none
    | none => none
  | none => none
theorem loadRow_eq {tab : Tab} {ty id i k : Nat} {q : QV} {rows : List (List T)} {r : List T} {v : AV} (ho : lk s.o id = some (q, rows)) (hr : rows[i]? = some r) (h : loadRow tab ty id k r = some v) : loadAV tab s ty (.rp id i k) = some v := by
  unfold loadRow at h
  unfold loadAV
  cases h1 : lk tab ty with
  | none => rw [h1] at h; cases h
  | some ti =>
    rw [h1] at h
    simp only [ptrCells, ho, hr] at h ⊢
    cases h2 : dropS k r with
    | none => rw [h2] at h; cases h
    | some c0 =>
      rw [h2] at h
      simp only at h ⊢
      cases h3 : cellsRp id c0 with
      | none => rw [h3] at h; cases h
      | some c1 => rw [h3] at h; exact h
theorem Run.ldr {dst : Option Nat} {ty : Nat} {p : Operand} {tyr : Nat} {pos : String} {after : Array Edge} {g : Option (Nat × Bool)} {id i k : Nat} {q : QV} {rows : List (List T)} {r : List T} {v : AV}
    (hg : guardAV all s g = some true) (hp : s.ev p = .rp id i k) (ho : lk s.o id = some (q, rows)) (hr : rows[i]? = some r) (hv : loadRow E.tab ty id k r = some v) (hput : s.putT dst v = some s') (K1 : Run Φ E all D lo rest s' K) :
    Run Φ E all D lo ({ dst, op := .load ty p, type := tyr, pos, after, guard := g } :: rest) s K := by
  refine Run.one hg rfl ?_ K1
  simp only [evalO, turns, evalV, hp, loadRow_eq ho hr hv, hput]
theorem RunQ.ldr {d : Nat} {ty : Nat} {p : Operand} {tyr : Nat} {pos : String} {after : Array Edge} {g : Option (Nat × Bool)} {id i k : Nat} {q : QV} {rows : List (List T)} {r : List T} {v : AV}
    (hg : guardAV all s g = some true) (hp : s.ev p = .rp id i k) (ho : lk s.o id = some (q, rows)) (hr : rows[i]? = some r) (hv : loadRow E.tab ty id k r = some v) (hput : s.putT (some d) v = some s') (K1 : RunQ Φ E all D rest s' pend K) :
    RunQ Φ E all D ({ dst := some d, op := .load ty p, type := tyr, pos, after, guard := g } :: rest) s pend K := by
  refine ⟨⟨d, v, none, s', rfl, ⟨true, hg, ?_⟩, hput, K1.h⟩⟩
  refine .inl ⟨?_, rfl, rfl⟩
  simp only [evalV, hp, loadRow_eq ho hr hv]

/-- what a store leaves of a root's row -/
def storeRow (s : St) (id i k size : Nat) (cs : List AV) (r : List T) : Option (List (List T) × St) :=
  match lenS cs size with
  | true => match absorbL s cs with
    | some (ts, s) => match lk s.o id with
      | some (q, rows) => match setS r k ts with
        | some r' => match s.putO id q (rows.set i r') with
          | some s => some (rows, s)
          | none => none
        | none => none
      | none => none
    | none => none
  | false => none
theorem storeRow_eq {id i k size : Nat} {cs : List AV} {r : List T} {rows : List (List T)} (h : storeRow s id i k size cs r = some (rows, s1)) (hr : rows[i]? = some r) : storeRp s id i k size cs = some s1 := by
  unfold storeRow at h
  unfold storeRp
  cases h1 : lenS cs size with
  | false => rw [h1] at h; cases h
  | true =>
    rw [h1] at h
    cases h2 : absorbL s cs with
    | none => rw [h2] at h; cases h
    | some p =>
      obtain ⟨ts, s2⟩ := p
      rw [h2] at h
      simp only at h ⊢
      cases h3 : lk s2.o id with
      | none => rw [h3] at h; cases h
      | some p =>
        obtain ⟨q, rows'⟩ := p
        rw [h3] at h
        simp only at h ⊢
        cases h4 : setS r k ts with
        | none => rw [h4] at h; cases h
        | some r' =>
          rw [h4] at h
          simp only at h ⊢
          cases h5 : s2.putO id q (rows'.set i r') with
          | none => rw [h5] at h; cases h
          | some s3 =>
            rw [h5] at h
            simp only at h
            cases h
            rw [hr]; simp only [h4, h5]
theorem Run.str {dst : Option Nat} {ty : Nat} {p x : Operand} {tyr : Nat} {pos : String} {after : Array Edge} {g : Option (Nat × Bool)} {ti : TI} {id i k : Nat} {cs0 cs : List AV} {rows : List (List T)} {r : List T} {q0 : QV}
    (hg : guardAV all s g = some true) (ht : lk E.tab ty = some ti) (hp : s.ev p = .rp id i k) (hx : (s.ev x).cells? = some cs0) (hx2 : mapS fA cs0 = some cs) (ho : lk s.o id = some (q0, rows)) (hr : rows[i]? = some r) (hs : storeRow s id i k ti.size cs r = some (rows, s1))
    (hput : s1.putT dst (.t (.sc undef)) = some s') (K1 : Run Φ E all D lo rest s' K) :
    Run Φ E all D lo ({ dst, op := .store ty p x, type := tyr, pos, after, guard := g } :: rest) s K := by
  have _ := ho
  refine Run.one hg rfl ?_ K1
  simp only [evalO, turns, evalM, ht, hx, hx2, hp, storeRow_eq hs hr, hput]
/-- a part of a shared slice -/
theorem Run.slt {dst : Option Nat} {ty : Nat} {x : Operand} {l0 hi : Option Operand} {tyr : Nat} {pos : String} {after : Array Edge} {g : Option (Nat × Bool)} {ow : Bool} {rows : List (List T)} {e sz by' : Nat} {z : Option (List T)} {ei : TI} {l h : Int}
    (hg : guardAV all s g = some true) (hx : s.ev x = .t (.sl ow rows)) (ht : lk E.tab ty = some ⟨.sl e, sz, by', z⟩) (he : lk E.tab e = some ei) (hl : boundAV s l0 0 = some l) (hh : boundAV s hi rows.length = some h)
    (hc : 0 ≤ l ∧ l ≤ h ∧ h ≤ rows.length ∧ ∀ r ∈ rows, r.length = ei.size) (hp : s.putT dst (.t (.sl false ((rows.take h.toNat).drop l.toNat))) = some s') (K1 : Run Φ E all D lo rest s' K) :
    Run Φ E all D lo ({ dst, op := .slice ty x l0 hi none, type := tyr, pos, after, guard := g } :: rest) s K := by
  refine Run.one hg rfl ?_ K1
  cases hi with
  | none =>
    simp only [boundAV, Option.some.injEq] at hh
    subst hh
    simp only [evalO, turns, evalV, hl, sliceAV, ht, hx, he, Option.getD_some, Option.getD_none]
    rw [if_pos hc]; simp only [hp]
  | some y =>
    have hh' : boundAV s (some y) 0 = some h := by simpa only [boundAV] using hh
    simp only [evalO, turns, evalV, hl, hh', sliceAV, ht, hx, he, Option.getD_some]
    rw [if_pos hc]; simp only [hp]
end

section
variable {Φ : Rel3} {E : Env} {s s' : St} {Q : Ex → St → Prop}
theorem wpOps_mono {Φ' : Rel3} (hΦ : ∀ f as r, Φ f as r → Φ' f as r) {all : List Oper} : ∀ (ops : List Oper) (s : St) (K K' : St → Prop), (∀ s, K s → K' s) → wpOps Φ E all ops s K → wpOps Φ' E all ops s K' := by
  intro ops
  induction ops with
  | nil => intro s K K' hk h; exact AdjW.mono hk h
  | cons o rest ih =>
    intro s K K' hk h
    refine AdjW.mono ?_ h
    rintro s0 ⟨b, hg, h⟩
    refine ⟨b, hg, ?_⟩
    cases b with
    | false => obtain ⟨s', hp, h⟩ := h; exact ⟨s', hp, ih _ _ _ hk h⟩
    | true =>
      simp only [wpOp] at h ⊢
      split
      · rename_i f args heq
        simp only [heq] at h
        obtain ⟨g, as, r, s1, s', ha, hr, hp, he, h⟩ := h
        exact ⟨g, as, r, s1, s', ha, hΦ _ _ _ hr, hp, he, ih _ _ _ hk h⟩
      · rename_i heq
        simp only [heq] at h
        rcases h with ⟨s', he, h⟩ | ⟨c, s', he, hc, h⟩ | ⟨n, rows, f, hn, hp, h1, h2⟩
        · exact .inl ⟨s', he, ih _ _ _ hk h⟩
        · exact .inr (.inl ⟨c, s', he, hc, ih _ _ _ hk h⟩)
        · exact .inr (.inr ⟨n, rows, f, hn, hp, fun h => ih _ _ _ hk (h1 h), fun h b => ih _ _ _ hk (h2 h b)⟩)
theorem wpQ_mono {Φ' : Rel3} (hΦ : ∀ f as r, Φ f as r → Φ' f as r) {all : List Oper} : ∀ (ops : List Oper) (s : St) (pend : List (Nat × QV × List (List T))) (K K' : St → Prop), (∀ s, K s → K' s) → wpQ Φ E all ops s pend K → wpQ Φ' E all ops s pend K' := by
  intro ops
  induction ops with
  | nil => intro s pend K K' hk h; obtain ⟨o, ho, h⟩ := h; exact ⟨o, ho, hk _ h⟩
  | cons o rest ih =>
    intro s pend K K' hk h
    obtain ⟨d, v, root, s', hd, ⟨b, hg, hq⟩, hp, h⟩ := h
    refine ⟨d, v, root, s', hd, ⟨b, hg, ?_⟩, hp, ?_⟩
    · cases b with
      | false => exact hq
      | true =>
        simp only at hq ⊢
        split
        · rename_i f args heq
          simp only [heq] at hq
          obtain ⟨g, as, r, hcg, ha, hm, hr, hp, he⟩ := hq
          exact ⟨g, as, r, hcg, ha, hm, hΦ _ _ _ hr, hp, he⟩
        · rename_i heq
          simp only [heq] at hq
          exact hq
    · cases root with
      | none => exact ih _ _ _ _ hk h
      | some rows => exact ⟨h.1, ih _ _ _ _ hk h.2⟩

theorem wpOp_mono' {Φ' : Rel3} (hΦ : ∀ f as r, Φ f as r → Φ' f as r) {op : Op} {dst : Option Nat} {s : St} {K K' : St → Prop} (hk : ∀ s, K s → K' s) (h : wpOp Φ E op dst s K) : wpOp Φ' E op dst s K' := by
  simp only [wpOp] at h ⊢
  split
  · rename_i f args heq
    simp only [heq] at h
    obtain ⟨g, as, r, s1, s', ha, hr, hp, he, h⟩ := h
    exact ⟨g, as, r, s1, s', ha, hΦ _ _ _ hr, hp, he, hk _ h⟩
  · rename_i heq
    simp only [heq] at h
    rcases h with ⟨s', he, h⟩ | ⟨c, s', he, hc, h⟩ | ⟨n, rows, f, hn, hp, h1, h2⟩
    · exact .inl ⟨s', he, hk _ h⟩
    · exact .inr (.inl ⟨c, s', he, hc, hk _ h⟩)
    · exact .inr (.inr ⟨n, rows, f, hn, hp, fun h => hk _ (h1 h), fun h b => hk _ (h2 h b)⟩)
theorem wpL_mono {Φ' : Rel3} (hΦ : ∀ f as r, Φ f as r → Φ' f as r) {all : List Oper} {ms X : List Nat} : ∀ (M : List Nat) (s : St) (K K' : St → Prop), (∀ s, K s → K' s) → wpL Φ E all ms X M s K → wpL Φ' E all ms X M s K' := by
  intro M
  induction M with
  | nil => intro s K K' hk h; exact hk _ h
  | cons i M ih =>
    intro s K K' hk h
    obtain ⟨o, ho, b, hg, h⟩ := h
    refine ⟨o, ho, b, hg, ?_⟩
    cases b with
    | false => obtain ⟨s', hp, hr, h⟩ := h; exact ⟨s', hp, hr, ih _ _ _ hk h⟩
    | true => exact wpOp_mono' hΦ (fun s h => ⟨h.1, ih _ _ _ hk h.2⟩) h
theorem exThen_mono {K K' : St → Prop} {Q Q' : Ex → St → Prop} (hk : ∀ s, K s → K' s) (hq : ∀ e s, Q e s → Q' e s) : ∀ e s, exThen K Q e s → exThen K' Q' e s := by
  intro e s h
  cases e <;> first | exact hk _ h | exact hq _ _ h
theorem exBlock_mono {id : Nat} {Q Q' : Ex → St → Prop} (hq : ∀ e s, Q e s → Q' e s) : ∀ e s, exBlock id Q e s → exBlock id Q' e s := by
  intro e s h
  cases e with
  | normal => exact hq _ _ h
  | ret => exact hq _ _ h
  | exit i =>
    simp only [exBlock] at h ⊢
    split
    · rename_i hi; simp only [hi, if_true] at h; exact hq _ _ h
    · rename_i hi; simp only [hi, if_false] at h; exact hq _ _ h

theorem wp_mono' {Φ' : Rel3} (hΦ : ∀ f as r, Φ f as r → Φ' f as r) : ∀ (c : Code) (s : St) (Q Q' : Ex → St → Prop), (∀ e s, Q e s → Q' e s) → Ev.wp Φ E c s Q → Ev.wp Φ' E c s Q' := by
  intro c
  induction c with
  | skip => intro s Q Q' hq h; exact hq _ _ h
  | region id ops draw =>
    intro s Q Q' hq h
    cases draw with
    | false => exact wpOps_mono hΦ _ _ _ _ (hq _) h
    | true =>
      rcases h with ⟨m, hm, h⟩ | ⟨X, M, l, hm, hl, h⟩
      · exact .inl ⟨m, hm, wpQ_mono hΦ _ _ _ _ _ (fun s h => wpOps_mono hΦ _ _ _ _ (hq _) h) h⟩
      · exact .inr ⟨X, M, l, hm, hl, wpQ_mono hΦ _ _ _ _ _ (fun s h => wpL_mono hΦ _ _ _ _ (fun s h => wpOps_mono hΦ _ _ _ _ (hq _) h) h) h⟩
  | seq a b iha ihb => intro s Q Q' hq h; exact iha _ _ _ (exThen_mono (fun s h => ihb _ _ _ hq h) hq) h
  | cond c a b iha ihb => intro s Q Q' hq h; obtain ⟨p, hc, ht, hf⟩ := h; exact ⟨p, hc, fun e => iha _ _ _ hq (ht e), fun e => ihb _ _ _ hq (hf e)⟩
  | block id b ih => intro s Q Q' hq h; exact ih _ _ _ (exBlock_mono hq) h
  | loop b ih =>
    intro s Q Q' hq h
    obtain ⟨n, h⟩ := h
    refine ⟨n, ?_⟩
    induction n generalizing s with
    | zero => exact h
    | succ n ihn =>
      exact AdjW.mono (fun s' h => ih _ _ _ (exThen_mono (fun s h => ihn s h) hq) h) h
  | exit id => intro s Q Q' hq h; exact hq _ _ h
  | ret => intro s Q Q' hq h; exact hq _ _ h
  | rangeFunc => intro s Q Q' hq h; exact h.elim
  | scope => intro s Q Q' hq h; exact h.elim
  | label => intro s Q Q' hq h; exact h.elim
  | goto => intro s Q Q' hq h; exact h.elim
  | refuse => intro s Q Q' hq h; exact h.elim

/-- code under way -/
structure W (Φ : Rel3) (E : Env) (c : Code) (s : St) (Q : Ex → St → Prop) : Prop where
  h : Ev.wp Φ E c s Q
/-- what is behind a piece of code, a block -/
structure Th (K : St → Prop) (Q : Ex → St → Prop) (e : Ex) (s : St) : Prop where
  h : exThen K Q e s
structure Bl (id : Nat) (Q : Ex → St → Prop) (e : Ex) (s : St) : Prop where
  h : exBlock id Q e s
theorem wp_region_i {id : Nat} {ops : Array Oper} (h : Run Φ E ops.toList [] none ops.toList s (Q .normal)) : W Φ E (.region id ops false) s Q := ⟨h.h⟩
theorem wp_region_t {id : Nat} {ops : Array Oper} (tbl : List (Nat × List Nat)) {lo : Option (List Nat)} (hl : lk tbl id = lo) (h : Run Φ E ops.toList [] lo ops.toList s (Q .normal)) : W Φ E (.region id ops false) s Q := by
  have _ := hl
  exact ⟨h.h⟩
theorem wp_region_q {id : Nat} {ops : Array Oper} (m : Nat) {l1 l2 : List Oper} (hm : drawOk ops.toList m = true) (h1 : ops.toList.take m = l1) (h2 : ops.toList.drop m = l2) (h : RunQ Φ E ops.toList [] l1 s [] fun s' => Run Φ E ops.toList [] none l2 s' (Q .normal)) : W Φ E (.region id ops true) s Q := ⟨.inl ⟨m, hm, by rw [h1, h2]; exact wpQ_mono (fun _ _ _ h => h) _ _ _ _ _ (fun _ r => Run.h r) h.h⟩⟩
theorem wp_region_qt {id : Nat} {ops : Array Oper} (tbl : List (Nat × List Nat)) {lo : Option (List Nat)} (hl : lk tbl id = lo) (m : Nat) {l1 l2 : List Oper} (hm : drawOk ops.toList m = true) (h1 : ops.toList.take m = l1) (h2 : ops.toList.drop m = l2) (h : RunQ Φ E ops.toList [] l1 s [] fun s' => Run Φ E ops.toList [] lo l2 s' (Q .normal)) : W Φ E (.region id ops true) s Q := by
  have _ := hl
  exact ⟨.inl ⟨m, hm, by rw [h1, h2]; exact wpQ_mono (fun _ _ _ h => h) _ _ _ _ _ (fun _ r => Run.h r) h.h⟩⟩
/-- one of the operations beside which others may be done late -/
structure RunL (Φ : Rel3) (E : Env) (all : List Oper) (ms X M : List Nat) (s : St) (K : St → Prop) : Prop where
  h : wpL Φ E all ms X M s K
theorem RunL.done {all : List Oper} {ms X : List Nat} {K : St → Prop} (k : K s) : RunL Φ E all ms X [] s K := ⟨k⟩
theorem RunL.call {all : List Oper} {ms X r : List Nat} {i : Nat} {o : Oper} {s1 : St} {K : St → Prop} {f : Operand} {args : Array Operand} {g : FuncId} {as : List AV} {v : AV} (ho : nthS all i = some o) (hg : guardAV all s o.guard = some true) (hc : isCall o.op = some (f, args))
    (ha : argsAV E.md s f args.toList = some (g, as, s1)) (hr : Φ g as v) (hp : argsPlain E.md s1 f args.toList g = true ∨ v.own) (he : putBack s s1 o.dst args.toList v = some s') (hrep : repL E.tab all ms i s' X s'.t = some s'.t) (k : RunL Φ E all ms X r s' K) : RunL Φ E all ms X (i :: r) s K := by
  refine ⟨o, ho, true, hg, ?_⟩
  show wpOp _ _ _ _ _ _
  unfold wpOp
  simp only [hc]
  exact ⟨g, as, v, s1, s', ha, hr, hp, he, hrep, k.h⟩
theorem RunL.one {all : List Oper} {ms X r : List Nat} {i : Nat} {o : Oper} {K : St → Prop} (ho : nthS all i = some o) (hg : guardAV all s o.guard = some true) (hc : isCall o.op = none) (he : evalO E.tab s o.op o.dst = some s') (hrep : repL E.tab all ms i s' X s'.t = some s'.t) (k : RunL Φ E all ms X r s' K) : RunL Φ E all ms X (i :: r) s K := by
  refine ⟨o, ho, true, hg, ?_⟩
  show wpOp _ _ _ _ _ _
  unfold wpOp
  simp only [hc]
  exact .inl ⟨s', he, hrep, k.h⟩
theorem RunL.cnd {all : List Oper} {ms X r : List Nat} {i : Nat} {o : Oper} {K : St → Prop} {c : Prop} (ho : nthS all i = some o) (hg : guardAV all s o.guard = some true) (hc : isCall o.op = none) (he : evalC E.tab s o.op o.dst = some (c, s')) (hcc : c) (hrep : repL E.tab all ms i s' X s'.t = some s'.t) (k : RunL Φ E all ms X r s' K) : RunL Φ E all ms X (i :: r) s K := by
  refine ⟨o, ho, true, hg, ?_⟩
  show wpOp _ _ _ _ _ _
  unfold wpOp
  simp only [hc]
  exact .inr (.inl ⟨c, s', .inl he, hcc, hrep, k.h⟩)
/-- a region in which operations (X) may be done late beside others (M) -/
theorem wp_region_l {id : Nat} {ops : Array Oper} (tbl : List (Nat × List Nat)) {lo : Option (List Nat)} (X M : List Nat) (ms : List Nat) {l l2 : List Oper} (hlo : lk tbl id = lo) (hm : drawOk2 ops.toList X M = true) (hms : masks ops.toList = ms) (hl : picks ops.toList X = some l) (h2 : ops.toList.drop (Nat.add X.length M.length) = l2)
    (h : RunQ Φ E ops.toList [] l s [] fun s1 => RunL Φ E ops.toList ms X M s1 fun s2 => Run Φ E ops.toList [] lo l2 s2 (Q .normal)) : W Φ E (.region id ops true) s Q := by
  have _ := hlo
  subst h2
  subst hms
  exact ⟨.inr ⟨X, M, l, hm, hl, wpQ_mono (fun _ _ _ h => h) _ _ _ _ _ (fun _ r => wpL_mono (fun _ _ _ h => h) _ _ _ _ (fun _ r => Run.h r) (RunL.h r)) h.h⟩⟩
theorem wp_skip_i (h : Q .normal s) : W Φ E .skip s Q := ⟨h⟩
theorem wp_ret_i (h : Q .ret s) : W Φ E .ret s Q := ⟨h⟩
theorem wp_exit_i {id : Nat} (h : Q (.exit id) s) : W Φ E (.exit id) s Q := ⟨h⟩
theorem wp_seq_i {a b : Code} (h : W Φ E a s (Th (fun s' => W Φ E b s' Q) Q)) : W Φ E (.seq a b) s Q := ⟨wp_mono' (fun _ _ _ h => h) a s _ (exThen (fun s' => Ev.wp Φ E b s' Q) Q) (fun e s h => exThen_mono (fun _ h => W.h h) (fun _ _ h => h) e s h.h) h.h⟩
theorem wp_block_i {id : Nat} {b : Code} (h : W Φ E b s (Bl id Q)) : W Φ E (.block id b) s Q := ⟨wp_mono' (fun _ _ _ h => h) b s _ (exBlock id Q) (fun _ _ h => h.h) h.h⟩
theorem wp_cond_i {c : Operand} {a b : Code} {p : Bool} (hc : s.ev c = .t (.sc (.bool p))) (ht : p = true → W Φ E a s Q) (hf : p = false → W Φ E b s Q) : W Φ E (.cond c a b) s Q := ⟨⟨p, hc, fun e => (ht e).h, fun e => (hf e).h⟩⟩
theorem wp_cond_t {c : Operand} {a b : Code} (hc : s.ev c = .t (.sc (.bool true))) (ht : W Φ E a s Q) : W Φ E (.cond c a b) s Q := ⟨⟨true, hc, fun _ => ht.h, nofun⟩⟩
theorem wp_cond_f {c : Operand} {a b : Code} (hc : s.ev c = .t (.sc (.bool false))) (hf : W Φ E b s Q) : W Φ E (.cond c a b) s Q := ⟨⟨false, hc, nofun, fun _ => hf.h⟩⟩
theorem wp_cond_k {d : Nat} {a b : Code} {p : Bool} {t t1 t0 : List (Nat × AV)} {h : List (Nat × List AV)} {oo : List (Nat × QV × List (List T))} {n : Nat} (hd : lk t d = some (.t (.sc (.bool p)))) (h1 : pu t d (.t (.sc (.bool true))) = some t1) (h0 : pu t d (.t (.sc (.bool false))) = some t0)
    (ht : p = true → W Φ E a ⟨t1, h, oo, n⟩ Q) (hf : p = false → W Φ E b ⟨t0, h, oo, n⟩ Q) : W Φ E (.cond (.tmp d) a b) ⟨t, h, oo, n⟩ Q := by
  refine ⟨⟨p, by simp only [St.ev, St.get, hd], ?_, ?_⟩⟩
  · intro e; subst e; rw [pu_same hd] at h1; cases h1; exact (ht rfl).h
  · intro e; subst e; rw [pu_same hd] at h0; cases h0; exact (hf rfl).h
theorem then_n {K : St → Prop} (h : K s) : Th K Q .normal s := ⟨h⟩
theorem then_e {K : St → Prop} {i : Nat} (h : Q (.exit i) s) : Th K Q (.exit i) s := ⟨h⟩
theorem then_r {K : St → Prop} (h : Q .ret s) : Th K Q .ret s := ⟨h⟩
theorem block_n {id : Nat} (h : Q .normal s) : Bl id Q .normal s := ⟨h⟩
theorem block_r {id : Nat} (h : Q .ret s) : Bl id Q .ret s := ⟨h⟩
theorem block_e {id : Nat} (h : Q .normal s) : Bl id Q (.exit id) s := by refine ⟨?_⟩; simp only [exBlock, if_true]; exact h
theorem block_o {id i : Nat} (hne : Nat.beq i id = false) (h : Q (.exit i) s) : Bl id Q (.exit i) s := by
  have := beq_f hne
  refine ⟨?_⟩
  simp only [exBlock, this, if_false]; exact h

/-- A loop: its head's state by a parameter. -/
theorem wp_loop_i {α : Type} {b : Code} (F : α → St) (I : α → Prop) (μ : α → Nat) (x0 : α) (h0 : AdjW (fun s => s = F x0) s) (hI : I x0)
    (round : ∀ x, I x → W Φ E b (F x) (Th (AdjW fun s' => ∃ y, s' = F y ∧ I y ∧ μ y < μ x) Q)) : W Φ E (.loop b) s Q := by
  have key : ∀ n x, μ x < n → I x → wp Φ E b (F x) (exThen (fun s' => loopN (fun s Q => wp Φ E b s Q) n s' Q) Q) := by
    intro n
    induction n with
    | zero => intro x h; exact absurd h (Nat.not_lt_zero _)
    | succ n ih =>
      intro x hm hx
      refine wp_mono' (fun _ _ _ h => h) _ _ _ _ (fun e s h => exThen_mono ?_ (fun _ _ h => h) e s h.h) (round x hx).h
      intro s' h
      refine AdjW.mono ?_ h
      rintro s1 ⟨y, rfl, hy, hlt⟩
      cases n with
      | zero => omega
      | succ n => exact ih y (by omega) hy
  refine ⟨⟨μ x0 + 2, AdjW.mono ?_ h0⟩⟩
  rintro s1 rfl
  exact key _ x0 (by omega) hI

def putL {α : Type} (l : List (Nat × α)) : List (Nat × α) → Option (List (Nat × α))
  | [] => some l
  | (k, v) :: r => match pu l k v with
    | some l => putL l r
    | none => none
def setSt (s : St) (ts : List (Nat × AV)) (hs : List (Nat × List AV)) (os : List (Nat × QV × List (List T))) : Option St :=
  match s with
  | ⟨t, h, o, n⟩ => match putL t ts with
    | some t => match putL h hs with
      | some h => match putL o os with
        | some o => some ⟨t, h, o, n⟩
        | none => none
      | none => none
    | none => none
/-- A loop whose head's state is what it is at the first time, but for some slots, boxes, roots. -/
theorem wp_loop_k {α : Type} {b : Code} (as : List Adj) (ts : α → List (Nat × AV)) (hs : α → List (Nat × List AV)) (os : α → List (Nat × QV × List (List T))) (I : α → Prop) (μ : α → Nat) (x0 : α) {s0 : St} {F : α → St}
    (h0 : adjL s as = some s0) (hF : ∀ x, setSt s0 (ts x) (hs x) (os x) = some (F x)) (hx : s0 = F x0) (hI : I x0)
    (round : ∀ x, I x → W Φ E b (F x) (Th (AdjW fun s' => ∃ y, s' = F y ∧ I y ∧ μ y < μ x) Q)) : W Φ E (.loop b) s Q := by
  have _ := hF
  exact wp_loop_i F I μ x0 (AdjW.ofL h0 hx) hI round
theorem back_i {α : Type} {F : α → St} {I : α → Prop} {μ : α → Nat} {x : α} {s1 : St} (as : List Adj) (y : α) (h : adjL s as = some s1) (e : s1 = F y) (hI : I y) (hm : μ y < μ x) : AdjW (fun s' => ∃ y, s' = F y ∧ I y ∧ μ y < μ x) s :=
  AdjW.ofL h ⟨y, e, hI, hm⟩

theorem Tells.of {P : Program} {E : Env} {X : Rel3} {f : FuncId} {args : List AV} {r : AV} (h : X f args r) : Tells P E X f args r := fun _ hX _ => hX _ _ _ h

theorem Tells.by {P : Program} {E : Env} {X : Rel3} {f : FuncId} {fn : Func} {args : List AV} {r : AV} (hf : P.funcs[f]? = some fn) (hn : (fn.name == "runtime.NumGoroutine") = false) (h : Body (Tells P E X) E fn args r) : Tells P E X f args r := by
  intro R hX hR
  refine hR _ _ _ _ hf hn ?_
  obtain ⟨c, s, hb, hn, hi, h⟩ := h
  refine ⟨c, s, hb, hn, hi, fun f => ?_⟩
  obtain ⟨o, ho, h⟩ := h f
  exact ⟨o, ho, wp_mono' (fun _ _ _ h => h R hX hR) _ _ _ _ (fun _ _ h => h) h⟩

theorem Body.i {fn : Func} {c : Code} {args : List AV} {r : AV} {t : List (Nat × AV)} {h : List (Nat × List AV)} {o : List (Nat × QV × List (List T))} {n : Nat} {o' : (Nat → Value) → List (Nat × QV × List (List T))} (hb : fn.body = some c) (hn : Nat.ble args.length fn.ntmps = true)
    (hi : initT ⟨[], [], [], fn.ntmps⟩ initKs args = some ⟨t, h, o, n⟩) (ht : ∀ f, telV f o = some (o' f)) (hw : ∀ f, W Φ E c ⟨t, h, o' f, n⟩ (retPost E.tab fn args f r)) : Body Φ E fn args r :=
  ⟨c, _, hb, Nat.le_of_ble_eq_true hn, hi, fun f => ⟨o' f, ht f, (hw f).h⟩⟩
theorem ret_m {fn : Func} {args : List AV} {f : Nat → Value} {r r' : AV} {s2 : St} (as : List Adj) (ha : adjL s as = some s') (h : resultsM E.tab fn.results.toList s' = some (r', s2)) (hr : r' = r) : retPost E.tab fn args f r .ret s := by rw [← hr]; exact AdjW.ofL ha (.inl ⟨s2, h⟩)
theorem ret_s {fn : Func} {args : List AV} {f : Nat → Value} {r r' : AV} (as : List Adj) (ha : adjL s as = some s') (h : resultsS E.tab fn.results.toList s' = some r') (hr : r' = r) : retPost E.tab fn args f r .ret s := by rw [← hr]; exact AdjW.ofL ha (.inr (.inl h))
/-- with what the arguments are at the end -/
theorem ret_o {fn : Func} {args : List AV} {f : Nat → Value} {r r0 : AV} {outs : List AV} {p : Prop} {s2 s3 : St} (fl : List Bool) (as : List Adj) (ha : adjL s as = some s') (h : resultsM E.tab fn.results.toList s' = some (r0, s2)) (ho : outsL f s2 initKs args fl = some (outs, p, s3)) (hp : p) (hr : AV.io (r0 :: outs) = r) : retPost E.tab fn args f r .ret s :=
  AdjW.ofL ha (.inr (.inr ⟨fl, r0, outs, p, s2, s3, h, ho, hp, hr⟩))
theorem retn_m {fn : Func} {args : List AV} {f : Nat → Value} {r r' : AV} {s2 : St} (as : List Adj) (ha : adjL s as = some s') (h : resultsM E.tab fn.results.toList s' = some (r', s2)) (hr : r' = r) : retPost E.tab fn args f r .normal s := by rw [← hr]; exact AdjW.ofL ha (.inl ⟨s2, h⟩)
theorem retn_s {fn : Func} {args : List AV} {f : Nat → Value} {r r' : AV} (as : List Adj) (ha : adjL s as = some s') (h : resultsS E.tab fn.results.toList s' = some r') (hr : r' = r) : retPost E.tab fn args f r .normal s := by rw [← hr]; exact AdjW.ofL ha (.inr (.inl h))
end
end Go.Ev
