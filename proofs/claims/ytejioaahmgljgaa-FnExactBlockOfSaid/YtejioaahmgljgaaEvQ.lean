/- An evaluator over trees: what it tells is so (4): slice expressions, builtins, all value operations. -/
import Derived.Test.YtejioaahmgljgaaEvP
set_option linter.unusedVariables false
set_option linter.unusedSimpArgs false
namespace Go.Ev
open Go Go.RowKit

section
variable {P : Program} {tab : Tab} {w0 w : World} {B0 Fin : Nat → Prop} {s s' : St} {a : Act} {g : Gh} {bxs : Bxs} {rts : Rts}

theorem bound_run {k : IntKind} {n : Int} {y : Nat} {c : BoundsCode} (h : 0 ≤ n ∧ n ≤ (y : Int)) : (Instr.sliceBound (.int k n) y c).run P w = .ok n.toNat w := by
  simp [Instr.sliceBound, asIntOf, h]

/-- a bound's operand and what is told of it -/
def BoundIs (o : Option Value) (n : Option Int) : Prop := (o = none ∧ n = none) ∨ ∃ k m, o = some (.int k m) ∧ n = some m

theorem bounds_run {isS : Bool} {len cap : Nat} {lo hi : Option Value} {l h : Option Int} (hl : BoundIs lo l) (hh : BoundIs hi h) (hc : len ≤ cap)
    (h0 : 0 ≤ l.getD 0) (h1 : l.getD 0 ≤ h.getD len) (h2 : h.getD len ≤ len) : (Instr.sliceBounds isS len cap lo hi none).run P w = .ok ((l.getD 0).toNat, (h.getD len).toNat, cap) w := by
  rcases hh with ⟨rfl, rfl⟩ | ⟨k, m, rfl, rfl⟩ <;> rcases hl with ⟨rfl, rfl⟩ | ⟨k', m', rfl, rfl⟩ <;> simp only [Option.getD_some, Option.getD_none] at h0 h1 h2 ⊢
  · simp [Instr.sliceBounds]
  · have hb := bound_run (P := P) (w := w) (k := k') (n := m') (y := len) (c := .sliceB) ⟨h0, by omega⟩
    simp [Instr.sliceBounds, hb]
  · have ha := fun c => bound_run (P := P) (w := w) (k := k) (n := m) (y := cap) (c := c) ⟨by omega, by omega⟩
    simp [Instr.sliceBounds, ha]
  · have ha := fun c => bound_run (P := P) (w := w) (k := k) (n := m) (y := cap) (c := c) ⟨by omega, by omega⟩
    have hb := bound_run (P := P) (w := w) (k := k') (n := m') (y := m.toNat) (c := .sliceB) ⟨h0, by omega⟩
    simp [Instr.sliceBounds, ha, hb]

theorem slice_sound (hT : TabOk P tab) {ty : Nat} {x r : AV} {v : Value} {lo hi : Option Value} {l h : Option Int} (hx : CR w g bxs rts x v) (hl : BoundIs lo l) (hh : BoundIs hi h) (hr : sliceAV tab ty x l h = some r) :
    ∃ u, (Instr.sliceAt ty v lo hi none).run P w = .ok u w ∧ CR w g bxs rts r u := by
  unfold sliceAV at hr
  split at hr
  · rename_i _ _ _ ht
    obtain ⟨d, hd, htd, _⟩ := ti_und (hT.1 _ _ ht) w
    cases td_str htd
    split at hr
    · rename_i b
      cases cr_sc hx
      split at hr
      · rename_i hc
        cases hr
        have hb := bounds_run (P := P) (w := w) (isS := false) (len := b.size) (cap := b.size) hl hh (Nat.le_refl _) hc.1 hc.2.1 hc.2.2
        exact ⟨_, by simp [Instr.sliceAt, Instr.slice, hd, hb], .t _ _ (.sc _)⟩
      · cases hr
    · cases hr
  · rename_i e _ _ _ ht
    obtain ⟨d, hd, htd, _⟩ := ti_und (hT.1 _ _ ht) w
    cases td_sl htd
    split at hr
    · rename_i o rows
      split at hr
      · rename_i ei he
        have hsz := ti_size (hT.1 _ _ he) w
        split at hr
        · rename_i hc
          obtain ⟨hc0, hc1, hc2, hc3⟩ := hc
          cases hr
          cases hx with
          | t x v hrep =>
            cases hrep with
            | nil o =>
              have hb := bounds_run (P := P) (w := w) (isS := true) (len := 0) (cap := 0) hl hh (Nat.le_refl _) hc0 hc1 hc2
              simp only [List.length_nil] at hc1 hc2
              have e1 : (l.getD 0).toNat = 0 := by have : l.getD 0 = 0 := by omega
                                                   rw [this]; rfl
              refine ⟨.slice none 0 0, ?_, ?_⟩
              · simp only [Instr.sliceAt, Instr.slice, hd, Sem.run_bind, Result.andThen_ok, hb, hsz, e1, Sem.run_pure]
                have e2 : (h.getD ((0 : Nat) : Int)).toNat = 0 := by omega
                simpa using hc2
              · have : (List.drop (l.getD 0).toNat (List.take (h.getD ↑(([] : List (List T))).length).toNat ([] : List (List T)))) = [] := by simp
                rw [this]
                exact .t _ _ (.nil _)
            | em o ad cap =>
              have hb := bounds_run (P := P) (w := w) (isS := true) (len := 0) (cap := cap) hl hh (Nat.zero_le _) hc0 hc1 hc2
              simp only [List.length_nil] at hc1 hc2
              have e1 : (l.getD 0).toNat = 0 := by have : l.getD 0 = 0 := by omega
                                                   rw [this]; rfl
              have e2 : (h.getD ((0 : Nat) : Int)).toNat = 0 := by omega
              refine ⟨.slice (some ad) 0 cap, ?_, ?_⟩
              · simp only [Instr.sliceAt, Instr.slice, hd, Sem.run_bind, Result.andThen_ok, hb, hsz, e1, e2, Sem.run_pure, Option.map_some]
                simp [Addr.add]
              · have : (List.drop (l.getD 0).toNat (List.take (h.getD ↑(([] : List (List T))).length).toNat ([] : List (List T)))) = [] := by simp
                rw [this]
                exact .t _ _ (.em _ _ _)
            | sl o rows b off cap sz us hb' hcap hls hw hrs =>
              have hb := bounds_run (P := P) (w := w) (isS := true) (len := rows.length) (cap := cap) hl hh hcap hc0 hc1 hc2
              generalize hL : (l.getD 0).toNat = L at *
              generalize hH : (h.getD (rows.length : Int)).toNat = H at *
              have hLH : L ≤ H := by omega
              have hHn : H ≤ rows.length := by omega
              have hlen : ((rows.take H).drop L).length = H - L := by simp; omega
              refine ⟨.slice (some (if cap = L then ⟨b, off, none⟩ else ⟨b, off + L * ei.size, none⟩)) (H - L) (cap - L), ?_, ?_⟩
              · simp only [Instr.sliceAt, Instr.slice, hd, Sem.run_bind, Result.andThen_ok, hb, hsz, Sem.run_pure, Option.map_some, addr_add]
                split <;> rfl
              · have key : ∀ i r, ((rows.take H).drop L)[i]? = some r → rows[L + i]? = some r := by
                  intro i r hi
                  rw [List.getElem?_drop, List.getElem?_take] at hi
                  split at hi
                  · exact hi
                  · cases hi
                have hne : ∀ i r, ((rows.take H).drop L)[i]? = some r → L + i < rows.length ∧ sz = ei.size := by
                  intro i r hi
                  have h1 := key i r hi
                  have hlt : L + i < rows.length := by
                    rcases Nat.lt_or_ge (L + i) rows.length with h2 | h2
                    · exact h2
                    · rw [List.getElem?_eq_none h2] at h1; cases h1
                  exact ⟨hlt, by rw [← hls _ _ h1]; exact hc3 r (List.mem_of_getElem? h1)⟩
                rw [← hlen]
                by_cases hcl : cap = L
                · rw [if_pos hcl]
                  exact .t _ _ (.sl _ _ b off _ sz (fun i k => us (L + i) k) (fun h => hb' fun e => h (by rw [e]; simp)) (by rw [hlen]; omega) (fun i r hi => hls _ _ (key i r hi))
                    (fun i r k x hi hk => by have := (hne i r hi).1; omega) (fun i r k x hi hk => hrs _ _ _ _ (key i r hi) hk))
                · rw [if_neg hcl]
                  refine .t _ _ (.sl _ _ b (off + L * ei.size) _ sz (fun i k => us (L + i) k) (fun h => hb' fun e => h (by rw [e]; simp)) (by rw [hlen]; omega) (fun i r hi => hls _ _ (key i r hi))
                    (fun i r k x hi hk => ?_) (fun i r k x hi hk => hrs _ _ _ _ (key i r hi) hk))
                  have := hw _ _ _ _ (key i r hi) hk
                  rw [← (hne i r hi).2]
                  rw [show off + L * sz + (i * sz + k) = off + ((L + i) * sz + k) by rw [Nat.add_mul]; omega]
                  exact this
        · cases hr
      · cases hr
    · cases hr
  · cases hr

theorem bound_is (F : FR w0 B0 Fin s a w g) {o : Option Operand} {n : Int} (h : boundAV s o 0 = some n) : BoundIs (o.map a.eval) (o.map fun _ => n) := by
  cases o with
  | none => exact .inl ⟨rfl, rfl⟩
  | some x =>
    simp only [boundAV] at h
    split at h
    · rename_i k m hm
      cases h
      have := F.ev x
      rw [hm] at this
      exact .inr ⟨k, _, by simp [cr_sc this], rfl⟩
    · cases h

theorem sliceAV_none (ty : Nat) (x : AV) (h : Option Int) : sliceAV tab ty x (some 0) h = sliceAV tab ty x none h := by
  unfold sliceAV; rfl

theorem args_sound (F : FR w0 B0 Fin s a w g) {xs : List Operand} {l : List AV} (h : mapS (evA s) xs = some l) : CRs w g s.h s.o l (xs.map a.eval) := by
  obtain ⟨hl, hk⟩ := mapS_eq h
  refine ⟨by simp [hl], ?_⟩
  intro k x v hx hv
  rw [List.getElem?_map] at hv
  cases hq : xs[k]? with
  | none => rw [hq] at hv; cases hv
  | some y =>
    rw [hq] at hv; cases hv
    obtain ⟨z, hz, he⟩ := hk k y hq
    rw [hx] at hz; cases hz
    exact F.evA he

theorem ints_sound {x : AV} {v : Value} {k : IntKind} {n : Int} (h : CR w g bxs rts x v) (hi : intsOf x = some (k, n)) : v = .int k n := by
  unfold intsOf at hi
  split at hi
  · cases hi; exact cr_sc h
  · cases hi

theorem crs_two {x y : AV} {vs : List Value} (h : CRs w g bxs rts [x, y] vs) : ∃ u v, vs = [u, v] ∧ CR w g bxs rts x u ∧ CR w g bxs rts y v := by
  obtain ⟨hl, hr⟩ := h
  match vs, hl with
  | [u, v], _ => exact ⟨u, v, rfl, hr 0 _ _ rfl rfl, hr 1 _ _ rfl rfl⟩
theorem crs_one {x : AV} {vs : List Value} (h : CRs w g bxs rts [x] vs) : ∃ u, vs = [u] ∧ CR w g bxs rts x u := by
  obtain ⟨hl, hr⟩ := h
  match vs, hl with
  | [u], _ => exact ⟨u, rfl, hr 0 _ _ rfl rfl⟩

theorem builtin_sound (hT : TabOk P tab) (F : FR w0 B0 Fin s a w g) {b : Builtin} {tys : Array TypeId} {ty : TypeId} {cs : Array Bool} {l : List AV} {vs : List Value} {r : AV} (hl : CRs w g s.h s.o l vs) (h : builtinAV tab s b tys.toList l = some r) :
    ∃ u, (builtin b tys ty cs vs.toArray).run P w = .ok (.value u) w ∧ CR w g s.h s.o r u := by
  unfold builtinAV at h
  split at h
  · split at h
    · rename_i x
      obtain ⟨u, rfl, hx⟩ := crs_one hl
      split at h
      · rename_i t0 tr htys
        have ht0 : tys[0]? = some t0 := by have : tys.toList[0]? = some t0 := by rw [htys]; rfl
                                           simpa using this
        split at h
        · rename_i _ _ _ ht
          obtain ⟨d, hd, htd, _⟩ := ti_und (hT.1 _ _ ht) w
          cases td_str htd
          split at h
          · rename_i sb
            cases cr_sc hx; cases h
            exact ⟨_, by simp [builtin, Builtin.len_, ht0, hd]; rfl, .t _ _ (.sc _)⟩
          · cases h
        · rename_i e _ _ _ ht
          obtain ⟨d, hd, htd, _⟩ := ti_und (hT.1 _ _ ht) w
          cases td_sl htd
          split at h
          · rename_i rows hrows
            cases h
            cases rows_sound F hx hrows with
            | nil e => subst e; exact ⟨_, by simp [builtin, Builtin.len_, ht0, hd]; rfl, .t _ _ (.sc _)⟩
            | em e _ _ => subst e; exact ⟨_, by simp [builtin, Builtin.len_, ht0, hd]; rfl, .t _ _ (.sc _)⟩
            | «at» => exact ⟨_, by simp [builtin, Builtin.len_, ht0, hd]; rfl, .t _ _ (.sc _)⟩
          · cases h
        · rename_i n e _ _ _ ht
          obtain ⟨d, hd, htd, _⟩ := ti_und (hT.1 _ _ ht) w
          cases td_ar htd
          cases h
          exact ⟨_, by simp [builtin, Builtin.len_, ht0, hd]; rfl, .t _ _ (.sc _)⟩
        · cases h
      · cases h
    · cases h
  · split at h
    · rename_i x y
      obtain ⟨u, v, rfl, hx, hy⟩ := crs_two hl
      split at h
      · rename_i k n hn
        split at h
        · rename_i k' m hm
          cases h
          cases ints_sound hx hn; cases ints_sound hy hm
          exact ⟨_, by simp [builtin, Builtin.min_, Builtin.min2], .t _ _ (.sc _)⟩
        · cases h
      · cases h
    · cases h
  · split at h
    · rename_i x y
      obtain ⟨u, v, rfl, hx, hy⟩ := crs_two hl
      split at h
      · rename_i k n hn
        split at h
        · rename_i k' m hm
          cases h
          cases ints_sound hx hn; cases ints_sound hy hm
          exact ⟨_, by simp [builtin, Builtin.max_, Builtin.max2], .t _ _ (.sc _)⟩
        · cases h
      · cases h
    · cases h
  · cases h

/-- an operation that tells a value -/
theorem evalV_sound (hT : TabOk P tab) (F : FR w0 B0 Fin s a w g) {o : Oper} {r : AV} (h : evalV tab s o.op = some r) :
    ∃ u, (execOp a.eval o).run P w = .ok (.value u) w ∧ CR w g s.h s.o r u := by
  unfold evalV at h
  split at h
  · rename_i x ho; exact ⟨_, by simp [execOp, ho], F.evA h⟩
  · rename_i x ho; exact ⟨_, by simp [execOp, ho], F.evA h⟩
  · rename_i c x y ho
    have hc := F.ev c
    split at h
    · rename_i hcv
      rw [hcv] at hc
      exact ⟨_, by simp [execOp, ho, cr_sc hc, asBool], F.evA h⟩
    · rename_i hcv
      rw [hcv] at hc
      exact ⟨_, by simp [execOp, ho, cr_sc hc, asBool], F.evA h⟩
    · cases h
  · rename_i ty p ho
    obtain ⟨u, hu, hr⟩ := load_sound hT F (F.ev p) h
    exact ⟨u, by simp [execOp, ho, hu], hr⟩
  · rename_i op ty x y yt ho
    obtain ⟨u, hu, hr⟩ := bin_sound (ox := x) (oy := y) hT (F.ev x) (F.ev y) h
    exact ⟨u, by simp only [execOp, ho, Sem.run_bind, hu, Result.andThen_ok, Sem.run_pure], hr⟩
  · rename_i op ty x ho
    obtain ⟨u, hu, hr⟩ := un_sound (P := P) (F.ev x) h
    exact ⟨u, by simp [execOp, ho, hu], hr⟩
  · rename_i src dst x ho
    obtain ⟨u, hu, hr⟩ := conv_sound hT (F.ev x) h
    exact ⟨u, by simp [execOp, ho, hu], hr⟩
  · rename_i ty x k ho
    obtain ⟨u, hu, hr⟩ := fieldAddr_sound (w := w) hT (F.ev x) h
    exact ⟨u, by simp [execOp, ho, hu], hr⟩
  · rename_i ty x k ho
    obtain ⟨u, hu, hr⟩ := field_sound (w := w) hT (F.ev x) h
    exact ⟨u, by simp [execOp, ho, hu], hr⟩
  · rename_i ty x i ho
    have hi := F.ev i
    split at h
    · rename_i k n hin
      rw [hin] at hi
      split at h
      · rename_i y hy
        obtain ⟨u, hu, hr⟩ := indexAddr_sound (kk := k) hT F (F.evA hy) h
        exact ⟨u, by simp [execOp, ho, cr_sc hi, hu], hr⟩
      · cases h
    · cases h
  · rename_i ty x i ho
    have hi := F.ev i
    split at h
    · rename_i k n hin
      rw [hin] at hi
      obtain ⟨u, hu, hr⟩ := index_sound (w := w) (kk := k) hT (F.ev x) h
      exact ⟨u, by simp [execOp, ho, cr_sc hi, hu], hr⟩
    · cases h
  · rename_i ty parts ho
    obtain ⟨u, hu, hr⟩ := build_sound hT F h
    exact ⟨u, by simp only [execOp, ho, Sem.run_bind, hu, Result.andThen_ok, Sem.run_pure], hr⟩
  · rename_i ty x lo hi ho
    split at h
    · rename_i l hl
      have hlb := bound_is F hl
      split at h
      · have hx := F.ev x
        have hb : BoundIs ((none : Option Operand).map a.eval) (none : Option Int) := .inl ⟨rfl, rfl⟩
        cases lo with
        | none =>
          simp only [boundAV] at hl; cases hl
          rw [sliceAV_none] at h
          obtain ⟨u, hu, hr⟩ := slice_sound hT hx hlb hb h
          exact ⟨u, by simp only [execOp, ho, Option.map_none, Sem.run_bind] at hu ⊢; simp [hu], hr⟩
        | some q =>
          obtain ⟨u, hu, hr⟩ := slice_sound hT hx hlb hb h
          exact ⟨u, by simp only [execOp, ho, Option.map_none, Option.map_some, Sem.run_bind] at hu ⊢; simp [hu], hr⟩
      · rename_i hq
        split at h
        · rename_i m hm
          have hx := F.ev x
          have hb := bound_is F hm
          cases lo with
          | none =>
            simp only [boundAV] at hl; cases hl
            rw [sliceAV_none] at h
            obtain ⟨u, hu, hr⟩ := slice_sound hT hx hlb hb h
            exact ⟨u, by simp only [execOp, ho, Option.map_none, Option.map_some, Sem.run_bind] at hu ⊢; simp [hu], hr⟩
          | some q =>
            obtain ⟨u, hu, hr⟩ := slice_sound hT hx hlb hb h
            exact ⟨u, by simp only [execOp, ho, Option.map_none, Option.map_some, Sem.run_bind] at hu ⊢; simp [hu], hr⟩
        · cases h
    · cases h
  · rename_i t k ho
    have ht := F.ev t
    split at h
    · rename_i cs hcs
      rw [hcs] at ht
      split at h
      case h_2 => cases h
      rename_i y hy
      have := fA_eq h; subst this
      rw [nthS_eq] at hy
      generalize hv : a.eval t = v at ht
      cases ht with
      | tp cs vs hl hr =>
        have hlt : k < vs.length := by
          rcases Nat.lt_or_ge k vs.length with h0 | h0
          · exact h0
          · rw [List.getElem?_eq_none (by omega)] at hy; cases hy
        have hvk : vs[k]? = some vs[k] := List.getElem?_eq_getElem hlt
        exact ⟨vs[k], by simp [execOp, ho, hv, Instr.extract, hvk], hr k _ _ hy hvk⟩
    · cases h
  · rename_i f first caps ho
    split at h
    · rename_i hf
      split at h
      · rename_i l hl
        cases h
        have hf' : first = #[] := by apply Array.ext'; simpa using hf
        have hc := args_sound F hl
        refine ⟨.func (.func f) #[] (caps.map a.eval), by simp [execOp, ho, hf', Instr.makeFunc], ?_⟩
        have e := CR.fn (w := w) (g := g) (h := s.h) (o := s.o) f l (caps.toList.map a.eval) hc.1 hc.2
        have e2 : (caps.toList.map a.eval).toArray = caps.map a.eval := by apply Array.ext'; simp
        rw [e2] at e
        exact e
      · cases h
    · cases h
  · rename_i b args tys ho
    split at h
    · rename_i l hl
      have hc := args_sound F hl
      obtain ⟨u, hu, hr⟩ := builtin_sound (ty := o.type) (cs := args.map fun | .const _ => true | _ => false) hT F hc h
      refine ⟨u, ?_, hr⟩
      have e : (args.toList.map a.eval).toArray = args.map a.eval := by apply Array.ext'; simp
      rw [e] at hu
      simp only [execOp, ho, resolve, Sem.run_bind, Sem.run_pure, Result.andThen_ok, invoke]
      exact hu
    · cases h
  · cases h
end
end Go.Ev
