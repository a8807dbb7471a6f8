/- An evaluator over trees: what it tells is so (3): numbers, strings, structs, slices; all value operations. -/
import Derived.Test.YtejioaahmgljgaaEvO
set_option linter.unusedVariables false
set_option linter.unusedSimpArgs false
namespace Go.Ev
open Go Go.RowKit

section
variable {P : Program} {tab : Tab} {w0 w : World} {B0 Fin : Nat → Prop} {s s' : St} {a : Act} {g : Gh} {bxs : Bxs} {rts : Rts}

theorem cr_sc {v u : Value} (h : CR w g bxs rts (.t (.sc v)) u) : u = v := by
  cases h with
  | t x v h => cases h; rfl

theorem bin_sound (hT : TabOk P tab) {op : BinOp} {ty : Nat} {x y : AV} {u v : Value} {ox oy : Operand} {r : AV} (hx : CR w g bxs rts x u) (hy : CR w g bxs rts y v) (h : binAV tab op ty x y = some r) :
    ∃ z, (do eqGuard op ty ox oy u v; binOp op ty u v : Sem Value).run P w = .ok z w ∧ CR w g bxs rts r z := by
  unfold binAV at h
  split at h
  · rename_i p
    cases cr_sc hx
    split at h
    · rename_i q
      cases cr_sc hy
      split at h
      · rename_i sz by' z ht
        have hti := hT.1 _ _ ht
        obtain ⟨d, hd, htd, _⟩ := ti_und hti w
        cases td_bool htd
        have he : (Op.equal ty (.bool p) (.bool q)).run P w = .ok (p == q) w := by
          unfold Op.equal Op.maxDepth
          rw [show (10000 : Nat) = 9999 + 1 from rfl, Op.equalIn]
          simp [hd]
        split at h
        · cases h; exact ⟨.bool (p == q), by simp [eqGuard, binOp, he], .t _ _ (.sc _)⟩
        · cases h; exact ⟨.bool (!(p == q)), by simp [eqGuard, binOp, he], .t _ _ (.sc _)⟩
        · cases h
      · cases h
    · cases h
  · rename_i k p
    cases cr_sc hx
    split at h
    · rename_i k' q
      cases cr_sc hy
      split at h
      · rename_i z hz
        cases h
        refine ⟨z, ?_, .t _ _ (.sc _)⟩
        have := pureSem_run (P := P) hz w
        cases op <;> simp [eqGuard, this]
      · cases h
    · cases h
  · rename_i p
    cases cr_sc hx
    split at h
    · rename_i q
      cases cr_sc hy
      split at h
      · rename_i z hz
        cases h
        refine ⟨z, ?_, .t _ _ (.sc _)⟩
        have := pureSem_run (P := P) hz w
        cases op <;> simp [eqGuard, this]
      · cases h
    · cases h
  · cases h

theorem un_sound {op : UnOp} {x r : AV} {u : Value} (hx : CR w g bxs rts x u) (h : unAV op x = some r) : ∃ z, (Op.unary op u).run P w = .ok z w ∧ CR w g bxs rts r z := by
  unfold unAV at h
  split at h
  · rename_i v
    cases cr_sc hx
    split at h
    · rename_i z hz; cases h; exact ⟨z, pureSem_run hz w, .t _ _ (.sc _)⟩
    · cases h
  · cases h

theorem conv_sound (hT : TabOk P tab) {src dst : Nat} {x r : AV} {u : Value} (hx : CR w g bxs rts x u) (h : convAV tab src dst x = some r) : ∃ z, (convert src dst u).run P w = .ok z w ∧ CR w g bxs rts r z := by
  unfold convAV at h
  split at h
  · rename_i ks _ _ _ hs
    obtain ⟨d1, hd1, ht1, _⟩ := ti_und (hT.1 _ _ hs) w
    cases td_int ht1
    split at h
    · rename_i k _ _ _ hd
      obtain ⟨d2, hd2, ht2, _⟩ := ti_und (hT.1 _ _ hd) w
      cases td_int ht2
      split at h
      · rename_i k0 n
        cases cr_sc hx; cases h
        exact ⟨.int k (k.wrap n), by simp [convert, hd1, hd2, Conv.intToInt], .t _ _ (.sc _)⟩
      · cases h
    · cases h
  · rename_i _ _ _ hs
    obtain ⟨d1, hd1, ht1, _⟩ := ti_und (hT.1 _ _ hs) w
    cases td_str ht1
    split at h
    · rename_i _ _ _ hd
      obtain ⟨d2, hd2, ht2, _⟩ := ti_und (hT.1 _ _ hd) w
      cases td_str ht2
      split at h
      · rename_i b
        cases cr_sc hx; cases h
        exact ⟨.string b, by simp [convert, hd1, hd2], .t _ _ (.sc _)⟩
      · cases h
    · cases h
  · cases h

theorem rep_one {B : Nat → Prop} {x : T} {v : Value} (hr : Rep w B x v) (ho : ∀ u, x = .sc u → u.oneCell' = true) : v.oneCell' = true := by
  cases hr with
  | sc => exact ho _ rfl
  | _ => rfl
theorem one_cell (F : FR w0 B0 Fin s a w g) {x : AV} {v : Value} (h : CR w g s.h s.o x v) (ho : x.one = true) : v.oneCell' = true := by
  cases h with
  | t x v hr =>
    refine rep_one hr fun u e => ?_
    subst e; exact ho
  | bp => rfl
  | fn => rfl
  | u => cases ho
  | ag => cases ho
  | tp => cases ho
  | rp => rfl
  | rf id rows hi =>
    rcases (F.rt id rows hi).1 with ⟨_, e⟩ | ⟨b, off, cap, us, Fs, cs, ty, e, _⟩ <;> rw [e] <;> rfl
  | rw id lo hh rows hi h1 h2 =>
    rcases (F.rt id rows hi).1 with ⟨_, e⟩ | ⟨b, off, cap, us, Fs, cs, ty, e, _⟩ <;> rw [e] <;> rfl
  | bw x id v rows hi hr =>
    refine rep_one hr fun u e => ?_
    subst e; exact ho

theorem one_cells {v : Value} (h : v.oneCell' = true) : v.cells = #[v] := by cases v <;> first | rfl | cases h

theorem CR.ag' {cs : List AV} {r : Array Value} (h : CRs w g bxs rts cs r.toList) : CR w g bxs rts (.ag cs) (.agg r) := by
  have := CR.ag (w := w) (g := g) (h := bxs) (o := rts) cs r.toList h.1 h.2
  simpa using this

/-- the cells of what may be stored -/
theorem cells_sound (F : FR w0 B0 Fin s a w g) {x : AV} {v : Value} {cs : List AV} (h : CR w g s.h s.o x v) (hc : x.cells? = some cs) : CRs w g s.h s.o cs v.cells.toList ∧ ∀ u ∈ v.cells.toList, u.oneCell' = true := by
  unfold AV.cells? at hc
  split at hc
  · rename_i l
    split at hc
    · rename_i ha
      cases hc
      cases h with
      | ag cs vs hl hr =>
        refine ⟨⟨by simpa [Value.cells] using hl, by simpa [Value.cells] using hr⟩, ?_⟩
        intro u hu
        simp only [Value.cells] at hu
        obtain ⟨k, hk⟩ := List.mem_iff_getElem?.1 hu
        have hlt : k < cs.length := by
          rcases Nat.lt_or_ge k cs.length with h1 | h1
          · exact h1
          · rw [List.getElem?_eq_none (by first | omega | (simp; omega))] at hk; cases hk
        exact one_cell F (hr k _ u (List.getElem?_eq_getElem hlt) (by simpa using hk)) (allB_all ha k _ (List.getElem?_eq_getElem hlt))
    · cases hc
  · split at hc
    · rename_i ho
      cases hc
      have h1 := one_cell F h ho
      rw [one_cells h1]
      exact ⟨.one h, by simp [h1]⟩
    · cases hc

theorem zip_set : ∀ (vs cells : List Value) (off j : Nat), off + vs.length ≤ cells.length →
    ((vs.zipIdx j).foldl (fun (cs : Array Value) (p : Value × Nat) => cs.setIfInBounds (off + p.2 - j) p.1) cells.toArray).toList = cells.take off ++ vs ++ cells.drop (off + vs.length) := by
  intro vs
  induction vs with
  | nil => intro cells off j h; rw [List.zipIdx_nil, List.foldl_nil, List.append_nil, List.length_nil, Nat.add_zero, List.take_append_drop]
  | cons v vs ih =>
    intro cells off j h
    simp only [List.zipIdx_cons, List.foldl_cons]
    have e1 : (cells.toArray.setIfInBounds (off + j - j) v) = (cells.set off v).toArray := by
      rw [Nat.add_sub_cancel]; exact List.setIfInBounds_toArray ..
    rw [e1]
    have e2 : (fun (cs : Array Value) (p : Value × Nat) => cs.setIfInBounds (off + p.2 - j) p.1) = (fun (cs : Array Value) (p : Value × Nat) => cs.setIfInBounds ((off + 1) + p.2 - (j + 1)) p.1) := by
      funext cs p; congr 1; omega
    rw [e2, ih (cells.set off v) (off + 1) (j + 1) (by simp at h ⊢; omega)]
    simp only [List.length_cons] at h
    apply List.ext_getElem?
    intro k
    simp only [List.getElem?_append, List.length_append, List.length_take, List.length_set, List.getElem?_take, List.getElem?_set, List.getElem?_drop, List.getElem?_cons, List.length_cons]
    have hm : min (off + 1) cells.length = off + 1 := by omega
    have hm2 : min off cells.length = off := by omega
    rw [hm, hm2]
    by_cases h1 : k < off
    · simp [show k < off + 1 + vs.length by omega, show k < off + 1 by omega, h1, show k < off + (vs.length + 1) by omega, show ¬ off = k by omega]
    · by_cases h2 : k = off
      · subst h2; simp [show k < k + 1 + vs.length by omega, show k < cells.length by omega]
      · by_cases h3 : k < off + 1 + vs.length
        · simp [h3, show ¬ k < off + 1 by omega, h1, show k < off + (vs.length + 1) by omega, show ¬ k - off = 0 by omega, show k - (off + 1) = k - off - 1 by omega]
        · have e5 : off + 1 + vs.length + (k - (off + 1 + vs.length)) = k := by omega
          have e6 : off + (vs.length + 1) + (k - (off + (vs.length + 1))) = k := by omega
          rw [e5, e6]
          simp [h3, show ¬ k < off + (vs.length + 1) by omega, show ¬ off = k by omega]

theorem zip_set0 (vs cells : List Value) (off : Nat) (h : off + vs.length ≤ cells.length) :
    (vs.zipIdx.foldl (fun (cs : Array Value) (p : Value × Nat) => cs.setIfInBounds (off + p.2) p.1) cells.toArray) = (cells.take off ++ vs ++ cells.drop (off + vs.length)).toArray := by
  apply Array.ext'
  have := zip_set vs cells off 0 h
  simpa using this

theorem fill_sound (F : FR w0 B0 Fin s a w g) {place : Nat → Option (Nat × Nat)} : ∀ {ps : List (Nat × AV)} {us : List (Nat × Value)} {cells l : List AV} {vs : List Value}, CRs w g s.h s.o cells vs → ps.length = us.length →
    (∀ (k : Nat) (p : Nat × AV) (u : Nat × Value), ps[k]? = some p → us[k]? = some u → p.1 = u.1 ∧ CR w g s.h s.o p.2 u.2) → fillAV place cells ps = some l → ∃ r, Instr.fill place vs.toArray us = some r ∧ CRs w g s.h s.o l r.toList := by
  intro ps
  induction ps with
  | nil =>
    intro us cells l vs hc hl _ h
    have : us = [] := List.length_eq_zero_iff.1 hl.symm
    subst this
    rw [fillAV] at h; cases h
    exact ⟨vs.toArray, rfl, by simpa using hc⟩
  | cons p ps ih =>
    intro us cells l vs hc hl hk h
    cases us with
    | nil => simp at hl
    | cons u us =>
      obtain ⟨i, x⟩ := p
      obtain ⟨i', v⟩ := u
      obtain ⟨hi, hx⟩ := hk 0 (i, x) (i', v) rfl rfl
      simp only at hi hx; subst hi
      rw [fillAV] at h
      rw [Instr.fill]
      cases hp : place i with
      | none => rw [hp] at h; cases h
      | some q =>
        obtain ⟨off, size⟩ := q
        simp only [hp] at h ⊢
        cases hcs : x.cells? with
        | none => simp only [hcs] at h; cases h
        | some cs =>
          simp only [hcs] at h
          cases hlen : lenS cs size with
          | false => simp only [hlen] at h; cases h
          | true =>
            simp only [hlen] at h
            cases hset : setS cells off cs with
            | none => simp only [hset] at h; cases h
            | some cells' =>
              simp only [hset] at h
              obtain ⟨hcr, hone⟩ := cells_sound F hx hcs
              have hsz := lenS_eq hlen
              obtain ⟨rfl, hn⟩ := setS_eq hset
              have h1 : v.cells.size = size := by have := hcr.1; simp at this; omega
              have h2 : ¬ (off + v.cells.size > vs.toArray.size) := by have := hc.1; simp; omega
              have h3 : (v.cells.size ≠ size || decide (off + v.cells.size > vs.toArray.size)) = false := by simp [h1]; simpa [h1] using h2
              rw [h3]
              simp only [Bool.false_eq_true, if_false]
              have e : (v.cells.zipIdx.foldl (fun (cs : Array Value) (p : Value × Nat) => cs.setIfInBounds (off + p.2) p.1) vs.toArray) = (vs.take off ++ v.cells.toList ++ vs.drop (off + v.cells.toList.length)).toArray := by
                rw [← zip_set0 v.cells.toList vs off (by have := hc.1; have := hcr.1; omega)]
                rw [← Array.foldl_toList, Array.toList_zipIdx]
              have e' : (v.cells.zipIdx.foldl (fun (cs : Array Value) (x : Value × Nat) => match x with | (c, j) => cs.setIfInBounds (off + j) c) vs.toArray) = (vs.take off ++ v.cells.toList ++ vs.drop (off + v.cells.toList.length)).toArray := e
              rw [e']
              refine ih ?_ (by simpa using hl) (fun k p u hp hu => hk (k + 1) p u (by simpa using hp) (by simpa using hu)) h
              have hll : cs.length = v.cells.toList.length := hcr.1
              rw [← hll]
              exact ((hc.take off).app hcr).app (hc.drop _)

theorem parts_sound (F : FR w0 B0 Fin s a w g) {ps : List (Nat × Operand)} {qs : List (Nat × AV)} (h : evParts s ps = some qs) :
    qs.length = (ps.map fun p => (p.1, a.eval p.2)).length ∧ ∀ (k : Nat) (q : Nat × AV) (u : Nat × Value), qs[k]? = some q → (ps.map fun p => (p.1, a.eval p.2))[k]? = some u → q.1 = u.1 ∧ CR w g s.h s.o q.2 u.2 := by
  unfold evParts at h
  obtain ⟨hl, hk⟩ := mapS_eq h
  refine ⟨by simp [hl], ?_⟩
  intro k q u hq hu
  rw [List.getElem?_map] at hu
  cases hp : ps[k]? with
  | none => rw [hp] at hu; cases hu
  | some p =>
    rw [hp] at hu
    obtain ⟨i, x⟩ := p
    obtain ⟨y, hy, he⟩ := hk k _ hp
    rw [hq] at hy; cases hy
    simp at hu
    subst hu
    simp only at he
    split at he
    · rename_i v hv; cases he; exact ⟨rfl, F.evA hv⟩
    · cases he

theorem tS_eq {z : List T} {zs : List AV} (h : tS z = some zs) : zs = z.map AV.t := mapS_map h
theorem zero_sound (hT : TabOk P tab) {ty : Nat} {ti : TI} (ht : lk tab ty = some ti) {z : List T} (hz : ti.zero = some z) (w : World) :
    ∃ v, (zeroValue ty).run P w = .ok v w ∧ z = v.cells.toList.map .sc ∧ CRs w g bxs rts (z.map AV.t) v.cells.toList := by
  obtain ⟨i, d, hi, hd, rfl⟩ := ti_parts (hT.1 _ _ ht)
  simp only [Option.map_eq_some_iff] at hz
  obtain ⟨v, hv, rfl⟩ := hz
  refine ⟨v, by simp [zeroValue, typeInfo, hi, hv], rfl, by simp, ?_⟩
  intro k x u hk hu
  simp only [List.getElem?_map, hu, Option.map_some, Option.some.injEq] at hk
  subst hk
  exact .t _ _ (.sc _)

theorem build_sound (hT : TabOk P tab) (F : FR w0 B0 Fin s a w g) {ty : Nat} {parts : Array (Nat × Operand)} {r : AV} (h : buildAV tab s ty parts.toList = some r) :
    ∃ u, (Instr.build ty (parts.map fun (i, x) => (i, a.eval x))).run P w = .ok u w ∧ CR w g s.h s.o r u := by
  unfold buildAV at h
  split at h
  case h_2 => cases h
  rename_i ps hps
  obtain ⟨hl, hk⟩ := parts_sound F hps
  split at h
  · rename_i fs sz by' z ht
    have hti := hT.1 _ _ ht
    obtain ⟨d, hd, htd, hPd⟩ := ti_und hti w
    obtain ⟨Fs, rfl, rfl⟩ := td_st htd
    split at h
    · rename_i zs hzs
      have e := tS_eq hzs; subst e
      split at h
      · rename_i places hpl
        split at h
        · rename_i l hf
          cases h
          obtain ⟨i, d', hi, hd', hie⟩ := ti_parts hti
          rw [hPd] at hd'; cases hd'
          simp only [TI.mk.injEq] at hie
          obtain ⟨_, _, _, hz⟩ := hie
          obtain ⟨v, hv, hvz⟩ := Option.map_eq_some_iff.1 hz.symm
          have hvr : CRs w g s.h s.o (z.map AV.t) v.cells.toList := by
            refine ⟨by rw [← hvz]; simp, ?_⟩
            intro k x u hk hu
            rw [← hvz] at hk
            simp only [List.getElem?_map, hu, Option.map_some, Option.some.injEq] at hk
            subst hk
            exact .t _ _ (.sc _)
          obtain ⟨r, hr, hrr⟩ := fill_sound F (place := nthS places) (us := parts.toList.map fun p => (p.1, a.eval p.2)) hvr hl hk hf
          have hm : Fs.toList.mapM (fun f => (P.info? f.type).map fun i => (f.offset, i.size)) = some places := by
            clear hr hf hz hPd htd
            generalize Fs.toList = fl at hpl
            induction fl generalizing places with
            | nil => rw [List.map_nil, mapS] at hpl; cases hpl; rfl
            | cons f fl ih =>
              rw [List.map_cons, mapS] at hpl
              split at hpl
              · rename_i q hq
                split at hpl
                · rename_i l' hl'
                  cases hpl
                  split at hq
                  · rename_i ti hti'
                    cases hq
                    obtain ⟨i', _, hi', _, rfl⟩ := ti_parts (hT.1 _ _ hti')
                    simp only at hi'
                    simp [List.mapM_cons, hi', ih _ hl']
                  · cases hq
                · cases hpl
              · cases hpl
          refine ⟨.agg r, run_build w ty _ r ?_, .ag' hrr⟩
          unfold Program.built
          simp only [hi, hPd, hv, hm]
          have : (fun x => places.toArray[x]?) = nthS places := by funext x; rw [nthS_eq]; simp
          rw [this]
          simpa using hr
        · cases h
      · cases h
    · cases h
  · rename_i n e sz by' z ht
    have hti := hT.1 _ _ ht
    obtain ⟨d, hd, htd, hPd⟩ := ti_und hti w
    cases td_ar htd
    split at h
    · rename_i zs hzs
      have e := tS_eq hzs; subst e
      split at h
      · rename_i ei he
        split at h
        · rename_i l hf
          cases h
          obtain ⟨i, d', hi, hd', hie⟩ := ti_parts hti
          rw [hPd] at hd'; cases hd'
          simp only [TI.mk.injEq] at hie
          obtain ⟨_, _, _, hz⟩ := hie
          obtain ⟨v, hv, hvz⟩ := Option.map_eq_some_iff.1 hz.symm
          have hvr : CRs w g s.h s.o (z.map AV.t) v.cells.toList := by
            refine ⟨by rw [← hvz]; simp, ?_⟩
            intro k x u hk hu
            rw [← hvz] at hk
            simp only [List.getElem?_map, hu, Option.map_some, Option.some.injEq] at hk
            subst hk
            exact .t _ _ (.sc _)
          obtain ⟨r, hr, hrr⟩ := fill_sound F (place := fun i => some (Nat.mul i ei.size, ei.size)) (us := parts.toList.map fun p => (p.1, a.eval p.2)) hvr hl hk hf
          obtain ⟨ie, _, hie, _, rfl⟩ := ti_parts (hT.1 _ _ he)
          refine ⟨.agg r, run_build w ty _ r ?_, .ag' hrr⟩
          unfold Program.built
          simp only [hi, hPd, hv, hie]
          simpa using hr
        · cases h
      · cases h
    · cases h
  · cases h
end
end Go.Ev
