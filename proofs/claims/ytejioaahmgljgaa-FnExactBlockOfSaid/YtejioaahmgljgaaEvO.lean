/- An evaluator over trees: what it tells is so (2): the operations that tell a value. -/
import Derived.Test.YtejioaahmgljgaaEvS
set_option linter.unusedVariables false
set_option linter.unusedSimpArgs false
namespace Go.Ev
open Go Go.RowKit

section
variable {P : Program} {tab : Tab}

theorem ti_parts {id : Nat} {ti : TI} (h : tiOf P id = some ti) : ∃ i d, P.info? id = some i ∧ P.underlying id = some d ∧ ti = ⟨tdOf d, i.size, i.bytes, i.zero.map fun v => v.cells.toList.map .sc⟩ := by
  unfold tiOf at h
  split at h
  · rename_i i d hi hd; cases h; exact ⟨i, d, hi, hd, rfl⟩
  · cases h
theorem ti_size {id : Nat} {ti : TI} (h : tiOf P id = some ti) (w : World) : (sizeOf id).run P w = .ok ti.size w := by
  obtain ⟨i, d, hi, hd, rfl⟩ := ti_parts h
  simp [sizeOf, typeInfo, hi]
theorem ti_und {id : Nat} {ti : TI} (h : tiOf P id = some ti) (w : World) : ∃ d, (underlying id).run P w = .ok d w ∧ tdOf d = ti.d ∧ P.underlying id = some d := by
  obtain ⟨i, d, hi, hd, rfl⟩ := ti_parts h
  exact ⟨d, by simp [underlying, hd], rfl, hd⟩
theorem ti_agg {id : Nat} {ti : TI} (h : tiOf P id = some ti) (w : World) : (isAgg id).run P w = .ok ti.d.isAgg w := by
  obtain ⟨i, d, hi, hd, rfl⟩ := ti_parts h
  cases d <;> simp [isAgg, underlying, hd, tdOf, TD.isAgg]
theorem td_st {d : TypeDesc} {fs : List (Nat × Nat)} (h : tdOf d = .st fs) : ∃ F, d = .struct F ∧ fs = F.toList.map fun f => (f.offset, f.type) := by
  cases d <;> simp [tdOf] at h
  rename_i F; exact ⟨F, rfl, h.symm⟩
theorem td_sl {d : TypeDesc} {e : Nat} (h : tdOf d = .sl e) : d = .slice e := by
  cases d <;> simp [tdOf] at h
  simp [h]
theorem td_ar {d : TypeDesc} {n e : Nat} (h : tdOf d = .ar n e) : d = .array n e := by
  cases d <;> simp [tdOf] at h
  simp [h]
theorem td_str {d : TypeDesc} (h : tdOf d = .str) : d = .string := by
  cases d <;> simp [tdOf] at h
  rfl
theorem td_bool {d : TypeDesc} (h : tdOf d = .bool) : d = .bool := by
  cases d <;> simp [tdOf] at h
  rfl
theorem td_int {d : TypeDesc} {k : IntKind} (h : tdOf d = .int k) : d = .int k := by
  cases d <;> simp [tdOf] at h
  simp [h]

theorem pureSem_run {α : Type} {x : Sem α} {a : α} (h : pureSem x = some a) (w : World) : x.run P w = .ok a w := by
  unfold pureSem at h
  split at h
  · cases h; rfl
  · cases h
end

section
variable {P : Program} {tab : Tab} {w0 w : World} {B0 Fin : Nat → Prop} {s s' : St} {a : Act} {g : Gh} {h : Bxs} {o : Rts}

theorem addr_add (b off n : Nat) : (⟨b, off, none⟩ : Addr).add n = ⟨b, off + n, none⟩ := by
  unfold Addr.add; split <;> simp_all

/-- the trees behind a pointer, as a frame's values -/
theorem pt_cells {B : Nat → Prop} {cells : List T} {v : Value} (hr : Rep w B (.pt cells) v) (f : T → AV) (hf : ∀ x v, Rep w B x v → CR w g h o (f x) v) :
    ∃ b off vs, v = .pointer (some ⟨b, off, none⟩) ∧ CRs w g h o (cells.map f) vs ∧ ∀ (k : Nat) (u : Value), vs[k]? = some u → w.cell? ⟨b, off + k, none⟩ = some u := by
  cases hr with
  | pt cells b off us hb hw hr =>
    refine ⟨b, off, (List.range cells.length).map us, rfl, ⟨by simp, ?_⟩, ?_⟩
    · intro k x v hk hv
      simp only [List.getElem?_map] at hk hv
      by_cases hkl : k < cells.length
      · simp only [List.getElem?_eq_getElem hkl, Option.map_some, Option.some.injEq] at hk
        simp [List.getElem?_range hkl] at hv
        subst hk; subst hv
        exact hf _ _ (hr k _ (List.getElem?_eq_getElem hkl))
      · rw [List.getElem?_eq_none (by omega)] at hk; cases hk
    · intro k u hk
      by_cases hkl : k < cells.length
      · simp [List.getElem?_map, List.getElem?_range hkl] at hk
        subst hk
        exact hw k _ (List.getElem?_eq_getElem hkl)
      · rw [List.getElem?_eq_none (by simp; omega)] at hk; cases hk

theorem cellBw_eq {id : Nat} {x : T} {y : AV} (h : cellBw id x = some y) : (∃ v, x = .sc v ∧ y = .t (.sc v)) ∨ y = .bw x id := by
  cases x <;> simp only [cellBw, Option.some.injEq] at h
  · exact .inl ⟨_, rfl, h.symm⟩
  · exact .inr h.symm
  · exact .inr h.symm
  · exact .inr h.symm
theorem cellsRp_eq {id : Nat} : ∀ {r : List T} {l : List AV}, cellsRp id r = some l → l.length = r.length ∧ ∀ (k : Nat) (x : T) (y : AV), r[k]? = some x → l[k]? = some y →
    (∃ v, x = .sc v ∧ y = .t (.sc v)) ∨ (∃ rows, x = .sl true rows ∧ y = .bw x id) ∨ (y = .t x ∧ ∀ rows, x ≠ .sl true rows) := by
  intro r
  induction r with
  | nil => intro l h; cases h; exact ⟨rfl, fun k x y hk => by simp at hk⟩
  | cons x r ih =>
    intro l h
    rw [cellsRp] at h
    split at h
    case h_2 => cases h
    rename_i l' hl
    obtain ⟨h1, h2⟩ := ih hl
    have key : ∀ y, l = y :: l' → ((∃ v, x = .sc v ∧ y = .t (.sc v)) ∨ (∃ rows, x = .sl true rows ∧ y = .bw x id) ∨ (y = .t x ∧ ∀ rows, x ≠ .sl true rows)) →
        l.length = (x :: r).length ∧ ∀ (k : Nat) (x' : T) (y : AV), (x :: r)[k]? = some x' → l[k]? = some y →
          (∃ v, x' = .sc v ∧ y = .t (.sc v)) ∨ (∃ rows, x' = .sl true rows ∧ y = .bw x' id) ∨ (y = .t x' ∧ ∀ rows, x' ≠ .sl true rows) := by
      rintro y rfl hy
      refine ⟨by simp [h1], ?_⟩
      intro k x' y' hk hy'
      cases k with
      | zero => simp at hk hy'; subst hk; subst hy'; exact hy
      | succ k => exact h2 k x' y' (by simpa using hk) (by simpa using hy')
    split at h <;> cases h
    · exact key _ rfl (.inl ⟨_, rfl, rfl⟩)
    · exact key _ rfl (.inr (.inl ⟨_, rfl, rfl⟩))
    · exact key _ rfl (.inr (.inr ⟨rfl, by simp⟩))
    · exact key _ rfl (.inr (.inr ⟨rfl, by simp⟩))
    · exact key _ rfl (.inr (.inr ⟨rfl, by simp⟩))

/-- a cell of a root's row -/
theorem root_cell {q : Nat} {rows : List (List T)} {v : Value} {sz : Nat} {F : Nat → Prop} (h : Root w g.B q rows v sz F) {b off n cap : Nat} (hv : v = .slice (some ⟨b, off, none⟩) n cap) {i k : Nat} {r : List T} {x : T} (hi : rows[i]? = some r) (hk : r[k]? = some x) :
    ∃ u, w.cell? ⟨b, off + (i * sz + k), none⟩ = some u ∧ r.length = sz ∧ ∃ G : Nat → Prop, Own w g.B x u G ∧ ∀ c, G c → F c ∧ c ≠ b := by
  rcases h with ⟨rfl, rfl⟩ | ⟨b, off, cap, us, Fs, cs, ty, rfl, hh, hcap, hc, hl, hw, hd, hb, h1, h2, _⟩
  · simp at hi
  · cases hv
    obtain ⟨hw1, hw2, _⟩ := hw i r k x hi hk
    exact ⟨us i k, by simp [World.cell?, hh, hw1], hl i r hi, Fs i k, hw2, fun c hc => ⟨h2 i k c hc, fun e => hb i k (e ▸ hc)⟩⟩

theorem own_cr {id : Nat} {rows : QV × List (List T)} (hid : lk o id = some rows) {x : T} {u : Value} {G : Nat → Prop} (hx : Own w g.B x u G) (hG : ∀ c, G c → g.fo id c ∧ ¬ topOf (g.rv id) c) {y : AV}
    (hy : (∃ v, x = .sc v ∧ y = .t (.sc v)) ∨ (∃ rows, x = .sl true rows ∧ y = .bw x id) ∨ (y = .t x ∧ ∀ rows, x ≠ .sl true rows)) : CR w g h o y u := by
  rcases hy with ⟨v, rfl, rfl⟩ | ⟨rows', rfl, rfl⟩ | ⟨rfl, hne⟩
  · cases hx; exact .t _ _ (.sc _)
  · exact .bw _ id u rows hid (hx.rep (fun b hb => .inl hb) fun c hc => .inr (hG c hc))
  · refine .t _ _ ?_
    cases hx with
    | sc => exact .sc _
    | sh rows v F h => exact h
    | pt cs v F h => exact h
    | fn g cs v F h => exact h
    | nil => exact absurd rfl (hne _)
    | sl => exact absurd rfl (hne _)

theorem ptr_sound (F : FR w0 B0 Fin s a w g) {p : AV} {v : Value} {cs : List AV} (hp : CR w g s.h s.o p v) (h : ptrCells s p = some cs) :
    ∃ b off vs, v = .pointer (some ⟨b, off, none⟩) ∧ CRs w g s.h s.o cs vs ∧ ∀ (k : Nat) (u : Value), vs[k]? = some u → w.cell? ⟨b, off + k, none⟩ = some u := by
  unfold ptrCells at h
  split at h
  · rename_i id off
    cases hp with
    | bp id off cs' hi =>
      simp only [hi] at h
      obtain ⟨rfl, hn⟩ := dropS_eq h
      obtain ⟨_, _, vs, ty, h2, h3⟩ := F.bx id cs' hi
      refine ⟨g.lc id, off, vs.drop off, rfl, h3.drop off, ?_⟩
      intro k u hk
      rw [List.getElem?_drop] at hk
      simp [World.cell?, h2, hk]
  · rename_i cells
    cases hp with
    | t x v hr =>
      have := mapS_map h; subst this
      exact pt_cells hr AV.t fun x v hx => .t _ _ hx
  · rename_i cells id
    cases hp with
    | bw x id v rows hi hr =>
      obtain ⟨hl, hk⟩ := mapS_eq h
      obtain ⟨b, off, vs, e, h1, h2⟩ := pt_cells (g := g) (h := s.h) (o := s.o) hr (fun x => AV.bw x id) fun x v hx => .bw x id v rows hi hx
      refine ⟨b, off, vs, e, ⟨by have := h1.1; simp at this; omega, ?_⟩, h2⟩
      intro k y u hy hu
      have hlt := nth_lt hy
      rw [hl] at hlt
      obtain ⟨z, hz, hq⟩ := hk k _ (List.getElem?_eq_getElem hlt)
      rw [hy] at hz; cases hz
      have hc := h1.2 k (.bw cells[k] id) u (by simp [hlt]) hu
      rcases cellBw_eq hq with ⟨v', hx, rfl⟩ | rfl
      · rw [hx] at hc
        cases hc with
        | bw x id v rows hi hr => cases hr; exact .t _ _ (.sc _)
      · exact hc
  · rename_i id i k
    cases hp with
    | rp id i k rows hi b off n cap hv =>
      simp only [hi] at h
      split at h
      case h_2 => cases h
      rename_i r hr
      split at h
      case h_2 => cases h
      rename_i rest hrest
      obtain ⟨rfl, hn⟩ := dropS_eq hrest
      obtain ⟨hlen, hcs⟩ := cellsRp_eq h
      obtain ⟨hroot, hfo⟩ := F.rt id rows hi
      have hcell : ∀ j (x : T), r[k + j]? = some x → ∃ u, w.cell? ⟨b, off + (i * g.sz id + (k + j)), none⟩ = some u ∧ r.length = g.sz id ∧ ∃ G : Nat → Prop, Own w g.B x u G ∧ ∀ c, G c → g.fo id c ∧ c ≠ b := fun j x hx => root_cell hroot hv hr hx
      refine ⟨b, off + (i * g.sz id + k), (List.range (r.drop k).length).map fun j => (w.cell? ⟨b, off + (i * g.sz id + (k + j)), none⟩).getD undef, rfl, ⟨by simp [hlen], ?_⟩, ?_⟩
      · intro j y u hy hu
        have hj := nth_lt hy
        rw [hlen] at hj
        have hx : (r.drop k)[j]? = some (r.drop k)[j] := List.getElem?_eq_getElem hj
        have hx' : r[k + j]? = some (r.drop k)[j] := by rw [← List.getElem?_drop]; exact hx
        obtain ⟨u', hu', _, G, hG, hGc⟩ := hcell j _ hx'
        have e : u = u' := by
          simp only [List.getElem?_map] at hu
          rw [List.getElem?_range hj] at hu
          simp [hu'] at hu
          exact hu.symm
        subst e
        refine own_cr hi hG (fun c hc => ⟨(hGc c hc).1, ?_⟩) (hcs j _ y hx hy)
        rw [hv]; exact (hGc c hc).2
      · intro j u hu
        have hj := nth_lt hu
        simp at hj
        have hj' : j < (r.drop k).length := by simp; omega
        have hx' : r[k + j]? = some (r.drop k)[j] := by rw [← List.getElem?_drop]; exact List.getElem?_eq_getElem hj'
        obtain ⟨u', hu', _⟩ := hcell j _ hx'
        simp only [List.getElem?_map] at hu
        rw [List.getElem?_range hj'] at hu
        simp [hu'] at hu
        subst hu
        rw [show off + (i * g.sz id + k) + j = off + (i * g.sz id + (k + j)) by omega]
        exact hu'
  · cases h

theorem load_sound (hT : TabOk P tab) (F : FR w0 B0 Fin s a w g) {ty : Nat} {p x : AV} {v : Value} (hp : CR w g s.h s.o p v) (h : loadAV tab s ty p = some x) :
    ∃ u, (Instr.loadAt ty v).run P w = .ok u w ∧ CR w g s.h s.o x u := by
  unfold loadAV at h
  cases ht : lk tab ty with
  | none => rw [ht] at h; cases h
  | some ti =>
    have hti := hT.1 _ _ ht
    cases hc : ptrCells s p with
    | none => simp only [ht, hc] at h; cases h
    | some cs =>
      simp only [ht, hc] at h
      obtain ⟨b, off, vs, rfl, hcs, hw⟩ := ptr_sound F hp hc
      have hag := ti_agg hti w
      have hsz := ti_size hti w
      cases hg : ti.d.isAgg with
      | true =>
        simp only [hg] at h
        cases hk : takeS ti.size cs with
        | none => simp only [hk] at h; cases h
        | some l =>
          simp only [hk] at h; cases h
          obtain ⟨rfl, hn⟩ := takeS_eq hk
          refine ⟨.agg (vs.take ti.size).toArray, ?_, .ag _ _ (hcs.take _).1 (hcs.take _).2⟩
          have hl := run_loadCells_list (P := P) w ⟨b, off, none⟩ (vs.take ti.size) (fun j u hj => by
            rw [addr_add]
            rw [List.getElem?_take] at hj
            split at hj
            · exact hw j u hj
            · cases hj)
          have hlen : (vs.take ti.size).length = ti.size := by have := hcs.1; simp; omega
          rw [hlen] at hl
          simp [Instr.loadAt, Instr.sureAddr, loadVar, hag, hg, hsz, hl]
      | false =>
        simp only [hg] at h
        split at h
        case h_2 => cases h
        rename_i y hy
        have := fA_eq h; subst this
        rw [nthS_eq] at hy
        have hlt : 0 < vs.length := by have := nth_lt hy; have := hcs.1; omega
        have hv : vs[0]? = some vs[0] := List.getElem?_eq_getElem hlt
        refine ⟨vs[0], ?_, hcs.2 0 _ _ hy hv⟩
        have hcell : w.cell? ⟨b, off, none⟩ = some vs[0] := hw 0 _ hv
        simp [Instr.loadAt, Instr.sureAddr, loadVar, hag, hg, hcell]

theorem part_sound (hT : TabOk P tab) {ty off : Nat} {cs : List AV} {vs : List Value} {x : AV} (hcs : CRs w g h o cs vs) (hp : partAV tab ty cs off = some x) :
    ∃ u, (part ty vs.toArray off).run P w = .ok u w ∧ CR w g h o x u := by
  unfold partAV at hp
  cases ht : lk tab ty with
  | none => rw [ht] at hp; cases hp
  | some ti =>
    have hti := hT.1 _ _ ht
    have hag := ti_agg hti w
    have hsz := ti_size hti w
    simp only [ht] at hp
    cases hg : ti.d.isAgg with
    | true =>
      simp only [hg] at hp
      cases hd : dropS off cs with
      | none => simp only [hd] at hp; cases hp
      | some r =>
        simp only [hd] at hp
        cases hk : takeS ti.size r with
        | none => simp only [hk] at hp; cases hp
        | some l =>
          simp only [hk] at hp; cases hp
          obtain ⟨rfl, hn⟩ := dropS_eq hd
          obtain ⟨rfl, hn2⟩ := takeS_eq hk
          have hq := (hcs.drop off).take ti.size
          refine ⟨.agg ((vs.drop off).take ti.size).toArray, ?_, .ag _ _ hq.1 hq.2⟩
          simp only [part, Sem.run_bind, hag, hg, Result.andThen_ok, if_true, hsz, Sem.run_pure]
          congr 2
          apply Array.ext'
          simp [List.extract_eq_take_drop]
    | false =>
      simp only [hg] at hp
      split at hp
      case h_2 => cases hp
      rename_i y hy
      have := fA_eq hp; subst this
      rw [nthS_eq] at hy
      have hlt : off < vs.length := by have := nth_lt hy; have := hcs.1; omega
      have hv : vs[off]? = some vs[off] := List.getElem?_eq_getElem hlt
      refine ⟨vs[off], ?_, hcs.2 off _ _ hy hv⟩
      simp [part, hag, hg, hv]

theorem pt_drop {B : Nat → Prop} {cells : List T} {b o' off : Nat} (hr : Rep w B (.pt cells) (.pointer (some ⟨b, o', none⟩))) : Rep w B (.pt (cells.drop off)) (.pointer (some ⟨b, o' + off, none⟩)) := by
  cases hr with
  | pt cells b o us hb hw hr =>
    refine .pt _ b (o' + off) (fun k => us (off + k)) hb ?_ ?_
    · intro k x hk; rw [List.getElem?_drop] at hk; rw [Nat.add_assoc]; exact hw _ x hk
    · intro k x hk; rw [List.getElem?_drop] at hk; exact hr _ x hk
theorem pt_is {B : Nat → Prop} {cells : List T} {v : Value} (hr : Rep w B (.pt cells) v) : ∃ b o', v = .pointer (some ⟨b, o', none⟩) := by
  cases hr; exact ⟨_, _, rfl⟩

theorem off_sound {x y : AV} {v : Value} {off : Nat} (hx : CR w g h o x v) (hp : offAV x off = some y) :
    ∃ b o', v = .pointer (some ⟨b, o', none⟩) ∧ CR w g h o y (.pointer (some ⟨b, o' + off, none⟩)) := by
  unfold offAV at hp
  split at hp
  · cases hp; cases hx with
    | bp id off cs hi => exact ⟨_, _, rfl, .bp _ _ cs hi⟩
  · rename_i cells
    cases hd : dropS off cells with
    | none => rw [hd] at hp; cases hp
    | some r =>
      rw [hd] at hp; cases hp
      obtain ⟨rfl, hn⟩ := dropS_eq hd
      cases hx with
      | t x v hr =>
        obtain ⟨b, o', rfl⟩ := pt_is hr
        exact ⟨b, o', rfl, .t _ _ (pt_drop hr)⟩
  · rename_i cells id
    cases hd : dropS off cells with
    | none => rw [hd] at hp; cases hp
    | some r =>
      rw [hd] at hp; cases hp
      obtain ⟨rfl, hn⟩ := dropS_eq hd
      cases hx with
      | bw x id v rows hi hr =>
        obtain ⟨b, o', rfl⟩ := pt_is hr
        exact ⟨b, o', rfl, .bw _ id _ rows hi (pt_drop hr)⟩
  · rename_i id i k
    cases hp
    cases hx with
    | rp id i k rows hi b off' n cap hv =>
      refine ⟨b, off' + (i * g.sz id + k), rfl, ?_⟩
      rw [show off' + (i * g.sz id + k) + off = off' + (i * g.sz id + (k + off)) by omega]
      exact .rp id i (k + off) rows hi b off' n cap hv
  · cases hp

theorem fieldAddr_sound (hT : TabOk P tab) {ty k : Nat} {x y : AV} {v : Value} (hx : CR w g h o x v) (hp : fieldAddrAV tab ty x k = some y) :
    ∃ u, (Instr.fieldAt ty v k).run P w = .ok u w ∧ CR w g h o y u := by
  unfold fieldAddrAV at hp
  split at hp
  · rename_i fs sz by' z ht
    have hti := hT.1 _ _ ht
    obtain ⟨d, hd, htd, _⟩ := ti_und hti w
    obtain ⟨Fs, rfl, rfl⟩ := td_st htd
    cases hn : nthS (Fs.toList.map fun f => (f.offset, f.type)) k with
    | none => rw [hn] at hp; cases hp
    | some q =>
      obtain ⟨off, fT⟩ := q
      simp only [hn] at hp
      rw [nthS_eq] at hn
      cases hf : lk tab fT with
      | none => simp only [hf] at hp; cases hp
      | some ft =>
        simp only [hf] at hp
        have hsz := ti_size (hT.1 _ _ hf) w
        cases hz : ft.size with
        | zero => simp only [hz] at hp; cases hp
        | succ m =>
          simp only [hz] at hp
          obtain ⟨b, o', rfl, hr⟩ := off_sound hx hp
          simp only [List.getElem?_map, Option.map_eq_some_iff, Prod.mk.injEq] at hn
          obtain ⟨f, hfk, rfl, rfl⟩ := hn
          refine ⟨_, ?_, hr⟩
          have hfk' : Fs[k]? = some f := by simpa using hfk
          simp [Instr.fieldAt, hd, hfk', Instr.sureAddr, fieldPlace, hsz, hz, addr_add]
  · cases hp

theorem field_sound (hT : TabOk P tab) {ty k : Nat} {x y : AV} {v : Value} (hx : CR w g h o x v) (hp : fieldAV tab ty x k = some y) :
    ∃ u, (Instr.field ty v k).run P w = .ok u w ∧ CR w g h o y u := by
  unfold fieldAV at hp
  split at hp
  · rename_i cs
    split at hp
    · rename_i fs sz by' z ht
      have hti := hT.1 _ _ ht
      obtain ⟨d, hd, htd, _⟩ := ti_und hti w
      obtain ⟨Fs, rfl, rfl⟩ := td_st htd
      cases hn : nthS (Fs.toList.map fun f => (f.offset, f.type)) k with
      | none => rw [hn] at hp; cases hp
      | some q =>
        obtain ⟨off, fT⟩ := q
        simp only [hn] at hp
        rw [nthS_eq] at hn
        simp only [List.getElem?_map, Option.map_eq_some_iff, Prod.mk.injEq] at hn
        obtain ⟨f, hfk, rfl, rfl⟩ := hn
        cases hx with
        | ag cs vs hl hr =>
          obtain ⟨u, hu, hru⟩ := part_sound hT ⟨hl, hr⟩ hp
          refine ⟨u, ?_, hru⟩
          have hfk' : Fs[k]? = some f := by simpa using hfk
          simp [Instr.field, hd, hfk', asAgg, hu]
    · cases hp
  · cases hp

/-- A slice that is read: its rows, where it stands. -/
inductive SlV (w : World) (g : Gh) (h : Bxs) (o : Rts) (x : AV) (rows : List (List T)) : Value → Prop
  | nil (hr : rows = []) : SlV w g h o x rows (.slice none 0 0)
  | em (hr : rows = []) (a : Addr) (cap : Nat) : SlV w g h o x rows (.slice (some a) 0 cap)
  | at (b off cap sz : Nat) (hc : rows.length ≤ cap) (hl : ∀ (i : Nat) (r : List T), rows[i]? = some r → r.length = sz)
      (hp : ∀ (i : Nat) (r : List T) (y : AV), rows[i]? = some r → rowPtr x i r = some y → CR w g h o y (.pointer (some ⟨b, off + i * sz, none⟩))) : SlV w g h o x rows (.slice (some ⟨b, off, none⟩) rows.length cap)

theorem rep_row {B : Nat → Prop} {rows : List (List T)} {b off n cap : Nat} {o' : Bool} (hr : Rep w B (.sl o' rows) (.slice (some ⟨b, off, none⟩) n cap)) : n = rows.length ∧ n ≤ cap ∧ ∃ sz, (∀ (i : Nat) (r : List T), rows[i]? = some r → r.length = sz) ∧
    ∀ (i : Nat) (r : List T), rows[i]? = some r → Rep w B (.pt r) (.pointer (some ⟨b, off + i * sz, none⟩)) := by
  cases hr with
  | em => exact ⟨rfl, Nat.zero_le _, 0, fun i r h => by simp at h, fun i r h => by simp at h⟩
  | sl o rows b off cap sz us hb hc hls hw hrs =>
    refine ⟨rfl, hc, sz, hls, fun i r hi => .pt r b (off + i * sz) (us i) (hb (ne_of_nth hi)) ?_ ?_⟩
    · intro k x hk; rw [Nat.add_assoc]; exact hw _ _ _ _ hi hk
    · intro k x hk; exact hrs _ _ _ _ hi hk
theorem rep_sl_is {B : Nat → Prop} {rows : List (List T)} {v : Value} {o' : Bool} (hr : Rep w B (.sl o' rows) v) : (rows = [] ∧ v = .slice none 0 0) ∨ (rows = [] ∧ ∃ a cap, v = .slice (some a) 0 cap) ∨ ∃ b off n cap, v = .slice (some ⟨b, off, none⟩) n cap := by
  cases hr with
  | nil => exact .inl ⟨rfl, rfl⟩
  | em _ a cap => exact .inr (.inl ⟨rfl, a, cap, rfl⟩)
  | sl => exact .inr (.inr ⟨_, _, _, _, rfl⟩)

theorem rows_sound (F : FR w0 B0 Fin s a w g) {x : AV} {v : Value} {rows : List (List T)} (hx : CR w g s.h s.o x v) (h : rowsAV s x = some rows) : SlV w g s.h s.o x rows v := by
  unfold rowsAV at h
  split at h
  · cases h
    cases hx with
    | t x v hr =>
      rcases rep_sl_is hr with ⟨rfl, rfl⟩ | ⟨rfl, ad, cap, rfl⟩ | ⟨b, off, n, cap, rfl⟩
      · exact .nil rfl
      · exact .em rfl ad cap
      · obtain ⟨rfl, hc, sz, hl, hp⟩ := rep_row hr
        refine .at b off cap sz hc hl fun i r y hi hy => ?_
        simp only [rowPtr] at hy; cases hy
        exact .t _ _ (hp i r hi)
  · cases h
    cases hx with
    | t x v hr => cases hr; exact .nil rfl
  · rename_i id
    cases hx with
    | rf id rows' hi =>
      obtain ⟨q, rows'⟩ := rows'
      simp only [hi] at h; cases h
      obtain ⟨hroot, _⟩ := F.rt id _ hi
      simp only at hroot
      rcases hroot with ⟨rfl, he⟩ | ⟨b, off, cap, us, Fs, cs, ty, he, hh, hcap, hc, hl, hw, hd, hb, h1, h2, _⟩
      · rw [he]; exact .nil rfl
      · rw [he]
        refine .at b off cap (g.sz id) hc hl fun i r y hi' hy => ?_
        simp only [rowPtr] at hy; cases hy
        have := CR.rp (w := w) (g := g) (h := s.h) (o := s.o) id i 0 _ hi b off rows.length cap he
        simpa using this
  · rename_i id lo hh
    cases hx with
    | rw id lo hh rows' hi h1 h2 =>
      obtain ⟨q, rows'⟩ := rows'
      simp only [hi] at h; cases h
      obtain ⟨hroot, _⟩ := F.rt id _ hi
      simp only at hroot h2
      have hlen : ((rows'.take hh).drop lo).length = hh - lo := by simp; omega
      rcases hroot with ⟨rfl, he⟩ | ⟨b, off, cap, us, Fs, cs, ty, he, hh', hcap, hc, hl, hw, hd, hb, h3, h4, _⟩
      · rw [he]; exact .nil (by simp)
      · rw [he]
        simp only [partV]
        rw [← hlen]
        have hrow : ∀ (i : Nat) (r : List T), ((rows'.take hh).drop lo)[i]? = some r → rows'[lo + i]? = some r := by
          intro i r hi
          rw [List.getElem?_drop, List.getElem?_take] at hi
          split at hi
          · exact hi
          · cases hi
        by_cases hcl : cap = lo
        · rw [if_pos hcl]
          exact .at b off (cap - lo) (g.sz id) (by rw [hlen]; omega) (fun i r hi => hl _ _ (hrow i r hi)) fun i r y hi' hy => by simp [rowPtr] at hy
        · rw [if_neg hcl, addr_add]
          exact .at b (off + lo * g.sz id) (cap - lo) (g.sz id) (by rw [hlen]; omega) (fun i r hi => hl _ _ (hrow i r hi)) fun i r y hi' hy => by simp [rowPtr] at hy
  · cases h
    cases hx with
    | bw x id v rows' hi hr =>
      rcases rep_sl_is hr with ⟨rfl, rfl⟩ | ⟨rfl, ad, cap, rfl⟩ | ⟨b, off, n, cap, rfl⟩
      · exact .nil rfl
      · exact .em rfl ad cap
      · obtain ⟨rfl, hc, sz, hl, hp⟩ := rep_row hr
        refine .at b off cap sz hc hl fun i r y hi' hy => ?_
        simp only [rowPtr] at hy; cases hy
        exact .bw _ _ _ rows' hi (hp i r hi')
  · cases h

theorem indexAddr_sound (hT : TabOk P tab) (F : FR w0 B0 Fin s a w g) {ty : Nat} {x y : AV} {v : Value} {kk : IntKind} {n : Int} (hx : CR w g s.h s.o x v) (hp : indexAddrAV tab s ty x n = some y) :
    ∃ u, (Instr.indexAt ty v (.int kk n)).run P w = .ok u w ∧ CR w g s.h s.o y u := by
  unfold indexAddrAV at hp
  split at hp
  · rename_i e sz by' z ht
    have hti := hT.1 _ _ ht
    obtain ⟨d, hd, htd, _⟩ := ti_und hti w
    cases td_sl htd
    split at hp
    case h_2 => cases hp
    rename_i rows hrows
    split at hp
    case h_2 => cases hp
    rename_i ei he
    have hsz := ti_size (hT.1 _ _ he) w
    split at hp
    case isFalse => cases hp
    rename_i h0
    split at hp
    case h_2 => cases hp
    rename_i r hr
    split at hp
    case h_2 => cases hp
    rename_i hl
    have hlen := lenS_eq hl
    have hlt := nth_lt hr
    cases rows_sound F hx hrows with
    | nil he => subst he; simp at hr
    | em he _ _ => subst he; simp at hr
    | «at» b off cap sz' hc hls hpt =>
      have e : sz' = ei.size := by rw [← hlen]; exact (hls _ _ hr).symm
      subst e
      refine ⟨_, ?_, hpt n.toNat r y hr hp⟩
      have hi : 0 ≤ n ∧ n < (rows.length : Int) := ⟨h0, by omega⟩
      simp [Instr.indexAt, asIntOf, hd, hi, hsz, addr_add]
  · rename_i len e sz by' z ht
    have hti := hT.1 _ _ ht
    obtain ⟨d, hd, htd, _⟩ := ti_und hti w
    cases td_ar htd
    split at hp
    · rename_i id off
      split at hp
      · rename_i ei he
        have hsz := ti_size (hT.1 _ _ he) w
        split at hp
        · rename_i h0
          cases hp
          cases hx with
          | bp id off cs hi =>
            refine ⟨_, ?_, .bp _ _ cs hi⟩
            simp [Instr.indexAt, asIntOf, hd, h0, hsz, addr_add, Instr.sureAddr]
        · cases hp
      · cases hp
    · cases hp
  · cases hp

theorem index_sound (hT : TabOk P tab) {ty : Nat} {x y : AV} {v : Value} {kk : IntKind} {n : Int} (hx : CR w g h o x v) (hp : indexAV tab ty x n = some y) :
    ∃ u, (Instr.index ty v (.int kk n)).run P w = .ok u w ∧ CR w g h o y u := by
  unfold indexAV at hp
  split at hp
  · rename_i len e sz by' z ht
    have hti := hT.1 _ _ ht
    obtain ⟨d, hd, htd, _⟩ := ti_und hti w
    cases td_ar htd
    split at hp
    · rename_i cs
      split at hp
      · rename_i ei he
        have hsz := ti_size (hT.1 _ _ he) w
        split at hp
        · rename_i h0
          cases hx with
          | ag cs vs hl hr =>
            obtain ⟨u, hu, hru⟩ := part_sound hT ⟨hl, hr⟩ hp
            exact ⟨u, by simp [Instr.index, asIntOf, hd, h0, hsz, hu], hru⟩
        · cases hp
      · cases hp
    · cases hp
  · rename_i sz by' z ht
    have hti := hT.1 _ _ ht
    obtain ⟨d, hd, htd, _⟩ := ti_und hti w
    cases td_str htd
    split at hp
    · rename_i b
      split at hp
      · rename_i h0
        cases hb : b[n.toNat]? with
        | none => rw [hb] at hp; cases hp
        | some c =>
          simp only [hb] at hp; cases hp
          cases hx with
          | t x v hr =>
            cases hr
            exact ⟨.int .u8 c.toNat, by simp [Instr.index, asIntOf, hd, h0, hb], .t _ _ (.sc _)⟩
      · cases hp
    · cases hp
  · cases hp
end
end Go.Ev
