import Derived.Test.YtanobmanpnkccaaMod
import Derived.Test.YtanobmanpnkccaaOFnExactAllocx0
namespace Go.Proofs.Ytanobmanpnkccaa.OFnExactAlloc
open Go.RowKit Go.Proofs.YtanobmanpnkccaaW.PrintWords Go.Proofs.YtanobmanpnkccaaW.PrintLast Go.Proofs.YtanobmanpnkccaaW.PrintMore Go.Proofs.Ytanobmanpnkccaa.Mod
set_option linter.unusedVariables false
theorem ptr_inj {v : Value} {g g2 : Nat} (h : v = .pointer (some ⟨g, 0, none⟩)) (k : v = .pointer (some ⟨g2, 0, none⟩)) : g = g2 := by
  rw [h] at k; injection k with k; injection k with k; injection k
section
variable {α : Type} {d : Kd α} {e : Nat} {wE w w1 : World} {x y v : Value} {l : List α} {mk : Value → Value}
/-- A value that holds a row of its own, apart from the boxes x and y, made since wE. -/
def Got (d : Kd α) (e : Nat) (wE w : World) (x y : Value) (l : List α) (mk : Value → Value) (v : Value) : Prop := ∃ u lo hi, v = mk u ∧ wE.heap.size ≤ lo ∧ Own d e lo hi u l w ∧ (∀ g, x = .pointer (some ⟨g, 0, none⟩) → g < lo ∨ hi ≤ g) ∧ (∀ g, y = .pointer (some ⟨g, 0, none⟩) → g < lo ∨ hi ≤ g)
theorem Got.up (h : Got d e wE w x y l mk v) (hb : Below w.heap.size w w1) : Got d e wE w1 x y l mk v := let ⟨u, lo, hi, a, b, c, p⟩ := h; ⟨u, lo, hi, a, b, own_below c hb, p⟩
theorem Got.new1 {x' : Value} (h : Got d e wE w x' y l mk v) (hb : Below w.heap.size w w1) : Got d e wE w1 (.pointer (some ⟨w.heap.size, 0, none⟩)) y l mk v := let ⟨u, lo, hi, a, b, c, _, q⟩ := h; ⟨u, lo, hi, a, b, own_below c hb, fun g hg => .inr (by injection hg with hg; injection hg with hg; injection hg with hg; have := c.2.1; omega), q⟩
theorem Got.new2 {y' : Value} (h : Got d e wE w x y' l mk v) (hb : Below w.heap.size w w1) : Got d e wE w1 x (.pointer (some ⟨w.heap.size, 0, none⟩)) l mk v := let ⟨u, lo, hi, a, b, c, p, _⟩ := h; ⟨u, lo, hi, a, b, own_below c hb, p, fun g hg => .inr (by injection hg with hg; injection hg with hg; injection hg with hg; have := c.2.1; omega)⟩
theorem Got.far1 {g : Nat} (h : Got d e wE w x y l mk v) (hg : x = .pointer (some ⟨g, 0, none⟩)) (hk : Kept w w1 (fun q => q = g)) : Got d e wE w1 x y l mk v := let ⟨u, lo, hi, a, b, c, p, q⟩ := h; ⟨u, lo, hi, a, b, own_kept c hk (fun k h1 h2 e_ => by rcases p g hg with h3 | h3 <;> omega), p, q⟩
theorem Got.far2 {g : Nat} (h : Got d e wE w x y l mk v) (hg : y = .pointer (some ⟨g, 0, none⟩)) (hk : Kept w w1 (fun q => q = g)) : Got d e wE w1 x y l mk v := let ⟨u, lo, hi, a, b, c, p, q⟩ := h; ⟨u, lo, hi, a, b, own_kept c hk (fun k h1 h2 e_ => by rcases q g hg with h3 | h3 <;> omega), p, q⟩
theorem Got.made {u : Value} (h : Kd.R d e w1 w.heap.size (fun _ => True) u l) (hb : Below w.heap.size w w1) (hE : wE.heap.size ≤ w.heap.size) (hx : ∀ g, x = .pointer (some ⟨g, 0, none⟩) → g < w.heap.size) (hy : ∀ g, y = .pointer (some ⟨g, 0, none⟩) → g < w.heap.size) (hv : v = mk u) : Got d e wE w1 x y l mk v := ⟨u, _, _, hv, hE, own_new h hb, fun g hg => .inl (hx g hg), fun g hg => .inl (hy g hg)⟩
theorem Got.to {mk' : Value → Value} {v' : Value} (h : Got d e wE w x y l mk v) (hv : ∀ u, v = mk u → v' = mk' u) : Got d e wE w x y l mk' v' := let ⟨u, lo, hi, a, b⟩ := h; ⟨u, lo, hi, hv u a, b⟩
end
section
structure I8 (wE : World) (c0 : Value) (c2 : Value) (c4 : Value) (sz : Int) (K : Int) (N : Int) (r1 : Int) (r3 : Int) (r4 : Int) (r5 : Bool) (L : List S67) (F : List S67) (r2 : List S67) (G : Nat → Prop) (a0 a1 a2 a3 a4 a5 a6 a7 a8 a9 a10 b1 b2 a15 : Value) (w : World) : Prop where
  bel : Below wE.heap.size wE w
  f0 : G 0 → a0 = c0
  f1 : G 1 → Got k67 67 wE w b1 b2 L (fun u => .agg #[.int .i64 sz, u]) a1
  f2 : G 2 → a2 = c2
  f3 : G 3 → a3 = .agg #[.int .i64 K, .int .i64 N]
  f4 : G 4 → a4 = c4
  f5 : G 5 → Got k67 67 wE w b1 b2 F (fun u => u) a5
  f6 : G 6 → Got k67 67 wE w b1 b2 r2 (fun u => .tuple #[.agg #[.int .i64 r1, u], .agg #[.int .i64 r3, .int .i64 r4], .bool r5]) a6
  f7 : G 7 → Got k67 67 wE w b1 b2 r2 (fun u => .tuple #[.agg #[.int .i64 r1, u], .agg #[.int .i64 r3, .int .i64 r4], .bool r5]) a7
  f8 : G 8 → Got k67 67 wE w b1 b2 r2 (fun u => .agg #[.int .i64 r1, u]) a8
  f9 : G 9 → a9 = .agg #[.int .i64 r3, .int .i64 r4]
  f10 : G 10 → a10 = .bool r5
  f11 : G 11 → ∃ g, b1 = .pointer (some ⟨g, 0, none⟩) ∧ wE.heap.size ≤ g ∧ ∃ cs, w.heap[g]? = some (.cells cs 32 (0, 0)) ∧ (¬ G 13 → cs = #[.int .i64 0, .slice none 0 0]) ∧ (G 13 → a8 = .agg cs)
  p11 : ∀ g, b1 = .pointer (some ⟨g, 0, none⟩) → G 11
  k13 : G 13 → G 8 ∧ G 11
  f12 : G 12 → ∃ g, b2 = .pointer (some ⟨g, 0, none⟩) ∧ wE.heap.size ≤ g ∧ ∃ cs, w.heap[g]? = some (.cells cs 67 (0, 0)) ∧ (¬ G 14 → cs = #[.int .i64 0, .int .i64 0]) ∧ (G 14 → cs = #[.int .i64 r3, .int .i64 r4])
  p12 : ∀ g, b2 = .pointer (some ⟨g, 0, none⟩) → G 12
  k14 : G 14 → G 12
  f15 : G 15 → a15 = .bool r5
variable {wE w w1 : World} {G : Nat → Prop} {a0 a1 a2 a3 a4 a5 a6 a7 a8 a9 a10 b1 b2 a15 : Value} {c0 : Value} {c2 : Value} {c4 : Value} {sz : Int} {K : Int} {N : Int} {r1 : Int} {r3 : Int} {r4 : Int} {r5 : Bool} {L : List S67} {F : List S67} {r2 : List S67}
theorem I8.up (H : I8 wE c0 c2 c4 sz K N r1 r3 r4 r5 L F r2 G a0 a1 a2 a3 a4 a5 a6 a7 a8 a9 a10 b1 b2 a15 w) (hb : Below w.heap.size w w1) : I8 wE c0 c2 c4 sz K N r1 r3 r4 r5 L F r2 G a0 a1 a2 a3 a4 a5 a6 a7 a8 a9 a10 b1 b2 a15 w1 where
  bel := below_step H.bel hb
  f0 := H.f0
  f1 := fun h => (H.f1 h).up hb
  f2 := H.f2
  f3 := H.f3
  f4 := H.f4
  f5 := fun h => (H.f5 h).up hb
  f6 := fun h => (H.f6 h).up hb
  f7 := fun h => (H.f7 h).up hb
  f8 := fun h => (H.f8 h).up hb
  f9 := H.f9
  f10 := H.f10
  f11 := fun h => let ⟨g, a, b, cs, c, d⟩ := H.f11 h; ⟨g, a, b, cs, blk_below c hb, d⟩
  p11 := H.p11
  k13 := H.k13
  f12 := fun h => let ⟨g, a, b, cs, c, d⟩ := H.f12 h; ⟨g, a, b, cs, blk_below c hb, d⟩
  p12 := H.p12
  k14 := H.k14
  f15 := H.f15
theorem I8.lt11 (H : I8 wE c0 c2 c4 sz K N r1 r3 r4 r5 L F r2 G a0 a1 a2 a3 a4 a5 a6 a7 a8 a9 a10 b1 b2 a15 w) : ∀ g, b1 = .pointer (some ⟨g, 0, none⟩) → g < w.heap.size := fun g hg => let ⟨g2, a2, _, cs2, c2, _⟩ := H.f11 (H.p11 g hg); by rw [ptr_inj hg a2]; exact blk_lt c2
theorem I8.lt12 (H : I8 wE c0 c2 c4 sz K N r1 r3 r4 r5 L F r2 G a0 a1 a2 a3 a4 a5 a6 a7 a8 a9 a10 b1 b2 a15 w) : ∀ g, b2 = .pointer (some ⟨g, 0, none⟩) → g < w.heap.size := fun g hg => let ⟨g2, a2, _, cs2, c2, _⟩ := H.f12 (H.p12 g hg); by rw [ptr_inj hg a2]; exact blk_lt c2
theorem I8.s0 {a0' : Value} (H : I8 wE c0 c2 c4 sz K N r1 r3 r4 r5 L F r2 G a0 a1 a2 a3 a4 a5 a6 a7 a8 a9 a10 b1 b2 a15 w) (n : a0' = c0) : I8 wE c0 c2 c4 sz K N r1 r3 r4 r5 L F r2 (fun j => j = 0 ∨ G j) a0' a1 a2 a3 a4 a5 a6 a7 a8 a9 a10 b1 b2 a15 w where
  bel := H.bel
  f0 := fun _ => n
  f1 := fun h => H.f1 (h.resolve_left (by decide))
  f2 := fun h => H.f2 (h.resolve_left (by decide))
  f3 := fun h => H.f3 (h.resolve_left (by decide))
  f4 := fun h => H.f4 (h.resolve_left (by decide))
  f5 := fun h => H.f5 (h.resolve_left (by decide))
  f6 := fun h => H.f6 (h.resolve_left (by decide))
  f7 := fun h => H.f7 (h.resolve_left (by decide))
  f8 := fun h => H.f8 (h.resolve_left (by decide))
  f9 := fun h => H.f9 (h.resolve_left (by decide))
  f10 := fun h => H.f10 (h.resolve_left (by decide))
  f11 := fun h => let ⟨g, a, b, cs, c, d, e⟩ := H.f11 (h.resolve_left (by decide)); ⟨g, a, b, cs, c, fun h => d (fun q => h (.inr q)), fun h => e (h.resolve_left (by decide))⟩
  p11 := fun g h => .inr (H.p11 g h)
  k13 := fun h => let q := H.k13 (h.resolve_left (by decide)); ⟨.inr q.1, .inr q.2⟩
  f12 := fun h => let ⟨g, a, b, cs, c, d, e⟩ := H.f12 (h.resolve_left (by decide)); ⟨g, a, b, cs, c, fun h => d (fun q => h (.inr q)), fun h => e (h.resolve_left (by decide))⟩
  p12 := fun g h => .inr (H.p12 g h)
  k14 := fun h => .inr (H.k14 (h.resolve_left (by decide)))
  f15 := fun h => H.f15 (h.resolve_left (by decide))
theorem I8.s1 {a1' : Value} (H : I8 wE c0 c2 c4 sz K N r1 r3 r4 r5 L F r2 G a0 a1 a2 a3 a4 a5 a6 a7 a8 a9 a10 b1 b2 a15 w) (n : Got k67 67 wE w b1 b2 L (fun u => .agg #[.int .i64 sz, u]) a1') : I8 wE c0 c2 c4 sz K N r1 r3 r4 r5 L F r2 (fun j => j = 1 ∨ G j) a0 a1' a2 a3 a4 a5 a6 a7 a8 a9 a10 b1 b2 a15 w where
  bel := H.bel
  f0 := fun h => H.f0 (h.resolve_left (by decide))
  f1 := fun _ => n
  f2 := fun h => H.f2 (h.resolve_left (by decide))
  f3 := fun h => H.f3 (h.resolve_left (by decide))
  f4 := fun h => H.f4 (h.resolve_left (by decide))
  f5 := fun h => H.f5 (h.resolve_left (by decide))
  f6 := fun h => H.f6 (h.resolve_left (by decide))
  f7 := fun h => H.f7 (h.resolve_left (by decide))
  f8 := fun h => H.f8 (h.resolve_left (by decide))
  f9 := fun h => H.f9 (h.resolve_left (by decide))
  f10 := fun h => H.f10 (h.resolve_left (by decide))
  f11 := fun h => let ⟨g, a, b, cs, c, d, e⟩ := H.f11 (h.resolve_left (by decide)); ⟨g, a, b, cs, c, fun h => d (fun q => h (.inr q)), fun h => e (h.resolve_left (by decide))⟩
  p11 := fun g h => .inr (H.p11 g h)
  k13 := fun h => let q := H.k13 (h.resolve_left (by decide)); ⟨.inr q.1, .inr q.2⟩
  f12 := fun h => let ⟨g, a, b, cs, c, d, e⟩ := H.f12 (h.resolve_left (by decide)); ⟨g, a, b, cs, c, fun h => d (fun q => h (.inr q)), fun h => e (h.resolve_left (by decide))⟩
  p12 := fun g h => .inr (H.p12 g h)
  k14 := fun h => .inr (H.k14 (h.resolve_left (by decide)))
  f15 := fun h => H.f15 (h.resolve_left (by decide))
theorem I8.s2 {a2' : Value} (H : I8 wE c0 c2 c4 sz K N r1 r3 r4 r5 L F r2 G a0 a1 a2 a3 a4 a5 a6 a7 a8 a9 a10 b1 b2 a15 w) (n : a2' = c2) : I8 wE c0 c2 c4 sz K N r1 r3 r4 r5 L F r2 (fun j => j = 2 ∨ G j) a0 a1 a2' a3 a4 a5 a6 a7 a8 a9 a10 b1 b2 a15 w where
  bel := H.bel
  f0 := fun h => H.f0 (h.resolve_left (by decide))
  f1 := fun h => H.f1 (h.resolve_left (by decide))
  f2 := fun _ => n
  f3 := fun h => H.f3 (h.resolve_left (by decide))
  f4 := fun h => H.f4 (h.resolve_left (by decide))
  f5 := fun h => H.f5 (h.resolve_left (by decide))
  f6 := fun h => H.f6 (h.resolve_left (by decide))
  f7 := fun h => H.f7 (h.resolve_left (by decide))
  f8 := fun h => H.f8 (h.resolve_left (by decide))
  f9 := fun h => H.f9 (h.resolve_left (by decide))
  f10 := fun h => H.f10 (h.resolve_left (by decide))
  f11 := fun h => let ⟨g, a, b, cs, c, d, e⟩ := H.f11 (h.resolve_left (by decide)); ⟨g, a, b, cs, c, fun h => d (fun q => h (.inr q)), fun h => e (h.resolve_left (by decide))⟩
  p11 := fun g h => .inr (H.p11 g h)
  k13 := fun h => let q := H.k13 (h.resolve_left (by decide)); ⟨.inr q.1, .inr q.2⟩
  f12 := fun h => let ⟨g, a, b, cs, c, d, e⟩ := H.f12 (h.resolve_left (by decide)); ⟨g, a, b, cs, c, fun h => d (fun q => h (.inr q)), fun h => e (h.resolve_left (by decide))⟩
  p12 := fun g h => .inr (H.p12 g h)
  k14 := fun h => .inr (H.k14 (h.resolve_left (by decide)))
  f15 := fun h => H.f15 (h.resolve_left (by decide))
theorem I8.s3 {a3' : Value} (H : I8 wE c0 c2 c4 sz K N r1 r3 r4 r5 L F r2 G a0 a1 a2 a3 a4 a5 a6 a7 a8 a9 a10 b1 b2 a15 w) (n : a3' = .agg #[.int .i64 K, .int .i64 N]) : I8 wE c0 c2 c4 sz K N r1 r3 r4 r5 L F r2 (fun j => j = 3 ∨ G j) a0 a1 a2 a3' a4 a5 a6 a7 a8 a9 a10 b1 b2 a15 w where
  bel := H.bel
  f0 := fun h => H.f0 (h.resolve_left (by decide))
  f1 := fun h => H.f1 (h.resolve_left (by decide))
  f2 := fun h => H.f2 (h.resolve_left (by decide))
  f3 := fun _ => n
  f4 := fun h => H.f4 (h.resolve_left (by decide))
  f5 := fun h => H.f5 (h.resolve_left (by decide))
  f6 := fun h => H.f6 (h.resolve_left (by decide))
  f7 := fun h => H.f7 (h.resolve_left (by decide))
  f8 := fun h => H.f8 (h.resolve_left (by decide))
  f9 := fun h => H.f9 (h.resolve_left (by decide))
  f10 := fun h => H.f10 (h.resolve_left (by decide))
  f11 := fun h => let ⟨g, a, b, cs, c, d, e⟩ := H.f11 (h.resolve_left (by decide)); ⟨g, a, b, cs, c, fun h => d (fun q => h (.inr q)), fun h => e (h.resolve_left (by decide))⟩
  p11 := fun g h => .inr (H.p11 g h)
  k13 := fun h => let q := H.k13 (h.resolve_left (by decide)); ⟨.inr q.1, .inr q.2⟩
  f12 := fun h => let ⟨g, a, b, cs, c, d, e⟩ := H.f12 (h.resolve_left (by decide)); ⟨g, a, b, cs, c, fun h => d (fun q => h (.inr q)), fun h => e (h.resolve_left (by decide))⟩
  p12 := fun g h => .inr (H.p12 g h)
  k14 := fun h => .inr (H.k14 (h.resolve_left (by decide)))
  f15 := fun h => H.f15 (h.resolve_left (by decide))
theorem I8.s4 {a4' : Value} (H : I8 wE c0 c2 c4 sz K N r1 r3 r4 r5 L F r2 G a0 a1 a2 a3 a4 a5 a6 a7 a8 a9 a10 b1 b2 a15 w) (n : a4' = c4) : I8 wE c0 c2 c4 sz K N r1 r3 r4 r5 L F r2 (fun j => j = 4 ∨ G j) a0 a1 a2 a3 a4' a5 a6 a7 a8 a9 a10 b1 b2 a15 w where
  bel := H.bel
  f0 := fun h => H.f0 (h.resolve_left (by decide))
  f1 := fun h => H.f1 (h.resolve_left (by decide))
  f2 := fun h => H.f2 (h.resolve_left (by decide))
  f3 := fun h => H.f3 (h.resolve_left (by decide))
  f4 := fun _ => n
  f5 := fun h => H.f5 (h.resolve_left (by decide))
  f6 := fun h => H.f6 (h.resolve_left (by decide))
  f7 := fun h => H.f7 (h.resolve_left (by decide))
  f8 := fun h => H.f8 (h.resolve_left (by decide))
  f9 := fun h => H.f9 (h.resolve_left (by decide))
  f10 := fun h => H.f10 (h.resolve_left (by decide))
  f11 := fun h => let ⟨g, a, b, cs, c, d, e⟩ := H.f11 (h.resolve_left (by decide)); ⟨g, a, b, cs, c, fun h => d (fun q => h (.inr q)), fun h => e (h.resolve_left (by decide))⟩
  p11 := fun g h => .inr (H.p11 g h)
  k13 := fun h => let q := H.k13 (h.resolve_left (by decide)); ⟨.inr q.1, .inr q.2⟩
  f12 := fun h => let ⟨g, a, b, cs, c, d, e⟩ := H.f12 (h.resolve_left (by decide)); ⟨g, a, b, cs, c, fun h => d (fun q => h (.inr q)), fun h => e (h.resolve_left (by decide))⟩
  p12 := fun g h => .inr (H.p12 g h)
  k14 := fun h => .inr (H.k14 (h.resolve_left (by decide)))
  f15 := fun h => H.f15 (h.resolve_left (by decide))
theorem I8.s5 {a5' : Value} (H : I8 wE c0 c2 c4 sz K N r1 r3 r4 r5 L F r2 G a0 a1 a2 a3 a4 a5 a6 a7 a8 a9 a10 b1 b2 a15 w) (n : Got k67 67 wE w b1 b2 F (fun u => u) a5') : I8 wE c0 c2 c4 sz K N r1 r3 r4 r5 L F r2 (fun j => j = 5 ∨ G j) a0 a1 a2 a3 a4 a5' a6 a7 a8 a9 a10 b1 b2 a15 w where
  bel := H.bel
  f0 := fun h => H.f0 (h.resolve_left (by decide))
  f1 := fun h => H.f1 (h.resolve_left (by decide))
  f2 := fun h => H.f2 (h.resolve_left (by decide))
  f3 := fun h => H.f3 (h.resolve_left (by decide))
  f4 := fun h => H.f4 (h.resolve_left (by decide))
  f5 := fun _ => n
  f6 := fun h => H.f6 (h.resolve_left (by decide))
  f7 := fun h => H.f7 (h.resolve_left (by decide))
  f8 := fun h => H.f8 (h.resolve_left (by decide))
  f9 := fun h => H.f9 (h.resolve_left (by decide))
  f10 := fun h => H.f10 (h.resolve_left (by decide))
  f11 := fun h => let ⟨g, a, b, cs, c, d, e⟩ := H.f11 (h.resolve_left (by decide)); ⟨g, a, b, cs, c, fun h => d (fun q => h (.inr q)), fun h => e (h.resolve_left (by decide))⟩
  p11 := fun g h => .inr (H.p11 g h)
  k13 := fun h => let q := H.k13 (h.resolve_left (by decide)); ⟨.inr q.1, .inr q.2⟩
  f12 := fun h => let ⟨g, a, b, cs, c, d, e⟩ := H.f12 (h.resolve_left (by decide)); ⟨g, a, b, cs, c, fun h => d (fun q => h (.inr q)), fun h => e (h.resolve_left (by decide))⟩
  p12 := fun g h => .inr (H.p12 g h)
  k14 := fun h => .inr (H.k14 (h.resolve_left (by decide)))
  f15 := fun h => H.f15 (h.resolve_left (by decide))
theorem I8.s6 {a6' : Value} (H : I8 wE c0 c2 c4 sz K N r1 r3 r4 r5 L F r2 G a0 a1 a2 a3 a4 a5 a6 a7 a8 a9 a10 b1 b2 a15 w) (n : Got k67 67 wE w b1 b2 r2 (fun u => .tuple #[.agg #[.int .i64 r1, u], .agg #[.int .i64 r3, .int .i64 r4], .bool r5]) a6') : I8 wE c0 c2 c4 sz K N r1 r3 r4 r5 L F r2 (fun j => j = 6 ∨ G j) a0 a1 a2 a3 a4 a5 a6' a7 a8 a9 a10 b1 b2 a15 w where
  bel := H.bel
  f0 := fun h => H.f0 (h.resolve_left (by decide))
  f1 := fun h => H.f1 (h.resolve_left (by decide))
  f2 := fun h => H.f2 (h.resolve_left (by decide))
  f3 := fun h => H.f3 (h.resolve_left (by decide))
  f4 := fun h => H.f4 (h.resolve_left (by decide))
  f5 := fun h => H.f5 (h.resolve_left (by decide))
  f6 := fun _ => n
  f7 := fun h => H.f7 (h.resolve_left (by decide))
  f8 := fun h => H.f8 (h.resolve_left (by decide))
  f9 := fun h => H.f9 (h.resolve_left (by decide))
  f10 := fun h => H.f10 (h.resolve_left (by decide))
  f11 := fun h => let ⟨g, a, b, cs, c, d, e⟩ := H.f11 (h.resolve_left (by decide)); ⟨g, a, b, cs, c, fun h => d (fun q => h (.inr q)), fun h => e (h.resolve_left (by decide))⟩
  p11 := fun g h => .inr (H.p11 g h)
  k13 := fun h => let q := H.k13 (h.resolve_left (by decide)); ⟨.inr q.1, .inr q.2⟩
  f12 := fun h => let ⟨g, a, b, cs, c, d, e⟩ := H.f12 (h.resolve_left (by decide)); ⟨g, a, b, cs, c, fun h => d (fun q => h (.inr q)), fun h => e (h.resolve_left (by decide))⟩
  p12 := fun g h => .inr (H.p12 g h)
  k14 := fun h => .inr (H.k14 (h.resolve_left (by decide)))
  f15 := fun h => H.f15 (h.resolve_left (by decide))
theorem I8.s7 {a7' : Value} (H : I8 wE c0 c2 c4 sz K N r1 r3 r4 r5 L F r2 G a0 a1 a2 a3 a4 a5 a6 a7 a8 a9 a10 b1 b2 a15 w) (n : Got k67 67 wE w b1 b2 r2 (fun u => .tuple #[.agg #[.int .i64 r1, u], .agg #[.int .i64 r3, .int .i64 r4], .bool r5]) a7') : I8 wE c0 c2 c4 sz K N r1 r3 r4 r5 L F r2 (fun j => j = 7 ∨ G j) a0 a1 a2 a3 a4 a5 a6 a7' a8 a9 a10 b1 b2 a15 w where
  bel := H.bel
  f0 := fun h => H.f0 (h.resolve_left (by decide))
  f1 := fun h => H.f1 (h.resolve_left (by decide))
  f2 := fun h => H.f2 (h.resolve_left (by decide))
  f3 := fun h => H.f3 (h.resolve_left (by decide))
  f4 := fun h => H.f4 (h.resolve_left (by decide))
  f5 := fun h => H.f5 (h.resolve_left (by decide))
  f6 := fun h => H.f6 (h.resolve_left (by decide))
  f7 := fun _ => n
  f8 := fun h => H.f8 (h.resolve_left (by decide))
  f9 := fun h => H.f9 (h.resolve_left (by decide))
  f10 := fun h => H.f10 (h.resolve_left (by decide))
  f11 := fun h => let ⟨g, a, b, cs, c, d, e⟩ := H.f11 (h.resolve_left (by decide)); ⟨g, a, b, cs, c, fun h => d (fun q => h (.inr q)), fun h => e (h.resolve_left (by decide))⟩
  p11 := fun g h => .inr (H.p11 g h)
  k13 := fun h => let q := H.k13 (h.resolve_left (by decide)); ⟨.inr q.1, .inr q.2⟩
  f12 := fun h => let ⟨g, a, b, cs, c, d, e⟩ := H.f12 (h.resolve_left (by decide)); ⟨g, a, b, cs, c, fun h => d (fun q => h (.inr q)), fun h => e (h.resolve_left (by decide))⟩
  p12 := fun g h => .inr (H.p12 g h)
  k14 := fun h => .inr (H.k14 (h.resolve_left (by decide)))
  f15 := fun h => H.f15 (h.resolve_left (by decide))
theorem I8.s8 {a8' : Value} (H : I8 wE c0 c2 c4 sz K N r1 r3 r4 r5 L F r2 G a0 a1 a2 a3 a4 a5 a6 a7 a8 a9 a10 b1 b2 a15 w) (hn : ¬ G 8) (n : Got k67 67 wE w b1 b2 r2 (fun u => .agg #[.int .i64 r1, u]) a8') : I8 wE c0 c2 c4 sz K N r1 r3 r4 r5 L F r2 (fun j => j = 8 ∨ G j) a0 a1 a2 a3 a4 a5 a6 a7 a8' a9 a10 b1 b2 a15 w where
  bel := H.bel
  f0 := fun h => H.f0 (h.resolve_left (by decide))
  f1 := fun h => H.f1 (h.resolve_left (by decide))
  f2 := fun h => H.f2 (h.resolve_left (by decide))
  f3 := fun h => H.f3 (h.resolve_left (by decide))
  f4 := fun h => H.f4 (h.resolve_left (by decide))
  f5 := fun h => H.f5 (h.resolve_left (by decide))
  f6 := fun h => H.f6 (h.resolve_left (by decide))
  f7 := fun h => H.f7 (h.resolve_left (by decide))
  f8 := fun _ => n
  f9 := fun h => H.f9 (h.resolve_left (by decide))
  f10 := fun h => H.f10 (h.resolve_left (by decide))
  f11 := fun h => let ⟨g, a, b, cs, c, d, e⟩ := H.f11 (h.resolve_left (by decide)); ⟨g, a, b, cs, c, fun h => d (fun q => h (.inr q)), fun h => absurd (H.k13 (h.resolve_left (by decide))).1 hn⟩
  p11 := fun g h => .inr (H.p11 g h)
  k13 := fun h => let q := H.k13 (h.resolve_left (by decide)); ⟨.inr q.1, .inr q.2⟩
  f12 := fun h => let ⟨g, a, b, cs, c, d, e⟩ := H.f12 (h.resolve_left (by decide)); ⟨g, a, b, cs, c, fun h => d (fun q => h (.inr q)), fun h => e (h.resolve_left (by decide))⟩
  p12 := fun g h => .inr (H.p12 g h)
  k14 := fun h => .inr (H.k14 (h.resolve_left (by decide)))
  f15 := fun h => H.f15 (h.resolve_left (by decide))
theorem I8.s9 {a9' : Value} (H : I8 wE c0 c2 c4 sz K N r1 r3 r4 r5 L F r2 G a0 a1 a2 a3 a4 a5 a6 a7 a8 a9 a10 b1 b2 a15 w) (n : a9' = .agg #[.int .i64 r3, .int .i64 r4]) : I8 wE c0 c2 c4 sz K N r1 r3 r4 r5 L F r2 (fun j => j = 9 ∨ G j) a0 a1 a2 a3 a4 a5 a6 a7 a8 a9' a10 b1 b2 a15 w where
  bel := H.bel
  f0 := fun h => H.f0 (h.resolve_left (by decide))
  f1 := fun h => H.f1 (h.resolve_left (by decide))
  f2 := fun h => H.f2 (h.resolve_left (by decide))
  f3 := fun h => H.f3 (h.resolve_left (by decide))
  f4 := fun h => H.f4 (h.resolve_left (by decide))
  f5 := fun h => H.f5 (h.resolve_left (by decide))
  f6 := fun h => H.f6 (h.resolve_left (by decide))
  f7 := fun h => H.f7 (h.resolve_left (by decide))
  f8 := fun h => H.f8 (h.resolve_left (by decide))
  f9 := fun _ => n
  f10 := fun h => H.f10 (h.resolve_left (by decide))
  f11 := fun h => let ⟨g, a, b, cs, c, d, e⟩ := H.f11 (h.resolve_left (by decide)); ⟨g, a, b, cs, c, fun h => d (fun q => h (.inr q)), fun h => e (h.resolve_left (by decide))⟩
  p11 := fun g h => .inr (H.p11 g h)
  k13 := fun h => let q := H.k13 (h.resolve_left (by decide)); ⟨.inr q.1, .inr q.2⟩
  f12 := fun h => let ⟨g, a, b, cs, c, d, e⟩ := H.f12 (h.resolve_left (by decide)); ⟨g, a, b, cs, c, fun h => d (fun q => h (.inr q)), fun h => e (h.resolve_left (by decide))⟩
  p12 := fun g h => .inr (H.p12 g h)
  k14 := fun h => .inr (H.k14 (h.resolve_left (by decide)))
  f15 := fun h => H.f15 (h.resolve_left (by decide))
theorem I8.s10 {a10' : Value} (H : I8 wE c0 c2 c4 sz K N r1 r3 r4 r5 L F r2 G a0 a1 a2 a3 a4 a5 a6 a7 a8 a9 a10 b1 b2 a15 w) (n : a10' = .bool r5) : I8 wE c0 c2 c4 sz K N r1 r3 r4 r5 L F r2 (fun j => j = 10 ∨ G j) a0 a1 a2 a3 a4 a5 a6 a7 a8 a9 a10' b1 b2 a15 w where
  bel := H.bel
  f0 := fun h => H.f0 (h.resolve_left (by decide))
  f1 := fun h => H.f1 (h.resolve_left (by decide))
  f2 := fun h => H.f2 (h.resolve_left (by decide))
  f3 := fun h => H.f3 (h.resolve_left (by decide))
  f4 := fun h => H.f4 (h.resolve_left (by decide))
  f5 := fun h => H.f5 (h.resolve_left (by decide))
  f6 := fun h => H.f6 (h.resolve_left (by decide))
  f7 := fun h => H.f7 (h.resolve_left (by decide))
  f8 := fun h => H.f8 (h.resolve_left (by decide))
  f9 := fun h => H.f9 (h.resolve_left (by decide))
  f10 := fun _ => n
  f11 := fun h => let ⟨g, a, b, cs, c, d, e⟩ := H.f11 (h.resolve_left (by decide)); ⟨g, a, b, cs, c, fun h => d (fun q => h (.inr q)), fun h => e (h.resolve_left (by decide))⟩
  p11 := fun g h => .inr (H.p11 g h)
  k13 := fun h => let q := H.k13 (h.resolve_left (by decide)); ⟨.inr q.1, .inr q.2⟩
  f12 := fun h => let ⟨g, a, b, cs, c, d, e⟩ := H.f12 (h.resolve_left (by decide)); ⟨g, a, b, cs, c, fun h => d (fun q => h (.inr q)), fun h => e (h.resolve_left (by decide))⟩
  p12 := fun g h => .inr (H.p12 g h)
  k14 := fun h => .inr (H.k14 (h.resolve_left (by decide)))
  f15 := fun h => H.f15 (h.resolve_left (by decide))
theorem I8.s11 (H : I8 wE c0 c2 c4 sz K N r1 r3 r4 r5 L F r2 G a0 a1 a2 a3 a4 a5 a6 a7 a8 a9 a10 b1 b2 a15 w) (hn : ¬ G 11) (hb : Below w.heap.size w w1) (hk : w1.heap[w.heap.size]? = some (.cells #[.int .i64 0, .slice none 0 0] 32 (0, 0))) : I8 wE c0 c2 c4 sz K N r1 r3 r4 r5 L F r2 (fun j => j = 11 ∨ G j) a0 a1 a2 a3 a4 a5 a6 a7 a8 a9 a10 (.pointer (some ⟨w.heap.size, 0, none⟩)) b2 a15 w1 where
  bel := below_step H.bel hb
  f0 := fun h => H.f0 (h.resolve_left (by decide))
  f1 := fun h => (H.f1 (h.resolve_left (by decide))).new1 hb
  f2 := fun h => H.f2 (h.resolve_left (by decide))
  f3 := fun h => H.f3 (h.resolve_left (by decide))
  f4 := fun h => H.f4 (h.resolve_left (by decide))
  f5 := fun h => (H.f5 (h.resolve_left (by decide))).new1 hb
  f6 := fun h => (H.f6 (h.resolve_left (by decide))).new1 hb
  f7 := fun h => (H.f7 (h.resolve_left (by decide))).new1 hb
  f8 := fun h => (H.f8 (h.resolve_left (by decide))).new1 hb
  f9 := fun h => H.f9 (h.resolve_left (by decide))
  f10 := fun h => H.f10 (h.resolve_left (by decide))
  f11 := fun _ => ⟨_, rfl, H.bel.size, _, hk, fun _ => rfl, fun h => absurd (H.k13 (h.resolve_left (by decide))).2 hn⟩
  p11 := fun _ _ => .inl rfl
  k13 := fun h => absurd (H.k13 (h.resolve_left (by decide))).2 hn
  f12 := fun h => let ⟨g, a, b, cs, c, d, e⟩ := H.f12 (h.resolve_left (by decide)); ⟨g, a, b, cs, blk_below c hb, fun h => d (fun q => h (.inr q)), fun h => e (h.resolve_left (by decide))⟩
  p12 := fun g h => .inr (H.p12 g h)
  k14 := fun h => .inr (H.k14 (h.resolve_left (by decide)))
  f15 := fun h => H.f15 (h.resolve_left (by decide))
theorem I8.s12 (H : I8 wE c0 c2 c4 sz K N r1 r3 r4 r5 L F r2 G a0 a1 a2 a3 a4 a5 a6 a7 a8 a9 a10 b1 b2 a15 w) (hn : ¬ G 12) (hb : Below w.heap.size w w1) (hk : w1.heap[w.heap.size]? = some (.cells #[.int .i64 0, .int .i64 0] 67 (0, 0))) : I8 wE c0 c2 c4 sz K N r1 r3 r4 r5 L F r2 (fun j => j = 12 ∨ G j) a0 a1 a2 a3 a4 a5 a6 a7 a8 a9 a10 b1 (.pointer (some ⟨w.heap.size, 0, none⟩)) a15 w1 where
  bel := below_step H.bel hb
  f0 := fun h => H.f0 (h.resolve_left (by decide))
  f1 := fun h => (H.f1 (h.resolve_left (by decide))).new2 hb
  f2 := fun h => H.f2 (h.resolve_left (by decide))
  f3 := fun h => H.f3 (h.resolve_left (by decide))
  f4 := fun h => H.f4 (h.resolve_left (by decide))
  f5 := fun h => (H.f5 (h.resolve_left (by decide))).new2 hb
  f6 := fun h => (H.f6 (h.resolve_left (by decide))).new2 hb
  f7 := fun h => (H.f7 (h.resolve_left (by decide))).new2 hb
  f8 := fun h => (H.f8 (h.resolve_left (by decide))).new2 hb
  f9 := fun h => H.f9 (h.resolve_left (by decide))
  f10 := fun h => H.f10 (h.resolve_left (by decide))
  f11 := fun h => let ⟨g, a, b, cs, c, d, e⟩ := H.f11 (h.resolve_left (by decide)); ⟨g, a, b, cs, blk_below c hb, fun h => d (fun q => h (.inr q)), fun h => e (h.resolve_left (by decide))⟩
  p11 := fun g h => .inr (H.p11 g h)
  k13 := fun h => let q := H.k13 (h.resolve_left (by decide)); ⟨.inr q.1, .inr q.2⟩
  f12 := fun _ => ⟨_, rfl, H.bel.size, _, hk, fun _ => rfl, fun h => absurd (H.k14 (h.resolve_left (by decide))) hn⟩
  p12 := fun _ _ => .inl rfl
  k14 := fun h => absurd (H.k14 (h.resolve_left (by decide))) hn
  f15 := fun h => H.f15 (h.resolve_left (by decide))
theorem I8.s15 {a15' : Value} (H : I8 wE c0 c2 c4 sz K N r1 r3 r4 r5 L F r2 G a0 a1 a2 a3 a4 a5 a6 a7 a8 a9 a10 b1 b2 a15 w) (n : a15' = .bool r5) : I8 wE c0 c2 c4 sz K N r1 r3 r4 r5 L F r2 (fun j => j = 15 ∨ G j) a0 a1 a2 a3 a4 a5 a6 a7 a8 a9 a10 b1 b2 a15' w where
  bel := H.bel
  f0 := fun h => H.f0 (h.resolve_left (by decide))
  f1 := fun h => H.f1 (h.resolve_left (by decide))
  f2 := fun h => H.f2 (h.resolve_left (by decide))
  f3 := fun h => H.f3 (h.resolve_left (by decide))
  f4 := fun h => H.f4 (h.resolve_left (by decide))
  f5 := fun h => H.f5 (h.resolve_left (by decide))
  f6 := fun h => H.f6 (h.resolve_left (by decide))
  f7 := fun h => H.f7 (h.resolve_left (by decide))
  f8 := fun h => H.f8 (h.resolve_left (by decide))
  f9 := fun h => H.f9 (h.resolve_left (by decide))
  f10 := fun h => H.f10 (h.resolve_left (by decide))
  f11 := fun h => let ⟨g, a, b, cs, c, d, e⟩ := H.f11 (h.resolve_left (by decide)); ⟨g, a, b, cs, c, fun h => d (fun q => h (.inr q)), fun h => e (h.resolve_left (by decide))⟩
  p11 := fun g h => .inr (H.p11 g h)
  k13 := fun h => let q := H.k13 (h.resolve_left (by decide)); ⟨.inr q.1, .inr q.2⟩
  f12 := fun h => let ⟨g, a, b, cs, c, d, e⟩ := H.f12 (h.resolve_left (by decide)); ⟨g, a, b, cs, c, fun h => d (fun q => h (.inr q)), fun h => e (h.resolve_left (by decide))⟩
  p12 := fun g h => .inr (H.p12 g h)
  k14 := fun h => .inr (H.k14 (h.resolve_left (by decide)))
  f15 := fun _ => n
theorem I8.s13 {g : Nat} {cs : Array Value} (H : I8 wE c0 c2 c4 sz K N r1 r3 r4 r5 L F r2 G a0 a1 a2 a3 a4 a5 a6 a7 a8 a9 a10 b1 b2 a15 w) (h11 : G 11) (h8 : G 8) (hg : b1 = .pointer (some ⟨g, 0, none⟩)) (hB : Below wE.heap.size wE w1) (hk : Kept w w1 (fun q => q = g)) (hc : w1.heap[g]? = some (.cells cs 32 (0, 0))) (hv : a8 = .agg cs) : I8 wE c0 c2 c4 sz K N r1 r3 r4 r5 L F r2 (fun j => j = 13 ∨ G j) a0 a1 a2 a3 a4 a5 a6 a7 a8 a9 a10 b1 b2 a15 w1 where
  bel := hB
  f0 := fun h => H.f0 (h.resolve_left (by decide))
  f1 := fun h => (H.f1 (h.resolve_left (by decide))).far1 hg hk
  f2 := fun h => H.f2 (h.resolve_left (by decide))
  f3 := fun h => H.f3 (h.resolve_left (by decide))
  f4 := fun h => H.f4 (h.resolve_left (by decide))
  f5 := fun h => (H.f5 (h.resolve_left (by decide))).far1 hg hk
  f6 := fun h => (H.f6 (h.resolve_left (by decide))).far1 hg hk
  f7 := fun h => (H.f7 (h.resolve_left (by decide))).far1 hg hk
  f8 := fun h => (H.f8 (h.resolve_left (by decide))).far1 hg hk
  f9 := fun h => H.f9 (h.resolve_left (by decide))
  f10 := fun h => H.f10 (h.resolve_left (by decide))
  f11 := fun _ => let ⟨g2, a2, b2, _⟩ := H.f11 h11; ⟨g, hg, ptr_inj hg a2 ▸ b2, cs, hc, fun h => absurd (.inl rfl) h, fun _ => hv⟩
  p11 := fun g h => .inr (H.p11 g h)
  k13 := fun _ => ⟨.inr h8, .inr h11⟩
  f12 := fun h => let ⟨g2, a2, _, cs2, c2, _⟩ := H.f11 h11; let ⟨g3, a, b, cs3, c, d, e⟩ := H.f12 (h.resolve_left (by decide)); ⟨g3, a, b, cs3, blk_kept c hk (fun e_ => blk_ne c c2 (by decide) (e_.trans (ptr_inj hg a2))), fun h => d (fun q => h (.inr q)), fun h => e (h.resolve_left (by decide))⟩
  p12 := fun g h => .inr (H.p12 g h)
  k14 := fun h => .inr (H.k14 (h.resolve_left (by decide)))
  f15 := fun h => H.f15 (h.resolve_left (by decide))
theorem I8.s14 {g : Nat} {cs : Array Value} (H : I8 wE c0 c2 c4 sz K N r1 r3 r4 r5 L F r2 G a0 a1 a2 a3 a4 a5 a6 a7 a8 a9 a10 b1 b2 a15 w) (h12 : G 12) (hg : b2 = .pointer (some ⟨g, 0, none⟩)) (hB : Below wE.heap.size wE w1) (hk : Kept w w1 (fun q => q = g)) (hc : w1.heap[g]? = some (.cells cs 67 (0, 0))) (hv : cs = #[.int .i64 r3, .int .i64 r4]) : I8 wE c0 c2 c4 sz K N r1 r3 r4 r5 L F r2 (fun j => j = 14 ∨ G j) a0 a1 a2 a3 a4 a5 a6 a7 a8 a9 a10 b1 b2 a15 w1 where
  bel := hB
  f0 := fun h => H.f0 (h.resolve_left (by decide))
  f1 := fun h => (H.f1 (h.resolve_left (by decide))).far2 hg hk
  f2 := fun h => H.f2 (h.resolve_left (by decide))
  f3 := fun h => H.f3 (h.resolve_left (by decide))
  f4 := fun h => H.f4 (h.resolve_left (by decide))
  f5 := fun h => (H.f5 (h.resolve_left (by decide))).far2 hg hk
  f6 := fun h => (H.f6 (h.resolve_left (by decide))).far2 hg hk
  f7 := fun h => (H.f7 (h.resolve_left (by decide))).far2 hg hk
  f8 := fun h => (H.f8 (h.resolve_left (by decide))).far2 hg hk
  f9 := fun h => H.f9 (h.resolve_left (by decide))
  f10 := fun h => H.f10 (h.resolve_left (by decide))
  f11 := fun h => let ⟨g2, a2, _, cs2, c2, _⟩ := H.f12 h12; let ⟨g3, a, b, cs3, c, d, e⟩ := H.f11 (h.resolve_left (by decide)); ⟨g3, a, b, cs3, blk_kept c hk (fun e_ => blk_ne c c2 (by decide) (e_.trans (ptr_inj hg a2))), fun h => d (fun q => h (.inr q)), fun h => e (h.resolve_left (by decide))⟩
  p11 := fun g h => .inr (H.p11 g h)
  k13 := fun h => let q := H.k13 (h.resolve_left (by decide)); ⟨.inr q.1, .inr q.2⟩
  f12 := fun _ => let ⟨g2, a2, b2, _⟩ := H.f12 h12; ⟨g, hg, ptr_inj hg a2 ▸ b2, cs, hc, fun h => absurd (.inl rfl) h, fun _ => hv⟩
  p12 := fun g h => .inr (H.p12 g h)
  k14 := fun _ => .inr h12
  f15 := fun h => H.f15 (h.resolve_left (by decide))
end
section
structure I11 (wE : World) (c0 : Value) (c2 : Value) (c4 : Value) (K : Int) (N : Int) (r1 : Int) (r3 : Int) (r4 : Int) (r5 : Bool) (r2 : List S67) (G : Nat → Prop) (a0 a1 a2 a3 a4 a5 a6 a7 a8 b1 b2 a13 : Value) (w : World) : Prop where
  bel : Below wE.heap.size wE w
  f0 : G 0 → a0 = c0
  f1 : G 1 → a1 = c2
  f2 : G 2 → a2 = .agg #[.int .i64 K, .int .i64 N]
  f3 : G 3 → a3 = c4
  f4 : G 4 → Got k67 67 wE w b1 b2 r2 (fun u => .tuple #[.agg #[.int .i64 r1, u], .agg #[.int .i64 r3, .int .i64 r4], .bool r5]) a4
  f5 : G 5 → Got k67 67 wE w b1 b2 r2 (fun u => .tuple #[.agg #[.int .i64 r1, u], .agg #[.int .i64 r3, .int .i64 r4], .bool r5]) a5
  f6 : G 6 → Got k67 67 wE w b1 b2 r2 (fun u => .agg #[.int .i64 r1, u]) a6
  f7 : G 7 → a7 = .agg #[.int .i64 r3, .int .i64 r4]
  f8 : G 8 → a8 = .bool r5
  f9 : G 9 → ∃ g, b1 = .pointer (some ⟨g, 0, none⟩) ∧ wE.heap.size ≤ g ∧ ∃ cs, w.heap[g]? = some (.cells cs 32 (0, 0)) ∧ (¬ G 11 → cs = #[.int .i64 0, .slice none 0 0]) ∧ (G 11 → a6 = .agg cs)
  p9 : ∀ g, b1 = .pointer (some ⟨g, 0, none⟩) → G 9
  k11 : G 11 → G 6 ∧ G 9
  f10 : G 10 → ∃ g, b2 = .pointer (some ⟨g, 0, none⟩) ∧ wE.heap.size ≤ g ∧ ∃ cs, w.heap[g]? = some (.cells cs 67 (0, 0)) ∧ (¬ G 12 → cs = #[.int .i64 0, .int .i64 0]) ∧ (G 12 → cs = #[.int .i64 r3, .int .i64 r4])
  p10 : ∀ g, b2 = .pointer (some ⟨g, 0, none⟩) → G 10
  k12 : G 12 → G 10
  f13 : G 13 → a13 = .bool r5
variable {wE w w1 : World} {G : Nat → Prop} {a0 a1 a2 a3 a4 a5 a6 a7 a8 b1 b2 a13 : Value} {c0 : Value} {c2 : Value} {c4 : Value} {K : Int} {N : Int} {r1 : Int} {r3 : Int} {r4 : Int} {r5 : Bool} {r2 : List S67}
theorem I11.up (H : I11 wE c0 c2 c4 K N r1 r3 r4 r5 r2 G a0 a1 a2 a3 a4 a5 a6 a7 a8 b1 b2 a13 w) (hb : Below w.heap.size w w1) : I11 wE c0 c2 c4 K N r1 r3 r4 r5 r2 G a0 a1 a2 a3 a4 a5 a6 a7 a8 b1 b2 a13 w1 where
  bel := below_step H.bel hb
  f0 := H.f0
  f1 := H.f1
  f2 := H.f2
  f3 := H.f3
  f4 := fun h => (H.f4 h).up hb
  f5 := fun h => (H.f5 h).up hb
  f6 := fun h => (H.f6 h).up hb
  f7 := H.f7
  f8 := H.f8
  f9 := fun h => let ⟨g, a, b, cs, c, d⟩ := H.f9 h; ⟨g, a, b, cs, blk_below c hb, d⟩
  p9 := H.p9
  k11 := H.k11
  f10 := fun h => let ⟨g, a, b, cs, c, d⟩ := H.f10 h; ⟨g, a, b, cs, blk_below c hb, d⟩
  p10 := H.p10
  k12 := H.k12
  f13 := H.f13
theorem I11.lt9 (H : I11 wE c0 c2 c4 K N r1 r3 r4 r5 r2 G a0 a1 a2 a3 a4 a5 a6 a7 a8 b1 b2 a13 w) : ∀ g, b1 = .pointer (some ⟨g, 0, none⟩) → g < w.heap.size := fun g hg => let ⟨g2, a2, _, cs2, c2, _⟩ := H.f9 (H.p9 g hg); by rw [ptr_inj hg a2]; exact blk_lt c2
theorem I11.lt10 (H : I11 wE c0 c2 c4 K N r1 r3 r4 r5 r2 G a0 a1 a2 a3 a4 a5 a6 a7 a8 b1 b2 a13 w) : ∀ g, b2 = .pointer (some ⟨g, 0, none⟩) → g < w.heap.size := fun g hg => let ⟨g2, a2, _, cs2, c2, _⟩ := H.f10 (H.p10 g hg); by rw [ptr_inj hg a2]; exact blk_lt c2
theorem I11.s0 {a0' : Value} (H : I11 wE c0 c2 c4 K N r1 r3 r4 r5 r2 G a0 a1 a2 a3 a4 a5 a6 a7 a8 b1 b2 a13 w) (n : a0' = c0) : I11 wE c0 c2 c4 K N r1 r3 r4 r5 r2 (fun j => j = 0 ∨ G j) a0' a1 a2 a3 a4 a5 a6 a7 a8 b1 b2 a13 w where
  bel := H.bel
  f0 := fun _ => n
  f1 := fun h => H.f1 (h.resolve_left (by decide))
  f2 := fun h => H.f2 (h.resolve_left (by decide))
  f3 := fun h => H.f3 (h.resolve_left (by decide))
  f4 := fun h => H.f4 (h.resolve_left (by decide))
  f5 := fun h => H.f5 (h.resolve_left (by decide))
  f6 := fun h => H.f6 (h.resolve_left (by decide))
  f7 := fun h => H.f7 (h.resolve_left (by decide))
  f8 := fun h => H.f8 (h.resolve_left (by decide))
  f9 := fun h => let ⟨g, a, b, cs, c, d, e⟩ := H.f9 (h.resolve_left (by decide)); ⟨g, a, b, cs, c, fun h => d (fun q => h (.inr q)), fun h => e (h.resolve_left (by decide))⟩
  p9 := fun g h => .inr (H.p9 g h)
  k11 := fun h => let q := H.k11 (h.resolve_left (by decide)); ⟨.inr q.1, .inr q.2⟩
  f10 := fun h => let ⟨g, a, b, cs, c, d, e⟩ := H.f10 (h.resolve_left (by decide)); ⟨g, a, b, cs, c, fun h => d (fun q => h (.inr q)), fun h => e (h.resolve_left (by decide))⟩
  p10 := fun g h => .inr (H.p10 g h)
  k12 := fun h => .inr (H.k12 (h.resolve_left (by decide)))
  f13 := fun h => H.f13 (h.resolve_left (by decide))
theorem I11.s1 {a1' : Value} (H : I11 wE c0 c2 c4 K N r1 r3 r4 r5 r2 G a0 a1 a2 a3 a4 a5 a6 a7 a8 b1 b2 a13 w) (n : a1' = c2) : I11 wE c0 c2 c4 K N r1 r3 r4 r5 r2 (fun j => j = 1 ∨ G j) a0 a1' a2 a3 a4 a5 a6 a7 a8 b1 b2 a13 w where
  bel := H.bel
  f0 := fun h => H.f0 (h.resolve_left (by decide))
  f1 := fun _ => n
  f2 := fun h => H.f2 (h.resolve_left (by decide))
  f3 := fun h => H.f3 (h.resolve_left (by decide))
  f4 := fun h => H.f4 (h.resolve_left (by decide))
  f5 := fun h => H.f5 (h.resolve_left (by decide))
  f6 := fun h => H.f6 (h.resolve_left (by decide))
  f7 := fun h => H.f7 (h.resolve_left (by decide))
  f8 := fun h => H.f8 (h.resolve_left (by decide))
  f9 := fun h => let ⟨g, a, b, cs, c, d, e⟩ := H.f9 (h.resolve_left (by decide)); ⟨g, a, b, cs, c, fun h => d (fun q => h (.inr q)), fun h => e (h.resolve_left (by decide))⟩
  p9 := fun g h => .inr (H.p9 g h)
  k11 := fun h => let q := H.k11 (h.resolve_left (by decide)); ⟨.inr q.1, .inr q.2⟩
  f10 := fun h => let ⟨g, a, b, cs, c, d, e⟩ := H.f10 (h.resolve_left (by decide)); ⟨g, a, b, cs, c, fun h => d (fun q => h (.inr q)), fun h => e (h.resolve_left (by decide))⟩
  p10 := fun g h => .inr (H.p10 g h)
  k12 := fun h => .inr (H.k12 (h.resolve_left (by decide)))
  f13 := fun h => H.f13 (h.resolve_left (by decide))
theorem I11.s2 {a2' : Value} (H : I11 wE c0 c2 c4 K N r1 r3 r4 r5 r2 G a0 a1 a2 a3 a4 a5 a6 a7 a8 b1 b2 a13 w) (n : a2' = .agg #[.int .i64 K, .int .i64 N]) : I11 wE c0 c2 c4 K N r1 r3 r4 r5 r2 (fun j => j = 2 ∨ G j) a0 a1 a2' a3 a4 a5 a6 a7 a8 b1 b2 a13 w where
  bel := H.bel
  f0 := fun h => H.f0 (h.resolve_left (by decide))
  f1 := fun h => H.f1 (h.resolve_left (by decide))
  f2 := fun _ => n
  f3 := fun h => H.f3 (h.resolve_left (by decide))
  f4 := fun h => H.f4 (h.resolve_left (by decide))
  f5 := fun h => H.f5 (h.resolve_left (by decide))
  f6 := fun h => H.f6 (h.resolve_left (by decide))
  f7 := fun h => H.f7 (h.resolve_left (by decide))
  f8 := fun h => H.f8 (h.resolve_left (by decide))
  f9 := fun h => let ⟨g, a, b, cs, c, d, e⟩ := H.f9 (h.resolve_left (by decide)); ⟨g, a, b, cs, c, fun h => d (fun q => h (.inr q)), fun h => e (h.resolve_left (by decide))⟩
  p9 := fun g h => .inr (H.p9 g h)
  k11 := fun h => let q := H.k11 (h.resolve_left (by decide)); ⟨.inr q.1, .inr q.2⟩
  f10 := fun h => let ⟨g, a, b, cs, c, d, e⟩ := H.f10 (h.resolve_left (by decide)); ⟨g, a, b, cs, c, fun h => d (fun q => h (.inr q)), fun h => e (h.resolve_left (by decide))⟩
  p10 := fun g h => .inr (H.p10 g h)
  k12 := fun h => .inr (H.k12 (h.resolve_left (by decide)))
  f13 := fun h => H.f13 (h.resolve_left (by decide))
theorem I11.s3 {a3' : Value} (H : I11 wE c0 c2 c4 K N r1 r3 r4 r5 r2 G a0 a1 a2 a3 a4 a5 a6 a7 a8 b1 b2 a13 w) (n : a3' = c4) : I11 wE c0 c2 c4 K N r1 r3 r4 r5 r2 (fun j => j = 3 ∨ G j) a0 a1 a2 a3' a4 a5 a6 a7 a8 b1 b2 a13 w where
  bel := H.bel
  f0 := fun h => H.f0 (h.resolve_left (by decide))
  f1 := fun h => H.f1 (h.resolve_left (by decide))
  f2 := fun h => H.f2 (h.resolve_left (by decide))
  f3 := fun _ => n
  f4 := fun h => H.f4 (h.resolve_left (by decide))
  f5 := fun h => H.f5 (h.resolve_left (by decide))
  f6 := fun h => H.f6 (h.resolve_left (by decide))
  f7 := fun h => H.f7 (h.resolve_left (by decide))
  f8 := fun h => H.f8 (h.resolve_left (by decide))
  f9 := fun h => let ⟨g, a, b, cs, c, d, e⟩ := H.f9 (h.resolve_left (by decide)); ⟨g, a, b, cs, c, fun h => d (fun q => h (.inr q)), fun h => e (h.resolve_left (by decide))⟩
  p9 := fun g h => .inr (H.p9 g h)
  k11 := fun h => let q := H.k11 (h.resolve_left (by decide)); ⟨.inr q.1, .inr q.2⟩
  f10 := fun h => let ⟨g, a, b, cs, c, d, e⟩ := H.f10 (h.resolve_left (by decide)); ⟨g, a, b, cs, c, fun h => d (fun q => h (.inr q)), fun h => e (h.resolve_left (by decide))⟩
  p10 := fun g h => .inr (H.p10 g h)
  k12 := fun h => .inr (H.k12 (h.resolve_left (by decide)))
  f13 := fun h => H.f13 (h.resolve_left (by decide))
theorem I11.s4 {a4' : Value} (H : I11 wE c0 c2 c4 K N r1 r3 r4 r5 r2 G a0 a1 a2 a3 a4 a5 a6 a7 a8 b1 b2 a13 w) (n : Got k67 67 wE w b1 b2 r2 (fun u => .tuple #[.agg #[.int .i64 r1, u], .agg #[.int .i64 r3, .int .i64 r4], .bool r5]) a4') : I11 wE c0 c2 c4 K N r1 r3 r4 r5 r2 (fun j => j = 4 ∨ G j) a0 a1 a2 a3 a4' a5 a6 a7 a8 b1 b2 a13 w where
  bel := H.bel
  f0 := fun h => H.f0 (h.resolve_left (by decide))
  f1 := fun h => H.f1 (h.resolve_left (by decide))
  f2 := fun h => H.f2 (h.resolve_left (by decide))
  f3 := fun h => H.f3 (h.resolve_left (by decide))
  f4 := fun _ => n
  f5 := fun h => H.f5 (h.resolve_left (by decide))
  f6 := fun h => H.f6 (h.resolve_left (by decide))
  f7 := fun h => H.f7 (h.resolve_left (by decide))
  f8 := fun h => H.f8 (h.resolve_left (by decide))
  f9 := fun h => let ⟨g, a, b, cs, c, d, e⟩ := H.f9 (h.resolve_left (by decide)); ⟨g, a, b, cs, c, fun h => d (fun q => h (.inr q)), fun h => e (h.resolve_left (by decide))⟩
  p9 := fun g h => .inr (H.p9 g h)
  k11 := fun h => let q := H.k11 (h.resolve_left (by decide)); ⟨.inr q.1, .inr q.2⟩
  f10 := fun h => let ⟨g, a, b, cs, c, d, e⟩ := H.f10 (h.resolve_left (by decide)); ⟨g, a, b, cs, c, fun h => d (fun q => h (.inr q)), fun h => e (h.resolve_left (by decide))⟩
  p10 := fun g h => .inr (H.p10 g h)
  k12 := fun h => .inr (H.k12 (h.resolve_left (by decide)))
  f13 := fun h => H.f13 (h.resolve_left (by decide))
theorem I11.s5 {a5' : Value} (H : I11 wE c0 c2 c4 K N r1 r3 r4 r5 r2 G a0 a1 a2 a3 a4 a5 a6 a7 a8 b1 b2 a13 w) (n : Got k67 67 wE w b1 b2 r2 (fun u => .tuple #[.agg #[.int .i64 r1, u], .agg #[.int .i64 r3, .int .i64 r4], .bool r5]) a5') : I11 wE c0 c2 c4 K N r1 r3 r4 r5 r2 (fun j => j = 5 ∨ G j) a0 a1 a2 a3 a4 a5' a6 a7 a8 b1 b2 a13 w where
  bel := H.bel
  f0 := fun h => H.f0 (h.resolve_left (by decide))
  f1 := fun h => H.f1 (h.resolve_left (by decide))
  f2 := fun h => H.f2 (h.resolve_left (by decide))
  f3 := fun h => H.f3 (h.resolve_left (by decide))
  f4 := fun h => H.f4 (h.resolve_left (by decide))
  f5 := fun _ => n
  f6 := fun h => H.f6 (h.resolve_left (by decide))
  f7 := fun h => H.f7 (h.resolve_left (by decide))
  f8 := fun h => H.f8 (h.resolve_left (by decide))
  f9 := fun h => let ⟨g, a, b, cs, c, d, e⟩ := H.f9 (h.resolve_left (by decide)); ⟨g, a, b, cs, c, fun h => d (fun q => h (.inr q)), fun h => e (h.resolve_left (by decide))⟩
  p9 := fun g h => .inr (H.p9 g h)
  k11 := fun h => let q := H.k11 (h.resolve_left (by decide)); ⟨.inr q.1, .inr q.2⟩
  f10 := fun h => let ⟨g, a, b, cs, c, d, e⟩ := H.f10 (h.resolve_left (by decide)); ⟨g, a, b, cs, c, fun h => d (fun q => h (.inr q)), fun h => e (h.resolve_left (by decide))⟩
  p10 := fun g h => .inr (H.p10 g h)
  k12 := fun h => .inr (H.k12 (h.resolve_left (by decide)))
  f13 := fun h => H.f13 (h.resolve_left (by decide))
theorem I11.s6 {a6' : Value} (H : I11 wE c0 c2 c4 K N r1 r3 r4 r5 r2 G a0 a1 a2 a3 a4 a5 a6 a7 a8 b1 b2 a13 w) (hn : ¬ G 6) (n : Got k67 67 wE w b1 b2 r2 (fun u => .agg #[.int .i64 r1, u]) a6') : I11 wE c0 c2 c4 K N r1 r3 r4 r5 r2 (fun j => j = 6 ∨ G j) a0 a1 a2 a3 a4 a5 a6' a7 a8 b1 b2 a13 w where
  bel := H.bel
  f0 := fun h => H.f0 (h.resolve_left (by decide))
  f1 := fun h => H.f1 (h.resolve_left (by decide))
  f2 := fun h => H.f2 (h.resolve_left (by decide))
  f3 := fun h => H.f3 (h.resolve_left (by decide))
  f4 := fun h => H.f4 (h.resolve_left (by decide))
  f5 := fun h => H.f5 (h.resolve_left (by decide))
  f6 := fun _ => n
  f7 := fun h => H.f7 (h.resolve_left (by decide))
  f8 := fun h => H.f8 (h.resolve_left (by decide))
  f9 := fun h => let ⟨g, a, b, cs, c, d, e⟩ := H.f9 (h.resolve_left (by decide)); ⟨g, a, b, cs, c, fun h => d (fun q => h (.inr q)), fun h => absurd (H.k11 (h.resolve_left (by decide))).1 hn⟩
  p9 := fun g h => .inr (H.p9 g h)
  k11 := fun h => let q := H.k11 (h.resolve_left (by decide)); ⟨.inr q.1, .inr q.2⟩
  f10 := fun h => let ⟨g, a, b, cs, c, d, e⟩ := H.f10 (h.resolve_left (by decide)); ⟨g, a, b, cs, c, fun h => d (fun q => h (.inr q)), fun h => e (h.resolve_left (by decide))⟩
  p10 := fun g h => .inr (H.p10 g h)
  k12 := fun h => .inr (H.k12 (h.resolve_left (by decide)))
  f13 := fun h => H.f13 (h.resolve_left (by decide))
theorem I11.s7 {a7' : Value} (H : I11 wE c0 c2 c4 K N r1 r3 r4 r5 r2 G a0 a1 a2 a3 a4 a5 a6 a7 a8 b1 b2 a13 w) (n : a7' = .agg #[.int .i64 r3, .int .i64 r4]) : I11 wE c0 c2 c4 K N r1 r3 r4 r5 r2 (fun j => j = 7 ∨ G j) a0 a1 a2 a3 a4 a5 a6 a7' a8 b1 b2 a13 w where
  bel := H.bel
  f0 := fun h => H.f0 (h.resolve_left (by decide))
  f1 := fun h => H.f1 (h.resolve_left (by decide))
  f2 := fun h => H.f2 (h.resolve_left (by decide))
  f3 := fun h => H.f3 (h.resolve_left (by decide))
  f4 := fun h => H.f4 (h.resolve_left (by decide))
  f5 := fun h => H.f5 (h.resolve_left (by decide))
  f6 := fun h => H.f6 (h.resolve_left (by decide))
  f7 := fun _ => n
  f8 := fun h => H.f8 (h.resolve_left (by decide))
  f9 := fun h => let ⟨g, a, b, cs, c, d, e⟩ := H.f9 (h.resolve_left (by decide)); ⟨g, a, b, cs, c, fun h => d (fun q => h (.inr q)), fun h => e (h.resolve_left (by decide))⟩
  p9 := fun g h => .inr (H.p9 g h)
  k11 := fun h => let q := H.k11 (h.resolve_left (by decide)); ⟨.inr q.1, .inr q.2⟩
  f10 := fun h => let ⟨g, a, b, cs, c, d, e⟩ := H.f10 (h.resolve_left (by decide)); ⟨g, a, b, cs, c, fun h => d (fun q => h (.inr q)), fun h => e (h.resolve_left (by decide))⟩
  p10 := fun g h => .inr (H.p10 g h)
  k12 := fun h => .inr (H.k12 (h.resolve_left (by decide)))
  f13 := fun h => H.f13 (h.resolve_left (by decide))
theorem I11.s8 {a8' : Value} (H : I11 wE c0 c2 c4 K N r1 r3 r4 r5 r2 G a0 a1 a2 a3 a4 a5 a6 a7 a8 b1 b2 a13 w) (n : a8' = .bool r5) : I11 wE c0 c2 c4 K N r1 r3 r4 r5 r2 (fun j => j = 8 ∨ G j) a0 a1 a2 a3 a4 a5 a6 a7 a8' b1 b2 a13 w where
  bel := H.bel
  f0 := fun h => H.f0 (h.resolve_left (by decide))
  f1 := fun h => H.f1 (h.resolve_left (by decide))
  f2 := fun h => H.f2 (h.resolve_left (by decide))
  f3 := fun h => H.f3 (h.resolve_left (by decide))
  f4 := fun h => H.f4 (h.resolve_left (by decide))
  f5 := fun h => H.f5 (h.resolve_left (by decide))
  f6 := fun h => H.f6 (h.resolve_left (by decide))
  f7 := fun h => H.f7 (h.resolve_left (by decide))
  f8 := fun _ => n
  f9 := fun h => let ⟨g, a, b, cs, c, d, e⟩ := H.f9 (h.resolve_left (by decide)); ⟨g, a, b, cs, c, fun h => d (fun q => h (.inr q)), fun h => e (h.resolve_left (by decide))⟩
  p9 := fun g h => .inr (H.p9 g h)
  k11 := fun h => let q := H.k11 (h.resolve_left (by decide)); ⟨.inr q.1, .inr q.2⟩
  f10 := fun h => let ⟨g, a, b, cs, c, d, e⟩ := H.f10 (h.resolve_left (by decide)); ⟨g, a, b, cs, c, fun h => d (fun q => h (.inr q)), fun h => e (h.resolve_left (by decide))⟩
  p10 := fun g h => .inr (H.p10 g h)
  k12 := fun h => .inr (H.k12 (h.resolve_left (by decide)))
  f13 := fun h => H.f13 (h.resolve_left (by decide))
theorem I11.s9 (H : I11 wE c0 c2 c4 K N r1 r3 r4 r5 r2 G a0 a1 a2 a3 a4 a5 a6 a7 a8 b1 b2 a13 w) (hn : ¬ G 9) (hb : Below w.heap.size w w1) (hk : w1.heap[w.heap.size]? = some (.cells #[.int .i64 0, .slice none 0 0] 32 (0, 0))) : I11 wE c0 c2 c4 K N r1 r3 r4 r5 r2 (fun j => j = 9 ∨ G j) a0 a1 a2 a3 a4 a5 a6 a7 a8 (.pointer (some ⟨w.heap.size, 0, none⟩)) b2 a13 w1 where
  bel := below_step H.bel hb
  f0 := fun h => H.f0 (h.resolve_left (by decide))
  f1 := fun h => H.f1 (h.resolve_left (by decide))
  f2 := fun h => H.f2 (h.resolve_left (by decide))
  f3 := fun h => H.f3 (h.resolve_left (by decide))
  f4 := fun h => (H.f4 (h.resolve_left (by decide))).new1 hb
  f5 := fun h => (H.f5 (h.resolve_left (by decide))).new1 hb
  f6 := fun h => (H.f6 (h.resolve_left (by decide))).new1 hb
  f7 := fun h => H.f7 (h.resolve_left (by decide))
  f8 := fun h => H.f8 (h.resolve_left (by decide))
  f9 := fun _ => ⟨_, rfl, H.bel.size, _, hk, fun _ => rfl, fun h => absurd (H.k11 (h.resolve_left (by decide))).2 hn⟩
  p9 := fun _ _ => .inl rfl
  k11 := fun h => absurd (H.k11 (h.resolve_left (by decide))).2 hn
  f10 := fun h => let ⟨g, a, b, cs, c, d, e⟩ := H.f10 (h.resolve_left (by decide)); ⟨g, a, b, cs, blk_below c hb, fun h => d (fun q => h (.inr q)), fun h => e (h.resolve_left (by decide))⟩
  p10 := fun g h => .inr (H.p10 g h)
  k12 := fun h => .inr (H.k12 (h.resolve_left (by decide)))
  f13 := fun h => H.f13 (h.resolve_left (by decide))
theorem I11.s10 (H : I11 wE c0 c2 c4 K N r1 r3 r4 r5 r2 G a0 a1 a2 a3 a4 a5 a6 a7 a8 b1 b2 a13 w) (hn : ¬ G 10) (hb : Below w.heap.size w w1) (hk : w1.heap[w.heap.size]? = some (.cells #[.int .i64 0, .int .i64 0] 67 (0, 0))) : I11 wE c0 c2 c4 K N r1 r3 r4 r5 r2 (fun j => j = 10 ∨ G j) a0 a1 a2 a3 a4 a5 a6 a7 a8 b1 (.pointer (some ⟨w.heap.size, 0, none⟩)) a13 w1 where
  bel := below_step H.bel hb
  f0 := fun h => H.f0 (h.resolve_left (by decide))
  f1 := fun h => H.f1 (h.resolve_left (by decide))
  f2 := fun h => H.f2 (h.resolve_left (by decide))
  f3 := fun h => H.f3 (h.resolve_left (by decide))
  f4 := fun h => (H.f4 (h.resolve_left (by decide))).new2 hb
  f5 := fun h => (H.f5 (h.resolve_left (by decide))).new2 hb
  f6 := fun h => (H.f6 (h.resolve_left (by decide))).new2 hb
  f7 := fun h => H.f7 (h.resolve_left (by decide))
  f8 := fun h => H.f8 (h.resolve_left (by decide))
  f9 := fun h => let ⟨g, a, b, cs, c, d, e⟩ := H.f9 (h.resolve_left (by decide)); ⟨g, a, b, cs, blk_below c hb, fun h => d (fun q => h (.inr q)), fun h => e (h.resolve_left (by decide))⟩
  p9 := fun g h => .inr (H.p9 g h)
  k11 := fun h => let q := H.k11 (h.resolve_left (by decide)); ⟨.inr q.1, .inr q.2⟩
  f10 := fun _ => ⟨_, rfl, H.bel.size, _, hk, fun _ => rfl, fun h => absurd (H.k12 (h.resolve_left (by decide))) hn⟩
  p10 := fun _ _ => .inl rfl
  k12 := fun h => absurd (H.k12 (h.resolve_left (by decide))) hn
  f13 := fun h => H.f13 (h.resolve_left (by decide))
theorem I11.s13 {a13' : Value} (H : I11 wE c0 c2 c4 K N r1 r3 r4 r5 r2 G a0 a1 a2 a3 a4 a5 a6 a7 a8 b1 b2 a13 w) (n : a13' = .bool r5) : I11 wE c0 c2 c4 K N r1 r3 r4 r5 r2 (fun j => j = 13 ∨ G j) a0 a1 a2 a3 a4 a5 a6 a7 a8 b1 b2 a13' w where
  bel := H.bel
  f0 := fun h => H.f0 (h.resolve_left (by decide))
  f1 := fun h => H.f1 (h.resolve_left (by decide))
  f2 := fun h => H.f2 (h.resolve_left (by decide))
  f3 := fun h => H.f3 (h.resolve_left (by decide))
  f4 := fun h => H.f4 (h.resolve_left (by decide))
  f5 := fun h => H.f5 (h.resolve_left (by decide))
  f6 := fun h => H.f6 (h.resolve_left (by decide))
  f7 := fun h => H.f7 (h.resolve_left (by decide))
  f8 := fun h => H.f8 (h.resolve_left (by decide))
  f9 := fun h => let ⟨g, a, b, cs, c, d, e⟩ := H.f9 (h.resolve_left (by decide)); ⟨g, a, b, cs, c, fun h => d (fun q => h (.inr q)), fun h => e (h.resolve_left (by decide))⟩
  p9 := fun g h => .inr (H.p9 g h)
  k11 := fun h => let q := H.k11 (h.resolve_left (by decide)); ⟨.inr q.1, .inr q.2⟩
  f10 := fun h => let ⟨g, a, b, cs, c, d, e⟩ := H.f10 (h.resolve_left (by decide)); ⟨g, a, b, cs, c, fun h => d (fun q => h (.inr q)), fun h => e (h.resolve_left (by decide))⟩
  p10 := fun g h => .inr (H.p10 g h)
  k12 := fun h => .inr (H.k12 (h.resolve_left (by decide)))
  f13 := fun _ => n
theorem I11.s11 {g : Nat} {cs : Array Value} (H : I11 wE c0 c2 c4 K N r1 r3 r4 r5 r2 G a0 a1 a2 a3 a4 a5 a6 a7 a8 b1 b2 a13 w) (h9 : G 9) (h8 : G 6) (hg : b1 = .pointer (some ⟨g, 0, none⟩)) (hB : Below wE.heap.size wE w1) (hk : Kept w w1 (fun q => q = g)) (hc : w1.heap[g]? = some (.cells cs 32 (0, 0))) (hv : a6 = .agg cs) : I11 wE c0 c2 c4 K N r1 r3 r4 r5 r2 (fun j => j = 11 ∨ G j) a0 a1 a2 a3 a4 a5 a6 a7 a8 b1 b2 a13 w1 where
  bel := hB
  f0 := fun h => H.f0 (h.resolve_left (by decide))
  f1 := fun h => H.f1 (h.resolve_left (by decide))
  f2 := fun h => H.f2 (h.resolve_left (by decide))
  f3 := fun h => H.f3 (h.resolve_left (by decide))
  f4 := fun h => (H.f4 (h.resolve_left (by decide))).far1 hg hk
  f5 := fun h => (H.f5 (h.resolve_left (by decide))).far1 hg hk
  f6 := fun h => (H.f6 (h.resolve_left (by decide))).far1 hg hk
  f7 := fun h => H.f7 (h.resolve_left (by decide))
  f8 := fun h => H.f8 (h.resolve_left (by decide))
  f9 := fun _ => let ⟨g2, a2, b2, _⟩ := H.f9 h9; ⟨g, hg, ptr_inj hg a2 ▸ b2, cs, hc, fun h => absurd (.inl rfl) h, fun _ => hv⟩
  p9 := fun g h => .inr (H.p9 g h)
  k11 := fun _ => ⟨.inr h8, .inr h9⟩
  f10 := fun h => let ⟨g2, a2, _, cs2, c2, _⟩ := H.f9 h9; let ⟨g3, a, b, cs3, c, d, e⟩ := H.f10 (h.resolve_left (by decide)); ⟨g3, a, b, cs3, blk_kept c hk (fun e_ => blk_ne c c2 (by decide) (e_.trans (ptr_inj hg a2))), fun h => d (fun q => h (.inr q)), fun h => e (h.resolve_left (by decide))⟩
  p10 := fun g h => .inr (H.p10 g h)
  k12 := fun h => .inr (H.k12 (h.resolve_left (by decide)))
  f13 := fun h => H.f13 (h.resolve_left (by decide))
theorem I11.s12 {g : Nat} {cs : Array Value} (H : I11 wE c0 c2 c4 K N r1 r3 r4 r5 r2 G a0 a1 a2 a3 a4 a5 a6 a7 a8 b1 b2 a13 w) (h10 : G 10) (hg : b2 = .pointer (some ⟨g, 0, none⟩)) (hB : Below wE.heap.size wE w1) (hk : Kept w w1 (fun q => q = g)) (hc : w1.heap[g]? = some (.cells cs 67 (0, 0))) (hv : cs = #[.int .i64 r3, .int .i64 r4]) : I11 wE c0 c2 c4 K N r1 r3 r4 r5 r2 (fun j => j = 12 ∨ G j) a0 a1 a2 a3 a4 a5 a6 a7 a8 b1 b2 a13 w1 where
  bel := hB
  f0 := fun h => H.f0 (h.resolve_left (by decide))
  f1 := fun h => H.f1 (h.resolve_left (by decide))
  f2 := fun h => H.f2 (h.resolve_left (by decide))
  f3 := fun h => H.f3 (h.resolve_left (by decide))
  f4 := fun h => (H.f4 (h.resolve_left (by decide))).far2 hg hk
  f5 := fun h => (H.f5 (h.resolve_left (by decide))).far2 hg hk
  f6 := fun h => (H.f6 (h.resolve_left (by decide))).far2 hg hk
  f7 := fun h => H.f7 (h.resolve_left (by decide))
  f8 := fun h => H.f8 (h.resolve_left (by decide))
  f9 := fun h => let ⟨g2, a2, _, cs2, c2, _⟩ := H.f10 h10; let ⟨g3, a, b, cs3, c, d, e⟩ := H.f9 (h.resolve_left (by decide)); ⟨g3, a, b, cs3, blk_kept c hk (fun e_ => blk_ne c c2 (by decide) (e_.trans (ptr_inj hg a2))), fun h => d (fun q => h (.inr q)), fun h => e (h.resolve_left (by decide))⟩
  p9 := fun g h => .inr (H.p9 g h)
  k11 := fun h => let q := H.k11 (h.resolve_left (by decide)); ⟨.inr q.1, .inr q.2⟩
  f10 := fun _ => let ⟨g2, a2, b2, _⟩ := H.f10 h10; ⟨g, hg, ptr_inj hg a2 ▸ b2, cs, hc, fun h => absurd (.inl rfl) h, fun _ => hv⟩
  p10 := fun g h => .inr (H.p10 g h)
  k12 := fun _ => .inr h10
  f13 := fun h => H.f13 (h.resolve_left (by decide))
end
section
structure I14 (wE : World) (c0 : Value) (c2 : Value) (sz : Int) (L : List S67) (G : Nat → Prop) (a0 a1 a2 a3 a4 : Value) (w : World) : Prop where
  bel : Below wE.heap.size wE w
  f0 : G 0 → a0 = c0
  f1 : G 1 → a1 = c2
  f2 : G 2 → Got k67 67 wE w (.bool true) (.bool true) L (fun u => .agg #[.int .i64 sz, u]) a2
  f3 : G 3 → a3 = .bool true
  f4 : G 4 → a4 = .bool false
variable {wE w w1 : World} {G : Nat → Prop} {a0 a1 a2 a3 a4 : Value} {c0 : Value} {c2 : Value} {sz : Int} {L : List S67}
theorem I14.up (H : I14 wE c0 c2 sz L G a0 a1 a2 a3 a4 w) (hb : Below w.heap.size w w1) : I14 wE c0 c2 sz L G a0 a1 a2 a3 a4 w1 where
  bel := below_step H.bel hb
  f0 := H.f0
  f1 := H.f1
  f2 := fun h => (H.f2 h).up hb
  f3 := H.f3
  f4 := H.f4
theorem I14.s0 {a0' : Value} (H : I14 wE c0 c2 sz L G a0 a1 a2 a3 a4 w) (n : a0' = c0) : I14 wE c0 c2 sz L (fun j => j = 0 ∨ G j) a0' a1 a2 a3 a4 w where
  bel := H.bel
  f0 := fun _ => n
  f1 := fun h => H.f1 (h.resolve_left (by decide))
  f2 := fun h => H.f2 (h.resolve_left (by decide))
  f3 := fun h => H.f3 (h.resolve_left (by decide))
  f4 := fun h => H.f4 (h.resolve_left (by decide))
theorem I14.s1 {a1' : Value} (H : I14 wE c0 c2 sz L G a0 a1 a2 a3 a4 w) (n : a1' = c2) : I14 wE c0 c2 sz L (fun j => j = 1 ∨ G j) a0 a1' a2 a3 a4 w where
  bel := H.bel
  f0 := fun h => H.f0 (h.resolve_left (by decide))
  f1 := fun _ => n
  f2 := fun h => H.f2 (h.resolve_left (by decide))
  f3 := fun h => H.f3 (h.resolve_left (by decide))
  f4 := fun h => H.f4 (h.resolve_left (by decide))
theorem I14.s2 {a2' : Value} (H : I14 wE c0 c2 sz L G a0 a1 a2 a3 a4 w) (n : Got k67 67 wE w (.bool true) (.bool true) L (fun u => .agg #[.int .i64 sz, u]) a2') : I14 wE c0 c2 sz L (fun j => j = 2 ∨ G j) a0 a1 a2' a3 a4 w where
  bel := H.bel
  f0 := fun h => H.f0 (h.resolve_left (by decide))
  f1 := fun h => H.f1 (h.resolve_left (by decide))
  f2 := fun _ => n
  f3 := fun h => H.f3 (h.resolve_left (by decide))
  f4 := fun h => H.f4 (h.resolve_left (by decide))
theorem I14.s3 {a3' : Value} (H : I14 wE c0 c2 sz L G a0 a1 a2 a3 a4 w) (n : a3' = .bool true) : I14 wE c0 c2 sz L (fun j => j = 3 ∨ G j) a0 a1 a2 a3' a4 w where
  bel := H.bel
  f0 := fun h => H.f0 (h.resolve_left (by decide))
  f1 := fun h => H.f1 (h.resolve_left (by decide))
  f2 := fun h => H.f2 (h.resolve_left (by decide))
  f3 := fun _ => n
  f4 := fun h => H.f4 (h.resolve_left (by decide))
theorem I14.s4 {a4' : Value} (H : I14 wE c0 c2 sz L G a0 a1 a2 a3 a4 w) (n : a4' = .bool false) : I14 wE c0 c2 sz L (fun j => j = 4 ∨ G j) a0 a1 a2 a3 a4' w where
  bel := H.bel
  f0 := fun h => H.f0 (h.resolve_left (by decide))
  f1 := fun h => H.f1 (h.resolve_left (by decide))
  f2 := fun h => H.f2 (h.resolve_left (by decide))
  f3 := fun h => H.f3 (h.resolve_left (by decide))
  f4 := fun _ => n
end
end Go.Proofs.Ytanobmanpnkccaa.OFnExactAlloc
