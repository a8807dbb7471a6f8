-- written by wip/tools/prune.py: what this claim reaches of the print's and our texts
import Derived.Test.YtddacgfnhoboaaaQHOFnExactUsesOfx11
namespace Go.Proofs.Ytddacgfnhoboaaa.Pure
open Go.RowKit Go.Proofs.Ytddacgfnhoboaaa.OFnExactUsesOf Go.Proofs.YtddacgfnhoboaaaW.PrintWords Go.Proofs.YtddacgfnhoboaaaW.PrintLast Go.Proofs.YtddacgfnhoboaaaW.PrintMore
set_option linter.unusedVariables false
set_option linter.unusedSimpArgs false
def Ev {α : Type} (g : Nat → Option α) (r : α) : Prop := ∃ K, ∀ k, K ≤ k → g k = some r
theorem Ev.of {α : Type} {g : Option α} {a : α} (h : g = some a) : Ev (fun _ => g) a := ⟨0, fun _ _ => h⟩
theorem Ev.bind {α β : Type} {g : Nat → Option α} {f : Nat → α → Option β} {a : α} {b : β} (h : Ev g a) (h2 : Ev (fun k => f k a) b) : Ev (fun k => (g k).bind (f k)) b := by
  obtain ⟨K, e⟩ := h
  obtain ⟨L, e2⟩ := h2
  exact ⟨K + L, fun k hk => by simp only [e k (by omega), Option.bind_some]; exact e2 k (by omega)⟩
theorem Ev.obind {α β : Type} {g : Option α} {f : Nat → α → Option β} {a : α} {b : β} (h : g = some a) (h2 : Ev (fun k => f k a) b) : Ev (fun k => g.bind (f k)) b := by
  subst h; exact h2
theorem Ev.succ {α : Type} {g : Nat → Option α} {a : α} (h : Ev (fun k => g (k + 1)) a) : Ev g a := by
  obtain ⟨K, e⟩ := h
  exact ⟨K + 1, fun k hk => by have := e (k - 1) (by omega); simp only at this; rwa [show k - 1 + 1 = k from by omega] at this⟩
theorem Ev.pos {α : Type} {c : Prop} [Decidable c] {f g : Nat → Option α} {a : α} (hc : c) (h : Ev f a) : Ev (fun k => if c then f k else g k) a := by
  simp only [if_pos hc]; exact h
theorem Ev.neg {α : Type} {c : Prop} [Decidable c] {f g : Nat → Option α} {a : α} (hc : ¬ c) (h : Ev g a) : Ev (fun k => if c then f k else g k) a := by
  simp only [if_neg hc]; exact h
theorem w64 {n : Int} (h0 : -9223372036854775808 ≤ n) (h1 : n < 9223372036854775808) : wrap64 n = n := by
  unfold wrap64; omega
end Go.Proofs.Ytddacgfnhoboaaa.Pure
