-- written by wip/tools/prune.py: what this claim reaches of the print's and our texts
import Derived.Test.YtddacgfnhoboaaaQHUPureC
import Derived.Test.YtddacgfnhoboaaaQHOFnExactUsesOfx13
import Derived.Test.YtddacgfnhoboaaaQHUPureB
namespace Go.Proofs.Ytddacgfnhoboaaa.Pure
open Go.RowKit Go.Proofs.Ytddacgfnhoboaaa.OFnExactUsesOf Go.Proofs.YtddacgfnhoboaaaW.PrintWords Go.Proofs.YtddacgfnhoboaaaW.PrintLast Go.Proofs.YtddacgfnhoboaaaW.PrintMore
set_option linter.unusedVariables false
set_option linter.unusedSimpArgs false
mutual
def nm : S35 → Nat
  | ⟨_, _, _, _, _, _, l⟩ => 1 + nmS l
def nmS : List S35 → Nat
  | [] => 0
  | x :: l => nm x + nmS l
end
mutual
def dm : S35 → Nat
  | ⟨_, _, _, _, _, _, l⟩ => dmS l + 1
def dmS : List S35 → Nat
  | [] => 0
  | x :: l => max (dm x) (dmS l)
end
mutual
def okM : S35 → Bool
  | ⟨K, N, S, Z, T, ts, l⟩ => oneC ⟨K, N, S, Z, T, ts, l⟩ && okMS l
def okMS : List S35 → Bool
  | [] => true
  | x :: l => okM x && okMS l
end
mutual
def Sm : S35 → Prop
  | ⟨_, _, S, Z, T, ts, l⟩ => S.size ≤ 1000000000 ∧ Z.size ≤ 1000000000 ∧ nd T ≤ 3000000000 ∧ (∀ x ∈ ts, nd x ≤ 3000000000) ∧ SmS l
def SmS : List S35 → Prop
  | [] => True
  | x :: l => Sm x ∧ SmS l
end
theorem SmS_mem {l : List S35} : SmS l → ∀ y ∈ l, Sm y := by
  induction l with
  | nil => intro _ y h; cases h
  | cons x l ih =>
    intro h y hy
    simp only [SmS] at h
    cases hy with
    | head => exact h.1
    | tail _ hy => exact ih h.2 y hy
theorem nm_pos (x : S35) : 1 ≤ nm x := by obtain ⟨a, b, c, d, e, f, l⟩ := x; simp only [nm]; omega
theorem nm_le {l : List S35} : ∀ {y : S35}, y ∈ l → nm y ≤ nmS l := by
  induction l with
  | nil => intro y h; cases h
  | cons x l ih =>
    intro y h
    simp only [nmS]
    cases h with
    | head => omega
    | tail _ h => have := ih h; omega
theorem len_nm (l : List S35) : l.length ≤ nmS l := by
  induction l with
  | nil => simp [nmS]
  | cons x l ih => simp only [nmS, List.length_cons]; have := nm_pos x; omega
theorem dmS_nm (l : List S35) : dmS l ≤ nmS l := by
  have key : ∀ x : S35, dm x ≤ nm x := by
    intro x
    induction x using OFnExactUsesOf.S35.ind with
    | h a b c d e f l ih =>
      simp only [dm, nm]
      have : ∀ m : List S35, (∀ y ∈ m, dm y ≤ nm y) → dmS m ≤ nmS m := by
        intro m
        induction m with
        | nil => intro _; simp [dmS, nmS]
        | cons y m ihm =>
          intro h
          simp only [dmS, nmS]
          have h1 := h y (List.mem_cons_self ..)
          have h2 := ihm (fun z hz => h z (List.mem_cons_of_mem _ hz))
          omega
      have := this l ih
      omega
  induction l with
  | nil => simp [dmS, nmS]
  | cons y m ihm => simp only [dmS, nmS]; have := key y; omega
def LookM (x : S35) : Prop := ∀ d n : Int, 0 ≤ d → d ≤ 1000 → 0 ≤ n → n + nm x ≤ 4000000000 → ∃ m, lookT (fun t => some (oneC t)) x d n = some (okM x && (decide ((dm x : Int) ≤ d) && decide (n + nm x ≤ 150)), m) ∧ ((okM x && (decide ((dm x : Int) ≤ d) && decide (n + nm x ≤ 150))) = true → m = n + nm x)
theorem lookM_S (l : List S35) : (∀ y ∈ l, LookM y) → ∀ d n : Int, 0 ≤ d → d ≤ 1000 → 0 ≤ n → n ≤ 150 → n + nmS l ≤ 4000000000 → ∃ m, lookTS (fun t => some (oneC t)) l d n = some (okMS l && (decide ((dmS l : Int) ≤ d) && decide (n + nmS l ≤ 150)), m) ∧ ((okMS l && (decide ((dmS l : Int) ≤ d) && decide (n + nmS l ≤ 150))) = true → m = n + nmS l) := by
  induction l with
  | nil => intro _ d n h0 _ _ h1 _; exact ⟨n, by simp [lookTS, okMS, dmS, nmS, h0, h1], fun _ => by simp [nmS]⟩
  | cons x l ih =>
    intro hP d n h0 h1 h2 h3 h4
    simp only [nmS] at h4
    obtain ⟨m, e1, e2⟩ := hP x (List.mem_cons_self ..) d n h0 h1 h2 (by omega)
    simp only [lookTS, e1, Option.bind_some]
    have a1 : okMS (x :: l) = (okM x && okMS l) := by simp only [okMS]
    have a2 : dmS (x :: l) = max (dm x) (dmS l) := by simp only [dmS]
    have a3 : nmS (x :: l) = nm x + nmS l := by simp only [nmS]
    by_cases hx : (okM x && (decide ((dm x : Int) ≤ d) && decide (n + nm x ≤ 150))) = true
    · rw [if_pos hx, e2 hx]
      have hx' := hx
      simp only [Bool.and_eq_true] at hx'
      obtain ⟨o1, o2, o3⟩ := hx'
      replace o2 := of_decide_eq_true o2
      replace o3 := of_decide_eq_true o3
      obtain ⟨m2, f1, f2⟩ := ih (fun y hy => hP y (List.mem_cons_of_mem _ hy)) d (n + nm x) h0 h1 (by omega) o3 (by omega)
      have eqq : (okMS (x :: l) && (decide ((dmS (x :: l) : Int) ≤ d) && decide (n + (nmS (x :: l) : Int) ≤ 150))) = (okMS l && (decide ((dmS l : Int) ≤ d) && decide (n + nm x + nmS l ≤ 150))) := by
        rw [a1, o1, Bool.true_and]
        congr 1
        congr 1
        · exact decide_eq_decide.2 (by rw [a2]; omega)
        · exact decide_eq_decide.2 (by rw [a3]; omega)
      rw [eqq]
      exact ⟨m2, f1, fun h => by rw [f2 h, a3]; omega⟩
    · rw [if_neg hx]
      have eqq : (okMS (x :: l) && (decide ((dmS (x :: l) : Int) ≤ d) && decide (n + (nmS (x :: l) : Int) ≤ 150))) = false := by
        rw [Bool.eq_false_iff, a1]
        intro h
        simp only [Bool.and_eq_true] at h
        obtain ⟨⟨g1, _⟩, g2, g3⟩ := h
        replace g2 := of_decide_eq_true g2
        replace g3 := of_decide_eq_true g3
        rw [a2] at g2
        rw [a3] at g3
        have g4 := Nat.le_max_left (dm x) (dmS l)
        apply hx
        simp only [Bool.and_eq_true]
        exact ⟨g1, decide_eq_true (by omega), decide_eq_true (by omega)⟩
      rw [eqq]
      exact ⟨m, rfl, fun h => by cases h⟩
theorem look_M (x : S35) : LookM x := by
  induction x using OFnExactUsesOf.S35.ind with
  | h K N S Z T ts l ih =>
    intro d n h0 h1 h2 h3
    simp only [nm] at h3
    have w1 : wrap64 (n + 1) = n + 1 := w64 (by omega) (by omega)
    have w2 : wrap64 (d - 1) = d - 1 := w64 (by omega) (by omega)
    simp only [lookT, w1, w2, Option.bind_some]
    have a1 : okM ⟨K, N, S, Z, T, ts, l⟩ = (oneC ⟨K, N, S, Z, T, ts, l⟩ && okMS l) := by simp only [okM]
    have a2 : dm ⟨K, N, S, Z, T, ts, l⟩ = dmS l + 1 := by simp only [dm]
    have a3 : nm ⟨K, N, S, Z, T, ts, l⟩ = 1 + nmS l := by simp only [nm]
    generalize hX : dm ⟨K, N, S, Z, T, ts, l⟩ = X at a2 ⊢
    generalize hY : nm ⟨K, N, S, Z, T, ts, l⟩ = Y at a3 ⊢
    rw [a1]
    by_cases hb : d = 0 ∨ 150 < n + 1
    · rw [if_pos hb]
      have eqq : (oneC ⟨K, N, S, Z, T, ts, l⟩ && okMS l && (decide ((X : Int) ≤ d) && decide (n + (Y : Int) ≤ 150))) = false := by
        rw [Bool.eq_false_iff]
        intro h
        simp only [Bool.and_eq_true] at h
        obtain ⟨_, g2, g3⟩ := h
        replace g2 := of_decide_eq_true g2
        replace g3 := of_decide_eq_true g3
        omega
      rw [eqq]
      exact ⟨_, rfl, fun h => by cases h⟩
    · rw [if_neg hb]
      cases ho : oneC ⟨K, N, S, Z, T, ts, l⟩ with
      | false => exact ⟨_, by simp; rfl, fun h => by simp at h⟩
      | true =>
        rw [if_pos rfl]
        obtain ⟨m, f1, f2⟩ := lookM_S l ih (d - 1) (n + 1) (by omega) (by omega) (by omega) (by omega) (by omega)
        have eqq : (true && okMS l && (decide ((X : Int) ≤ d) && decide (n + (Y : Int) ≤ 150))) = (okMS l && (decide ((dmS l : Int) ≤ d - 1) && decide (n + 1 + nmS l ≤ 150))) := by
          rw [Bool.true_and]
          congr 1
          congr 1
          · exact decide_eq_decide.2 (by omega)
          · exact decide_eq_decide.2 (by omega)
        rw [eqq]
        exact ⟨m, f1, fun h => by rw [f2 h]; omega⟩
def tmB (x : S35) : Bool := okM x && (decide ((dm x : Int) ≤ 24) && decide ((0 : Int) + nm x ≤ 150))
theorem spec_TermOk_B (x : S35) (h : nm x ≤ 3000000000) : spec_TermOk.f x.f0 x.f1 x.f2 x.f3 x.f4.f0 x.f4.f1 x.f4.f2 x.f5 x.f6 = some (tmB x) := by
  obtain ⟨K, N, S, Z, ⟨a, b, c⟩, ts, l⟩ := x
  obtain ⟨m, e, _⟩ := look_M ⟨K, N, S, Z, ⟨a, b, c⟩, ts, l⟩ 24 0 (by omega) (by omega) (by omega) (by omega)
  unfold spec_TermOk.f
  simp only [e, Option.map_some]
  rfl
theorem all_ev (ts : List S32) : (∀ x ∈ ts, nd x ≤ 3000000000) → ∃ K0, ∀ k, K0 ≤ k → ∀ x ∈ ts, impl_TyOk.f k x.f0 x.f1 x.f2 = some (tyB x) := by
  induction ts with
  | nil => intro _; exact ⟨0, fun k _ x hx => by cases hx⟩
  | cons y t ih =>
    intro h
    obtain ⟨K1, e1⟩ := ih (fun x hx => h x (List.mem_cons_of_mem _ hx))
    obtain ⟨K2, e2⟩ := tyOk_impl y (h y (List.mem_cons_self ..))
    refine ⟨K1 + K2, fun k hk x hx => ?_⟩
    cases hx with
    | head => exact e2 k (by omega)
    | tail _ hx => exact e1 k (by omega) x hx
theorem all_congr_ {f g : S32 → Bool} (ts : List S32) (h : ∀ x ∈ ts, f x = g x) : ts.all f = ts.all g := by
  induction ts with
  | nil => rfl
  | cons y t ih => rw [List.all_cons, List.all_cons, h y (List.mem_cons_self ..), ih (fun x hx => h x (List.mem_cons_of_mem _ hx))]
theorem oneB_congr {K : Int} {S Z : ByteArray} {ts : List S32} {l : List S35} {hp : Int} {hs hz ht num ns nz tk st : Bool} {f g : S32 → Bool} (h : ∀ x ∈ ts, f x = g x) : oneB K S Z ts l hp hs hz ht num ns nz tk st f = oneB K S Z ts l hp hs hz ht num ns nz tk st g := by
  unfold oneB
  rw [all_congr_ ts h]
theorem head_ev (K N : Int) (S Z : ByteArray) (T : S32) (ts : List S32) (l : List S35) (h1 : S.size ≤ 1000000000) (h2 : Z.size ≤ 1000000000) (h3 : nd T ≤ 3000000000) (h4 : ∀ x ∈ ts, nd x ≤ 3000000000) : Ev (fun k => impl_headOk.f k K N S Z T.f0 T.f1 T.f2 ts l) (oneC ⟨K, N, S, Z, T, ts, l⟩) := by
  obtain ⟨hp, hn, hs, hz, ht, b, e1, e2, e3, e4, e5, e6, e7⟩ := kinds K
  have h14 : K = 14 → b = true := fun h => by subst h; have : impl_bindsS.f 14 = some true := rfl; rw [this] at e4; exact (Option.some.inj e4).symm
  have h3' : b = true → ¬ K = 3 := fun hb h => by subst h; have : impl_bindsS.f 3 = some false := rfl; rw [this, hb] at e4; cases e4
  have e : oneC ⟨K, N, S, Z, T, ts, l⟩ = headB K ts l hp (numC K N) (nmC K b S Z) ht (tyB T) (T.f0 == 0 && T.f1 == 0 && T.f2.isEmpty) (!ts.all tyB) := by
    rw [← head_eq K S Z ts l hp hs hz ht (numC K N) (tyB T) (T.f0 == 0 && T.f1 == 0 && T.f2.isEmpty) b tyB e5 e6 e7 h14]
    simp only [oneC, e1, number_C, l2Name_B, Option.getD_some, look_B T h3]
    exact oneB_congr (fun x hx => look_B x (h4 x hx))
  rw [e]
  unfold impl_headOk.f
  obtain ⟨K0, ea⟩ := all_ev ts h4
  have any_ev : Ev (fun k => OFnExactUsesOf.anyT (fun x => (impl_TyOk.f k x.f0 x.f1 x.f2).bind fun t => some (!t)) ts) (!ts.all tyB) := ⟨K0, fun k hk => anyT_C k ts tyB (ea k hk)⟩
  refine Ev.bind e2 (Ev.bind (numberOk_C K N) (Ev.bind (namesOk_C K b S Z h1 h2 e4 h14 h3') (Ev.obind e3 (Ev.bind (tyOk_impl T h3) (Ev.bind any_ev (Ev.neg (fun h => h.2 (e7 h.1)) (Ev.of rfl)))))))
def SizeP (x : S35) : Prop := Sm x → nm x ≤ 3000000000 → Ev (fun k => impl_termSize.f k x.f0 x.f1 x.f2 x.f3 x.f4.f0 x.f4.f1 x.f4.f2 x.f5 x.f6) (cond (okM x) ((dm x : Int), (nm x : Int), true) (0, 0, false))
theorem size_l0 (l : List S35) (hl : nmS l ≤ 3000000000) (hS : SmS l) (hP : ∀ y ∈ l, SizeP y) (c : Nat) : ∀ (i d n : Nat), i + c = l.length → n + nmS (l.drop i) ≤ 3000000001 → d ≤ 3000000000 →
    Ev (fun k => impl_termSize.l0 k (d : Int) (n : Int) l (l.length : Int) (i : Int)) (cond (okMS (l.drop i)) (wrap64 (((max d (dmS (l.drop i)) : Nat) : Int) + 1), ((n + nmS (l.drop i) : Nat) : Int), true) (0, 0, false)) := by
  have hlen := len_nm l
  induction c with
  | zero =>
    intro i d n h1 h2 h3
    have hn : i = l.length := by omega
    subst hn
    rw [List.drop_length]
    simp only [okMS, dmS, nmS, cond_true]
    refine Ev.succ ?_
    simp only [impl_termSize.l0]
    exact Ev.neg (by omega) (Ev.of (by simp))
  | succ c ih =>
    intro i d n h1 h2 h3
    have hi : i < l.length := by omega
    have hm := List.getElem_mem hi
    have hnd := nm_le hm
    rw [List.drop_eq_getElem_cons hi] at h2 ⊢
    simp only [nmS] at h2
    simp only [okMS, dmS, nmS]
    refine Ev.succ ?_
    simp only [impl_termSize.l0]
    rw [rd35' l i hi, show wrap64 ((i : Int) + 1) = ((i + 1 : Nat) : Int) from by rw [w64 (by omega) (by omega)]; omega]
    have hb := hP _ hm (SmS_mem hS _ hm) (by omega)
    have hdm : dm l[i] ≤ nm l[i] := by have := dmS_nm [l[i]]; simp only [dmS, nmS] at this; omega
    refine Ev.pos (by omega) (Ev.pos (by omega) (Ev.pos (by omega) ?_))
    cases ho : okM l[i] with
    | true =>
      rw [ho] at hb
      simp only [cond_true] at hb
      refine Ev.bind hb (Ev.pos rfl ?_)
      rw [mx_max]
      rw [w64 (n := (n : Int) + (nm l[i] : Int)) (by omega) (by omega), show (n : Int) + (nm l[i] : Int) = ((n + nm l[i] : Nat) : Int) from by omega]
      have := ih (i + 1) (max d (dm l[i])) (n + nm l[i]) (by omega) (by omega) (by omega)
      rw [Bool.true_and, show max d (max (dm l[i]) (dmS (List.drop (i + 1) l))) = max (max d (dm l[i])) (dmS (List.drop (i + 1) l)) from by omega, show n + (nm l[i] + nmS (List.drop (i + 1) l)) = n + nm l[i] + nmS (List.drop (i + 1) l) from by omega]
      exact this
    | false =>
      rw [ho] at hb
      simp only [cond_false] at hb
      rw [Bool.false_and]
      exact Ev.bind hb (Ev.neg (by simp) (Ev.of rfl))
theorem size_p (x : S35) : SizeP x := by
  induction x using OFnExactUsesOf.S35.ind with
  | h K N S Z T ts l ih =>
    intro hs hn
    simp only [nm] at hn
    simp only [Sm] at hs
    obtain ⟨s1, s2, s3, s4, s5⟩ := hs
    simp only [okM, dm, nm]
    have hd := dmS_nm l
    have hl := size_l0 l (by omega) s5 ih l.length 0 0 1 (by omega) (by rw [List.drop_zero]; omega) (by omega)
    rw [List.drop_zero, show max 0 (dmS l) = dmS l from by omega, w64 (n := ((dmS l : Nat) : Int) + 1) (by omega) (by omega)] at hl
    refine Ev.succ ?_
    simp only [impl_termSize.f]
    refine Ev.bind (head_ev K N S Z T ts l s1 s2 s3 s4) ?_
    cases ho : oneC ⟨K, N, S, Z, T, ts, l⟩ with
    | true =>
      refine Ev.pos rfl ?_
      rw [Bool.true_and]
      exact hl
    | false =>
      rw [Bool.false_and]
      exact Ev.neg (by simp) (Ev.of rfl)
theorem impl_TermOk_B (x : S35) (hs : Sm x) (h : nm x ≤ 3000000000) : Ev (fun k => impl_TermOk.f k x.f0 x.f1 x.f2 x.f3 x.f4.f0 x.f4.f1 x.f4.f2 x.f5 x.f6) (tmB x) := by
  unfold impl_TermOk.f
  have hb := size_p x hs h
  cases ho : okM x with
  | true =>
    rw [ho] at hb
    simp only [cond_true] at hb
    refine Ev.bind hb (Ev.pos rfl ?_)
    by_cases h6 : ((dm x : Nat) : Int) ≤ 24
    · exact Ev.pos h6 (Ev.of (by simp [tmB, ho, h6]))
    · exact Ev.neg h6 (Ev.of (by simp [tmB, ho, h6]))
  | false =>
    rw [ho] at hb
    simp only [cond_false] at hb
    exact Ev.bind hb (Ev.neg (by simp) (Ev.of (by simp [tmB, ho])))
end Go.Proofs.Ytddacgfnhoboaaa.Pure
