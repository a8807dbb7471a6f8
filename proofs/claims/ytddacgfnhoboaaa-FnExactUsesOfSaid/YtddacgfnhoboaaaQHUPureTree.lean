-- written by wip/tools/prune.py: what this claim reaches of the print's and our texts
import Derived.Test.YtddacgfnhoboaaaQHOFnExactUsesOfY
import Derived.Test.YtddacgfnhoboaaaQHUPureEv
namespace Go.Proofs.Ytddacgfnhoboaaa.Pure
open Go.RowKit Go.Proofs.Ytddacgfnhoboaaa.OFnExactUsesOf Go.Proofs.YtddacgfnhoboaaaW.PrintWords Go.Proofs.YtddacgfnhoboaaaW.PrintLast Go.Proofs.YtddacgfnhoboaaaW.PrintMore
set_option linter.unusedVariables false
set_option linter.unusedSimpArgs false
theorem take_set_succ {α : Type} (l x : List α) (a : α) (i : Nat) (hl : x.length = l.length) (hi : i < l.length) (ha : l[i]? = some a) (h : x.take i = l.take i) :
    (x.set i a).take (i + 1) = l.take (i + 1) := by
  rw [List.take_succ_eq_append_getElem (by simpa [hl] using hi), List.take_succ_eq_append_getElem hi]
  rw [List.take_set_of_le (by omega), h]
  have : l[i] = a := by rw [List.getElem?_eq_getElem hi] at ha; exact Option.some.inj ha
  simp [this]
theorem S24.ind {P : S24 → Prop} (h : ∀ a b l, (∀ y ∈ l, P y) → P ⟨a, b, l⟩) (x : S24) : P x :=
  S24.rec (motive_1 := P) (motive_2 := fun l => ∀ y ∈ l, P y) (fun a b l ih => h a b l ih) (fun y hy => by cases hy)
    (fun x l hx hl y hy => by cases hy with | head => exact hx | tail _ hy => exact hl y hy) x
theorem S27.ind {P : S27 → Prop} (h : ∀ a b c d e f l, (∀ y ∈ l, P y) → P ⟨a, b, c, d, e, f, l⟩) (x : S27) : P x :=
  S27.rec (motive_1 := P) (motive_2 := fun l => ∀ y ∈ l, P y) (fun a b c d e f l ih => h a b c d e f l ih) (fun y hy => by cases hy)
    (fun x l hx hl y hy => by cases hy with | head => exact hx | tail _ hy => exact hl y hy) x
theorem S35.ind {P : S35 → Prop} (h : ∀ a b c d e f l, (∀ y ∈ l, P y) → P ⟨a, b, c, d, e, f, l⟩) (x : S35) : P x :=
  S35.rec (motive_1 := P) (motive_2 := fun l => ∀ y ∈ l, P y) (fun a b c d e f l ih => h a b c d e f l ih) (fun y hy => by cases hy)
    (fun x l hx hl y hy => by cases hy with | head => exact hx | tail _ hy => exact hl y hy) x
mutual
def nTy : S24 → Nat
  | ⟨_, _, l⟩ => l.length + nIn l
def nIn : List S24 → Nat
  | [] => 0
  | x :: l => nTy x + nIn l
end
mutual
def nTm : S27 → Nat
  | ⟨_, _, s, z, t, ts, l⟩ => s.size + z.size + nTy t + (ts.length + nIn ts) + (l.length + nTn l)
def nTn : List S27 → Nat
  | [] => 0
  | x :: l => nTm x + nTn l
end
mutual
def ty : S24 → S32
  | ⟨a, b, l⟩ => ⟨a, b, tyS l⟩
def tyS : List S24 → List S32
  | [] => []
  | x :: l => ty x :: tyS l
end
mutual
def tm : S27 → S35
  | ⟨a, b, c, d, t, ts, l⟩ => ⟨a, b, c, d, ty t, tyS ts, tmS l⟩
def tmS : List S27 → List S35
  | [] => []
  | x :: l => tm x :: tmS l
end
theorem tyS_map : ∀ l, tyS l = l.map ty
  | [] => by simp [tyS]
  | x :: l => by simp [tyS, tyS_map l]
theorem tmS_map : ∀ l, tmS l = l.map tm
  | [] => by simp [tmS]
  | x :: l => by simp [tmS, tmS_map l]
theorem nTy_le {l : List S24} {y : S24} (h : y ∈ l) : nTy y ≤ nIn l := by
  induction l with
  | nil => cases h
  | cons x l ih => cases h with | head => simp only [nIn]; omega | tail _ h => have := ih h; simp only [nIn]; omega
theorem nTm_le {l : List S27} {y : S27} (h : y ∈ l) : nTm y ≤ nTn l := by
  induction l with
  | nil => cases h
  | cons x l ih => cases h with | head => simp only [nTn]; omega | tail _ h => have := ih h; simp only [nTn]; omega
theorem rd24 (l : List S24) (i : Nat) (h : i < l.length) : rd_T24 l (i : Int) = l[i] := by simp [rd_T24, List.getD_eq_getElem?_getD, h]
theorem rd27 (l : List S27) (i : Nat) (h : i < l.length) : rd_T27 l (i : Int) = l[i] := by simp [rd_T27, List.getD_eq_getElem?_getD, h]
theorem rd32 (l : List S32) (i : Nat) (h : i < l.length) : rd_T32 l (i : Int) = l[i] := by simp [rd_T32, List.getD_eq_getElem?_getD, h]
theorem rd35 (l : List S35) (i : Nat) (h : i < l.length) : rd_T35 l (i : Int) = l[i] := by simp [rd_T35, List.getD_eq_getElem?_getD, h]
def res (n : Int) (c : Nat) : Int := if (c : Int) ≤ n then n - c else -1
theorem res_neg {n : Int} {c : Nat} (h : (c : Int) ≤ n) : res n c = n - c := if_pos h
theorem res_m {n : Int} {c : Nat} (h : ¬ (c : Int) ≤ n) : res n c = -1 := if_neg h
theorem res_res {n : Int} {a b : Nat} (h : (a : Int) ≤ n) : res (n - a) b = res n (a + b) := by
  by_cases hb : (b : Int) ≤ n - a
  · rw [res_neg hb, res_neg (by omega)]; omega
  · rw [res_m hb, res_m (by omega)]
def SzTy (x : S24) : Prop := ∀ n : Int, 0 ≤ n → n ≤ 1048576 → Ev (fun k => laws_szTy.f k x.f0 x.f1 x.f2 n) (res n (nTy x))
theorem szTyS_l0 (l : List S24) (hl : l.length ≤ 9223372036854775807) (hP : ∀ y ∈ l, SzTy y) (d : Nat) : ∀ (i : Nat) (n : Int), i + d = l.length → 0 ≤ n → n ≤ 1048576 →
    Ev (fun k => laws_szTyS.l0 k l n i) (res n (nIn (l.drop i))) := by
  induction d with
  | zero =>
    intro i n hi h0 h1
    refine ⟨1, fun k hk => ?_⟩
    obtain ⟨k, rfl⟩ : ∃ m, k = m + 1 := ⟨k - 1, by omega⟩
    simp only [laws_szTyS.l0]
    rw [if_neg (by omega), List.drop_of_length_le (by omega)]
    simp [nIn, res, h0]
  | succ d ih =>
    intro i n hi h0 h1
    obtain ⟨K1, e1⟩ := hP l[i] (List.getElem_mem (by omega)) n h0 h1
    have hd : l.drop i = l[i] :: l.drop (i + 1) := List.drop_eq_getElem_cons (by omega)
    by_cases hc : (nTy l[i] : Int) ≤ n
    · obtain ⟨K2, e2⟩ := ih (i + 1) (n - nTy l[i]) (by omega) (by omega) (by omega)
      refine ⟨K1 + K2 + 1, fun k hk => ?_⟩
      obtain ⟨k, rfl⟩ : ∃ m, k = m + 1 := ⟨k - 1, by omega⟩
      have e1 := e1 k (by omega); have e2 := e2 k (by omega)
      simp only at e1 e2
      simp only [laws_szTyS.l0]
      rw [if_pos (by omega), if_pos (by omega), rd24 l i (by omega), e1, Option.bind_some]
      rw [res_neg hc, if_neg (by omega), w64 (by omega) (by omega), show (i : Int) + 1 = ((i + 1 : Nat) : Int) from by omega, e2, hd, res_res hc]
      simp only [nIn]
    · refine ⟨K1 + 1, fun k hk => ?_⟩
      obtain ⟨k, rfl⟩ : ∃ m, k = m + 1 := ⟨k - 1, by omega⟩
      have e1 := e1 k (by omega)
      simp only at e1
      simp only [laws_szTyS.l0]
      rw [if_pos (by omega), if_pos (by omega), rd24 l i (by omega), e1, Option.bind_some]
      rw [res_m hc, if_pos (by omega), hd]
      simp only [nIn]
      rw [res_m (by omega)]
theorem szTyS (l : List S24) (hl : l.length ≤ 9223372036854775807) (hP : ∀ y ∈ l, SzTy y) (n : Int) (h0 : 0 ≤ n) (h1 : n ≤ 1048576) :
    Ev (fun k => laws_szTyS.f k l n) (res n (l.length + nIn l)) := by
  by_cases hc : (l.length : Int) ≤ n
  · obtain ⟨K, e⟩ := szTyS_l0 l hl hP l.length 0 (n - l.length) (by omega) (by omega) (by omega)
    refine ⟨K + 1, fun k hk => ?_⟩
    obtain ⟨k, rfl⟩ : ∃ m, k = m + 1 := ⟨k - 1, by omega⟩
    have e := e k (by omega)
    simp only [List.drop_zero] at e
    simp only [laws_szTyS.f]
    rw [w64 (by omega) (by omega), if_neg (by omega)]
    refine Eq.trans e ?_
    rw [res_res hc]
  · refine ⟨1, fun k hk => ?_⟩
    obtain ⟨k, rfl⟩ : ∃ m, k = m + 1 := ⟨k - 1, by omega⟩
    simp only [laws_szTyS.f]
    rw [w64 (by omega) (by omega), if_pos (by omega)]
    rw [res_m (by omega)]
theorem okL {n : Nat} (h : n ≤ maxLen) : n ≤ 9223372036854775807 := Nat.le_trans h (by decide)
theorem szTy (x : S24) : Ok24 x → SzTy x := by
  induction x using S24.ind with
  | h a b l ih =>
    intro hx n h0 h1
    cases hx with | mk _ h0' h1' h2 h2' =>
    obtain ⟨K, e⟩ := szTyS l (okL h2) (fun y hy => ih y hy (h2' y hy)) n h0 h1
    refine ⟨K + 1, fun k hk => ?_⟩
    obtain ⟨k, rfl⟩ : ∃ m, k = m + 1 := ⟨k - 1, by omega⟩
    have e := e k (by omega)
    simp only at e
    simp only [laws_szTy.f, e, Option.bind_some, nTy]
    by_cases hc : ((l.length + nIn l : Nat) : Int) ≤ n
    · rw [res_neg hc, if_neg (by omega)]
    · rw [res_m hc, if_pos (by omega)]
def SzTm (x : S27) : Prop := ∀ n : Int, 0 ≤ n → n ≤ 1048576 → Ev (fun k => laws_szTerm.f k x.f0 x.f1 x.f2 x.f3 x.f4.f0 x.f4.f1 x.f4.f2 x.f5 x.f6 n) (res n (nTm x))
theorem szTmS_l0 (l : List S27) (hl : l.length ≤ 9223372036854775807) (hP : ∀ y ∈ l, SzTm y) (d : Nat) : ∀ (i : Nat) (n : Int), i + d = l.length → 0 ≤ n → n ≤ 1048576 →
    Ev (fun k => laws_szTermS.l0 k l n i) (res n (nTn (l.drop i))) := by
  induction d with
  | zero =>
    intro i n hi h0 h1
    refine ⟨1, fun k hk => ?_⟩
    obtain ⟨k, rfl⟩ : ∃ m, k = m + 1 := ⟨k - 1, by omega⟩
    simp only [laws_szTermS.l0]
    rw [if_neg (by omega), List.drop_of_length_le (by omega)]
    simp [nTn, res, h0]
  | succ d ih =>
    intro i n hi h0 h1
    obtain ⟨K1, e1⟩ := hP l[i] (List.getElem_mem (by omega)) n h0 h1
    have hd : l.drop i = l[i] :: l.drop (i + 1) := List.drop_eq_getElem_cons (by omega)
    by_cases hc : (nTm l[i] : Int) ≤ n
    · obtain ⟨K2, e2⟩ := ih (i + 1) (n - nTm l[i]) (by omega) (by omega) (by omega)
      refine ⟨K1 + K2 + 1, fun k hk => ?_⟩
      obtain ⟨k, rfl⟩ : ∃ m, k = m + 1 := ⟨k - 1, by omega⟩
      have e1 := e1 k (by omega); have e2 := e2 k (by omega)
      simp only at e1 e2
      simp only [laws_szTermS.l0]
      rw [if_pos (by omega), if_pos (by omega), rd27 l i (by omega), e1, Option.bind_some]
      rw [res_neg hc, if_neg (by omega), w64 (by omega) (by omega), show (i : Int) + 1 = ((i + 1 : Nat) : Int) from by omega, e2, hd, res_res hc]
      simp only [nTn]
    · refine ⟨K1 + 1, fun k hk => ?_⟩
      obtain ⟨k, rfl⟩ : ∃ m, k = m + 1 := ⟨k - 1, by omega⟩
      have e1 := e1 k (by omega)
      simp only at e1
      simp only [laws_szTermS.l0]
      rw [if_pos (by omega), if_pos (by omega), rd27 l i (by omega), e1, Option.bind_some]
      rw [res_m hc, if_pos (by omega), hd]
      simp only [nTn]
      rw [res_m (by omega)]
theorem szTmS (l : List S27) (hl : l.length ≤ 9223372036854775807) (hP : ∀ y ∈ l, SzTm y) (n : Int) (h0 : 0 ≤ n) (h1 : n ≤ 1048576) :
    Ev (fun k => laws_szTermS.f k l n) (res n (l.length + nTn l)) := by
  by_cases hc : (l.length : Int) ≤ n
  · obtain ⟨K, e⟩ := szTmS_l0 l hl hP l.length 0 (n - l.length) (by omega) (by omega) (by omega)
    refine ⟨K + 1, fun k hk => ?_⟩
    obtain ⟨k, rfl⟩ : ∃ m, k = m + 1 := ⟨k - 1, by omega⟩
    have e := e k (by omega)
    simp only [List.drop_zero] at e
    simp only [laws_szTermS.f]
    rw [w64 (by omega) (by omega), if_neg (by omega)]
    refine Eq.trans e ?_
    rw [res_res hc]
  · refine ⟨1, fun k hk => ?_⟩
    obtain ⟨k, rfl⟩ : ∃ m, k = m + 1 := ⟨k - 1, by omega⟩
    simp only [laws_szTermS.f]
    rw [w64 (by omega) (by omega), if_pos (by omega)]
    rw [res_m (by omega)]
theorem szTm (x : S27) : Ok27 x → SzTm x := by
  induction x using S27.ind with
  | h a b s z t ts l ih =>
    intro hx n h0 h1
    cases hx with | mk _ g0 g1 g2 g3 g4 g5 g6 g6' =>
    have hs := okL g2; have hz := okL g3
    simp only at hs hz
    show Ev (fun k => laws_szTerm.f k a b s z t.f0 t.f1 t.f2 ts l n) _
    by_cases c1 : (s.size : Int) ≤ n
    case neg =>
      refine ⟨1, fun k hk => ?_⟩
      obtain ⟨k, rfl⟩ : ∃ m, k = m + 1 := ⟨k - 1, by omega⟩
      simp only [laws_szTerm.f, nTm]
      rw [w64 (by omega) (by omega), if_pos (by omega), res_m (by omega)]
    by_cases c2 : (z.size : Int) ≤ n - s.size
    case neg =>
      refine ⟨1, fun k hk => ?_⟩
      obtain ⟨k, rfl⟩ : ∃ m, k = m + 1 := ⟨k - 1, by omega⟩
      simp only [laws_szTerm.f, nTm]
      rw [w64 (n := n - s.size) (by omega) (by omega), if_neg (by omega), w64 (by omega) (by omega), if_pos (by omega), res_m (by omega)]
    obtain ⟨K1, e1⟩ := szTy t g4 (n - s.size - z.size) (by omega) (by omega)
    by_cases c3 : (nTy t : Int) ≤ n - s.size - z.size
    case neg =>
      refine ⟨K1 + 1, fun k hk => ?_⟩
      obtain ⟨k, rfl⟩ : ∃ m, k = m + 1 := ⟨k - 1, by omega⟩
      have e1 := e1 k (by omega)
      simp only [res_m c3] at e1
      simp only [laws_szTerm.f, nTm]
      rw [w64 (n := n - s.size) (by omega) (by omega), if_neg (by omega), w64 (by omega) (by omega), if_neg (by omega), e1, Option.bind_some, if_pos (by omega), res_m (by omega)]
    obtain ⟨K2, e2⟩ := szTyS ts (okL g5.1) (fun y hy => szTy y (g5.2 y hy)) (n - s.size - z.size - nTy t) (by omega) (by omega)
    by_cases c4 : ((ts.length + nIn ts : Nat) : Int) ≤ n - s.size - z.size - nTy t
    case neg =>
      refine ⟨K1 + K2 + 1, fun k hk => ?_⟩
      obtain ⟨k, rfl⟩ : ∃ m, k = m + 1 := ⟨k - 1, by omega⟩
      have e1 := e1 k (by omega); have e2 := e2 k (by omega)
      simp only [res_neg c3] at e1
      simp only [res_m c4] at e2
      simp only [laws_szTerm.f, nTm]
      rw [w64 (n := n - s.size) (by omega) (by omega), if_neg (by omega), w64 (by omega) (by omega), if_neg (by omega), e1, Option.bind_some, if_neg (by omega), e2, Option.bind_some, if_pos (by omega), res_m (by omega)]
    obtain ⟨K3, e3⟩ := szTmS l (okL g6) (fun y hy => ih y hy (g6' y hy)) (n - s.size - z.size - nTy t - (ts.length + nIn ts : Nat)) (by omega) (by omega)
    refine ⟨K1 + K2 + K3 + 1, fun k hk => ?_⟩
    obtain ⟨k, rfl⟩ : ∃ m, k = m + 1 := ⟨k - 1, by omega⟩
    have e1 := e1 k (by omega); have e2 := e2 k (by omega); have e3 := e3 k (by omega)
    simp only [res_neg c3] at e1
    simp only [res_neg c4] at e2
    simp only at e3
    simp only [laws_szTerm.f, nTm]
    rw [w64 (n := n - s.size) (by omega) (by omega), if_neg (by omega), w64 (by omega) (by omega), if_neg (by omega), e1, Option.bind_some, if_neg (by omega), e2, Option.bind_some, if_neg (by omega), e3, Option.bind_some]
    by_cases c5 : ((l.length + nTn l : Nat) : Int) ≤ n - s.size - z.size - nTy t - (ts.length + nIn ts : Nat)
    · rw [res_neg c5, if_neg (by omega), res_neg (by omega)]; congr 1; omega
    · rw [res_m c5, if_pos (by omega), res_m (by omega)]
def ToTy (x : S24) : Prop := Ev (fun k => laws_toTy.f k x.f0 x.f1 x.f2) ((ty x).f0, (ty x).f1, (ty x).f2)
theorem toTyS_l0 (l : List S24) (hl : l.length ≤ 1048576) (hP : ∀ y ∈ l, ToTy y) (d : Nat) : ∀ (i : Nat) (x : List S32), i + d = l.length → x.length = l.length → x.take i = (l.map ty).take i →
    Ev (fun k => laws_toTyS.l0 k l x i) (l.map ty) := by
  induction d with
  | zero =>
    intro i x hi hx ht
    refine ⟨1, fun k hk => ?_⟩
    obtain ⟨k, rfl⟩ : ∃ m, k = m + 1 := ⟨k - 1, by omega⟩
    simp only [laws_toTyS.l0]
    rw [if_neg (by omega)]
    rw [List.take_of_length_le (by omega), List.take_of_length_le (by simp; omega)] at ht
    rw [ht]
  | succ d ih =>
    intro i x hi hx ht
    obtain ⟨K1, e1⟩ := hP l[i] (List.getElem_mem (by omega))
    obtain ⟨K2, e2⟩ := ih (i + 1) (x.set i (ty l[i])) (by omega) (by simpa using hx)
      (take_set_succ (l.map ty) x (ty l[i]) i (by simpa using hx) (by simp; omega) (by simp [List.getElem?_eq_getElem (show i < l.length by omega)]) ht)
    refine ⟨K1 + K2 + 1, fun k hk => ?_⟩
    obtain ⟨k, rfl⟩ : ∃ m, k = m + 1 := ⟨k - 1, by omega⟩
    have e1 := e1 k (by omega); have e2 := e2 k (by omega)
    simp only at e1 e2
    generalize ty l[i] = T at e1 e2
    obtain ⟨a, b, c⟩ := T
    simp only [laws_toTyS.l0]
    rw [if_pos (by omega), if_pos (by omega), rd24 l i (by omega), e1, Option.bind_some, if_pos (by omega), w64 (by omega) (by omega), show (i : Int) + 1 = ((i + 1 : Nat) : Int) from by omega, Int.toNat_natCast]
    exact e2
theorem toTyS (l : List S24) (hl : l.length ≤ 1048576) (hP : ∀ y ∈ l, ToTy y) : Ev (fun k => laws_toTyS.f k l) (tyS l) := by
  obtain ⟨K, e⟩ := toTyS_l0 l hl hP l.length 0 (List.replicate l.length z32) (by omega) (by simp) (by simp)
  refine ⟨K + 1, fun k hk => ?_⟩
  obtain ⟨k, rfl⟩ : ∃ m, k = m + 1 := ⟨k - 1, by omega⟩
  have e := e k (by omega)
  simp only [laws_toTyS.f]
  rw [if_pos (by omega), if_pos (by omega), Int.toNat_natCast, tyS_map]
  exact e
theorem toTy (x : S24) : nTy x ≤ 1048576 → ToTy x := by
  induction x using S24.ind with
  | h a b l ih =>
    intro hn
    simp only [nTy] at hn
    obtain ⟨K, e⟩ := toTyS l (by omega) (fun y hy => ih y hy (by have := nTy_le hy; omega))
    refine ⟨K + 1, fun k hk => ?_⟩
    obtain ⟨k, rfl⟩ : ∃ m, k = m + 1 := ⟨k - 1, by omega⟩
    have e := e k (by omega)
    simp only at e
    simp only [laws_toTy.f, e, Option.bind_some, ty]
def ToTm (x : S27) : Prop := Ev (fun k => laws_toTerm.f k x.f0 x.f1 x.f2 x.f3 x.f4.f0 x.f4.f1 x.f4.f2 x.f5 x.f6) ((tm x).f0, (tm x).f1, (tm x).f2, (tm x).f3, (tm x).f4.f0, (tm x).f4.f1, (tm x).f4.f2, (tm x).f5, (tm x).f6)
theorem toTmS_l0 (l : List S27) (hl : l.length ≤ 1048576) (hP : ∀ y ∈ l, ToTm y) (d : Nat) : ∀ (i : Nat) (x : List S35), i + d = l.length → x.length = l.length → x.take i = (l.map tm).take i →
    Ev (fun k => laws_toTermS.l0 k l x i) (l.map tm) := by
  induction d with
  | zero =>
    intro i x hi hx ht
    refine ⟨1, fun k hk => ?_⟩
    obtain ⟨k, rfl⟩ : ∃ m, k = m + 1 := ⟨k - 1, by omega⟩
    simp only [laws_toTermS.l0]
    rw [if_neg (by omega)]
    rw [List.take_of_length_le (by omega), List.take_of_length_le (by simp; omega)] at ht
    rw [ht]
  | succ d ih =>
    intro i x hi hx ht
    obtain ⟨K1, e1⟩ := hP l[i] (List.getElem_mem (by omega))
    obtain ⟨K2, e2⟩ := ih (i + 1) (x.set i (tm l[i])) (by omega) (by simpa using hx)
      (take_set_succ (l.map tm) x (tm l[i]) i (by simpa using hx) (by simp; omega) (by simp [List.getElem?_eq_getElem (show i < l.length by omega)]) ht)
    refine ⟨K1 + K2 + 1, fun k hk => ?_⟩
    obtain ⟨k, rfl⟩ : ∃ m, k = m + 1 := ⟨k - 1, by omega⟩
    have e1 := e1 k (by omega); have e2 := e2 k (by omega)
    simp only at e1 e2
    generalize tm l[i] = T at e1 e2
    obtain ⟨a, b, c, e, ⟨f, g, h⟩, j, m⟩ := T
    simp only [laws_toTermS.l0]
    rw [if_pos (by omega), if_pos (by omega), rd27 l i (by omega), e1, Option.bind_some, if_pos (by omega), w64 (by omega) (by omega), show (i : Int) + 1 = ((i + 1 : Nat) : Int) from by omega, Int.toNat_natCast]
    exact e2
theorem toTmS (l : List S27) (hl : l.length ≤ 1048576) (hP : ∀ y ∈ l, ToTm y) : Ev (fun k => laws_toTermS.f k l) (tmS l) := by
  obtain ⟨K, e⟩ := toTmS_l0 l hl hP l.length 0 (List.replicate l.length z35) (by omega) (by simp) (by simp)
  refine ⟨K + 1, fun k hk => ?_⟩
  obtain ⟨k, rfl⟩ : ∃ m, k = m + 1 := ⟨k - 1, by omega⟩
  have e := e k (by omega)
  simp only [laws_toTermS.f]
  rw [if_pos (by omega), if_pos (by omega), Int.toNat_natCast, tmS_map]
  exact e
theorem toTm (x : S27) : nTm x ≤ 1048576 → ToTm x := by
  induction x using S27.ind with
  | h a b s z t ts l ih =>
    intro hn
    simp only [nTm] at hn
    obtain ⟨K1, e1⟩ := toTy t (by omega)
    obtain ⟨K2, e2⟩ := toTyS ts (by omega) (fun y hy => toTy y (by have := nTy_le hy; omega))
    obtain ⟨K3, e3⟩ := toTmS l (by omega) (fun y hy => ih y hy (by have := nTm_le hy; omega))
    refine ⟨K1 + K2 + K3 + 1, fun k hk => ?_⟩
    obtain ⟨k, rfl⟩ : ∃ m, k = m + 1 := ⟨k - 1, by omega⟩
    have e1 := e1 k (by omega); have e2 := e2 k (by omega); have e3 := e3 k (by omega)
    simp only at e1 e2 e3
    simp only [laws_toTerm.f, e1, e2, e3, Option.bind_some, tm]
def EqTy (x : S32) : Prop := Ev (fun k => laws_eqTy.f k x.f0 x.f1 x.f2 x.f0 x.f1 x.f2) true
theorem eqTyS_l0 (l : List S32) (hl : l.length ≤ 1048576) (hP : ∀ y ∈ l, EqTy y) (d : Nat) : ∀ (i : Nat), i + d = l.length → Ev (fun k => laws_eqTyS.l0 k l l i) true := by
  induction d with
  | zero =>
    intro i hi
    refine ⟨1, fun k hk => ?_⟩
    obtain ⟨k, rfl⟩ : ∃ m, k = m + 1 := ⟨k - 1, by omega⟩
    simp only [laws_eqTyS.l0]
    rw [if_neg (by omega)]
  | succ d ih =>
    intro i hi
    obtain ⟨K1, e1⟩ := hP l[i] (List.getElem_mem (by omega))
    obtain ⟨K2, e2⟩ := ih (i + 1) (by omega)
    refine ⟨K1 + K2 + 1, fun k hk => ?_⟩
    obtain ⟨k, rfl⟩ : ∃ m, k = m + 1 := ⟨k - 1, by omega⟩
    have e1 := e1 k (by omega); have e2 := e2 k (by omega)
    simp only at e1 e2
    simp only [laws_eqTyS.l0]
    rw [if_pos (by omega), if_pos (by omega), if_pos (by omega), rd32 l i (by omega), e1, Option.bind_some, if_pos rfl, w64 (by omega) (by omega), show (i : Int) + 1 = ((i + 1 : Nat) : Int) from by omega]
    exact e2
theorem eqTyS (l : List S32) (hl : l.length ≤ 1048576) (hP : ∀ y ∈ l, EqTy y) : Ev (fun k => laws_eqTyS.f k l l) true := by
  obtain ⟨K, e⟩ := eqTyS_l0 l hl hP l.length 0 (by omega)
  refine ⟨K + 1, fun k hk => ?_⟩
  obtain ⟨k, rfl⟩ : ∃ m, k = m + 1 := ⟨k - 1, by omega⟩
  have e := e k (by omega)
  simp only [laws_eqTyS.f]
  rw [if_pos trivial]
  exact e
theorem eqTy (x : S24) : nTy x ≤ 1048576 → EqTy (ty x) := by
  induction x using S24.ind with
  | h a b l ih =>
    intro hn
    simp only [nTy] at hn
    obtain ⟨K, e⟩ := eqTyS (tyS l) (by rw [tyS_map]; simp; omega) (fun y hy => by
      rw [tyS_map] at hy
      obtain ⟨z, hz, rfl⟩ := List.mem_map.1 hy
      exact ih z hz (by have := nTy_le hz; omega))
    refine ⟨K + 1, fun k hk => ?_⟩
    obtain ⟨k, rfl⟩ : ∃ m, k = m + 1 := ⟨k - 1, by omega⟩
    have e := e k (by omega)
    simp only at e
    simp only [laws_eqTy.f, ty]
    rw [if_pos trivial, if_pos trivial, e, Option.bind_some, if_pos rfl]
def EqTm (x : S35) : Prop := Ev (fun k => laws_eqTerm.f k x.f0 x.f1 x.f2 x.f3 x.f4.f0 x.f4.f1 x.f4.f2 x.f5 x.f6 x.f0 x.f1 x.f2 x.f3 x.f4.f0 x.f4.f1 x.f4.f2 x.f5 x.f6) true
theorem eqTmS_l0 (l : List S35) (hl : l.length ≤ 1048576) (hP : ∀ y ∈ l, EqTm y) (d : Nat) : ∀ (i : Nat), i + d = l.length → Ev (fun k => laws_eqTermS.l0 k l l i) true := by
  induction d with
  | zero =>
    intro i hi
    refine ⟨1, fun k hk => ?_⟩
    obtain ⟨k, rfl⟩ : ∃ m, k = m + 1 := ⟨k - 1, by omega⟩
    simp only [laws_eqTermS.l0]
    rw [if_neg (by omega)]
  | succ d ih =>
    intro i hi
    obtain ⟨K1, e1⟩ := hP l[i] (List.getElem_mem (by omega))
    obtain ⟨K2, e2⟩ := ih (i + 1) (by omega)
    refine ⟨K1 + K2 + 1, fun k hk => ?_⟩
    obtain ⟨k, rfl⟩ : ∃ m, k = m + 1 := ⟨k - 1, by omega⟩
    have e1 := e1 k (by omega); have e2 := e2 k (by omega)
    simp only at e1 e2
    simp only [laws_eqTermS.l0]
    rw [if_pos (by omega), if_pos (by omega), if_pos (by omega), rd35 l i (by omega), e1, Option.bind_some, if_pos rfl, w64 (by omega) (by omega), show (i : Int) + 1 = ((i + 1 : Nat) : Int) from by omega]
    exact e2
theorem eqTmS (l : List S35) (hl : l.length ≤ 1048576) (hP : ∀ y ∈ l, EqTm y) : Ev (fun k => laws_eqTermS.f k l l) true := by
  obtain ⟨K, e⟩ := eqTmS_l0 l hl hP l.length 0 (by omega)
  refine ⟨K + 1, fun k hk => ?_⟩
  obtain ⟨k, rfl⟩ : ∃ m, k = m + 1 := ⟨k - 1, by omega⟩
  have e := e k (by omega)
  simp only [laws_eqTermS.f]
  rw [if_pos trivial]
  exact e
theorem eqTm (x : S27) : nTm x ≤ 1048576 → EqTm (tm x) := by
  induction x using S27.ind with
  | h a b s z t ts l ih =>
    intro hn
    simp only [nTm] at hn
    obtain ⟨K1, e1⟩ := eqTy t (by omega)
    obtain ⟨K2, e2⟩ := eqTyS (tyS ts) (by rw [tyS_map]; simp; omega) (fun y hy => by
      rw [tyS_map] at hy
      obtain ⟨z, hz, rfl⟩ := List.mem_map.1 hy
      exact eqTy z (by have := nTy_le hz; omega))
    obtain ⟨K3, e3⟩ := eqTmS (tmS l) (by rw [tmS_map]; simp; omega) (fun y hy => by
      rw [tmS_map] at hy
      obtain ⟨z, hz, rfl⟩ := List.mem_map.1 hy
      exact ih z hz (by have := nTm_le hz; omega))
    refine ⟨K1 + K2 + K3 + 1, fun k hk => ?_⟩
    obtain ⟨k, rfl⟩ : ∃ m, k = m + 1 := ⟨k - 1, by omega⟩
    have e1 := e1 k (by omega); have e2 := e2 k (by omega); have e3 := e3 k (by omega)
    simp only at e1 e2 e3
    simp only [laws_eqTerm.f, tm]
    rw [if_pos trivial, if_pos trivial, if_pos trivial, if_pos trivial, e1, Option.bind_some, if_pos rfl, e2, Option.bind_some, if_pos rfl, e3, Option.bind_some, if_pos rfl]
end Go.Proofs.Ytddacgfnhoboaaa.Pure
