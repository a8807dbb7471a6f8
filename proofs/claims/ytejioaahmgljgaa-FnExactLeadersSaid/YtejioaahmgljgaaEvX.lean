/- An evaluator over trees: what it tells is so (12): what is told where less is told is told where more is. -/
import Derived.Test.YtejioaahmgljgaaEvW
set_option linter.unusedVariables false
set_option linter.unusedSimpArgs false
namespace Go.Ev
open Go Go.RowKit

/-- the same boxes; roots, and maybe more -/
structure Mo (s s' : St) : Prop where
  h : s'.h = s.h
  o : ∀ i r, lk s.o i = some r → lk s'.o i = some r

theorem mapS_mo {α β : Type} {f f' : α → Option β} : ∀ {l : List α} {r : List β}, (∀ x ∈ l, ∀ y, f x = some y → f' x = some y) → mapS f l = some r → mapS f' l = some r := by
  intro l
  induction l with
  | nil => intro r _ h; exact h
  | cons x l ih =>
    intro r hf h
    rw [mapS] at h
    split at h
    case h_2 => cases h
    rename_i y hy
    split at h
    case h_2 => cases h
    rename_i q hq
    cases h
    rw [mapS, hf x (List.mem_cons_self ..) y hy, ih (fun z hz => hf z (List.mem_cons_of_mem _ hz)) hq]

section
variable {tab : Tab} {s s' : St}
theorem evA_eq {x : Operand} (hx : s'.ev x = s.ev x) : evA s' x = evA s x := by unfold evA; rw [hx]
theorem bound_eq {o : Option Operand} {d : Int} (hx : ∀ x, o = some x → s'.ev x = s.ev x) : boundAV s' o d = boundAV s o d := by
  cases o with
  | none => rfl
  | some x => simp only [boundAV, hx x rfl]
theorem evParts_mo {ps : List (Nat × Operand)} {qs : List (Nat × AV)} (hev : ∀ p ∈ ps, s'.ev p.2 = s.ev p.2) (h : evParts s ps = some qs) : evParts s' ps = some qs := by
  refine mapS_mo (fun p hp y hy => ?_) h
  obtain ⟨i, x⟩ := p
  simp only [evA_eq (hev _ hp)]; exact hy

theorem ptrCells_mo (M : Mo s s') {p : AV} {cs : List AV} (h : ptrCells s p = some cs) : ptrCells s' p = some cs := by
  unfold ptrCells at h ⊢
  rw [M.h]
  split at h
  · exact h
  · exact h
  · exact h
  · split at h
    case h_2 => cases h
    rename_i rows hr
    rw [M.o _ _ hr]; exact h
  · cases h
theorem loadAV_mo (M : Mo s s') {ty : Nat} {p v : AV} (h : loadAV tab s ty p = some v) : loadAV tab s' ty p = some v := by
  unfold loadAV at h ⊢
  split at h
  case h_2 => cases h
  split at h
  case h_2 => cases h
  rename_i cs hcs
  rw [ptrCells_mo M hcs]; exact h
theorem rowsAV_mo (M : Mo s s') {x : AV} {rows : List (List T)} (h : rowsAV s x = some rows) : rowsAV s' x = some rows := by
  unfold rowsAV at h ⊢
  split at h
  · exact h
  · exact h
  · split at h
    case h_2 => cases h
    rename_i hr
    rw [M.o _ _ hr]; exact h
  · split at h
    case h_2 => cases h
    rename_i hr
    rw [M.o _ _ hr]; exact h
  · exact h
  · cases h
theorem indexAddrAV_mo (M : Mo s s') {ty : Nat} {x v : AV} {n : Int} (h : indexAddrAV tab s ty x n = some v) : indexAddrAV tab s' ty x n = some v := by
  unfold indexAddrAV at h ⊢
  split at h
  · split at h
    case h_2 => cases h
    rename_i hr
    rw [rowsAV_mo M hr]; exact h
  · exact h
  · cases h
theorem builtinAV_mo (M : Mo s s') {b : Builtin} {tys : List TypeId} {l : List AV} {v : AV} (h : builtinAV tab s b tys l = some v) : builtinAV tab s' b tys l = some v := by
  unfold builtinAV at h ⊢
  split at h
  · split at h
    case h_2 => cases h
    split at h
    case h_2 => cases h
    split at h
    · exact h
    · split at h
      case h_2 => cases h
      rename_i hr
      rw [rowsAV_mo M hr]; exact h
    · exact h
    · cases h
  · exact h
  · exact h
  · cases h
theorem snapT_mo (M : Mo s s') : ∀ (n : Nat) {x : AV} {t : T}, snapT n s x = some t → snapT n s' x = some t := by
  intro n
  induction n with
  | zero => intro x t h; cases h
  | succ n ih =>
    intro x t h
    cases x with
    | t x => exact h
    | bp id off =>
      simp only [snapT] at h ⊢
      rw [M.h]
      split at h
      case h_2 => cases h
      split at h
      case h_2 => cases h
      split at h
      case h_2 => cases h
      rename_i hm
      rw [mapS_mo (fun x _ y hy => ih hy) hm]; exact h
    | fn g caps =>
      simp only [snapT] at h ⊢
      split at h
      case h_2 => cases h
      rename_i hm
      rw [mapS_mo (fun x _ y hy => ih hy) hm]; exact h
    | bw x id => exact h
    | rf id =>
      simp only [snapT] at h ⊢
      split at h
      case h_2 => cases h
      rename_i hr
      rw [M.o _ _ hr]; exact h
    | rw id l hh =>
      simp only [snapT] at h ⊢
      split at h
      case h_2 => cases h
      rename_i hr
      rw [M.o _ _ hr]; exact h
    | rp id i k =>
      simp only [snapT] at h ⊢
      split at h
      case h_2 => cases h
      rename_i hr
      rw [M.o _ _ hr]; exact h
    | u => cases h
    | ag _ => cases h
    | tp _ => cases h
    | io _ => cases h
    | iw _ => cases h
theorem snapC_mo (M : Mo s s') {x y : AV} (h : snapC s x = some y) : snapC s' x = some y := by
  unfold snapC at h ⊢
  split at h
  case h_2 => cases h
  rename_i ht
  rw [snapT_mo M _ ht]; exact h
theorem snapA_mo (M : Mo s s') {x y : AV} (h : snapA s x = some y) : snapA s' x = some y := by
  unfold snapA at h ⊢
  split at h
  · split at h
    case h_2 => cases h
    rename_i hm
    rw [mapS_mo (fun x _ y hy => snapC_mo M hy) hm]; exact h
  · cases h
  · exact snapC_mo M h

theorem evalV_mo (M : Mo s s') {o : Op} {v : AV} (hev : ∀ x ∈ o.operands, s'.ev x = s.ev x) (h : evalV tab s o = some v) : evalV tab s' o = some v := by
  unfold evalV at h
  split at h
  · rename_i x; simp only [evalV]; rw [evA_eq (hev x (by simp [Op.operands]))]; exact h
  · rename_i x; simp only [evalV]; rw [evA_eq (hev x (by simp [Op.operands]))]; exact h
  · rename_i c x y; simp only [evalV]
    rw [hev c (by simp [Op.operands]), evA_eq (hev x (by simp [Op.operands])), evA_eq (hev y (by simp [Op.operands]))]; exact h
  · rename_i ty p; simp only [evalV]; rw [hev p (by simp [Op.operands])]; exact loadAV_mo M h
  · rename_i op ty x y _; simp only [evalV]; rw [hev x (by simp [Op.operands]), hev y (by simp [Op.operands])]; exact h
  · rename_i op _ x; simp only [evalV]; rw [hev x (by simp [Op.operands])]; exact h
  · rename_i _ _ x; simp only [evalV]; rw [hev x (by simp [Op.operands])]; exact h
  · rename_i _ x _; simp only [evalV]; rw [hev x (by simp [Op.operands])]; exact h
  · rename_i _ x _; simp only [evalV]; rw [hev x (by simp [Op.operands])]; exact h
  · rename_i ty x i; simp only [evalV]
    rw [hev i (by simp [Op.operands]), evA_eq (hev x (by simp [Op.operands]))]
    split at h
    case h_2 => cases h
    rename_i hi
    split at h
    case h_2 => cases h
    rename_i hx
    exact indexAddrAV_mo M h
  · rename_i _ x i; simp only [evalV]
    rw [hev i (by simp [Op.operands]), hev x (by simp [Op.operands])]; exact h
  · rename_i ty ps; simp only [evalV]
    unfold buildAV at h ⊢
    split at h
    case h_2 => cases h
    rename_i qs hqs
    rw [evParts_mo (fun p hp => hev p.2 (by simp only [Op.operands]; simp; exact ⟨p.1, by simpa using hp⟩)) hqs]; exact h
  · rename_i ty x lo hi; simp only [evalV]
    rw [bound_eq (fun y hy => hev y (by simp [Op.operands, hy])), hev x (by simp [Op.operands])]
    cases hi with
    | none => exact h
    | some y => simp only at h ⊢; rw [bound_eq (fun z hz => hev z (by cases hz; simp [Op.operands]))]; exact h
  · rename_i t k; simp only [evalV]; rw [hev t (by simp [Op.operands])]; exact h
  · rename_i f first caps; simp only [evalV]
    split at h
    · split at h
      case h_2 => cases h
      rename_i hm
      rw [mapS_mo (fun x hx y hy => by rw [evA_eq (hev x (by simp only [Op.operands]; simp; exact .inr (by simpa using hx)))]; exact hy) hm]; exact h
    · cases h
  · rename_i b args tys; simp only [evalV]
    split at h
    case h_2 => cases h
    rename_i hm
    rw [mapS_mo (fun x hx y hy => by rw [evA_eq (hev x (by simp [Op.operands, Call.operands]; simpa using hx))]; exact hy) hm]
    exact builtinAV_mo M h
  · cases h

theorem movesL_mo (M : Mo s s') : ∀ {xs : List Operand} {ms : List Bool} {l : List AV} {s2 : St}, allF ms = true → (∀ x ∈ xs, s'.ev x = s.ev x) → movesL ms s xs = some (l, s2) → s2 = s ∧ movesL ms s' xs = some (l, s') ∧ allPlain ms s' xs = allPlain ms s xs := by
  intro xs
  induction xs with
  | nil => intro ms l s2 _ _ h; rw [movesL] at h; cases h; exact ⟨rfl, by rw [movesL], by rw [allPlain, allPlain]⟩
  | cons x xs ih =>
    intro ms l s2 hms hev h
    have hx := hev x (List.mem_cons_self ..)
    have hxs : ∀ y ∈ xs, s'.ev y = s.ev y := fun y hy => hev y (List.mem_cons_of_mem _ hy)
    have snap : ∀ {ms' : List Bool}, allF ms' = true → (match movesL ms' s xs with
        | some (l, s) => match snapA s (s.ev x) with
          | some y => some (y :: l, s)
          | none => none
        | none => none) = some (l, s2) → s2 = s ∧ (match movesL ms' s' xs with
        | some (l, s) => match snapA s (s.ev x) with
          | some y => some (y :: l, s)
          | none => none
        | none => none) = some (l, s') ∧ allPlain ms' s' xs = allPlain ms' s xs := by
      clear h
      intro ms' hms' h
      split at h
      case h_2 => cases h
      rename_i l' s3 h1
      obtain ⟨e, h2, h3⟩ := ih hms' hxs h1
      subst e
      split at h
      case h_2 => cases h
      rename_i y hy
      cases h
      refine ⟨rfl, ?_, h3⟩
      rw [h2]
      simp only [hx, snapA_mo M hy]
    match ms with
    | [] =>
      rw [movesL] at h
      obtain ⟨h1, h2, h3⟩ := snap hms h
      refine ⟨h1, by rw [movesL]; exact h2, ?_⟩
      rw [allPlain, allPlain, hx, h3]
    | true :: ms' => simp [allF] at hms
    | false :: ms' =>
      rw [movesL] at h
      obtain ⟨h1, h2, h3⟩ := snap (by simpa [allF] using hms) h
      refine ⟨h1, by rw [movesL]; exact h2, ?_⟩
      rw [allPlain, allPlain, hx, h3]

theorem argsAV_mo (M : Mo s s') {md : Modes} {f : Operand} {args : List Operand} {g : FuncId} {as : List AV} {s2 : St} (hev : ∀ x ∈ args, s'.ev x = s.ev x) (hf : s'.ev f = s.ev f) (hg : calleeG s f = some g) (hms : allF (modeOf md g) = true) (h : argsAV md s f args = some (g, as, s2)) :
    s2 = s ∧ argsAV md s' f args = some (g, as, s') ∧ argsPlain md s' f args g = argsPlain md s f args g := by
  unfold argsAV at h
  split at h
  case h_2 => cases h
  rename_i g0 hg0
  split at h
  case h_2 => cases h
  rename_i as' s3 hm
  split at h
  case h_2 => cases h
  rename_i g' caps hc
  split at h
  case h_2 => cases h
  rename_i l hl
  cases h
  rw [hg] at hg0
  cases hg0
  obtain ⟨e, h2, h3⟩ := movesL_mo M hms hev hm
  subst e
  have hg' : calleeG s' f = some g := by unfold calleeG at hg ⊢; rw [hf]; exact hg
  have hc' : calleeAV s' f = some (g, caps) := by
    unfold calleeAV at hc ⊢
    rw [hf]
    split at hc
    · split at hc
      case h_2 => cases hc
      rename_i hm'
      rw [mapS_mo (fun x _ y hy => snapC_mo M hy) hm']; exact hc
    · split at hc
      case h_2 => cases hc
      rename_i hm'
      rw [mapS_mo (fun x _ y hy => snapC_mo M hy) hm']; exact hc
    · cases hc
  refine ⟨rfl, ?_, ?_⟩
  · unfold argsAV
    rw [hg']
    simp only [h2, hc', hl]
  · unfold argsPlain
    rw [hf, h3]
end
end Go.Ev
