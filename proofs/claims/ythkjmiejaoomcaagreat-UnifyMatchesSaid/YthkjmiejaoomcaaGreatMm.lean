/- Part of the proof of a law of layer 5: own texts, joined. -/
import Derived.Test.YthkjmiejaoomcaaGreatMl
set_option linter.unusedVariables false
set_option linter.unusedSimpArgs false
set_option linter.unnecessarySimpa false
/- The plain law of UnifyMatches: sizes, fitting, patterns. -/
namespace Go.Proofs.YthkjmiejaoomcaaGreat.Am
open Go Go.RowKit Go.Proofs
set_option linter.unusedVariables false
set_option linter.unusedSimpArgs false

/-! ### levels -/
mutual
def dep : Term → Int
  | ⟨_, _, _, l⟩ => depL l + 1
def depL : List Term → Int
  | [] => 0
  | t :: ts => max (dep t) (depL ts)
end
theorem dep_pos : ∀ s, (∀ t : Term, t.size ≤ s → 1 ≤ dep t) ∧ (∀ l : List Term, sizes l ≤ s → 0 ≤ depL l) := by
  intro s
  induction s with
  | zero =>
    refine ⟨fun t ht => ?_, fun l hl => ?_⟩
    · obtain ⟨a, b, c, l⟩ := t; rw [Term.size] at ht; omega
    · cases l with
      | nil => rw [depL]; omega
      | cons t ts => obtain ⟨a, b, c, l⟩ := t; rw [sizes, Term.size] at hl; omega
  | succ s ih =>
    have hT : ∀ t : Term, t.size ≤ s + 1 → 1 ≤ dep t := by
      intro t ht
      obtain ⟨a, b, c, l⟩ := t
      rw [Term.size] at ht
      have := ih.2 l (by omega)
      rw [dep]; omega
    refine ⟨hT, fun l => ?_⟩
    induction l with
    | nil => intro _; rw [depL]; omega
    | cons t ts ihl =>
      intro hl
      rw [sizes] at hl
      have := hT t (by omega)
      have := ihl (by omega)
      rw [depL]; omega
theorem levels_dep : ∀ s, (∀ (t : Term) (m : Int), t.size ≤ s → levelsF t m = min (dep t) (max m 0 + 1)) ∧ (∀ (l : List Term) (m n : Int), sizes l ≤ s → 0 ≤ n → levelsL l m n = if m > 0 then max n (min (depL l) m) else n) := by
  intro s
  induction s with
  | zero =>
    refine ⟨fun t m ht => ?_, fun l m n hl hn => ?_⟩
    · obtain ⟨a, b, c, l⟩ := t; rw [Term.size] at ht; omega
    · cases l with
      | nil => rw [levelsL, depL]; split <;> omega
      | cons t ts => obtain ⟨a, b, c, l⟩ := t; rw [sizes, Term.size] at hl; omega
  | succ s ih =>
    have hT : ∀ (t : Term) (m : Int), t.size ≤ s + 1 → levelsF t m = min (dep t) (max m 0 + 1) := by
      intro t m ht
      obtain ⟨a, b, c, l⟩ := t
      rw [Term.size] at ht
      have h1 := ih.2 l m 0 (by omega) (Int.le_refl _)
      have h2 := (dep_pos s).2 l (by omega)
      rw [levelsF, dep, h1]
      split <;> omega
    refine ⟨hT, fun l => ?_⟩
    induction l with
    | nil => intro m n _ hn; rw [levelsL, depL]; split <;> omega
    | cons t ts ihl =>
      intro m n hl hn
      rw [sizes] at hl
      have h1 := hT t (m - 1) (by omega)
      have h2 := (dep_pos (s + 1)).1 t (by omega)
      rw [levelsL, depL]
      split
      · rename_i hm
        rw [ihl m _ (by omega) (by unfold goMax; split <;> omega), if_pos hm, h1]
        unfold goMax
        split <;> omega
      · rfl
theorem deep_dep : ∀ s, (∀ (t : Term) (m : Int), t.size ≤ s → deepF t m = if m < 0 then 1 else min (dep t) (m + 2)) ∧ (∀ (l : List Term) (m n : Int), sizes l ≤ s → 0 ≤ n → 0 ≤ m → deepL l m n = max n (min (depL l) (m + 1))) := by
  intro s
  induction s with
  | zero =>
    refine ⟨fun t m ht => ?_, fun l m n hl hn hm => ?_⟩
    · obtain ⟨a, b, c, l⟩ := t; rw [Term.size] at ht; omega
    · cases l with
      | nil => rw [deepL, depL]; omega
      | cons t ts => obtain ⟨a, b, c, l⟩ := t; rw [sizes, Term.size] at hl; omega
  | succ s ih =>
    have hT : ∀ (t : Term) (m : Int), t.size ≤ s + 1 → deepF t m = if m < 0 then 1 else min (dep t) (m + 2) := by
      intro t m ht
      obtain ⟨a, b, c, l⟩ := t
      rw [Term.size] at ht
      have h2 := (dep_pos s).2 l (by omega)
      rw [deepF, dep]
      split
      · rfl
      · rw [ih.2 l m 0 (by omega) (Int.le_refl _) (by omega)]; omega
    refine ⟨hT, fun l => ?_⟩
    induction l with
    | nil => intro m n _ hn _; rw [deepL, depL]; omega
    | cons t ts ihl =>
      intro m n hl hn hm
      rw [sizes] at hl
      have h1 := hT t (m - 1) (by omega)
      have h2 := (dep_pos (s + 1)).1 t (by omega)
      rw [deepL, depL, ihl m _ (by omega) (by unfold goMax; split <;> omega) hm, h1]
      unfold goMax
      split <;> split <;> omega
theorem sized_same (t : Term) : sizedF t = refSizedF t := by
  unfold sizedF refSizedF
  have h1 := (levels_dep t.size).1 t 100 (Nat.le_refl _)
  have h2 := (deep_dep t.size).1 t 100 (Nat.le_refl _)
  rw [if_neg (by omega)] at h2
  have h3 : levelsF t 100 > 100 ↔ deepF t 100 > 100 := by rw [h1, h2]; omega
  by_cases h : deepF t 100 > 100
  · rw [if_pos h, if_pos (h3.2 h)]
  · rw [if_neg h, if_neg (fun k => h (h3.1 k))]
theorem fitErr_same (t : Term) : fitErr t = refFitErr t := by unfold fitErr refFitErr; rw [sized_same]
theorem fitErrs_same : ∀ l : List Term, fitErrs l = refFitErrs l
  | [] => rfl
  | t :: l => by rw [fitErrs, refFitErrs, fitErr_same, fitErrs_same l]
theorem fitErrs_app : ∀ l m : List Term, fitErrs (l ++ m) = if fitErrs l == 0 then fitErrs m else fitErrs l
  | [], m => rfl
  | t :: l, m => by
    rw [List.cons_append, fitErrs, fitErrs, fitErrs_app l m]
    cases h : (fitErr t == 0)
    · simp only [Bool.false_eq_true, if_false, h]
    · simp only [if_true]

/-! ### what fits -/
mutual
def kOk : Term → Bool
  | ⟨k, _, s, l⟩ => decide (1 ≤ k) && ((k == 1 || s.toList == noName.toList) && kOkL l)
def kOkL : List Term → Bool
  | [] => true
  | t :: ts => kOk t && kOkL ts
end
theorem fits_kOk : ∀ s, (∀ (t : Term) (d : Int), t.size ≤ s → fits0F t d = true → kOk t = true) ∧ (∀ (l : List Term) (d : Int), sizes l ≤ s → fits0L l d = true → kOkL l = true) := by
  intro s
  induction s with
  | zero =>
    refine ⟨fun t d ht => ?_, fun l d hl _ => ?_⟩
    · obtain ⟨a, b, c, l⟩ := t; rw [Term.size] at ht; omega
    · cases l with
      | nil => rw [kOkL]
      | cons t ts => obtain ⟨a, b, c, l⟩ := t; rw [sizes, Term.size] at hl; omega
  | succ s ih =>
    have hT : ∀ (t : Term) (d : Int), t.size ≤ s + 1 → fits0F t d = true → kOk t = true := by
      intro t d ht hf
      obtain ⟨k, n, nm, l⟩ := t
      rw [Term.size] at ht
      rw [fits0F, Bool.and_eq_true] at hf
      rw [kOk, ih.2 l _ (by omega) hf.2, Bool.and_true]
      have h1 := hf.1
      unfold headFits at h1
      simp only [Bool.and_eq_true] at h1
      have hk : 1 ≤ k := by
        have h2 := h1.2.2.2
        unfold headTest at h2
        by_cases e1 : (k == 1) = true
        · simp at e1; omega
        rw [if_neg e1] at h2
        by_cases e2 : (k == 2) = true
        · simp at e2; omega
        rw [if_neg e2] at h2
        by_cases e3 : (k == 3) = true
        · simp at e3; omega
        rw [if_neg e3] at h2
        by_cases e5 : (k == 5) = true
        · simp at e5; omega
        rw [if_neg e5] at h2
        cases h2
      rw [decide_eq_true hk, Bool.true_and]
      have h3 := h1.1
      cases e1 : (k == 1) <;> cases e2 : (nm.toList == noName.toList) <;> simp_all
    refine ⟨hT, fun l => ?_⟩
    induction l with
    | nil => intro d _ _; rw [kOkL]
    | cons t ts ihl =>
      intro d hl hf
      rw [sizes] at hl
      rw [fits0L, Bool.and_eq_true] at hf
      rw [kOkL, hT t d (by omega) hf.1, ihl d (by omega) hf.2, Bool.and_true]
end Go.Proofs.YthkjmiejaoomcaaGreat.Am
/- The plain law of UnifyMatches: patterns. -/
namespace Go.Proofs.YthkjmiejaoomcaaGreat.Am
open Go Go.RowKit Go.Proofs
set_option linter.unusedVariables false
set_option linter.unusedSimpArgs false

theorem kOk_parts (t : Term) (h : kOk t = true) : 1 ≤ t.kind ∧ (t.kind = 1 ∨ (t.name.toList == noName.toList) = true) ∧ kOkL t.args = true := by
  obtain ⟨k, n, s, l⟩ := t
  rw [kOk, Bool.and_eq_true, Bool.and_eq_true, Bool.or_eq_true] at h
  exact ⟨by simpa using h.1, h.2.1.imp (fun h => by simpa using h) id, h.2.2⟩
theorem parOk_parts (t : Term) (h : parOk t = true) : (t.kind = 3 → 0 ≤ t.n ∧ t.n < 60) ∧ parOkL t.args = true := by
  obtain ⟨k, n, s, l⟩ := t
  rw [parOk, Bool.and_eq_true] at h
  refine ⟨fun hk => ?_, h.2⟩
  have h1 := h.1
  simp only at hk
  subst hk
  simpa using h1
theorem simple_same (u : Term) (h : kOk u = true) : refSimpleF u = isSimpleF u := by
  unfold refSimpleF
  cases hs : isSimpleF u
  · rfl
  · rw [Bool.true_and]
    have h1 := kOk_parts u h
    rcases h1.2.1 with h2 | h2
    · unfold isSimpleF at hs
      rw [h2] at hs
      simp at hs
    · exact h2
theorem isF_comm (a b : Term) : isF a b = isF b a := by
  unfold isF
  rw [Bool.eq_iff_iff]
  simp only [Bool.and_eq_true, beq_iff_eq]
  exact ⟨fun ⟨h1, h2⟩ => ⟨h1.symm, h2.symm⟩, fun ⟨h1, h2⟩ => ⟨h1.symm, h2.symm⟩⟩
theorem elem_same (pars : Int) (pre : List Term) (u : Term) (h : kOk u = true) : refElem pars pre u = ownElem pars pre u := by
  unfold refElem ownElem
  rw [simple_same u h, indexF_any _ _ 0 (Int.le_refl _)]
  have : (fun v => isF v u) = fun b => isF u b := funext fun v => isF_comm v u
  rw [this]
theorem argsGo_same (pars : Int) : ∀ (us pre : List Term), kOkL us = true → argsGoR pars pre us = argsGoP pars pre us
  | [], pre, _ => rfl
  | u :: us, pre, h => by
    rw [kOkL, Bool.and_eq_true] at h
    rw [argsGoR, argsGoP, elem_same pars pre u h.1, argsGo_same pars us _ h.2]
theorem each_simple (pars : Int) : ∀ (us pre : List Term) (es : OSt), argsGoP pars pre us = true → eachL (stepOpen pars) us es = (true, es)
  | [], pre, es, _ => by rw [eachL]
  | u :: us, pre, es, h => by
    rw [argsGoP, Bool.and_eq_true] at h
    have h1 := h.1
    unfold ownElem at h1
    rw [Bool.and_eq_true, Bool.and_eq_true] at h1
    have h2 := h1.1
    unfold isSimpleF at h2
    rw [Bool.and_eq_true] at h2
    have hnil : u.args = [] := List.eq_nil_of_length_eq_zero (by have := h2.2; simp at this; exact this ▸ rfl)
    have hst : stepOpen pars es u = (true, es) := by
      have h3 := h1.2.1
      unfold stepOpen
      rw [if_pos]
      cases e1 : (u.kind == 3)
      · rfl
      · rw [e1, Bool.true_and] at h3
        simp at h3 ⊢
        exact h3
    rw [eachL, eachF_eq, hst, hnil]
    simp only [eachL, if_true]
    exact each_simple pars us _ es h.2

/-- The map and the list tell the same of how many arguments parameters have. -/
def SameMany (es : OSt) (mn : List Int) : Prop := mn.length = 60 ∧ ∀ k : Nat, k < 60 → (∃ v, mget (k : Int) es = some v ∧ mn[k]? = some v ∧ 0 ≤ v) ∨ (mget (k : Int) es = none ∧ mn[k]? = some (-1))
theorem mget_append {β : Type} (k : Int) (v : β) (k' : Int) : ∀ es : List (Int × β), mget k' (es ++ [(k, v)]) = match mget k' es with | some w => some w | none => if k' == k then some v else none
  | [] => by rw [List.nil_append, mget, mget]; rfl
  | (k0, v0) :: es => by
    rw [List.cons_append, mget, mget]
    split
    · rfl
    · exact mget_append k v k' es
theorem pattern_each (pars : Int) : ∀ s, (∀ (t : Term) (es : OSt) (mn : List Int), t.size ≤ s → kOk t = true → parOk t = true → SameMany es mn →
      (∃ mn' es', patternF pars t mn = some mn' ∧ eachF (stepOpen pars) t es = (true, es') ∧ SameMany es' mn') ∨ (patternF pars t mn = none ∧ (eachF (stepOpen pars) t es).1 = false)) ∧
    (∀ (l : List Term) (es : OSt) (mn : List Int), sizes l ≤ s → kOkL l = true → parOkL l = true → SameMany es mn →
      (∃ mn' es', patternL pars l mn = some mn' ∧ eachL (stepOpen pars) l es = (true, es') ∧ SameMany es' mn') ∨ (patternL pars l mn = none ∧ (eachL (stepOpen pars) l es).1 = false)) := by
  intro s
  induction s with
  | zero =>
    refine ⟨fun t es mn ht => ?_, fun l es mn hl _ _ hS => ?_⟩
    · obtain ⟨a, b, c, l⟩ := t; rw [Term.size] at ht; omega
    · cases l with
      | nil => exact .inl ⟨mn, es, by rw [patternL], by rw [eachL], hS⟩
      | cons t ts => obtain ⟨a, b, c, l⟩ := t; rw [sizes, Term.size] at hl; omega
  | succ s ih =>
    have hT : ∀ (t : Term) (es : OSt) (mn : List Int), t.size ≤ s + 1 → kOk t = true → parOk t = true → SameMany es mn →
      (∃ mn' es', patternF pars t mn = some mn' ∧ eachF (stepOpen pars) t es = (true, es') ∧ SameMany es' mn') ∨ (patternF pars t mn = none ∧ (eachF (stepOpen pars) t es).1 = false) := by
      intro t es mn ht hk hp hS
      have hk' := kOk_parts t hk
      have hp' := parOk_parts t hp
      have hsz : sizes t.args ≤ s := by obtain ⟨a, b, c, l⟩ := t; rw [Term.size] at ht; simp only; omega
      rw [patternF_eq, eachF_eq]
      cases hv : (t.kind == 3 && decide (t.n ≥ pars))
      · have hst : stepOpen pars es t = (true, es) := by
          unfold stepOpen
          rw [if_pos]
          cases e1 : (t.kind == 3)
          · rfl
          · rw [e1, Bool.true_and] at hv
            simp at hv ⊢
            exact hv
        rw [hst]
        simp only [Bool.false_eq_true, if_false, if_true]
        exact ih.2 t.args es mn hsz hk'.2.2 hp'.2 hS
      · rw [Bool.and_eq_true] at hv
        have hr := hp'.1 (by simpa using hv.1)
        obtain ⟨nn, hnn⟩ : ∃ nn : Nat, t.n = nn := ⟨t.n.toNat, (Int.toNat_of_nonneg hr.1).symm⟩
        have hn60 : nn < 60 := by omega
        have hst : stepOpen pars es t = if openClash t.n t.args.length es then (false, es) else (argsGoP pars [] t.args, openPut t.n t.args.length es) := by
          unfold stepOpen
          rw [if_neg]
          have h2 := hv.2
          rw [hv.1]
          simp at h2 ⊢
          exact h2
        have hget : mn.getD t.n.toNat 0 = (mn[nn]?).getD 0 := by rw [hnn, Int.toNat_natCast, List.getD_eq_getElem?_getD]
        rw [hst, hget, argsGo_same pars _ _ hk'.2.2]
        simp only [if_true]
        have fin : ∀ (h0 : openClash t.n t.args.length es = false), SameMany (openPut t.n t.args.length es) (mn.set t.n.toNat t.args.length) →
            (∃ mn' es', (if argsGoP pars [] t.args = true then some (mn.set t.n.toNat (t.args.length : Int)) else none) = some mn' ∧ (if (argsGoP pars [] t.args, openPut t.n t.args.length es).1 = true then eachL (stepOpen pars) t.args (argsGoP pars [] t.args, openPut t.n t.args.length es).2 else (argsGoP pars [] t.args, openPut t.n t.args.length es)) = (true, es') ∧ SameMany es' mn') ∨
            ((if argsGoP pars [] t.args = true then some (mn.set t.n.toNat (t.args.length : Int)) else none) = none ∧ (if (argsGoP pars [] t.args, openPut t.n t.args.length es).1 = true then eachL (stepOpen pars) t.args (argsGoP pars [] t.args, openPut t.n t.args.length es).2 else (argsGoP pars [] t.args, openPut t.n t.args.length es)).1 = false) := by
          intro h0 hS'
          cases ha : argsGoP pars [] t.args
          · right
            simp
          · left
            refine ⟨_, openPut t.n t.args.length es, rfl, ?_, hS'⟩
            simp only [if_true]
            exact each_simple pars _ _ _ ha
        rcases hS.2 nn hn60 with ⟨v, h1, h2, h3⟩ | ⟨h1, h2⟩
        · rw [h2]
          simp only [Option.getD_some]
          by_cases e : v = (t.args.length : Int)
          · have hc : (v == (t.args.length : Int)) = true := by simpa using e
            have hcl : openClash t.n t.args.length es = false := by unfold openClash; rw [hnn, h1]; simp only [hc]; rfl
            simp only [hcl, hc, Bool.not_true, Bool.and_false, Bool.false_eq_true, if_false]
            refine fin hcl ?_
            have hput : openPut t.n t.args.length es = es := by unfold openPut; rw [hnn, h1]
            have hset : mn.set t.n.toNat (t.args.length : Int) = mn := by
              rw [hnn, Int.toNat_natCast, ← e]
              apply List.ext_getElem?
              intro j
              rw [List.getElem?_set]
              split
              · rename_i hj; subst hj; rw [h2]; split
                · rfl
                · rename_i hlt; rw [hS.1] at hlt; omega
              · rfl
            rw [hput, hset]
            exact hS
          · have hc : (v == (t.args.length : Int)) = false := by simpa using e
            have : openClash t.n t.args.length es = true := by unfold openClash; rw [hnn, h1]; simp only [hc]; rfl
            right
            simp only [this, hc, decide_eq_true h3, Bool.not_false, Bool.and_self, if_true, Bool.false_eq_true, if_false, and_self]
        · rw [h2]
          simp only [Option.getD_some]
          have hcl : openClash t.n t.args.length es = false := by unfold openClash; rw [hnn, h1]
          simp only [hcl, show decide ((-1 : Int) ≥ 0) = false from rfl, Bool.false_and, Bool.false_eq_true, if_false]
          refine fin hcl ?_
          have hput : openPut t.n t.args.length es = es ++ [((nn : Int), (t.args.length : Int))] := by unfold openPut; rw [hnn, h1]
          rw [hput, hnn, Int.toNat_natCast]
          refine ⟨by rw [List.length_set]; exact hS.1, fun k hk60 => ?_⟩
          rw [mget_append, List.getElem?_set]
          by_cases e : nn = k
          · subst e
            left
            refine ⟨(t.args.length : Int), by rw [h1]; simp, ?_, by omega⟩
            rw [if_pos rfl, if_pos (by rw [hS.1]; exact hn60)]
          · rw [if_neg e]
            rcases hS.2 k hk60 with ⟨w, g1, g2, g3⟩ | ⟨g1, g2⟩
            · exact .inl ⟨w, by rw [g1], g2, g3⟩
            · right
              refine ⟨?_, g2⟩
              rw [g1]
              have : ((k : Int) == (nn : Int)) = false := by simp; omega
              simp only [this, Bool.false_eq_true, if_false]
    refine ⟨hT, fun l => ?_⟩
    induction l with
    | nil => intro es mn _ _ _ hS; exact .inl ⟨mn, es, by rw [patternL], by rw [eachL], hS⟩
    | cons t ts ihl =>
      intro es mn hs hk hp hS
      rw [sizes] at hs
      rw [kOkL, Bool.and_eq_true] at hk
      rw [parOkL, Bool.and_eq_true] at hp
      rw [patternL, eachL]
      rcases hT t es mn (by omega) hk.1 hp.1 hS with ⟨mn1, es1, g1, g2, g3⟩ | ⟨g1, g2⟩
      · rw [g1, g2, Option.bind_some]
        simp only [if_true]
        exact ihl es1 mn1 (by omega) hk.2 hp.2 g3
      · right
        rw [g1, if_neg (by rw [g2]; decide)]
        exact ⟨rfl, g2⟩
theorem open_pattern (pars : Int) : ∀ (l : List Term) (es : OSt) (mn : List Int), kOkL l = true → parOkL l = true → SameMany es mn → openL pars l es = (patternL pars l mn).isSome
  | [], es, mn, _, _, _ => by rw [openL, patternL]; rfl
  | t :: l, es, mn, hk, hp, hS => by
    rw [kOkL, Bool.and_eq_true] at hk
    rw [parOkL, Bool.and_eq_true] at hp
    rw [openL, patternL]
    rcases (pattern_each pars t.size).1 t es mn (Nat.le_refl _) hk.1 hp.1 hS with ⟨mn1, es1, g1, g2, g3⟩ | ⟨g1, g2⟩
    · rw [g1, g2, Option.bind_some, Bool.true_and]
      exact open_pattern pars l es1 mn1 hk.2 hp.2 g3
    · rw [g1, g2]; rfl
theorem sameMany_nil : SameMany [] (List.replicate 60 (-1)) := by
  refine ⟨List.length_replicate, fun k hk => .inr ⟨rfl, ?_⟩⟩
  rw [List.getElem?_replicate, if_pos hk]
end Go.Proofs.YthkjmiejaoomcaaGreat.Am
/- The plain law of UnifyMatches: matching. -/
namespace Go.Proofs.YthkjmiejaoomcaaGreat.Am
open Go Go.RowKit Go.Proofs
set_option linter.unusedVariables false
set_option linter.unusedSimpArgs false

/-! ### how many arguments parameters have -/
mutual
def arityOk (pars : Int) (mn : List Int) : Term → Bool
  | ⟨k, n, _, l⟩ => if k == 3 && decide (n ≥ pars) then mn.getD n.toNat 0 == (l.length : Int) else arityOkL pars mn l
def arityOkL (pars : Int) (mn : List Int) : List Term → Bool
  | [] => true
  | t :: ts => arityOk pars mn t && arityOkL pars mn ts
end
theorem arityOk_eq (pars : Int) (mn : List Int) (t : Term) : arityOk pars mn t = if t.kind == 3 && decide (t.n ≥ pars) then mn.getD t.n.toNat 0 == (t.args.length : Int) else arityOkL pars mn t.args := by
  obtain ⟨k, n, s, l⟩ := t
  rw [arityOk]
def ExtM (mn mn' : List Int) : Prop := mn'.length = mn.length ∧ ∀ k : Nat, 0 ≤ mn.getD k 0 → mn'.getD k 0 = mn.getD k 0
theorem ExtM.refl (mn : List Int) : ExtM mn mn := ⟨rfl, fun _ _ => rfl⟩
theorem ExtM.trans {a b c : List Int} (h : ExtM a b) (k : ExtM b c) : ExtM a c :=
  ⟨k.1.trans h.1, fun j hj => by rw [k.2 j (by rw [h.2 j hj]; exact hj), h.2 j hj]⟩
theorem arity_ext (pars : Int) {mn mn' : List Int} (he : ExtM mn mn') : ∀ s, (∀ t : Term, t.size ≤ s → arityOk pars mn t = true → arityOk pars mn' t = true) ∧ (∀ l : List Term, sizes l ≤ s → arityOkL pars mn l = true → arityOkL pars mn' l = true) := by
  intro s
  induction s with
  | zero =>
    refine ⟨fun t ht => ?_, fun l hl _ => ?_⟩
    · obtain ⟨a, b, c, l⟩ := t; rw [Term.size] at ht; omega
    · cases l with
      | nil => rw [arityOkL]
      | cons t ts => obtain ⟨a, b, c, l⟩ := t; rw [sizes, Term.size] at hl; omega
  | succ s ih =>
    have hT : ∀ t : Term, t.size ≤ s + 1 → arityOk pars mn t = true → arityOk pars mn' t = true := by
      intro t ht h
      have hsz : sizes t.args ≤ s := by obtain ⟨a, b, c, l⟩ := t; rw [Term.size] at ht; simp only; omega
      rw [arityOk_eq] at h ⊢
      split
      · rename_i hv
        rw [if_pos hv] at h
        have e : mn.getD t.n.toNat 0 = (t.args.length : Int) := by simpa using h
        rw [he.2 _ (by rw [e]; omega)]
        exact h
      · rename_i hv
        rw [if_neg hv] at h
        exact ih.2 _ hsz h
    refine ⟨hT, fun l => ?_⟩
    induction l with
    | nil => intro _ _; rw [arityOkL]
    | cons t ts ihl =>
      intro hs h
      rw [sizes] at hs
      rw [arityOkL, Bool.and_eq_true] at h ⊢
      exact ⟨hT t (by omega) h.1, ihl (by omega) h.2⟩
theorem pattern_arity (pars : Int) : ∀ s, (∀ (t : Term) (mn mn' : List Int), t.size ≤ s → parOk t = true → mn.length = 60 → patternF pars t mn = some mn' → ExtM mn mn' ∧ arityOk pars mn' t = true) ∧
    (∀ (l : List Term) (mn mn' : List Int), sizes l ≤ s → parOkL l = true → mn.length = 60 → patternL pars l mn = some mn' → ExtM mn mn' ∧ arityOkL pars mn' l = true) := by
  intro s
  induction s with
  | zero =>
    refine ⟨fun t mn mn' ht => ?_, fun l mn mn' hl _ _ h => ?_⟩
    · obtain ⟨a, b, c, l⟩ := t; rw [Term.size] at ht; omega
    · cases l with
      | nil => rw [patternL] at h; injection h with h; subst h; exact ⟨ExtM.refl _, by rw [arityOkL]⟩
      | cons t ts => obtain ⟨a, b, c, l⟩ := t; rw [sizes, Term.size] at hl; omega
  | succ s ih =>
    have hT : ∀ (t : Term) (mn mn' : List Int), t.size ≤ s + 1 → parOk t = true → mn.length = 60 → patternF pars t mn = some mn' → ExtM mn mn' ∧ arityOk pars mn' t = true := by
      intro t mn mn' ht hp hlen h
      have hp' := parOk_parts t hp
      have hsz : sizes t.args ≤ s := by obtain ⟨a, b, c, l⟩ := t; rw [Term.size] at ht; simp only; omega
      rw [patternF_eq] at h
      rw [arityOk_eq]
      cases hv : (t.kind == 3 && decide (t.n ≥ pars))
      · rw [hv] at h
        simp only [Bool.false_eq_true, if_false] at h ⊢
        exact ih.2 _ _ _ hsz hp'.2 hlen h
      · rw [hv] at h
        simp only [if_true] at h ⊢
        rw [Bool.and_eq_true] at hv
        have hr := hp'.1 (by simpa using hv.1)
        obtain ⟨nn, hnn⟩ : ∃ nn : Nat, t.n = nn := ⟨t.n.toNat, (Int.toNat_of_nonneg hr.1).symm⟩
        rw [hnn, Int.toNat_natCast] at h ⊢
        by_cases hc : (decide (mn.getD nn 0 ≥ 0) && !(mn.getD nn 0 == (t.args.length : Int))) = true
        · rw [if_pos hc] at h; cases h
        · rw [if_neg hc] at h
          by_cases ha : argsGoR pars [] t.args = true
          · rw [if_pos ha] at h
            injection h with h
            subst h
            have hat : (mn.set nn (t.args.length : Int)).getD nn 0 = (t.args.length : Int) := by
              rw [List.getD_eq_getElem?_getD, List.getElem?_set, if_pos rfl, if_pos (by omega)]; rfl
            refine ⟨⟨List.length_set, fun k hk => ?_⟩, by rw [hat]; simp⟩
            by_cases e : nn = k
            · subst e
              rw [hat]
              have h1 : decide (mn.getD nn 0 ≥ 0) = true := by simpa using hk
              rw [h1, Bool.true_and] at hc
              simp at hc
              simpa using hc.symm
            · rw [List.getD_eq_getElem?_getD, List.getElem?_set, if_neg e, ← List.getD_eq_getElem?_getD]
          · rw [if_neg ha] at h; cases h
    refine ⟨hT, fun l => ?_⟩
    induction l with
    | nil => intro mn mn' _ _ _ h; rw [patternL] at h; injection h with h; subst h; exact ⟨ExtM.refl _, by rw [arityOkL]⟩
    | cons t ts ihl =>
      intro mn mn' hs hp hlen h
      rw [sizes] at hs
      rw [parOkL, Bool.and_eq_true] at hp
      rw [patternL] at h
      cases h1 : patternF pars t mn with
      | none => rw [h1] at h; cases h
      | some mn1 =>
        rw [h1, Option.bind_some] at h
        obtain ⟨e1, a1⟩ := hT t mn mn1 (by omega) hp.1 hlen h1
        obtain ⟨e2, a2⟩ := ihl mn1 mn' (by omega) hp.2 (by rw [e1.1]; exact hlen) h
        refine ⟨e1.trans e2, ?_⟩
        rw [arityOkL, (arity_ext pars e2 t.size).1 t (Nat.le_refl _) a1, a2]; rfl

/-! ### both kinds of bodies -/
theorem head_cases (k n : Int) (us : List Term) (d : Int) (hd : 0 ≤ d) {r c : Int × Int} (hr : wHead k n us d = some r) (hc : cHead k n us d = some c) :
    (∃ i : Int, 0 ≤ i ∧ i < us.length ∧ r = (-1, i) ∧ c = (2, d + us.length - 1 - i) ∧ inner k d = d) ∨ (r = (k, n) ∧ c = (k, n) ∧ ¬ (k = 2 ∧ n ≥ d)) := by
  have hrg : ∀ k n, -1 ≤ wIdx k n us ∧ (wIdx k n us ≥ 0 → wIdx k n us < us.length) := by
    intro k n
    have := indexF_range (fun a : Term => a.kind == k && a.n == n) us 0 (Int.le_refl _)
    unfold wIdx
    exact ⟨this.1, fun h => by have := this.2.2 h; omega⟩
  unfold wHead wVar wNum at hr
  unfold cHead cNew at hc
  by_cases k2 : k = 2
  · subst k2
    simp only [show ((2 : Int) == 3) = false from rfl, show ((2 : Int) == 2) = true from rfl, Bool.false_or, Bool.true_and, if_true, Bool.false_and, Bool.false_eq_true, if_false] at hr hc
    by_cases hn : n ≥ d
    · rw [decide_eq_true hn] at hr hc
      simp only [if_true] at hr hc
      have hg := hrg 2 (IntKind.i64.wrap (n - d))
      by_cases hi : wIdx 2 (IntKind.i64.wrap (n - d)) us ≥ 0
      · rw [if_pos (decide_eq_true hi)] at hr
        rw [if_neg (by first | (simp; done) | (simp; omega))] at hc
        injection hr with hr; injection hc with hc
        exact .inl ⟨_, hi, hg.2 hi, hr.symm, hc.symm, rfl⟩
      · rw [if_neg (by first | (simp; done) | (simp; omega))] at hr
        cases hr
    · rw [decide_eq_false hn] at hr hc
      simp only [Bool.false_eq_true, if_false] at hr hc
      injection hr with hr; injection hc with hc
      exact .inr ⟨hr.symm, hc.symm, fun h => hn h.2⟩
  · have e2 : (k == 2) = false := by simpa using k2
    rw [e2] at hr hc
    simp only [Bool.false_and, Bool.or_false, Bool.false_eq_true, if_false] at hr hc
    by_cases k3 : k = 3
    · subst k3
      simp only [show ((3 : Int) == 3) = true from rfl, Bool.true_and, if_true] at hr hc
      have hg := hrg 3 n
      by_cases hi : wIdx 3 n us ≥ 0
      · rw [if_pos (decide_eq_true hi)] at hr hc
        injection hr with hr; injection hc with hc
        exact .inl ⟨_, hi, hg.2 hi, hr.symm, hc.symm, rfl⟩
      · rw [if_neg (by first | (simp; done) | (simp; omega))] at hr hc
        injection hr with hr; injection hc with hc
        exact .inr ⟨hr.symm, hc.symm, fun h => by omega⟩
    · have e3 : (k == 3) = false := by simpa using k3
      rw [e3] at hr hc
      simp only [Bool.false_and, Bool.false_eq_true, if_false] at hr hc
      injection hr with hr; injection hc with hc
      exact .inr ⟨hr.symm, hc.symm, fun h => k2 h.1⟩
theorem head_none (k n : Int) (us : List Term) (d : Int) : wHead k n us d = none ↔ cHead k n us d = none := by
  unfold wHead wVar wNum cHead
  by_cases k2 : k = 2
  · subst k2
    simp only [show ((2 : Int) == 3) = false from rfl, show ((2 : Int) == 2) = true from rfl, Bool.false_or, Bool.true_and, if_true, Bool.false_and, Bool.false_eq_true, if_false]
    by_cases hn : n ≥ d
    · rw [decide_eq_true hn]
      simp only [if_true]
      by_cases hi : wIdx 2 (IntKind.i64.wrap (n - d)) us ≥ 0
      · rw [if_pos (decide_eq_true hi), if_neg (by first | (simp; done) | (simp; omega))]; simp
      · rw [if_neg (by first | (simp; done) | (simp; omega)), if_pos (by first | (simp; done) | (simp; omega))]
    · rw [decide_eq_false hn]; simp
  · have e2 : (k == 2) = false := by simpa using k2
    rw [e2]
    simp only [Bool.false_and, Bool.or_false, Bool.false_eq_true, if_false]
    cases (k == 3)
    · simp
    · cases decide (wIdx k n us ≥ 0) <;> simp
theorem both_none : ∀ s, (∀ (t : Term) (us : List Term) (d : Int), t.size ≤ s → (withinF t us d = none ↔ closedF t us d = none)) ∧ (∀ (l us : List Term) (d : Int), sizes l ≤ s → (withinL l us d = none ↔ closedL l us d = none)) := by
  intro s
  induction s with
  | zero =>
    refine ⟨fun t us d ht => ?_, fun l us d hl => ?_⟩
    · obtain ⟨a, b, c, l⟩ := t; rw [Term.size] at ht; omega
    · cases l with
      | nil => rw [withinL, closedL]
      | cons t ts => obtain ⟨a, b, c, l⟩ := t; rw [sizes, Term.size] at hl; omega
  | succ s ih =>
    have hT : ∀ (t : Term) (us : List Term) (d : Int), t.size ≤ s + 1 → (withinF t us d = none ↔ closedF t us d = none) := by
      intro t us d ht
      have hsz : sizes t.args ≤ s := by obtain ⟨a, b, c, l⟩ := t; rw [Term.size] at ht; simp only; omega
      rw [withinF_eq, closedF_eq]
      have h1 := head_none t.kind t.n us d
      have h2 := ih.2 t.args us (inner t.kind d) hsz
      cases hw : wHead t.kind t.n us d with
      | none => rw [h1.1 hw]; simp
      | some r =>
        cases hc : cHead t.kind t.n us d with
        | none => rw [h1.2 hc] at hw; cases hw
        | some c => simp only [Option.bind_some, Option.map_eq_none_iff]; exact h2
    refine ⟨hT, fun l => ?_⟩
    induction l with
    | nil => intro us d _; rw [withinL, closedL]
    | cons t ts ihl =>
      intro us d hs
      rw [sizes] at hs
      have h1 := hT t us d (by omega)
      have h2 := ihl us d (by omega)
      rw [withinL, closedL]
      cases hw : withinF t us d with
      | none => rw [h1.1 hw]; simp
      | some r =>
        cases hc : closedF t us d with
        | none => rw [h1.2 hc] at hw; cases hw
        | some c => simp only [Option.bind_some, Option.map_eq_none_iff]; exact h2
theorem lens : ∀ (l us : List Term) (d : Int), (∀ w, withinL l us d = some w → w.length = l.length) ∧ (∀ c, closedL l us d = some c → c.length = l.length)
  | [], us, d => by
    refine ⟨fun w h => ?_, fun c h => ?_⟩
    · rw [withinL] at h; injection h with h; subst h; rfl
    · rw [closedL] at h; injection h with h; subst h; rfl
  | t :: l, us, d => by
    have ih := lens l us d
    refine ⟨fun w h => ?_, fun c h => ?_⟩
    · rw [withinL] at h
      cases h1 : withinF t us d with
      | none => rw [h1] at h; cases h
      | some t' =>
        rw [h1, Option.bind_some] at h
        cases h2 : withinL l us d with
        | none => rw [h2] at h; cases h
        | some l' => rw [h2, Option.map_some] at h; injection h with h; subst h; simp [ih.1 l' h2]
    · rw [closedL] at h
      cases h1 : closedF t us d with
      | none => rw [h1] at h; cases h
      | some t' =>
        rw [h1, Option.bind_some] at h
        cases h2 : closedL l us d with
        | none => rw [h2] at h; cases h
        | some l' => rw [h2, Option.map_some] at h; injection h with h; subst h; simp [ih.2 l' h2]
theorem corr : ∀ s, (∀ (t t' : Term) (us us' : List Term) (d : Int) (w w' c c' : Term), t.size ≤ s → kOk t = true → kOk t' = true → us.length = us'.length → 0 ≤ d → withinF t us d = some w → withinF t' us' d = some w' → closedF t us d = some c → closedF t' us' d = some c' → sameF w w' = sameF c c') ∧
    (∀ (l l' us us' : List Term) (d : Int) (w w' c c' : List Term), sizes l ≤ s → kOkL l = true → kOkL l' = true → us.length = us'.length → 0 ≤ d → withinL l us d = some w → withinL l' us' d = some w' → closedL l us d = some c → closedL l' us' d = some c' → sameL w w' = sameL c c') := by
  intro s
  induction s with
  | zero =>
    refine ⟨fun t t' us us' d w w' c c' ht => ?_, fun l l' us us' d w w' c c' hl _ _ _ _ h1 _ h3 _ => ?_⟩
    · obtain ⟨a, b, c, l⟩ := t; rw [Term.size] at ht; omega
    · cases l with
      | nil => rw [withinL] at h1; rw [closedL] at h3; injection h1 with h1; injection h3 with h3; subst h1; subst h3; rw [sameL, sameL]
      | cons t ts => obtain ⟨a, b, c, l⟩ := t; rw [sizes, Term.size] at hl; omega
  | succ s ih =>
    have hT : ∀ (t t' : Term) (us us' : List Term) (d : Int) (w w' c c' : Term), t.size ≤ s + 1 → kOk t = true → kOk t' = true → us.length = us'.length → 0 ≤ d → withinF t us d = some w → withinF t' us' d = some w' → closedF t us d = some c → closedF t' us' d = some c' → sameF w w' = sameF c c' := by
      intro t t' us us' d w w' c c' ht hk hk' hlen hd h1 h2 h3 h4
      have hsz : sizes t.args ≤ s := by obtain ⟨a, b, c, l⟩ := t; rw [Term.size] at ht; simp only; omega
      have kp := kOk_parts t hk
      have kp' := kOk_parts t' hk'
      rw [withinF_eq] at h1 h2
      rw [closedF_eq] at h3 h4
      cases hr : wHead t.kind t.n us d with
      | none => rw [hr] at h1; cases h1
      | some r =>
      cases hr' : wHead t'.kind t'.n us' d with
      | none => rw [hr'] at h2; cases h2
      | some r' =>
      cases hc : cHead t.kind t.n us d with
      | none => rw [hc] at h3; cases h3
      | some q =>
      cases hc' : cHead t'.kind t'.n us' d with
      | none => rw [hc'] at h4; cases h4
      | some q' =>
      rw [hr, Option.bind_some] at h1
      rw [hr', Option.bind_some] at h2
      rw [hc, Option.bind_some] at h3
      rw [hc', Option.bind_some] at h4
      cases l1 : withinL t.args us (inner t.kind d) with
      | none => rw [l1] at h1; cases h1
      | some wl =>
      cases l2 : withinL t'.args us' (inner t'.kind d) with
      | none => rw [l2] at h2; cases h2
      | some wl' =>
      cases l3 : closedL t.args us (inner t.kind d) with
      | none => rw [l3] at h3; cases h3
      | some cl =>
      cases l4 : closedL t'.args us' (inner t'.kind d) with
      | none => rw [l4] at h4; cases h4
      | some cl' =>
      rw [l1, Option.map_some] at h1
      rw [l2, Option.map_some] at h2
      rw [l3, Option.map_some] at h3
      rw [l4, Option.map_some] at h4
      injection h1 with h1; injection h2 with h2; injection h3 with h3; injection h4 with h4
      subst h1; subst h2; subst h3; subst h4
      have n1 := (lens _ _ _).1 _ l1
      have n2 := (lens _ _ _).1 _ l2
      have n3 := (lens _ _ _).2 _ l3
      have n4 := (lens _ _ _).2 _ l4
      have hin : 0 ≤ inner t.kind d := by unfold inner; split <;> omega
      rw [sameF_eq, sameF_eq]
      simp only [n1, n2, n3, n4]
      -- the heads
      have heads : ((r.1 == r'.1) && (r.2 == r'.2)) = ((q.1 == q'.1) && (q.2 == q'.2)) ∧ (((r.1 == r'.1) && (r.2 == r'.2)) = true → inner t.kind d = inner t'.kind d) := by
        rcases head_cases _ _ _ _ hd hr hc with ⟨i, i1, i2, rfl, rfl, i3⟩ | ⟨rfl, rfl, i3⟩
        · rcases head_cases _ _ _ _ hd hr' hc' with ⟨j, j1, j2, rfl, rfl, j3⟩ | ⟨rfl, rfl, j3⟩
          · refine ⟨?_, fun _ => by rw [i3, j3]⟩
            rw [Bool.eq_iff_iff]
            simp
            omega
          · have e1 : ((-1 : Int) == t'.kind) = false := by simp; omega
            have e2 : ((2 : Int) == t'.kind && (d + (us.length : Int) - 1 - i) == t'.n) = false := by
              rw [Bool.eq_false_iff]
              simp
              intro h
              have := kp'.1
              intro h5
              exact j3 ⟨h.symm, by omega⟩
            refine ⟨by simp only [e1, Bool.false_and]; exact e2.symm, fun h => by simp only [e1, Bool.false_and] at h; cases h⟩
        · rcases head_cases _ _ _ _ hd hr' hc' with ⟨j, j1, j2, rfl, rfl, j3⟩ | ⟨rfl, rfl, j3⟩
          · have e1 : (t.kind == (-1 : Int)) = false := by have := kp.1; simp; omega
            have e2 : (t.kind == (2 : Int) && t.n == (d + (us'.length : Int) - 1 - j)) = false := by
              rw [Bool.eq_false_iff]
              simp
              intro h h5
              exact i3 ⟨h, by omega⟩
            refine ⟨by simp only [e1, Bool.false_and]; exact e2.symm, fun h => by simp only [e1, Bool.false_and] at h; cases h⟩
          · refine ⟨rfl, fun h => ?_⟩
            rw [Bool.and_eq_true] at h
            have : t.kind = t'.kind := by simpa using h.1
            rw [this]
      rw [← Bool.and_assoc (r.1 == r'.1), ← Bool.and_assoc (q.1 == q'.1), heads.1]
      cases hq : ((q.1 == q'.1) && (q.2 == q'.2))
      · rfl
      · have hi := heads.2 (by rw [heads.1]; exact hq)
        rw [hi] at l1 l3 hin
        rw [ih.2 t.args t'.args us us' _ wl wl' cl cl' hsz kp.2.2 kp'.2.2 hlen hin l1 l2 l3 l4]
    refine ⟨hT, fun l => ?_⟩
    induction l with
    | nil =>
      intro l' us us' d w w' c c' _ _ _ _ _ h1 _ h3 _
      rw [withinL] at h1; rw [closedL] at h3; injection h1 with h1; injection h3 with h3; subst h1; subst h3; rw [sameL, sameL]
    | cons t ts ihl =>
      intro l' us us' d w w' c c' hs hk hk' hlen hd h1 h2 h3 h4
      rw [sizes] at hs
      rw [kOkL, Bool.and_eq_true] at hk
      rw [withinL] at h1
      rw [closedL] at h3
      cases e1 : withinF t us d with
      | none => rw [e1] at h1; cases h1
      | some w1 =>
      cases e2 : withinL ts us d with
      | none => rw [e1, e2] at h1; cases h1
      | some ws =>
      cases e3 : closedF t us d with
      | none => rw [e3] at h3; cases h3
      | some c1 =>
      cases e4 : closedL ts us d with
      | none => rw [e3, e4] at h3; cases h3
      | some cs =>
      rw [e1, e2, Option.bind_some, Option.map_some] at h1
      rw [e3, e4, Option.bind_some, Option.map_some] at h3
      injection h1 with h1; injection h3 with h3
      subst h1; subst h3
      cases l' with
      | nil =>
        rw [withinL] at h2; rw [closedL] at h4; injection h2 with h2; injection h4 with h4; subst h2; subst h4; rw [sameL, sameL]
      | cons t' ts' =>
        rw [kOkL, Bool.and_eq_true] at hk'
        rw [withinL] at h2
        rw [closedL] at h4
        cases g1 : withinF t' us' d with
        | none => rw [g1] at h2; cases h2
        | some w1' =>
        cases g2 : withinL ts' us' d with
        | none => rw [g1, g2] at h2; cases h2
        | some ws' =>
        cases g3 : closedF t' us' d with
        | none => rw [g3] at h4; cases h4
        | some c1' =>
        cases g4 : closedL ts' us' d with
        | none => rw [g3, g4] at h4; cases h4
        | some cs' =>
        rw [g1, g2, Option.bind_some, Option.map_some] at h2
        rw [g3, g4, Option.bind_some, Option.map_some] at h4
        injection h2 with h2; injection h4 with h4
        subst h2; subst h4
        rw [sameL, sameL, hT t t' us us' d w1 w1' c1 c1' (by omega) hk.1 hk'.1 hlen hd e1 g1 e3 g3, ihl ts' us us' d ws ws' cs cs' (by omega) hk.2 hk'.2 hlen hd e2 g2 e4 g4]
end Go.Proofs.YthkjmiejaoomcaaGreat.Am
/- The plain law of UnifyMatches: both answers are the same. -/
namespace Go.Proofs.YthkjmiejaoomcaaGreat.Am
open Go Go.RowKit Go.Proofs
set_option linter.unusedVariables false
set_option linter.unusedSimpArgs false

/-- Both matchers tell the same of what parameters stand for. -/
def SameSt (mn : List Int) (es : MSt) (st : RSt) : Prop := st.length = 60 ∧ ∀ k : Nat, k < 60 →
  (∃ (w c b : Term) (us : List Term), mget (k : Int) es = some w ∧ st[k]? = some (some c) ∧ kOk b = true ∧ (us.length : Int) = mn.getD k 0 ∧ withinF b us 0 = some w ∧ closedF b us 0 = some c) ∨ (mget (k : Int) es = none ∧ st[k]? = some none)
theorem match_both (pars : Int) (mn : List Int) : ∀ s, (∀ (a b : Term) (es : MSt) (st : RSt), a.size ≤ s → parOk a = true → arityOk pars mn a = true → kOk b = true → SameSt mn es st →
      (∃ es' st', matchF pars a b es = (true, es') ∧ matchR pars a b st = some st' ∧ SameSt mn es' st') ∨ ((matchF pars a b es).1 = false ∧ matchR pars a b st = none)) ∧
    (∀ (l m : List Term) (es : MSt) (st : RSt), sizes l ≤ s → parOkL l = true → arityOkL pars mn l = true → kOkL m = true → SameSt mn es st →
      (∃ es' st', matchL pars l m es = (true, es') ∧ matchRL pars l m st = some st' ∧ SameSt mn es' st') ∨ ((matchL pars l m es).1 = false ∧ matchRL pars l m st = none)) := by
  intro s
  induction s with
  | zero =>
    refine ⟨fun a b es st ht => ?_, fun l m es st hl _ _ _ hS => ?_⟩
    · obtain ⟨a, b, c, l⟩ := a; rw [Term.size] at ht; omega
    · cases l with
      | nil => exact .inl ⟨es, st, by rw [matchL], by rw [matchRL], hS⟩
      | cons t ts => obtain ⟨a, b, c, l⟩ := t; rw [sizes, Term.size] at hl; omega
  | succ s ih =>
    have hT : ∀ (a b : Term) (es : MSt) (st : RSt), a.size ≤ s + 1 → parOk a = true → arityOk pars mn a = true → kOk b = true → SameSt mn es st →
      (∃ es' st', matchF pars a b es = (true, es') ∧ matchR pars a b st = some st' ∧ SameSt mn es' st') ∨ ((matchF pars a b es).1 = false ∧ matchR pars a b st = none) := by
      intro a b es st ht hp ha hk hS
      have hsz : sizes a.args ≤ s := by obtain ⟨k, n, c, l⟩ := a; rw [Term.size] at ht; simp only; omega
      have hp' := parOk_parts a hp
      have hk' := kOk_parts b hk
      rw [matchF_eq, matchR_eq]
      rw [arityOk_eq] at ha
      cases hv : (a.kind == 3 && decide (a.n ≥ pars))
      · rw [hv] at ha
        simp only [Bool.false_eq_true, if_false] at ha ⊢
        cases h1 : (a.kind == b.kind && (a.n == b.n && a.name.toList == b.name.toList))
        · right
          refine ⟨by simp only [Bool.false_eq_true, if_false], ?_⟩
          rw [if_neg]
          intro h
          simp only [Bool.and_eq_true] at h
          have : (a.kind == b.kind && (a.n == b.n && a.name.toList == b.name.toList)) = true := by
            simp only [Bool.and_eq_true]; exact ⟨h.1, h.2.1, h.2.2.1⟩
          rw [h1] at this; cases this
        · have h2 : (a.kind == b.kind && (a.n == b.n && (a.name.toList == b.name.toList && (a.args.length : Int) == b.args.length))) = ((a.args.length : Int) == b.args.length) := by
            simp only [Bool.and_eq_true] at h1
            rw [h1.1, h1.2.1, h1.2.2]; rfl
          rw [h2]
          simp only [if_true]
          cases hl : ((a.args.length : Int) == b.args.length)
          · right
            simp only [Bool.false_eq_true, if_false, and_self]
          · simp only [if_true]
            exact ih.2 a.args b.args es st hsz hp'.2 ha hk'.2.2 hS
      · rw [hv] at ha
        simp only [if_true] at ha ⊢
        rw [Bool.and_eq_true] at hv
        have hr := hp'.1 (by simpa using hv.1)
        obtain ⟨nn, hnn⟩ : ∃ nn : Nat, a.n = nn := ⟨a.n.toNat, (Int.toNat_of_nonneg hr.1).symm⟩
        have hn60 : nn < 60 := by omega
        rw [hnn, Int.toNat_natCast] at ha
        have har : mn.getD nn 0 = (a.args.length : Int) := by simpa using ha
        cases h5 : (b.kind == 5)
        case true => right; simp only [if_true, and_self]
        simp only [Bool.false_eq_true, if_false]
        have hbn := (both_none b.size).1 b a.args 0 (Nat.le_refl _)
        cases hw : withinF b a.args 0 with
        | none => right; rw [hbn.1 hw]; exact ⟨rfl, rfl⟩
        | some t =>
          cases hc : closedF b a.args 0 with
          | none => rw [hbn.2 hc] at hw; cases hw
          | some q =>
            simp only
            have hget : st.getD a.n.toNat none = (st[nn]?).getD none := by rw [hnn, Int.toNat_natCast, List.getD_eq_getElem?_getD]
            rw [hget, hnn]
            rcases hS.2 nn hn60 with ⟨w, c, b0, us, g1, g2, g3, g4, g5, g6⟩ | ⟨g1, g2⟩
            · rw [g1, g2]
              simp only [Option.getD_some]
              have hlen : us.length = a.args.length := by rw [har] at g4; omega
              have hsame := (corr b0.size).1 b0 b us a.args 0 w t c q (Nat.le_refl _) g3 hk hlen (Int.le_refl _) g5 hw g6 hc
              rw [hsame]
              cases hq : sameF c q
              · right; exact ⟨rfl, by simp only [Bool.false_eq_true, if_false]⟩
              · left; exact ⟨es, st, rfl, by simp only [if_true], hS⟩
            · rw [g1, g2]
              simp only [Option.getD_some, Int.toNat_natCast]
              left
              refine ⟨_, _, rfl, rfl, by rw [List.length_set]; exact hS.1, fun k hk60 => ?_⟩
              rw [mget_append, List.getElem?_set]
              by_cases e : nn = k
              · subst e
                left
                refine ⟨t, q, b, a.args, by rw [g1]; simp, ?_, hk, har.symm, hw, hc⟩
                rw [if_pos rfl, if_pos (by rw [hS.1]; exact hn60)]
              · rw [if_neg e]
                rcases hS.2 k hk60 with ⟨w, c, b0, us, g1', g2', rest⟩ | ⟨g1', g2'⟩
                · exact .inl ⟨w, c, b0, us, by rw [g1'], g2', rest⟩
                · right
                  refine ⟨?_, g2'⟩
                  rw [g1']
                  have : ((k : Int) == (nn : Int)) = false := by simp; omega
                  simp only [this, Bool.false_eq_true, if_false]
    refine ⟨hT, fun l => ?_⟩
    induction l with
    | nil => intro m es st _ _ _ _ hS; exact .inl ⟨es, st, by rw [matchL], by rw [matchRL], hS⟩
    | cons t ts ihl =>
      intro m es st hs hp ha hk hS
      rw [sizes] at hs
      rw [parOkL, Bool.and_eq_true] at hp
      rw [arityOkL, Bool.and_eq_true] at ha
      cases m with
      | nil => exact .inl ⟨es, st, by rw [matchL], by rw [matchRL], hS⟩
      | cons v m =>
        rw [kOkL, Bool.and_eq_true] at hk
        rw [matchL, matchRL]
        rcases hT t v es st (by omega) hp.1 ha.1 hk.1 hS with ⟨es1, st1, g1, g2, g3⟩ | ⟨g1, g2⟩
        · rw [g1, g2, Option.bind_some]
          simp only [if_true]
          exact ihl m es1 st1 (by omega) hp.2 ha.2 hk.2 g3
        · right
          rw [g2, if_neg (by rw [g1]; decide)]
          exact ⟨rfl, rfl⟩
theorem sameSt_nil (mn : List Int) : SameSt mn [] (List.replicate 60 none) := by
  refine ⟨List.length_replicate, fun k hk => .inr ⟨rfl, ?_⟩⟩
  rw [List.getElem?_replicate, if_pos hk]
theorem all_ok : ∀ l : List Term, (∀ t ∈ l, fits0F t 0 = true) → parOkL l = true ∧ kOkL l = true
  | [], _ => ⟨by rw [parOkL], by rw [kOkL]⟩
  | t :: l, h => by
    have ih := all_ok l fun u hu => h u (List.mem_cons_of_mem _ hu)
    have ht := h t List.mem_cons_self
    rw [parOkL, kOkL, (fits_parOk t.size).1 t 0 (Nat.le_refl _) ht, (fits_kOk t.size).1 t 0 (Nat.le_refl _) ht, ih.1, ih.2]
    exact ⟨rfl, rfl⟩
theorem inst_same (pars : Int) (l m : List Term) : instF pars l m = instR pars l m := by
  unfold instF instR
  cases hb : badF pars l m
  case true => rfl
  simp only [Bool.false_eq_true, if_false]
  rw [fitErrs_app, ← fitErrs_same l, ← fitErrs_same m]
  cases h1 : (fitErrs l == 0)
  · simp only [Bool.false_eq_true, if_false, h1, Bool.not_false, if_true]
  simp only [if_true, Bool.not_true, Bool.false_eq_true, if_false]
  cases h2 : (fitErrs m == 0)
  · simp only [Bool.not_false, if_true]
  simp only [Bool.not_true, Bool.false_eq_true, if_false]
  have hl := all_ok l fun t ht => (fitErrs_small l (by simpa using h1) t ht).2
  have hm := all_ok m fun t ht => (fitErrs_small m (by simpa using h2) t ht).2
  rw [open_pattern pars l [] (List.replicate 60 (-1)) hl.2 hl.1 sameMany_nil]
  cases hp : patternL pars l (List.replicate 60 (-1)) with
  | none => rfl
  | some mn =>
    have har := ((pattern_arity pars (sizes l)).2 l _ mn (Nat.le_refl _) hl.1 List.length_replicate hp).2
    simp only [Option.isSome_some, Bool.not_true, Bool.false_eq_true, if_false]
    rcases (match_both pars mn (sizes l)).2 l m [] (List.replicate 60 none) (Nat.le_refl _) hl.1 har hm.2 (sameSt_nil mn) with ⟨es, st, g1, g2, _⟩ | ⟨g1, g2⟩
    · rw [g1, g2]
    · rw [g1, g2]
end Go.Proofs.YthkjmiejaoomcaaGreat.Am
