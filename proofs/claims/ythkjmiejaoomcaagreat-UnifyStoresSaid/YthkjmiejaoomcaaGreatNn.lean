/- Part of the proof of a law of layer 5: own texts, joined. -/
import Derived.Test.YthkjmiejaoomcaaGreatNh
import Derived.Test.YthkjmiejaoomcaaGreatNl
import Derived.Test.YthkjmiejaoomcaaGreatNm
set_option linter.unusedVariables false
set_option linter.unusedSimpArgs false
set_option linter.unnecessarySimpa false
/- Check of stores: what both sides ask of a value is the same. -/
namespace Go.Proofs.YthkjmiejaoomcaaGreat.Am
open Go Go.RowKit Go.Proofs
set_option linter.unusedVariables false
set_option linter.unusedSimpArgs false

/-- Are the values too large, with so much left? -/
def longF : List Va → Int → Bool
  | [], _ => false
  | v :: vs, left => if v.is then (if decide ((v.t.size : Int) > left) then true else longF vs (left - v.t.size)) else longF vs left
def checkF (vs : List Va) : Int := if (vs.length : Int) > 2000 then 2 else if longF vs 4000 then 2 else if vs.all (validF vs) then (if circlesF vs then 50 else 0) else 50
theorem long_small : ∀ (vs : List Va) (left : Int), longF vs left = false → ∀ v ∈ vs, v.is = true → (v.t.size : Int) ≤ left
  | [], left, _, v, hv, _ => absurd hv List.not_mem_nil
  | w :: vs, left, h, v, hv, hi => by
    rw [longF] at h
    cases hw : w.is
    · rw [hw] at h
      rcases List.mem_cons.1 hv with rfl | hv
      · rw [hw] at hi; cases hi
      · exact long_small vs left (by simpa using h) v hv hi
    · rw [hw] at h
      simp only [if_true] at h
      cases hd : decide ((w.t.size : Int) > left)
      · rw [hd] at h
        simp only [Bool.false_eq_true, if_false] at h
        rcases List.mem_cons.1 hv with rfl | hv
        · simpa using hd
        · have := long_small vs _ h v hv hi; omega
      · rw [hd] at h; cases h
theorem body_ref : ∀ (n : Nat) (t : Term), (bodyF n t).2 = ((bodyOut (refBodyF n t)).2 && lamsF n t)
  | 0, t => by rw [bodyF, refBodyF, bodyOut, lamsF, Bool.and_true]
  | n + 1, t => by
    rw [bodyF, refBodyF, lamsF]
    have ih := body_ref n (t.args.headD noTerm)
    have e : noLam t = (t.kind != 5 || (t.n != 0 || (!(t.name.toList == noNameS.toList) || (t.args.length : Int) != 1))) := rfl
    rw [← e]
    cases hn : noLam t
    · have h1 : isLam1 t = true := by
        rw [e] at hn
        simp only [Bool.or_eq_false_iff, bne, Bool.not_eq_false'] at hn
        unfold isLam1; rw [hn.1, hn.2.2.2]; rfl
      rw [h1]
      simp only [Bool.false_eq_true, if_false, if_true, Bool.not_false, Bool.true_and]
      exact ih
    · simp
theorem body_same : ∀ (n : Nat) (t : Term), lamsF n t = true → bodyOut (refBodyF n t) = bodyF n t
  | 0, t, _ => rfl
  | n + 1, t, h => by
    rw [lamsF, Bool.and_eq_true] at h
    have e : noLam t = (t.kind != 5 || (t.n != 0 || (!(t.name.toList == noNameS.toList) || (t.args.length : Int) != 1))) := rfl
    rw [← e, Bool.not_eq_true'] at h
    have hn := h.1
    have h1 : isLam1 t = true := by
      rw [e] at hn
      simp only [Bool.or_eq_false_iff, bne, Bool.not_eq_false'] at hn
      unfold isLam1; rw [hn.1, hn.2.2.2]; rfl
    rw [refBodyF, bodyF, h1, hn]
    simp only [Bool.false_eq_true, if_false, if_true]
    exact body_same n _ h.2
theorem body_dep : ∀ (n : Nat) (t : Term), (bodyF n t).2 = true → dep t = dep (bodyF n t).1 + n
  | 0, t, _ => by rw [bodyF]; simp
  | n + 1, t, h => by
    rw [bodyF] at h ⊢
    cases hn : noLam t
    · rw [hn] at h
      simp only [Bool.false_eq_true, if_false] at h ⊢
      obtain ⟨u, hu⟩ := noLam_one hn
      rw [hu] at h ⊢
      simp only [List.headD_cons] at h ⊢
      have := body_dep n u h
      obtain ⟨a, b, c, l⟩ := t
      simp only at hu
      subst hu
      have h1 := (dep_pos u.size).1 u (Nat.le_refl _)
      rw [dep, depL, depL]; omega
    · rw [hn] at h; simp at h
theorem body_size : ∀ (n : Nat) (t : Term), (bodyF n t).1.size ≤ t.size
  | 0, t => by rw [bodyF]; exact Nat.le_refl _
  | n + 1, t => by
    rw [bodyF]
    split
    · exact Nat.le_refl _
    · rename_i hn
      obtain ⟨u, hu⟩ := noLam_one (by simpa using hn)
      rw [hu]
      simp only [List.headD_cons]
      have h1 := body_size n u
      have h2 := size_arg t 0 (t := u) (by rw [hu]; rfl)
      omega
/-- What the reference asks of a value. -/
def refInF (vs : List Va) (v : Va) : Bool :=
  !decide (deepF v.t 108 > 108) && ((bodyOut (refBodyF (arityF v.type) v.t)).2 && (!decide (deepF (bodyOut (refBodyF (arityF v.type) v.t)).1 100 > 100) && (lamsF (arityF v.type) v.t && (fitsF vs (bodyOut (refBodyF (arityF v.type) v.t)).1 (arityF v.type) && seesF vs v.level (bodyOut (refBodyF (arityF v.type) v.t)).1))))
theorem in_same (vs : List Va) (v : Va) (hs : v.t.size ≤ 4000) : refInF vs v = inF vs v.level (arityF v.type) (bodyF (arityF v.type) v.t) := by
  unfold refInF inF
  cases hl : lamsF (arityF v.type) v.t
  · have := body_ref (arityF v.type) v.t
    rw [hl, Bool.and_false] at this
    rw [this]; simp
  · rw [body_same _ _ hl]
    cases hb : (bodyF (arityF v.type) v.t).2
    · simp
    · have hd := body_dep _ _ hb
      have hz := body_size (arityF v.type) v.t
      have h8 := args_len v.type
      generalize (bodyF (arityF v.type) v.t).1 = b at *
      have h1 := (deep_dep v.t.size).1 v.t 108 (Nat.le_refl _)
      have h2 := (deep_dep b.size).1 b 100 (Nat.le_refl _)
      have h3 := (levels_dep b.size).1 b 100 (Nat.le_refl _)
      rw [if_neg (by omega)] at h1 h2
      have hp : ¬ partsF b 4000 > 4000 := by rw [parts_big]; omega
      have hsz : (sizedF b == 0) = !decide (deepF b 100 > 100) := by
        unfold sizedF
        rw [if_neg hp]
        by_cases h : deepF b 100 > 100
        · rw [if_pos (by omega), decide_eq_true h]; rfl
        · rw [if_neg (by omega), decide_eq_false h]; rfl
      rw [hsz]
      by_cases h : deepF b 100 > 100
      · rw [decide_eq_true h]; simp
      · rw [decide_eq_false h, decide_eq_false (by omega : ¬ deepF v.t 108 > 108)]; simp
end Go.Proofs.YthkjmiejaoomcaaGreat.Am
/- What a store has whose values are valid. -/
namespace Go.Proofs.YthkjmiejaoomcaaGreat.Am
open Go Go.RowKit Go.Proofs
set_option linter.unusedVariables false
set_option linter.unusedSimpArgs false

theorem simple_parts {u : Term} (h : isSimpleF u = true) : (u.kind == 4) = false ∧ u.args = [] := by
  unfold isSimpleF at h
  simp only [Bool.and_eq_true, Bool.or_eq_true, beq_iff_eq] at h
  refine ⟨?_, List.eq_nil_of_length_eq_zero (by omega)⟩
  rcases h.1 with e | e <;> rw [e] <;> rfl
theorem argsGoV_simple (lv : Int) : ∀ (us pre : List Term), argsGoV lv pre us = true → ∀ u ∈ us, isSimpleF u = true
  | [], pre, _, u, hu => absurd hu List.not_mem_nil
  | v :: us, pre, h, u, hu => by
    rw [argsGoV, Bool.and_eq_true] at h
    rcases List.mem_cons.1 hu with rfl | hu
    · have := h.1; unfold patElem at this
      rw [Bool.and_eq_true] at this
      exact this.1
    · exact argsGoV_simple lv us _ h.2 u hu
theorem simples_plain : ∀ us : List Term, (∀ u ∈ us, isSimpleF u = true) → directL us = [] ∧ plainVL us = true
  | [], _ => ⟨by rw [directL], by rw [plainVL]⟩
  | u :: us, h => by
    have h1 := simple_parts (h u (List.mem_cons_self ..))
    have h2 := simples_plain us (fun v hv => h v (List.mem_cons_of_mem _ hv))
    obtain ⟨k, n, s, l⟩ := u
    simp only at h1
    rw [directL, plainVL, directF, plainV, h1.2, h1.1, directL, plainVL, h2.1, h2.2]
    exact ⟨rfl, rfl⟩
mutual
theorem fits_plain (vs : List Va) : ∀ (t : Term) (d : Int), fitsF vs t d = true → plainV t = true
  | ⟨k, n, s, l⟩, d, h => by
    rw [fitsF, Bool.and_eq_true] at h
    rw [plainV]
    cases hk : (k == 4)
    · simp only [Bool.false_eq_true, if_false]
      exact fitsL_plain vs l _ h.2
    · simp only [if_true]
      have h1 := h.1
      have e : k = 4 := by simpa using hk
      subst e
      simp only [headFitsS, headTestS, Bool.and_eq_true] at h1
      have h2 : isPatternF (valAt vs n) l = true := by
        have := h1.2.2.2
        simp at this
        exact this.2.2
      unfold isPatternF at h2
      rw [Bool.and_eq_true] at h2
      have h3 := simples_plain l (argsGoV_simple _ l [] h2.2)
      rw [h3.1, h3.2]; rfl
theorem fitsL_plain (vs : List Va) : ∀ (l : List Term) (d : Int), fitsL vs l d = true → plainVL l = true
  | [], d, _ => by rw [plainVL]
  | t :: l, d, h => by
    rw [fitsL, Bool.and_eq_true] at h
    rw [plainVL, fits_plain vs t d h.1, fitsL_plain vs l d h.2]; rfl
end
mutual
theorem vars_direct (m : Nat) : ∀ t : Term, varsIn m t = true → ∀ k ∈ directF t, 0 ≤ k ∧ k < (m : Int)
  | ⟨k, n, s, l⟩, h => by
    rw [varsIn, Bool.and_eq_true] at h
    rw [directF]
    cases hk : (k == 4)
    · simp only [Bool.false_eq_true, if_false]
      exact vars_directL m l h.2
    · simp only [if_true]
      intro j hj
      rw [List.mem_singleton] at hj
      subst hj
      have h1 := h.1
      rw [hk] at h1
      simpa using h1
theorem vars_directL (m : Nat) : ∀ l : List Term, varsInL m l = true → ∀ k ∈ directL l, 0 ≤ k ∧ k < (m : Int)
  | [], _ => by rw [directL]; intro k hk; exact absurd hk List.not_mem_nil
  | t :: l, h => by
    rw [varsInL, Bool.and_eq_true] at h
    rw [directL]
    intro k hk
    rcases List.mem_append.1 hk with hk | hk
    · exact vars_direct m t h.1 k hk
    · exact vars_directL m l h.2 k hk
end
theorem noLam_kind {t : Term} (h : noLam t = false) : (t.kind == 4) = false := by
  unfold noLam at h
  rw [Bool.or_eq_false_iff] at h
  have h1 := h.1
  cases h4 : (t.kind == 4)
  · rfl
  · have e : t.kind = 4 := by simpa using h4
    rw [e] at h1; simp at h1
theorem body_plain : ∀ (n : Nat) (t : Term), (bodyF n t).2 = true → plainV (bodyF n t).1 = true → plainV t = true
  | 0, t, _, hp => by rw [bodyF] at hp; exact hp
  | n + 1, t, h, hp => by
    rw [bodyF] at h hp
    cases hn : noLam t
    · rw [hn] at h hp
      simp only [Bool.false_eq_true, if_false] at h hp
      obtain ⟨u, hu⟩ := noLam_one hn
      have hk := noLam_kind hn
      rw [hu] at h hp
      simp only [List.headD_cons] at h hp
      have := body_plain n u h hp
      obtain ⟨a, b, c, l⟩ := t
      simp only at hu hk
      subst hu
      rw [plainV, hk, plainVL, plainVL, this]; rfl
    · rw [hn] at h; simp at h
theorem body_vars (m : Nat) : ∀ (n : Nat) (t : Term), (bodyF n t).2 = true → varsIn m (bodyF n t).1 = true → varsIn m t = true
  | 0, t, _, hp => by rw [bodyF] at hp; exact hp
  | n + 1, t, h, hp => by
    rw [bodyF] at h hp
    cases hn : noLam t
    · rw [hn] at h hp
      simp only [Bool.false_eq_true, if_false] at h hp
      obtain ⟨u, hu⟩ := noLam_one hn
      have hk := noLam_kind hn
      rw [hu] at h hp
      simp only [List.headD_cons] at h hp
      have := body_vars m n u h hp
      obtain ⟨a, b, c, l⟩ := t
      simp only at hu hk
      subst hu
      rw [varsIn, hk, varsInL, varsInL, this]; rfl
    · rw [hn] at h; simp at h
theorem valAt_mem {vs : List Va} {n : Int} (hi : (valAt vs n).is = true) : valAt vs n ∈ vs := by
  unfold valAt at hi ⊢
  rw [List.getD_eq_getElem?_getD] at hi ⊢
  cases h : vs[n.toNat]? with
  | none => rw [h] at hi; cases hi
  | some v => exact List.mem_of_getElem? h
/-- What Check has found out where it comes to circles. -/
structure GoodVals (vs : List Va) : Prop where
  plain : PlainVals vs
  sizes : Sizes vs
  vals : ValsIn vs
theorem good_of (vs : List Va) (hl : longF vs 4000 = false) (hv : vs.all (validF vs) = true) : GoodVals vs := by
  rw [List.all_eq_true] at hv
  have key : ∀ v ∈ vs, v.is = true → varsIn vs.length v.t = true ∧ plainV v.t = true := by
    intro v hm hi
    have h1 := hv v hm
    unfold validF at h1
    rw [hi, Bool.and_eq_true] at h1
    have h2 := h1.2
    simp only [if_true] at h2
    unfold inF at h2
    simp only [Bool.and_eq_true] at h2
    obtain ⟨hb, hz, hf, hs⟩ := h2
    have h3 := (fits_vars vs _).1 _ _ (Nat.le_refl _) hf
    have h4 := fits_plain vs _ _ hf
    exact ⟨body_vars _ _ _ hb h3, body_plain _ _ hb h4⟩
  have hsz := long_small vs 4000 hl
  refine ⟨⟨fun n hi => (key _ (valAt_mem hi) hi).2, fun n k he => vars_direct _ _ (key _ (valAt_mem he.1) he.1).1 k he.2⟩, fun n hi => ?_, fun v hm hi => ⟨(key v hm hi).1, ?_⟩⟩
  · have := hsz _ (valAt_mem hi) hi; omega
  · have := hsz v hm hi; omega
end Go.Proofs.YthkjmiejaoomcaaGreat.Am
