/- Part of the proof of a law of layer 5: own texts, joined. -/
import Derived.Test.YthkjmiejaoomcaaGreatQt
import Derived.Test.YthkjmiejaoomcaaGreatQp
set_option linter.unusedVariables false
set_option linter.unusedSimpArgs false
set_option linter.unnecessarySimpa false
namespace Go.Proofs.YthkjmiejaoomcaaGreat.Am
open Go Go.RowKit Go.Proofs
set_option linter.unusedVariables false
set_option linter.unusedSimpArgs false
theorem inner_shift (k : Int) (m j : Int) : inner k (m + j) = m + inner k j := by unfold inner; split <;> omega
mutual
theorem sees_filled {vs : List Va} {lo lv : Int} {us : List Term} (hle : lo ≤ lv) (ha : ∀ u ∈ us, isSimpleF u = true ∧ (u.kind = 3 → u.n < lv)) : ∀ (b : Term) (j : Int), fitsF vs b (us.length + j) = true → seesF vs lo b = true → seesF vs lv (filledF b us j) = true
 | ⟨k, n, s, l⟩, j, hf, hs => by
  have hf' := hf
  rw [fitsF, Bool.and_eq_true] at hf
  rw [seesF, Bool.and_eq_true] at hs
  have hL := sees_filledL hle ha l (inner k j) (by rw [← inner_shift]; exact hf.2) hs.2
  rw [filledF, seesF, hL, Bool.and_true]
  have hto : PutTo us j ⟨k, n, s, l⟩ := put_to fun h2 => (fits_bound hf' h2).2
  cases hto with
  | put h2 hjx i hi e ey =>
   simp only at ey
   rw [ey]
   obtain ⟨h1, h3⟩ := ha _ (getD_mem hi)
   generalize us.getD i noTerm = u at *
   rcases (simple_kind h1).1 with e' | e'
   ·unfold seesTop; rw [e']; rfl
   ·have := h3 e'
    unfold seesTop
    rw [e']
    simp; omega
  | same ex bx =>
   simp only at ex
   rw [ex]
   have h1 := hs.1
   unfold seesTop at h1 ⊢
   simp only [Bool.and_eq_true, Bool.not_eq_true', Bool.and_eq_false_iff, decide_eq_false_iff_not] at h1 ⊢
   refine ⟨h1.1.imp id (fun _ => ?_), h1.2.imp id (fun _ => ?_)⟩ <;> omega
theorem sees_filledL {vs : List Va} {lo lv : Int} {us : List Term} (hle : lo ≤ lv) (ha : ∀ u ∈ us, isSimpleF u = true ∧ (u.kind = 3 → u.n < lv)) : ∀ (l : List Term) (j : Int), fitsL vs l (us.length + j) = true → seesL vs lo l = true → seesL vs lv (filledL l us j) = true
 | [], j, hf, hs => by rw [filledL, seesL]
 | t :: l, j, hf, hs => by
  rw [fitsL, Bool.and_eq_true] at hf
  rw [seesL, Bool.and_eq_true] at hs
  rw [filledL, seesL, sees_filled hle ha t j hf.1 hs.1, sees_filledL hle ha l j hf.2 hs.2]; rfl
end
theorem sees_heads {vs : List Va} (hc : checkF vs = 0) {d : Int} (hd : 0 ≤ d) {lv : Int} {t u : Term} {k : Nat} (h : Heads vs d t k u) : fitsF vs t d = true → seesF vs lv t = true → fitsF vs u d = true ∧ seesF vs lv u = true := by
 induction h with
 | zero => exact fun hf hs => ⟨hf, hs⟩
 | @succ t k u h4 hi ok hs ih =>
  intro hf hse
  obtain ⟨ok2, hp, hfb, hsb⟩ := step_ok hc hd hf h4 hi
  have hff := filled_fits hp (bodyOf vs t) 0 (Int.le_refl _) (by rw [Int.add_zero]; exact hfb) hsb
  rw [Int.add_zero] at hff
  have hse' := hse
  rw [seesF_eq, Bool.and_eq_true] at hse
  have hlv : (valAt vs t.n).level ≤ lv := by
   have h1 := hse.1
   have e : t.kind = 4 := by simpa using h4
   unfold seesTop at h1
   rw [e] at h1
   simp at h1
   exact h1
  refine ih hff (sees_filled hlv (fun a ha => ⟨(ok2.args a ha).1, sees_par ((seesL_iff _ _ _).1 hse.2 a ha)⟩) _ 0 (by rw [Int.add_zero]; exact hfb) hsb)
theorem sees_val {vs : List Va} (hc : checkF vs = 0) {lv : Int} {d : Int} {t v : Term} (h : Val vs d t v) : 0 ≤ d → fitsF vs t d = true → seesF vs lv t = true → seesF vs lv v = true := by
 induction h with
 | @mk d t k u l hs hn hl ha ih =>
  intro hd hf hse
  obtain ⟨hfu, hsu⟩ := sees_heads hc hd hs hf hse
  rw [fitsF_eq, Bool.and_eq_true] at hfu
  rw [seesF_eq, Bool.and_eq_true] at hsu
  rw [seesF, hsu.1, Bool.true_and, seesL_iff]
  intro w hw
  obtain ⟨i, hi⟩ := List.getElem?_of_mem hw
  have hil : i < u.args.length := by
   have := (List.getElem?_eq_some_iff.1 hi).1; omega
  have hu : u.args[i]? = some u.args[i] := List.getElem?_eq_getElem hil
  have hm := List.getElem_mem hil
  exact ih i _ w hu hi (inner_pos hd) ((fitsL_iff _ _ _).1 hfu.2 _ hm) ((seesL_iff _ _ _).1 hsu.2 _ hm)
mutual
theorem under_sees {vs : List Va} {lv : Int} : ∀ t : Term, seesF vs lv t = true → underF lv t = true
 | ⟨k, n, s, l⟩, h => by
  rw [seesF, Bool.and_eq_true] at h
  rw [underF, under_seesL l h.2, Bool.and_true]
  have h1 := h.1
  unfold seesTop at h1
  rw [Bool.and_eq_true] at h1
  exact h1.1
theorem under_seesL {vs : List Va} {lv : Int} : ∀ l : List Term, seesL vs lv l = true → underL lv l = true
 | [], h => by rw [underL]
 | t :: l, h => by
  rw [seesL, Bool.and_eq_true] at h
  rw [underL, under_sees t h.1, under_seesL l h.2]; rfl
end
theorem fits_lams {vs : List Va} : ∀ (k : Nat) (t : Term) (d : Int), fitsF vs t (d + k) = true → fitsF vs (lamsT k t) d = true
 | 0, t, d, h => by simpa [lamsT] using h
 | k + 1, t, d, h => by
  rw [lamsT]
  refine fits_lams k _ d ?_
  rw [fitsF, fitsL, fitsL, Bool.and_true]
  have e : inner 5 (d + k) = d + ((k + 1 : Nat) : Int) := by
   have : inner 5 (d + k) = d + k + 1 := rfl
   rw [this]; push_cast; omega
  rw [e, h, Bool.and_true]
  unfold headFitsS headTestS
  have hz : (noNameS.size : Int) = 0 := rfl
  simp
  decide
theorem sees_lams {vs : List Va} {lv : Int} : ∀ (k : Nat) (t : Term), seesF vs lv t = true → seesF vs lv (lamsT k t) = true
 | 0, t, h => h
 | k + 1, t, h => by
  rw [lamsT]
  refine sees_lams k _ ?_
  rw [seesF, seesL, seesL, h]; rfl
theorem dep_lams : ∀ (k : Nat) (t : Term), dep (lamsT k t) = dep t + k
 | 0, t => by rw [lamsT]; simp
 | k + 1, t => by
  rw [lamsT, dep_lams k, dep, depL, depL]
  have := (dep_pos t.size).1 t (Nat.le_refl _)
  push_cast; omega
theorem itself_ok {vs : List Va} (hc : checkF vs = 0) {n : Int} (h0 : 0 ≤ n) (h1 : n < (vs.length : Int)) : fitAll vs (itselfF vs n) = 0 ∧ seesF vs (valAt vs n).level (itselfF vs n) = true := by
 have h8 := args_len (valAt vs n).type
 unfold itselfF
 generalize hm : arityF (valAt vs n).type = m at *
 have hr : ∀ k ∈ List.range m, k < m := fun k hk => List.mem_range.1 hk
 have hb := back_ok hr
 have hlen : (backF m (List.range m)).length = m := by simp [backF]
 have hbk : ∀ u ∈ backF m (List.range m), u.kind = 2 := fun u hu => by
  obtain ⟨k, _, rfl⟩ := List.mem_map.1 hu; rfl
 have hd : dep (sVar n (backF m (List.range m))) ≤ 2 := by
  rw [dep]
  have : ∀ l : List Term, (∀ u ∈ l, isSimpleF u = true) → depL l ≤ 1 := by
   intro l
   induction l with
   | nil => intro _; rw [depL]; decide
   | cons u l ih =>
    intro h
    rw [depL]
    have h1 := ih fun w hw => h w (List.mem_cons_of_mem _ hw)
    have hk := (simple_kind (h u List.mem_cons_self)).2
    obtain ⟨a, b, c, q⟩ := u
    simp only at hk
    subst hk
    have : dep ⟨a, b, c, []⟩ = 1 := by rw [dep, depL]; rfl
    omega
  have := this _ fun u hu => (hb u hu).1
  omega
 refine ⟨fitAll_iff.2 ⟨hc, sized_of ?_ ?_, fits_lams m _ 0 ?_⟩, sees_lams m _ (var_sees (Int.le_refl _) fun u hu => ⟨(hb u hu).1, fun e => ?_⟩)⟩
 ·rw [size_lams, var_size fun u hu => (hb u hu).1, hlen]; omega
 ·rw [dep_lams]; omega
 ·rw [Int.zero_add]
  exact var_fits h0 h1 (by rw [hm, hlen]) hb (fun u hu e => by rw [hbk u hu] at e; cases e) (back_pair List.pairwise_lt_range)
 ·rw [hbk u hu] at e; cases e
theorem itself_ext {vs ms : List Va} (e : ExtS vs ms) {n : Int} (h0 : 0 ≤ n) (h1 : n < (vs.length : Int)) : itselfF vs n = itselfF ms n := by
 unfold itselfF
 rw [e.typ n h0 h1]
theorem unify_sound {vs : List Va} {a b : Term} (h : (unifyF vs a b).2.2 = 0) (hi : (unifyF vs a b).2.1 = true) : checkF (unifyF vs a b).1 = 0 ∧ ExtS vs (unifyF vs a b).1 := by
 unfold unifyF at h hi ⊢
 split at h
 case isFalse hft => rw [if_neg hft] at hi; cases hi
 rename_i hft
 obtain ⟨hc, hfa, hfb⟩ := fitTwo_ok hft
 rw [if_pos hft] at hi ⊢
 cases hs : solveF 402 ⟨vs, 0⟩ a b 0 with
 | clash => rw [hs] at hi; cases hi
 | large e =>
  rw [hs] at hi
  exfalso
  revert hi
  dsimp only
  split <;> exact fun h => by cases h
 | ok s =>
  rw [hs] at hi
  dsimp only at hi ⊢
  obtain ⟨S, _⟩ := solve_ok 402 ⟨vs, 0⟩ a b 0 0 s (inv_check hc) (show (0 : Int) ≤ 0 by decide) (by decide) hfa hfb hs
  cases hk : (checkF s.ms == 2 || checkF s.ms == 50)
  ·rw [hk] at hi
   rw [if_neg (by decide)]
   refine ⟨?_, S.ext⟩
   rw [Bool.or_eq_false_iff] at hk
   have h2 : checkF s.ms = 2 ∨ checkF s.ms = 50 ∨ checkF s.ms = 0 := by
    unfold checkF
    repeat' split
    all_goals simp
   rcases h2 with h2 | h2 | h2
   ·rw [h2] at hk; exact absurd hk.1 (by decide)
   ·rw [h2] at hk; exact absurd hk.2 (by decide)
   ·exact h2
  ·rw [hk] at hi; cases hi
theorem scope_value {vs : List Va} {a b : Term} (h : (unifyF vs a b).2.2 = 0) (hi : (unifyF vs a b).2.1 = true) {n : Int} (h0 : 0 ≤ n) (h1 : n < (vs.length : Int)) {o : Term} {e : Int} (hv : ValPair (unifyF vs a b).1 (itselfF vs n) o e) :
  (e = 2 ∨ e = 5) ∨ (e = 0 ∧ underF (valAt vs n).level o = true) := by
 obtain ⟨hc, E⟩ := unify_sound h hi
 generalize (unifyF vs a b).1 = ms at *
 have hl := E.len
 obtain ⟨f1, f2⟩ := itself_ok hc h0 (show n < (ms.length : Int) by omega)
 rw [itself_ext E h0 h1] at hv
 rw [E.lev n h0 h1] at f2
 rcases hv with ⟨h3, _⟩ | ⟨_, v, ⟨hval, _⟩, rfl, rfl⟩
 ·exact absurd f1 h3
 ·have hu := under_sees v (sees_val hc hval (Int.le_refl _) (fitAll_iff.1 f1).2.2 f2)
  unfold valOut
  unfold valErr
  split
  ·exact .inl (.inl rfl)
  ·split
   ·exact .inl (.inr rfl)
   ·exact .inr ⟨rfl, hu⟩
end Go.Proofs.YthkjmiejaoomcaaGreat.Am
