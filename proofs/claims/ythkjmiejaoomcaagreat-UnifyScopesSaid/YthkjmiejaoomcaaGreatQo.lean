/- Part of the proof of a law of layer 5: own texts, joined. -/
import Derived.Test.YthkjmiejaoomcaaGreatQh
import Derived.Test.YthkjmiejaoomcaaGreatQl
import Derived.Test.YthkjmiejaoomcaaGreatQn
set_option linter.unusedVariables false
set_option linter.unusedSimpArgs false
set_option linter.unnecessarySimpa false
namespace Go.Proofs.YthkjmiejaoomcaaGreat.Am
open Go Go.RowKit Go.Proofs
set_option linter.unusedVariables false
set_option linter.unusedSimpArgs false
def longF : List Va → Int → Bool
 | [], _ => false
 | v :: vs, left => if v.is then (if decide ((v.t.size : Int) > left) then true else longF vs (left - v.t.size)) else longF vs left
def checkF (vs : List Va) : Int := if (vs.length : Int) > 2000 then 2 else if longF vs 4000 then 2 else if vs.all (validF vs) then (if circlesF vs then 50 else 0) else 50
theorem long_small : ∀ (vs : List Va) (left : Int), longF vs left = false → ∀ v ∈ vs, v.is = true → (v.t.size : Int) ≤ left
 | [], left, _, v, hv, _ => absurd hv List.not_mem_nil
 | w :: vs, left, h, v, hv, hi => by
  rw [longF] at h
  cases hw : w.is
  ·rw [hw] at h
   rcases List.mem_cons.1 hv with rfl | hv
   ·rw [hw] at hi; cases hi
   ·exact long_small vs left (by simpa using h) v hv hi
  ·rw [hw] at h
   simp only [if_true] at h
   cases hd : decide ((w.t.size : Int) > left)
   ·rw [hd] at h
    simp only [Bool.false_eq_true, if_false] at h
    rcases List.mem_cons.1 hv with rfl | hv
    ·simpa using hd
    ·have := long_small vs _ h v hv hi; omega
   ·rw [hd] at h; cases h
theorem body_size : ∀ (n : Nat) (t : Term), (bodyF n t).1.size ≤ t.size
 | 0, t => by rw [bodyF]; exact Nat.le_refl _
 | n + 1, t => by
  rw [bodyF]
  split
  ·exact Nat.le_refl _
  ·rename_i hn
   obtain ⟨u, hu⟩ := noLam_one (by simpa using hn)
   rw [hu]
   simp only [List.headD_cons]
   have h1 := body_size n u
   have h2 := size_arg t 0 (t := u) (by rw [hu]; rfl)
   omega
end Go.Proofs.YthkjmiejaoomcaaGreat.Am
namespace Go.Proofs.YthkjmiejaoomcaaGreat.Am
open Go Go.RowKit Go.Proofs
set_option linter.unusedVariables false
set_option linter.unusedSimpArgs false
theorem simple_parts {u : Term} (h : isSimpleF u = true) : (u.kind == 4) = false ∧ u.args = [] := by
 unfold isSimpleF at h
 simp only [Bool.and_eq_true, Bool.or_eq_true, beq_iff_eq] at h
 refine ⟨?_, List.eq_nil_of_length_eq_zero (by omega)⟩
 rcases h.1 with e | e <;> rw [e] <;> rfl
theorem argsGoV_simple (lv : Int) : ∀ (us pre : List Term), argsGoV lv pre us = true → ∀ u ∈ us, isSimpleF u = true
 | [], pre, _, u, hu => absurd hu List.not_mem_nil
 | v :: us, pre, h, u, hu => by
  rw [argsGoV, Bool.and_eq_true] at h
  rcases List.mem_cons.1 hu with rfl | hu
  ·have := h.1; unfold patElem at this
   rw [Bool.and_eq_true] at this
   exact this.1
  ·exact argsGoV_simple lv us _ h.2 u hu
theorem simples_plain : ∀ us : List Term, (∀ u ∈ us, isSimpleF u = true) → directL us = [] ∧ plainVL us = true
 | [], _ => ⟨by rw [directL], by rw [plainVL]⟩
 | u :: us, h => by
  have h1 := simple_parts (h u (List.mem_cons_self ..))
  have h2 := simples_plain us (fun v hv => h v (List.mem_cons_of_mem _ hv))
  obtain ⟨k, n, s, l⟩ := u
  simp only at h1
  rw [directL, plainVL, directF, plainV, h1.2, h1.1, directL, plainVL, h2.1, h2.2]
  exact ⟨rfl, rfl⟩
mutual
theorem fits_plain (vs : List Va) : ∀ (t : Term) (d : Int), fitsF vs t d = true → plainV t = true
 | ⟨k, n, s, l⟩, d, h => by
  rw [fitsF, Bool.and_eq_true] at h
  rw [plainV]
  cases hk : (k == 4)
  ·simp only [Bool.false_eq_true, if_false]
   exact fitsL_plain vs l _ h.2
  ·simp only [if_true]
   have h1 := h.1
   have e : k = 4 := by simpa using hk
   subst e
   simp only [headFitsS, headTestS, Bool.and_eq_true] at h1
   have h2 : isPatternF (valAt vs n) l = true := by
    have := h1.2.2.2
    simp at this
    exact this.2.2
   unfold isPatternF at h2
   rw [Bool.and_eq_true] at h2
   have h3 := simples_plain l (argsGoV_simple _ l [] h2.2)
   rw [h3.1, h3.2]; rfl
theorem fitsL_plain (vs : List Va) : ∀ (l : List Term) (d : Int), fitsL vs l d = true → plainVL l = true
 | [], d, _ => by rw [plainVL]
 | t :: l, d, h => by
  rw [fitsL, Bool.and_eq_true] at h
  rw [plainVL, fits_plain vs t d h.1, fitsL_plain vs l d h.2]; rfl
end
mutual
theorem vars_direct (m : Nat) : ∀ t : Term, varsIn m t = true → ∀ k ∈ directF t, 0 ≤ k ∧ k < (m : Int)
 | ⟨k, n, s, l⟩, h => by
  rw [varsIn, Bool.and_eq_true] at h
  rw [directF]
  cases hk : (k == 4)
  ·simp only [Bool.false_eq_true, if_false]
   exact vars_directL m l h.2
  ·simp only [if_true]
   intro j hj
   rw [List.mem_singleton] at hj
   subst hj
   have h1 := h.1
   rw [hk] at h1
   simpa using h1
theorem vars_directL (m : Nat) : ∀ l : List Term, varsInL m l = true → ∀ k ∈ directL l, 0 ≤ k ∧ k < (m : Int)
 | [], _ => by rw [directL]; intro k hk; exact absurd hk List.not_mem_nil
 | t :: l, h => by
  rw [varsInL, Bool.and_eq_true] at h
  rw [directL]
  intro k hk
  rcases List.mem_append.1 hk with hk | hk
  ·exact vars_direct m t h.1 k hk
  ·exact vars_directL m l h.2 k hk
end
theorem noLam_kind {t : Term} (h : noLam t = false) : (t.kind == 4) = false := by
 unfold noLam at h
 rw [Bool.or_eq_false_iff] at h
 have h1 := h.1
 cases h4 : (t.kind == 4)
 ·rfl
 ·have e : t.kind = 4 := by simpa using h4
  rw [e] at h1; simp at h1
theorem body_plain : ∀ (n : Nat) (t : Term), (bodyF n t).2 = true → plainV (bodyF n t).1 = true → plainV t = true
 | 0, t, _, hp => by rw [bodyF] at hp; exact hp
 | n + 1, t, h, hp => by
  rw [bodyF] at h hp
  cases hn : noLam t
  ·rw [hn] at h hp
   simp only [Bool.false_eq_true, if_false] at h hp
   obtain ⟨u, hu⟩ := noLam_one hn
   have hk := noLam_kind hn
   rw [hu] at h hp
   simp only [List.headD_cons] at h hp
   have := body_plain n u h hp
   obtain ⟨a, b, c, l⟩ := t
   simp only at hu hk
   subst hu
   rw [plainV, hk, plainVL, plainVL, this]; rfl
  ·rw [hn] at h; simp at h
theorem body_vars (m : Nat) : ∀ (n : Nat) (t : Term), (bodyF n t).2 = true → varsIn m (bodyF n t).1 = true → varsIn m t = true
 | 0, t, _, hp => by rw [bodyF] at hp; exact hp
 | n + 1, t, h, hp => by
  rw [bodyF] at h hp
  cases hn : noLam t
  ·rw [hn] at h hp
   simp only [Bool.false_eq_true, if_false] at h hp
   obtain ⟨u, hu⟩ := noLam_one hn
   have hk := noLam_kind hn
   rw [hu] at h hp
   simp only [List.headD_cons] at h hp
   have := body_vars m n u h hp
   obtain ⟨a, b, c, l⟩ := t
   simp only at hu hk
   subst hu
   rw [varsIn, hk, varsInL, varsInL, this]; rfl
  ·rw [hn] at h; simp at h
theorem valAt_mem {vs : List Va} {n : Int} (hi : (valAt vs n).is = true) : valAt vs n ∈ vs := by
 unfold valAt at hi ⊢
 rw [List.getD_eq_getElem?_getD] at hi ⊢
 cases h : vs[n.toNat]? with
 | none => rw [h] at hi; cases hi
 | some v => exact List.mem_of_getElem? h
structure GoodVals (vs : List Va) : Prop where
 plain : PlainVals vs
 sizes : Sizes vs
 vals : ValsIn vs
theorem good_of (vs : List Va) (hl : longF vs 4000 = false) (hv : vs.all (validF vs) = true) : GoodVals vs := by
 rw [List.all_eq_true] at hv
 have key : ∀ v ∈ vs, v.is = true → varsIn vs.length v.t = true ∧ plainV v.t = true := by
  intro v hm hi
  have h1 := hv v hm
  unfold validF at h1
  rw [hi, Bool.and_eq_true] at h1
  have h2 := h1.2
  simp only [if_true] at h2
  unfold inF at h2
  simp only [Bool.and_eq_true] at h2
  obtain ⟨hb, hz, hf, hs⟩ := h2
  have h3 := (fits_vars vs _).1 _ _ (Nat.le_refl _) hf
  have h4 := fits_plain vs _ _ hf
  exact ⟨body_vars _ _ _ hb h3, body_plain _ _ hb h4⟩
 have hsz := long_small vs 4000 hl
 refine ⟨⟨fun n hi => (key _ (valAt_mem hi) hi).2, fun n k he => vars_direct _ _ (key _ (valAt_mem he.1) he.1).1 k he.2⟩, fun n hi => ?_, fun v hm hi => ⟨(key v hm hi).1, ?_⟩⟩
 ·have := hsz _ (valAt_mem hi) hi; omega
 ·have := hsz v hm hi; omega
end Go.Proofs.YthkjmiejaoomcaaGreat.Am
namespace Go.Proofs.YthkjmiejaoomcaaGreat.Am
open Go Go.RowKit Go.Proofs
set_option linter.unusedVariables false
set_option linter.unusedSimpArgs false
def bodyOf (vs : List Va) (t : Term) : Term := (bodyF t.args.length (valAt vs t.n).t).1
def ArgOk (d : Int) (u : Term) : Prop := isSimpleF u = true ∧ u.name.toList = noNameS.toList ∧ (u.kind = 2 → 0 ≤ u.n ∧ u.n < d) ∧ (u.kind = 3 → 0 ≤ u.n ∧ u.n < 60)
structure StepOk (vs : List Va) (d : Int) (t : Term) : Prop where
 n0 : 0 ≤ t.n
 n1 : t.n < (vs.length : Int)
 size : (valAt vs t.n).t.size ≤ 4000
 body : (bodyF t.args.length (valAt vs t.n).t).2 = true
 fill : fillOk (bodyOf vs t) t.args.length 0 = true
 args : ∀ u ∈ t.args, ArgOk d u
 len : t.args.length ≤ 8
inductive Heads (vs : List Va) (d : Int) : Term → Nat → Term → Prop
 | zero {t : Term} : Heads vs d t 0 t
 | succ {t : Term} {k : Nat} {u : Term} (h4 : (t.kind == 4) = true) (hi : (valAt vs t.n).is = true) (ok : StepOk vs d t) (hs : Heads vs d (filledF (bodyOf vs t) t.args 0) k u) : Heads vs d t (k + 1) u
structure NodeOk (vs : List Va) (t : Term) : Prop where
 var : (t.kind == 4) = true → 0 ≤ t.n ∧ t.n < (vs.length : Int) ∧ (valAt vs t.n).is = false
 len : t.args.length ≤ 8
inductive Val (vs : List Va) : Int → Term → Term → Prop
 | mk {d : Int} {t : Term} {k : Nat} {u : Term} {l : List Term} (hs : Heads vs d t k u) (hn : NodeOk vs u) (hl : l.length = u.args.length)
   (ha : ∀ (i : Nat) (a w : Term), u.args[i]? = some a → l[i]? = some w → Val vs (inner u.kind d) a w) : Val vs d t ⟨u.kind, u.n, u.name, l⟩
theorem argsGoV_iff (lv : Int) : ∀ (us pre : List Term), argsGoV lv pre us = true ↔ (∀ u ∈ us, isSimpleF u = true ∧ (u.kind = 3 → lv ≤ u.n)) ∧ (∀ u ∈ us, ∀ b ∈ pre, isF u b = false) ∧ us.Pairwise (fun b u => isF u b = false)
 | [], pre => by simp [argsGoV]
 | v :: us, pre => by
  rw [argsGoV, Bool.and_eq_true, argsGoV_iff lv us (pre ++ [v]), List.pairwise_cons]
  unfold patElem
  simp only [Bool.and_eq_true, Bool.not_eq_true', List.any_eq_false, Bool.and_eq_false_iff, beq_eq_false_iff_ne, decide_eq_false_iff_not, List.mem_cons, List.mem_append, List.not_mem_nil, or_false]
  constructor
  ·rintro ⟨⟨h1, h2, h3⟩, h4, h5, h6⟩
   refine ⟨?_, ?_, fun u hu => h5 u hu v (.inr rfl), h6⟩
   ·rintro u (rfl | hu)
    ·refine ⟨h1, fun h => ?_⟩
     rcases h2 with h2 | h2
     ·exact absurd h h2
     ·omega
    ·exact h4 u hu
   ·rintro u (rfl | hu) b hb
    ·have := h3 b hb; simpa using this
    ·exact h5 u hu b (.inl hb)
  ·rintro ⟨h1, h2, h3, h4⟩
   refine ⟨⟨(h1 v (.inl rfl)).1, ?_, fun b hb => by have := h2 v (.inl rfl) b hb; simp [this]⟩, fun u hu => h1 u (.inr hu), ?_, h4⟩
   ·by_cases h : v.kind = 3
    ·exact .inr (by have := (h1 v (.inl rfl)).2 h; omega)
    ·exact .inl h
   ·rintro u hu b (hb | rfl)
    ·exact h2 u (.inr hu) b hb
    ·exact h3 u hu
theorem filledL_map (us : List Term) (d : Int) : ∀ l : List Term, filledL l us d = l.map fun t => filledF t us d
 | [] => by rw [filledL]; rfl
 | t :: l => by rw [filledL, filledL_map us d l]; rfl
theorem fitsL_iff (vs : List Va) (d : Int) : ∀ l : List Term, fitsL vs l d = true ↔ ∀ t ∈ l, fitsF vs t d = true
 | [] => by simp [fitsL]
 | t :: l => by rw [fitsL, Bool.and_eq_true, fitsL_iff vs d l]; simp
theorem seesL_iff (vs : List Va) (lv : Int) : ∀ l : List Term, seesL vs lv l = true ↔ ∀ t ∈ l, seesF vs lv t = true
 | [] => by simp [seesL]
 | t :: l => by rw [seesL, Bool.and_eq_true, seesL_iff vs lv l]; simp
theorem fitsF_eq (vs : List Va) (t : Term) (d : Int) : fitsF vs t d = (headFitsS vs t.kind t.n t.name t.args d && fitsL vs t.args (inner t.kind d)) := by obtain ⟨a, b, c, l⟩ := t; rw [fitsF]
theorem filledF_eq (t : Term) (us : List Term) (d : Int) : filledF t us d = ⟨(putHead t.kind t.n t.name us d).1, (putHead t.kind t.n t.name us d).2.1, (putHead t.kind t.n t.name us d).2.2, filledL t.args us (inner t.kind d)⟩ := by obtain ⟨k, n, s, l⟩ := t; rw [filledF]
theorem simple_kind {u : Term} (h : isSimpleF u = true) : (u.kind = 2 ∨ u.kind = 3) ∧ u.args = [] := by
 unfold isSimpleF at h
 simp only [Bool.and_eq_true, Bool.or_eq_true, beq_iff_eq] at h
 exact ⟨h.1, List.eq_nil_of_length_eq_zero (by omega)⟩
theorem fits_arg {vs : List Va} {u : Term} {d : Int} (hs : isSimpleF u = true) (hf : fitsF vs u d = true) : ArgOk d u := by
 have hk := simple_kind hs
 rw [fitsF_eq, Bool.and_eq_true] at hf
 have hh := hf.1
 unfold headFitsS headTestS at hh
 refine ⟨hs, ?_, fun h2 => ?_, fun h3 => ?_⟩
 ·rcases hk.1 with e | e <;> · rw [e] at hh; simp at hh; simpa using hh.1
 ·rw [h2] at hh; simp at hh; omega
 ·rw [h3] at hh; simp at hh; omega
theorem name_size {s : ByteArray} (h : s.toList = noNameS.toList) : s.size = 0 := by
 have := congrArg List.length h
 rw [toList_sizeS, toList_sizeS] at this
 exact this
theorem arg_head {vs : List Va} {u : Term} {d : Int} (h : ArgOk d u) (l : List Term) (hl : (l.length : Int) ≤ 8) : headFitsS vs u.kind u.n u.name l d = true := by
 obtain ⟨hs, hn, h2, h3⟩ := h
 have hz := name_size hn
 have hk := simple_kind hs
 unfold headFitsS headTestS
 rw [hn, hz]
 rcases hk.1 with e | e
 ·have := h2 e
  rw [e]
  simp
  omega
 ·have := h3 e
  rw [e]
  simp
  omega
theorem arg_up {d j : Int} {u : Term} (h : ArgOk d u) (hj : 0 ≤ j) : ArgOk (d + j) ⟨u.kind, if u.kind == 2 then u.n + j else u.n, u.name, []⟩ := by
 obtain ⟨hs, hn, h2, h3⟩ := h
 have hk := simple_kind hs
 refine ⟨?_, hn, fun e => ?_, fun e => ?_⟩
 ·unfold isSimpleF
  rcases hk.1 with e | e <;> · simp [e]
 ·have e' : u.kind = 2 := e
  have := h2 e'
  simp only [e', beq_self_eq_true, if_true]
  omega
 ·have e' : u.kind = 3 := e
  have := h3 e'
  simp only [e']
  simpa using this
structure PutOk (vs : List Va) (lv d : Int) (us : List Term) : Prop where
 pos : 0 ≤ d
 args : ∀ u ∈ us, ArgOk d u
 high : ∀ u ∈ us, u.kind = 3 → lv ≤ u.n
 pair : us.Pairwise (fun b u => isF u b = false)
theorem getD_mem {us : List Term} {i : Nat} (h : i < us.length) : us.getD i noTerm ∈ us := by
 rw [List.getD_eq_getElem?_getD, List.getElem?_eq_getElem h]
 exact List.getElem_mem h
theorem pair_get {us : List Term} (h : us.Pairwise (fun b u => isF u b = false)) {i k : Nat} (hi : i < us.length) (hk : k < us.length) (hne : i ≠ k) : isF (us.getD i noTerm) (us.getD k noTerm) = false := by
 rw [List.getD_eq_getElem?_getD, List.getElem?_eq_getElem hi, List.getD_eq_getElem?_getD, List.getElem?_eq_getElem hk]
 simp only [Option.getD_some]
 rw [List.pairwise_iff_getElem] at h
 rcases Nat.lt_or_gt_of_ne hne with h1 | h1
 ·have := h i k hi hk h1
  unfold isF at this ⊢
  rw [Bool.and_eq_false_iff] at this ⊢
  rcases this with e | e
  ·left; rw [beq_eq_false_iff_ne] at e ⊢; exact fun x => e x.symm
  ·right; rw [beq_eq_false_iff_ne] at e ⊢; exact fun x => e x.symm
 ·exact h k i hk hi h1
inductive PutTo (us : List Term) (j : Int) (x : Term) : Prop
 | same (h : (putHead x.kind x.n x.name us j) = (x.kind, x.n, x.name)) (h2 : x.kind = 2 → x.n < j)
 | put (h2 : x.kind = 2) (hj : j ≤ x.n) (i : Nat) (hi : i < us.length) (e : (i : Int) = us.length - 1 - (x.n - j)) (h : putHead x.kind x.n x.name us j = ((us.getD i noTerm).kind, (if (us.getD i noTerm).kind == 2 then (us.getD i noTerm).n + j else (us.getD i noTerm).n), (us.getD i noTerm).name))
theorem put_to {us : List Term} {j : Int} {x : Term} (hx : x.kind = 2 → x.n < us.length + j) : PutTo us j x := by
 by_cases h2 : x.kind = 2
 ·by_cases hj : j ≤ x.n
  ·have := hx h2
   obtain ⟨i, hi⟩ : ∃ i : Nat, (us.length : Int) - 1 - (x.n - j) = i := ⟨_, (Int.toNat_of_nonneg (by omega)).symm⟩
   refine .put h2 hj i (by omega) hi.symm ?_
   unfold putHead
   rw [h2, show decide (x.n ≥ j) = true from decide_eq_true hj, hi, Int.toNat_natCast]
   rfl
  ·refine .same ?_ fun _ => by omega
   unfold putHead
   rw [show decide (x.n ≥ j) = false from decide_eq_false (by omega), Bool.and_false]
   rfl
 ·refine .same ?_ fun h => absurd h h2
  unfold putHead
  rw [show (x.kind == 2) = false by simpa using h2]
  rfl
theorem inner_put {vs : List Va} {lv d : Int} {us : List Term} (hp : PutOk vs lv d us) {j : Int} {x : Term} (h : PutTo us j x) : inner (putHead x.kind x.n x.name us j).1 (d + j) = d + inner x.kind j := by
 cases h with
 | same h _ =>
  rw [h]; unfold inner; split <;> omega
 | put h2 hj i hi e h =>
  rw [h, h2]
  have := (simple_kind (hp.args _ (getD_mem hi)).1).1
  unfold inner
  rcases this with e | e <;> rw [e] <;> simp
theorem kind_put {vs : List Va} {lv d : Int} {us : List Term} (hp : PutOk vs lv d us) {j : Int} {x : Term} (h : PutTo us j x) : ((putHead x.kind x.n x.name us j).1 == 4) = (x.kind == 4) := by
 cases h with
 | same h _ => rw [h]
 | put h2 hj i hi e h =>
  rw [h, h2]
  have := (simple_kind (hp.args _ (getD_mem hi)).1).1
  rcases this with e | e <;> rw [e] <;> rfl
theorem isF_false {a b : Term} : isF a b = false ↔ a.kind ≠ b.kind ∨ a.n ≠ b.n := by
 unfold isF
 rw [Bool.and_eq_false_iff]
 simp
theorem put_distinct {vs : List Va} {lv d : Int} {us : List Term} (hp : PutOk vs lv d us) {j : Int} (hj : 0 ≤ j) {x y : Term} (hx : PutTo us j x) (hy : PutTo us j y)
  (lx : x.kind = 3 → x.n < lv) (ly : y.kind = 3 → y.n < lv) (kx : x.kind = 2 ∨ x.kind = 3) (ky : y.kind = 2 ∨ y.kind = 3) (h : isF y x = false) : isF (filledF y us j) (filledF x us j) = false := by
 rw [isF_false] at h ⊢
 rw [filledF_eq, filledF_eq]
 simp only
 cases hx with
 | same ex bx =>
  cases hy with
  | same ey _ => rw [ex, ey]; exact h
  | put h2 hjy i hi e ey =>
   rw [ex, ey]
   have hu := hp.args _ (getD_mem hi)
   have hh := hp.high _ (getD_mem hi)
   generalize us.getD i noTerm = u at *
   simp only
   rcases (simple_kind hu.1).1 with k2 | k3
   ·have := hu.2.2.1 k2
    rw [k2]
    rcases kx with e2 | e3
    ·have := bx e2
     right; simp; omega
    ·left; rw [e3]; decide
   ·have := hh k3
    rw [k3]
    rcases kx with e2 | e3
    ·left; rw [e2]; decide
    ·have := lx e3
     right; simp; omega
 | put h2x hjx i hi e ex =>
  have hu := hp.args _ (getD_mem hi)
  have hh := hp.high _ (getD_mem hi)
  cases hy with
  | same ey byy =>
   rw [ex, ey]
   generalize us.getD i noTerm = u at *
   simp only
   rcases (simple_kind hu.1).1 with k2 | k3
   ·have := hu.2.2.1 k2
    rw [k2]
    rcases ky with e2 | e3
    ·have := byy e2
     right; simp; omega
    ·left; rw [e3]; decide
   ·have := hh k3
    rw [k3]
    rcases ky with e2 | e3
    ·left; rw [e2]; decide
    ·have := ly e3
     right; simp; omega
  | put h2y hjy i' hi' e' ey =>
   rw [ex, ey]
   have hne : i' ≠ i := by
    intro h3
    subst h3
    rcases h with h | h
    ·exact h (h2y.trans h2x.symm)
    ·exact h (by omega)
   have hd := pair_get hp.pair hi' hi hne
   rw [isF_false] at hd
   generalize us.getD i noTerm = u at *
   generalize us.getD i' noTerm = w at *
   simp only
   by_cases hk : w.kind = u.kind
   ·right
    have hn : w.n ≠ u.n := by rcases hd with h | h; exact absurd hk h; exact h
    rw [hk]
    split <;> omega
   ·exact .inl hk
theorem sees_par {vs : List Va} {lv : Int} {x : Term} (h : seesF vs lv x = true) : x.kind = 3 → x.n < lv := by
 intro e
 rw [seesF_eq, Bool.and_eq_true] at h
 have h1 := h.1
 unfold seesTop at h1
 rw [e] at h1
 simp at h1
 omega
theorem fits_bound {vs : List Va} {x : Term} {m : Int} (h : fitsF vs x m = true) : x.kind = 2 → 0 ≤ x.n ∧ x.n < m := by
 intro e
 rw [fitsF_eq, Bool.and_eq_true] at h
 have h1 := h.1
 unfold headFitsS headTestS at h1
 rw [e] at h1
 simp at h1
 omega
theorem pattern_put {vs : List Va} {lv d : Int} {us : List Term} (hp : PutOk vs lv d us) {j : Int} (hj : 0 ≤ j) {v : Va} {l : List Term} (hlv : v.level ≤ lv)
  (hl : isPatternF v l = true) (hf : ∀ t ∈ l, fitsF vs t (us.length + j) = true) (hs : ∀ t ∈ l, seesF vs lv t = true) : isPatternF v (filledL l us j) = true := by
 unfold isPatternF at hl ⊢
 rw [Bool.and_eq_true] at hl ⊢
 refine ⟨by rw [filledL_length]; exact hl.1, ?_⟩
 obtain ⟨h1, _, h3⟩ := (argsGoV_iff _ _ _).1 hl.2
 have hto : ∀ t ∈ l, PutTo us j t := fun t ht => put_to fun h2 => (fits_bound (hf t ht) h2).2
 refine (argsGoV_iff _ _ _).2 ⟨?_, fun u _ b hb => absurd hb List.not_mem_nil, ?_⟩
 ·rw [filledL_map]
  intro u hu
  obtain ⟨x, hx, rfl⟩ := List.mem_map.1 hu
  have hsx := (h1 x hx).1
  have hnil := (simple_kind hsx).2
  rw [filledF_eq, hnil]
  cases hto x hx with
  | same e _ =>
   rw [e]
   refine ⟨?_, fun h3 => (h1 x hx).2 h3⟩
   unfold isSimpleF at hsx ⊢
   rw [hnil] at hsx
   simpa [filledL] using hsx
  | put h2 hjx i hi e ey =>
   rw [ey]
   have hu := hp.args _ (getD_mem hi)
   have hh := hp.high _ (getD_mem hi)
   generalize us.getD i noTerm = w at *
   refine ⟨?_, fun h3 => ?_⟩
   ·unfold isSimpleF
    rcases (simple_kind hu.1).1 with e | e <;> · rw [e]; simp [filledL]
   ·have h3' : w.kind = 3 := h3
    have := hh h3'
    simp only [h3']
    simp; omega
 ·rw [filledL_map, List.pairwise_map]
  refine List.Pairwise.imp_of_mem ?_ h3
  intro x y hx hy hxy
  exact put_distinct hp hj (hto x hx) (hto y hy) (sees_par (hs x hx)) (sees_par (hs y hy)) (simple_kind (h1 x hx).1).1 (simple_kind (h1 y hy).1).1 hxy
mutual
theorem filled_fits {vs : List Va} {lv d : Int} {us : List Term} (hp : PutOk vs lv d us) : ∀ (b : Term) (j : Int), 0 ≤ j → fitsF vs b (us.length + j) = true → seesF vs lv b = true → fitsF vs (filledF b us j) (d + j) = true
 | ⟨k, n, s, l⟩, j, hj, hf, hs => by
  have hf' := hf
  rw [fitsF, Bool.and_eq_true] at hf
  rw [seesF, Bool.and_eq_true] at hs
  have hto : PutTo us j ⟨k, n, s, l⟩ := put_to fun h2 => (fits_bound hf' h2).2
  have hin := inner_put hp hto
  have hL := filled_fitsL hp l (inner k j) (by unfold inner; split <;> omega) (by
   have : inner k ((us.length : Int) + j) = us.length + inner k j := by unfold inner; split <;> omega
   rw [← this]; exact hf.2) hs.2
  simp only at hin
  rw [filledF, fitsF, hin, hL, Bool.and_true]
  have hlen : (l.length : Int) ≤ 8 := by
   have := hf.1
   unfold headFitsS at this
   simp only [Bool.and_eq_true, Bool.not_eq_true', decide_eq_false_iff_not] at this
   omega
  cases hto with
  | put h2 hjx i hi e ey =>
   simp only at ey
   rw [ey]
   have := arg_head (vs := vs) (arg_up (hp.args _ (getD_mem hi)) hj) (filledL l us (inner k j)) (by rw [filledL_length]; exact hlen)
   exact this
  | same ex bx =>
   simp only at ex
   rw [ex]
   have h1 := hf.1
   unfold headFitsS at h1 ⊢
   rw [filledL_length]
   simp only [Bool.and_eq_true] at h1 ⊢
   refine ⟨h1.1, h1.2.1, h1.2.2.1, ?_⟩
   have ht := h1.2.2.2
   unfold headTestS at ht ⊢
   rw [filledL_length]
   by_cases k1 : k = 1
   ·subst k1; simpa using ht
   by_cases k2 : k = 2
   ·subst k2
    have hb := bx rfl
    have hb' : n < j := hb
    have := fits_bound hf' rfl
    have h0 : 0 ≤ n := this.1
    have hd := hp.pos
    simp at ht ⊢
    omega
   by_cases k3 : k = 3
   ·subst k3; simpa using ht
   by_cases k5 : k = 5
   ·subst k5; simpa using ht
   by_cases k4 : k = 4
   ·subst k4
    simp at ht ⊢
    refine ⟨ht.1, ht.2.1, ?_⟩
    refine pattern_put hp hj ?_ ht.2.2 ?_ ?_
    ·have := hs.1
     unfold seesTop at this
     simp at this
     exact this
    ·have h2 := hf.2
     exact (fitsL_iff vs _ l).1 h2
    ·exact (seesL_iff vs lv l).1 hs.2
   ·have e : headTestS vs k n l ((us.length : Int) + j) = false := by unfold headTestS; simp [k1, k2, k3, k4, k5]
    unfold headTestS at e
    rw [e] at ht
    cases ht
theorem filled_fitsL {vs : List Va} {lv d : Int} {us : List Term} (hp : PutOk vs lv d us) : ∀ (l : List Term) (j : Int), 0 ≤ j → fitsL vs l (us.length + j) = true → seesL vs lv l = true → fitsL vs (filledL l us j) (d + j) = true
 | [], j, hj, hf, hs => by rw [filledL, fitsL]
 | t :: l, j, hj, hf, hs => by
  rw [fitsL, Bool.and_eq_true] at hf
  rw [seesL, Bool.and_eq_true] at hs
  rw [filledL, fitsL, filled_fits hp t j hj hf.1 hs.1, filled_fitsL hp l j hj hf.2 hs.2]; rfl
end
end Go.Proofs.YthkjmiejaoomcaaGreat.Am
namespace Go.Proofs.YthkjmiejaoomcaaGreat.Am
open Go Go.RowKit Go.Proofs
set_option linter.unusedVariables false
set_option linter.unusedSimpArgs false
mutual
def normV (vs : List Va) : Term → Bool
 | ⟨k, n, _, l⟩ => !(k == 4 && (valAt vs n).is) && normVL vs l
def normVL (vs : List Va) : List Term → Bool
 | [] => true
 | t :: ts => normV vs t && normVL vs ts
end
theorem normV_eq (vs : List Va) (t : Term) : normV vs t = (!(t.kind == 4 && (valAt vs t.n).is) && normVL vs t.args) := by obtain ⟨a, b, c, l⟩ := t; rw [normV]
theorem normVL_iff (vs : List Va) : ∀ l : List Term, normVL vs l = true ↔ ∀ t ∈ l, normV vs t = true
 | [] => by simp [normVL]
 | t :: l => by rw [normVL, Bool.and_eq_true, normVL_iff vs l]; simp
theorem fits_len {vs : List Va} {t : Term} {d : Int} (h : fitsF vs t d = true) : t.args.length ≤ 8 := by
 rw [fitsF_eq, Bool.and_eq_true] at h
 have h1 := h.1
 unfold headFitsS at h1
 simp only [Bool.and_eq_true, Bool.not_eq_true', decide_eq_false_iff_not] at h1
 omega
theorem fits_var {vs : List Va} {t : Term} {d : Int} (h : fitsF vs t d = true) (h4 : (t.kind == 4) = true) : 0 ≤ t.n ∧ t.n < (vs.length : Int) ∧ isPatternF (valAt vs t.n) t.args = true := by
 rw [fitsF_eq, Bool.and_eq_true] at h
 have h1 := h.1
 have e : t.kind = 4 := by simpa using h4
 unfold headFitsS headTestS at h1
 rw [e] at h1
 simp at h1
 exact ⟨h1.2.2.2.1, by omega, h1.2.2.2.2.2⟩
theorem simple_norm {vs : List Va} {u : Term} (h : isSimpleF u = true) : normV vs u = true := by
 have hk := simple_kind h
 rw [normV_eq, hk.2]
 rcases hk.1 with e | e <;> rw [e] <;> rfl
theorem pattern_args {v : Va} {l : List Term} (h : isPatternF v l = true) : (∀ u ∈ l, isSimpleF u = true ∧ (u.kind = 3 → v.level ≤ u.n)) ∧ l.Pairwise (fun b u => isF u b = false) ∧ arityF v.type = l.length := by
 unfold isPatternF at h
 rw [Bool.and_eq_true] at h
 obtain ⟨h1, _, h3⟩ := (argsGoV_iff _ _ _).1 h.2
 refine ⟨h1, h3, ?_⟩
 have := h.1
 simp only [beq_iff_eq] at this
 omega
theorem val_norm {vs : List Va} : ∀ (s : Nat) (v : Term) (d : Int), v.size ≤ s → fitsF vs v d = true → normV vs v = true → Val vs d v v := by
 intro s
 induction s with
 | zero => intro v d hs; obtain ⟨a, b, c, l⟩ := v; rw [Term.size] at hs; omega
 | succ s ih =>
  intro v d hs hf hn
  rw [normV_eq, Bool.and_eq_true] at hn
  have hf' := hf
  rw [fitsF_eq, Bool.and_eq_true] at hf'
  have hL := (fitsL_iff _ _ _).1 hf'.2
  have hN := (normVL_iff _ _).1 hn.2
  have : Val vs d v ⟨v.kind, v.n, v.name, v.args⟩ := by
   refine .mk .zero ⟨fun h4 => ?_, fits_len hf⟩ rfl fun i a w ha hw => ?_
   ·have := fits_var hf h4
    refine ⟨this.1, this.2.1, ?_⟩
    have h1 := hn.1
    rw [h4] at h1
    simpa using h1
   ·rw [ha] at hw
    injection hw with hw
    subst hw
    have hm := List.mem_of_getElem? ha
    have := size_arg v i ha
    exact ih a _ (by omega) (hL a hm) (hN a hm)
  obtain ⟨a, b, c, l⟩ := v
  exact this
theorem val_step {vs : List Va} {d : Int} {t v : Term} (h4 : (t.kind == 4) = true) (hi : (valAt vs t.n).is = true) (ok : StepOk vs d t) (h : Val vs d (filledF (bodyOf vs t) t.args 0) v) : Val vs d t v := by
 cases h with
 | mk hs hn hl ha => exact .mk (.succ h4 hi ok hs) hn hl ha
def Good (vs : List Va) (d : Int) (t v : Term) : Prop := Val vs d t v ∧ fitsF vs v d = true ∧ normV vs v = true
def HasVal (vs : List Va) (n : Int) : Prop := ∀ (us : List Term) (s : ByteArray) (d : Int), 0 ≤ d → fitsF vs ⟨4, n, s, us⟩ d = true → ∃ v, Good vs d ⟨4, n, s, us⟩ v
theorem inner_pos {k : Int} {d : Int} (h : 0 ≤ d) : 0 ≤ inner k d := by unfold inner; split <;> omega
mutual
theorem val_struct {vs : List Va} : ∀ (t : Term) (d : Int), 0 ≤ d → fitsF vs t d = true → (∀ k ∈ directF t, HasVal vs k) → ∃ v, Good vs d t v
 | ⟨k, n, s, l⟩, d, hd, hf, hk => by
  rw [directF] at hk
  cases h4 : (k == 4)
  ·rw [h4] at hk
   simp only [Bool.false_eq_true, if_false] at hk
   have hf' := hf
   rw [fitsF, Bool.and_eq_true] at hf'
   obtain ⟨l', hl, hv, hf2, hn2⟩ := val_structL l (inner k d) (inner_pos hd) hf'.2 hk
   refine ⟨⟨k, n, s, l'⟩, ?_, ?_, ?_⟩
   ·exact .mk (u := ⟨k, n, s, l⟩) .zero ⟨fun h => absurd (show (k == 4) = true from h) (by rw [h4]; decide), fits_len hf⟩ hl hv
   ·rw [fitsF, hf2, Bool.and_true]
    have h1 := hf'.1
    unfold headFitsS headTestS at h1 ⊢
    rw [hl]
    have k4 : ¬ k = 4 := by simpa using h4
    simp only [h4] at h1 ⊢
    exact h1
   ·rw [normV, h4, hn2]; rfl
  ·have e : k = 4 := by simpa using h4
   subst e
   exact hk n (by simp) l s d hd hf
theorem val_structL {vs : List Va} : ∀ (l : List Term) (d : Int), 0 ≤ d → fitsL vs l d = true → (∀ k ∈ directL l, HasVal vs k) → ∃ l' : List Term, l'.length = l.length ∧ (∀ (i : Nat) (a w : Term), l[i]? = some a → l'[i]? = some w → Val vs d a w) ∧ fitsL vs l' d = true ∧ normVL vs l' = true
 | [], d, hd, hf, hk => ⟨[], rfl, fun i a w ha => by simp at ha, by rw [fitsL], by rw [normVL]⟩
 | t :: l, d, hd, hf, hk => by
  rw [fitsL, Bool.and_eq_true] at hf
  rw [directL] at hk
  obtain ⟨v, hv, hf1, hn1⟩ := val_struct t d hd hf.1 fun k hk' => hk k (List.mem_append.2 (.inl hk'))
  obtain ⟨l', hl, hv', hf2, hn2⟩ := val_structL l d hd hf.2 fun k hk' => hk k (List.mem_append.2 (.inr hk'))
  refine ⟨v :: l', by simp [hl], fun i a w ha hw => ?_, by rw [fitsL, hf1, hf2]; rfl, by rw [normVL, hn1, hn2]; rfl⟩
  cases i with
  | zero =>
   simp only [List.getElem?_cons_zero, Option.some.injEq] at ha hw
   subst ha; subst hw; exact hv
  | succ i =>
   simp only [List.getElem?_cons_succ] at ha hw
   exact hv' i a w ha hw
end
mutual
theorem direct_filled {vs : List Va} {lv d : Int} {us : List Term} (hp : PutOk vs lv d us) : ∀ (b : Term) (j : Int), fitsF vs b (us.length + j) = true → ∀ k ∈ directF (filledF b us j), k ∈ directF b
 | ⟨k, n, s, l⟩, j, hf, m, hm => by
  have hto : PutTo us j ⟨k, n, s, l⟩ := put_to fun h2 => (fits_bound hf h2).2
  have hk := kind_put hp hto
  simp only at hk
  rw [filledF, directF, hk] at hm
  rw [directF]
  rw [fitsF, Bool.and_eq_true] at hf
  cases h4 : (k == 4)
  ·rw [h4] at hm
   simp only [Bool.false_eq_true, if_false] at hm ⊢
   refine direct_filledL hp l (inner k j) ?_ m hm
   have : inner k ((us.length : Int) + j) = us.length + inner k j := by unfold inner; split <;> omega
   rw [← this]; exact hf.2
  ·rw [h4] at hm
   simp only [if_true] at hm ⊢
   cases hto with
   | same e _ => simp only at e; rw [e] at hm; exact hm
   | put h2 hj i hi e ey =>
    have e4 : k = 4 := by simpa using h4
    have e2 : k = 2 := h2
    omega
theorem direct_filledL {vs : List Va} {lv d : Int} {us : List Term} (hp : PutOk vs lv d us) : ∀ (l : List Term) (j : Int), fitsL vs l (us.length + j) = true → ∀ k ∈ directL (filledL l us j), k ∈ directL l
 | [], j, hf, m, hm => by rw [filledL] at hm; exact hm
 | t :: l, j, hf, m, hm => by
  rw [fitsL, Bool.and_eq_true] at hf
  rw [filledL, directL] at hm
  rw [directL]
  rcases List.mem_append.1 hm with hm | hm
  ·exact List.mem_append.2 (.inl (direct_filled hp t j hf.1 m hm))
  ·exact List.mem_append.2 (.inr (direct_filledL hp l j hf.2 m hm))
end
theorem body_direct : ∀ (n : Nat) (t : Term), (bodyF n t).2 = true → ∀ k ∈ directF (bodyF n t).1, k ∈ directF t
 | 0, t, _, k, hk => by rw [bodyF] at hk; exact hk
 | n + 1, t, h, k, hk => by
  rw [bodyF] at h hk
  cases hn : noLam t
  ·rw [hn] at h hk
   simp only [Bool.false_eq_true, if_false] at h hk
   obtain ⟨u, hu⟩ := noLam_one hn
   have h4 := noLam_kind hn
   rw [hu] at h hk
   simp only [List.headD_cons] at h hk
   have := body_direct n u h k hk
   obtain ⟨a, b, c, l⟩ := t
   simp only at hu h4
   subst hu
   rw [directF, h4, directL, directL]
   simpa using this
  ·rw [hn] at h; simp at h
mutual
theorem fits_fill {vs : List Va} : ∀ (b : Term) (m : Nat) (j : Int), fitsF vs b (m + j) = true → fillOk b m j = true
 | ⟨k, n, s, l⟩, m, j, hf => by
  have hb := fits_bound hf
  rw [fitsF, Bool.and_eq_true] at hf
  rw [fillOk, Bool.and_eq_true]
  refine ⟨?_, ?_⟩
  ·by_cases e : k = 2
   ·have := hb e
    simp only at this
    simp; right; omega
   ·simp [e]
  ·refine fits_fillL (vs := vs) l m (inner k j) ?_
   have : inner k ((m : Int) + j) = m + inner k j := by unfold inner; split <;> omega
   rw [← this]; exact hf.2
theorem fits_fillL {vs : List Va} : ∀ (l : List Term) (m : Nat) (j : Int), fitsL vs l (m + j) = true → fillOkL l m j = true
 | [], m, j, hf => by rw [fillOkL]
 | t :: l, m, j, hf => by
  rw [fitsL, Bool.and_eq_true] at hf
  rw [fillOkL, fits_fill t m j hf.1, fits_fillL l m j hf.2]; rfl
end
theorem step_ok {vs : List Va} (hc : checkF vs = 0) {t : Term} {d : Int} (hd : 0 ≤ d) (hf : fitsF vs t d = true) (h4 : (t.kind == 4) = true) (hi : (valAt vs t.n).is = true) :
  StepOk vs d t ∧ PutOk vs (valAt vs t.n).level d t.args ∧ fitsF vs (bodyOf vs t) t.args.length = true ∧ seesF vs (valAt vs t.n).level (bodyOf vs t) = true := by
 unfold checkF at hc
 split at hc
 ·cases hc
 ·split at hc
  ·cases hc
  ·rename_i hl
   have hl' : longF vs 4000 = false := by simpa using hl
   split at hc
   ·rename_i hall
    rw [List.all_eq_true] at hall
    have hv := fits_var hf h4
    have hpat := pattern_args hv.2.2
    have hmem := valAt_mem hi
    have hva := hall _ hmem
    have hsz := long_small vs 4000 hl' _ hmem hi
    unfold validF at hva
    rw [hi, Bool.and_eq_true] at hva
    have h2 := hva.2
    simp only [if_true] at h2
    rw [hpat.2.2] at h2
    unfold inF at h2
    simp only [Bool.and_eq_true] at h2
    obtain ⟨hb, _, hfb, hsb⟩ := h2
    have hf' := hf
    rw [fitsF_eq, Bool.and_eq_true] at hf'
    have hin : inner t.kind d = d := by
     have : t.kind = 4 := by simpa using h4
     unfold inner; rw [this]; rfl
    rw [hin] at hf'
    have hargs : ∀ u ∈ t.args, ArgOk d u := fun u hu => fits_arg (hpat.1 u hu).1 ((fitsL_iff _ _ _).1 hf'.2 u hu)
    refine ⟨⟨hv.1, hv.2.1, by omega, hb, ?_, hargs, fits_len hf⟩, ⟨hd, hargs, fun u hu => (hpat.1 u hu).2, hpat.2.1⟩, hfb, hsb⟩
    exact fits_fill _ _ 0 (by rw [Int.add_zero]; exact hfb)
   ·cases hc
theorem acc_val {vs : List Va} (hc : checkF vs = 0) {n : Int} (ha : Acc (Edge vs) n) : HasVal vs n := by
 induction ha with
 | intro n _ ih =>
  intro us s d hd hf
  cases hi : (valAt vs n).is
  ·have hv := fits_var hf rfl
   have hpat := pattern_args hv.2.2
   have hn : normV vs ⟨4, n, s, us⟩ = true := by
    rw [normV, hi, Bool.and_false, Bool.not_false, Bool.true_and]
    exact (normVL_iff _ _).2 fun u hu => simple_norm (hpat.1 u hu).1
   exact ⟨_, val_norm _ _ d (Nat.le_refl _) hf hn, hf, hn⟩
  ·obtain ⟨ok, hp, hfb, hsb⟩ := step_ok hc (t := ⟨4, n, s, us⟩) hd hf rfl hi
   have hff := filled_fits hp (bodyOf vs ⟨4, n, s, us⟩) 0 (Int.le_refl _) (by rw [Int.add_zero]; exact hfb) hsb
   rw [Int.add_zero] at hff
   obtain ⟨v, hv, h1, h2⟩ := val_struct _ d hd hff fun k hk => ih k ⟨hi, body_direct _ _ ok.body k (direct_filled hp _ 0 (by rw [Int.add_zero]; exact hfb) k hk)⟩
   exact ⟨v, val_step rfl hi ok hv, h1, h2⟩
theorem has_value {vs : List Va} (hc : checkF vs = 0) {t : Term} {d : Int} (hd : 0 ≤ d) (hf : fitsF vs t d = true) : ∃ v, Good vs d t v := by
 have hc' := hc
 unfold checkF at hc'
 split at hc'
 ·cases hc'
 ·split at hc'
  ·cases hc'
  ·rename_i hl
   have hl' : longF vs 4000 = false := by simpa using hl
   split at hc'
   ·rename_i hall
    split at hc'
    ·cases hc'
    ·rename_i hcirc
     have hacc := (circles_acc (good_of vs hl' hall).plain).1 (by simpa using hcirc)
     have hvars := vars_direct _ _ ((fits_vars vs _).1 t d (Nat.le_refl _) hf)
     refine val_struct t d hd hf fun k hk => ?_
     have := hvars k hk
     have h2 := hacc k.toNat (by omega)
     rw [Int.toNat_of_nonneg this.1] at h2
     exact acc_val hc h2
   ·cases hc'
end Go.Proofs.YthkjmiejaoomcaaGreat.Am
