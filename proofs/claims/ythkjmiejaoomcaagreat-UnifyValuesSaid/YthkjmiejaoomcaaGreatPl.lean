/- Part of the proof of a law of layer 5: own texts, joined. -/
import Derived.Test.YthkjmiejaoomcaaGreatPk
set_option linter.unusedVariables false
set_option linter.unusedSimpArgs false
set_option linter.unnecessarySimpa false
/- What circles tells: not every variable is accessible. -/
namespace Go.Proofs.YthkjmiejaoomcaaGreat.Am
open Go Go.RowKit Go.Proofs
set_option linter.unusedVariables false
set_option linter.unusedSimpArgs false

/-! ### ways -/
inductive Up {α : Type} (E : α → α → Prop) : α → α → Prop
  | one {k n : α} : E k n → Up E k n
  | step {k j n : α} : E k j → Up E j n → Up E k n
theorem Up.trans {α : Type} {E : α → α → Prop} {k j n : α} (h : Up E k j) (h2 : Up E j n) : Up E k n := by
  induction h with
  | one e => exact .step e h2
  | step e _ ih => exact .step e (ih h2)
theorem Up.last {α : Type} {E : α → α → Prop} {k n : α} (h : Up E k n) : ∃ x, E x n ∧ (k = x ∨ Up E k x) := by
  induction h with
  | one e => exact ⟨_, e, .inl rfl⟩
  | step e _ ih =>
    obtain ⟨x, hx, h | h⟩ := ih
    · subst h; exact ⟨_, hx, .inr (.one e)⟩
    · exact ⟨x, hx, .inr (.step e h)⟩
theorem acc_irrefl {α : Type} {E : α → α → Prop} {n : α} (h : Acc E n) : ¬ Up E n n := by
  induction h with
  | intro n _ ih =>
    intro hu
    obtain ⟨x, hx, h | h⟩ := hu.last
    · subst h; exact ih n hx hu
    · exact ih x hx (Up.trans (.one hx) h)

/-! ### the variables of a term -/
mutual
def directF : Term → List Int
  | ⟨k, n, _, l⟩ => if k == 4 then [n] else directL l
def directL : List Term → List Int
  | [] => []
  | t :: ts => directF t ++ directL ts
end
mutual
/-- Variables have no variables in their Args. -/
def plainV : Term → Bool
  | ⟨k, _, _, l⟩ => if k == 4 then (directL l).isEmpty && plainVL l else plainVL l
def plainVL : List Term → Bool
  | [] => true
  | t :: ts => plainV t && plainVL ts
end
def seqEx (ex : Int → CSt → Bool × CSt) : List Int → CSt → Bool × CSt
  | [], es => (false, es)
  | n :: l, es => if (ex n es).1 then (true, (ex n es).2) else seqEx ex l (ex n es).2
theorem seqEx_append (ex : Int → CSt → Bool × CSt) : ∀ (l m : List Int) (es : CSt), seqEx ex (l ++ m) es = if (seqEx ex l es).1 then (true, (seqEx ex l es).2) else seqEx ex m (seqEx ex l es).2
  | [], m, es => rfl
  | n :: l, m, es => by
    rw [List.cons_append, seqEx, seqEx]
    cases (ex n es).1
    · simp only [Bool.false_eq_true, if_false]
      exact seqEx_append ex l m _
    · rfl
mutual
theorem visitG_seq (ex : Int → CSt → Bool × CSt) : ∀ (t : Term) (es : CSt), plainV t = true → visitG ex t es = seqEx ex (directF t) es
  | ⟨k, n, s, l⟩, es, h => by
    rw [plainV] at h
    rw [visitG, directF]
    cases hk : (k == 4)
    · simp only [hk, Bool.false_eq_true, if_false] at h ⊢
      exact visitL_seq ex l es h
    · simp only [hk, if_true, Bool.and_eq_true] at h ⊢
      rw [seqEx]
      cases (ex n es).1
      · simp only [Bool.false_eq_true, if_false]
        rw [visitL_seq ex l _ h.2, List.isEmpty_iff.1 h.1]
      · rfl
theorem visitL_seq (ex : Int → CSt → Bool × CSt) : ∀ (l : List Term) (es : CSt), plainVL l = true → visitL ex l es = seqEx ex (directL l) es
  | [], es, _ => by rw [visitL, directL, seqEx]
  | t :: l, es, h => by
    rw [plainVL, Bool.and_eq_true] at h
    rw [visitL, directL, seqEx_append, visitG_seq ex t es h.1]
    split
    · rfl
    · exact visitL_seq ex l _ h.2
end
/-- Variable n has a value in which variable k stands. -/
def Edge (vs : List Va) (k n : Int) : Prop := (valAt vs n).is = true ∧ k ∈ directF (valAt vs n).t
/-- What is needed of the values. -/
structure PlainVals (vs : List Va) : Prop where
  plain : ∀ n, (valAt vs n).is = true → plainV (valAt vs n).t = true
  low : ∀ n k, Edge vs k n → 0 ≤ k ∧ k < (vs.length : Int)

/-! ### false: accessible -/
def Known (vs : List Va) (es : CSt) : Prop := ∀ n, stOf es n = 0 ∨ stOf es n = 1 ∨ (stOf es n = 2 ∧ Acc (Edge vs) n)
theorem Known.one {vs : List Va} {es : CSt} (h : Known vs es) (n : Int) : Known vs (mset n 1 es) := fun j => by
  rw [stOf_set]
  cases hj : (j == n)
  · exact h j
  · exact .inr (.inl rfl)
theorem Known.two {vs : List Va} {es : CSt} (h : Known vs es) {n : Int} (ha : Acc (Edge vs) n) : Known vs (mset n 2 es) := fun j => by
  rw [stOf_set]
  cases hj : (j == n)
  · exact h j
  · have e : j = n := by simpa using hj
    subst e
    exact .inr (.inr ⟨rfl, ha⟩)
theorem seq_false {vs : List Va} (ex : Int → CSt → Bool × CSt) (hex : ∀ n es, Later es (ex n es).2) (f : Nat)
    (ih : ∀ n es, 0 ≤ n → n < (vs.length : Int) → Known vs es → zeros vs.length es ≤ f → (ex n es).1 = false → Acc (Edge vs) n ∧ Known vs (ex n es).2) :
    ∀ (l : List Int) (es : CSt), (∀ n ∈ l, 0 ≤ n ∧ n < (vs.length : Int)) → Known vs es → zeros vs.length es ≤ f → (seqEx ex l es).1 = false → (∀ n ∈ l, Acc (Edge vs) n) ∧ Known vs (seqEx ex l es).2
  | [], es, _, hk, _, _ => ⟨fun n hn => absurd hn (List.not_mem_nil), hk⟩
  | n :: l, es, hl, hk, hz, hf => by
    rw [seqEx] at hf ⊢
    cases hb : (ex n es).1
    · simp only [hb, Bool.false_eq_true, if_false] at hf ⊢
      have h1 := ih n es (hl n (List.mem_cons_self ..)).1 (hl n (List.mem_cons_self ..)).2 hk hz hb
      have h2 := seq_false ex hex f ih l _ (fun m hm => hl m (List.mem_cons_of_mem _ hm)) h1.2 (Nat.le_trans (zeros_later _ (hex n es)) hz) hf
      refine ⟨fun m hm => ?_, h2.2⟩
      rcases List.mem_cons.1 hm with rfl | hm
      · exact h1.1
      · exact h2.1 m hm
    · simp only [hb, if_true] at hf; cases hf
theorem acc_not {vs : List Va} {n : Int} (hi : (valAt vs n).is = false) : Acc (Edge vs) n := ⟨_, fun k hk => by have := hk.1; rw [hi] at this; cases this⟩
theorem ex_false {vs : List Va} (hp : PlainVals vs) : ∀ (f : Nat) (n : Int) (es : CSt), 0 ≤ n → n < (vs.length : Int) → Known vs es → zeros vs.length es ≤ f → (exF vs f n es).1 = false → Acc (Edge vs) n ∧ Known vs (exF vs f n es).2 := by
  intro f
  induction f using Nat.strongRecOn with
  | ind f ih =>
  intro n es h0 h1 hk hz hf
  cases hi : (valAt vs n).is
  · rw [exF_not vs f n es hi]
    exact ⟨acc_not hi, hk⟩
  · cases s1 : (stOf es n == 1)
    case true => rw [exF_one vs f n es hi s1] at hf; cases hf
    cases s0 : (stOf es n == 0)
    case false =>
      rw [exF_two vs f n es hi s1 s0]
      refine ⟨?_, hk⟩
      rcases hk n with h | h | h
      · rw [h] at s0; cases s0
      · rw [h] at s1; cases s1
      · exact h.2
    have hz1 := zeros_set vs.length es n 1 (by decide) h0 h1 s0
    obtain ⟨f', rfl⟩ : ∃ f', f = f' + 1 := ⟨f - 1, by omega⟩
    rw [exF_zero vs f' n es hi s0] at hf ⊢
    rw [visitG_seq _ _ _ (hp.plain n hi)] at hf ⊢
    cases hb : (seqEx (exF vs f') (directF (valAt vs n).t) (mset n 1 es)).1
    · have h2 := seq_false (exF vs f') (exF_later vs f') f' (ih f' (by omega)) (directF (valAt vs n).t) (mset n 1 es) (fun k hk => hp.low n k ⟨hi, hk⟩) (hk.one n) (by omega) hb
      have ha : Acc (Edge vs) n := ⟨_, fun k hk => h2.1 k hk.2⟩
      simp only [Bool.false_eq_true, if_false]
      exact ⟨ha, h2.2.two ha⟩
    · simp only [hb, if_true] at hf; cases hf

/-! ### accessible: false -/
/-- No variable is under way in es' that is not in es. -/
def Fewer1 (es es' : CSt) : Prop := ∀ j, stOf es' j = 1 → stOf es j = 1
theorem seq_true {vs : List Va} (ex : Int → CSt → Bool × CSt) : ∀ (l : List Int) (es : CSt),
    (∀ n ∈ l, ∀ es', Fewer1 es es' → (ex n es').1 = false ∧ Fewer1 es' (ex n es').2) → (seqEx ex l es).1 = false ∧ Fewer1 es (seqEx ex l es).2
  | [], es, _ => ⟨rfl, fun j h => h⟩
  | n :: l, es, h => by
    have h1 := h n (List.mem_cons_self ..) es (fun j h => h)
    rw [seqEx, h1.1]
    simp only [Bool.false_eq_true, if_false]
    have h2 := seq_true (vs := vs) ex l (ex n es).2 (fun m hm es' he => h m (List.mem_cons_of_mem _ hm) es' (fun j hj => h1.2 j (he j hj)))
    exact ⟨h2.1, fun j hj => h1.2 j (h2.2 j hj)⟩
theorem ex_true {vs : List Va} (hp : PlainVals vs) (n : Int) (ha : Acc (Edge vs) n) : ∀ (f : Nat) (es : CSt), (∀ j, stOf es j = 1 → Up (Edge vs) n j) → (exF vs f n es).1 = false ∧ Fewer1 es (exF vs f n es).2 := by
  induction ha with
  | intro n hacc ih =>
    intro f es hu
    cases hi : (valAt vs n).is
    · rw [exF_not vs f n es hi]
      exact ⟨rfl, fun j h => h⟩
    · cases s1 : (stOf es n == 1)
      case true => exact absurd (hu n (by simpa using s1)) (acc_irrefl ⟨n, hacc⟩)
      cases s0 : (stOf es n == 0)
      case false =>
        rw [exF_two vs f n es hi s1 s0]
        exact ⟨rfl, fun j h => h⟩
      cases f with
      | zero =>
        rw [exF]
        exact ⟨by rw [hi, s1]; rfl, fun j h => h⟩
      | succ f =>
        rw [exF_zero vs f n es hi s0, visitG_seq _ _ _ (hp.plain n hi)]
        have h1 := seq_true (vs := vs) (exF vs f) (directF (valAt vs n).t) (mset n 1 es) (fun k hk es' he => by
          refine ih k ⟨hi, hk⟩ f es' (fun j hj => ?_)
          have hj := he j hj
          rw [stOf_set] at hj
          cases hjn : (j == n)
          · rw [hjn] at hj
            exact .step ⟨hi, hk⟩ (hu j (by simpa using hj))
          · have e : j = n := by simpa using hjn
            subst e
            exact .one ⟨hi, hk⟩)
        rw [h1.1]
        simp only [Bool.false_eq_true, if_false]
        refine ⟨trivial, fun j hj => ?_⟩
        rw [stOf_set] at hj
        cases hjn : (j == n)
        · rw [hjn] at hj
          have hj := h1.2 j (by simpa using hj)
          rw [stOf_set, hjn] at hj
          simpa using hj
        · rw [hjn] at hj; simp only [if_true] at hj; exact absurd hj (by decide)
theorem visitG_var (ex : Int → CSt → Bool × CSt) (n : Int) (es : CSt) : visitG ex (varT n) es = ex n es := by
  rw [varT, visitG]
  simp only [beq_self_eq_true, if_true]
  cases h : (ex n es).1
  · simp only [Bool.false_eq_true, if_false]
    rw [visitL, ← h]
  · simp only [if_true]
    rw [← h]
theorem circL_false {vs : List Va} (hp : PlainVals vs) : ∀ (k i : Nat) (es : CSt), i + k = vs.length → Known vs es → circL (exF vs vs.length) k i es = false → ∀ j : Nat, i ≤ j → j < vs.length → Acc (Edge vs) j
  | 0, i, es, hk, _, _ => fun j h1 h2 => by omega
  | k + 1, i, es, hk, hn, hc => fun j h1 h2 => by
    rw [circL, visitG_var] at hc
    cases hb : (exF vs vs.length i es).1
    · simp only [hb, Bool.false_eq_true, if_false] at hc
      have h3 := ex_false hp vs.length i es (by omega) (by omega) hn (zeros_le _ _) hb
      by_cases e : j = i
      · subst e; exact h3.1
      · exact circL_false hp k (i + 1) _ (by omega) h3.2 hc j (by omega) h2
    · simp only [hb, if_true] at hc; cases hc
theorem circL_true {vs : List Va} (hp : PlainVals vs) (ha : ∀ j : Nat, j < vs.length → Acc (Edge vs) j) : ∀ (k i : Nat) (es : CSt), i + k = vs.length → (∀ j, stOf es j ≠ 1) → circL (exF vs vs.length) k i es = false
  | 0, i, es, hk, _ => rfl
  | k + 1, i, es, hk, hn => by
    have h3 := ex_true hp i (ha i (by omega)) vs.length es (fun j hj => absurd hj (hn j))
    rw [circL, visitG_var, h3.1]
    simp only [Bool.false_eq_true, if_false]
    exact circL_true hp ha k (i + 1) _ (by omega) (fun j hj => hn j (h3.2 j hj))
/-- circles tells whether some variable is not accessible. -/
theorem circles_acc {vs : List Va} (hp : PlainVals vs) : circlesF vs = false ↔ ∀ j : Nat, j < vs.length → Acc (Edge vs) j := by
  have h0 : ∀ j, stOf [] j = 0 := fun j => rfl
  constructor
  · intro h j hj
    exact circL_false hp vs.length 0 [] (by omega) (fun n => .inl (h0 n)) h j (Nat.zero_le _) hj
  · intro h
    exact circL_true hp h vs.length 0 [] (by omega) (fun j hj => by rw [h0] at hj; cases hj)
end Go.Proofs.YthkjmiejaoomcaaGreat.Am
/- Removing what is settled: what the reference's round tells. -/
namespace Go.Proofs.YthkjmiejaoomcaaGreat.Am
open Go Go.RowKit Go.Proofs
set_option linter.unusedVariables false
set_option linter.unusedSimpArgs false

/-- The variables that stand in the value of variable j. -/
def dl (vs : List Va) (j : Int) : List Int := if (valAt vs j).is then directF (valAt vs j).t else []
theorem mem_dl {vs : List Va} {k j : Int} : k ∈ dl vs j ↔ Edge vs k j := by
  unfold dl Edge
  cases (valAt vs j).is <;> simp
theorem acc_dl {vs : List Va} {j : Int} (h : ∀ k ∈ dl vs j, Acc (Edge vs) k) : Acc (Edge vs) j := ⟨_, fun k hk => h k (mem_dl.2 hk)⟩
/-- Lists of uses: how often each variable stands in them. -/
def UsesOk (us : List (List Int)) (c : Nat → Nat → Nat) (b : Nat) : Prop := ∀ x l, us[x]? = some l → (∀ j : Nat, l.count (j : Int) = c x j) ∧ ∀ y ∈ l, 0 ≤ y ∧ y < (b : Int)
/-- Behind the first i variables. -/
structure Ph1 (vs : List Va) (i : Nat) (st : List Bool) (lf td : List Int) : Prop where
  lfs : ∀ j, j < vs.length → lf[j]? = some (if j < i then ((dl vs j).length : Int) else 0)
  sts : ∀ j, j < vs.length → st[j]? = some (decide (j < i) && (dl vs j).isEmpty)
  mem : ∀ y, y ∈ td ↔ ∃ j : Nat, y = j ∧ j < i ∧ dl vs j = []
  nod : td.Nodup
  num : st.count true = td.length
  len : st.length = vs.length
  lel : lf.length = vs.length
def use1 (vs : List Va) (i : Nat) : Nat → Nat → Nat := fun x j => if j < i then (dl vs j).count (x : Int) else 0
def use2 (vs : List Va) (i : Nat) (l : List Int) : Nat → Nat → Nat := fun x j => if j < i then (dl vs j).count (x : Int) else if j = i then l.count (x : Int) else 0
structure Ph2 (vs : List Va) (P rest : List Int) (st : List Bool) (lf td : List Int) : Prop where
  lfs : ∀ j : Nat, j < vs.length → lf[j]? = some (((dl vs j).countP (fun y => !P.contains y) + rest.count (j : Int) : Nat) : Int)
  sts : ∀ j : Nat, j < vs.length → st[j]? = some (td.contains (j : Int))
  acc : ∀ y ∈ td, Acc (Edge vs) y ∧ 0 ≤ y ∧ y < (vs.length : Int)
  zer : ∀ j : Nat, j < vs.length → (j : Int) ∉ td → (dl vs j).countP (fun y => !P.contains y) + rest.count (j : Int) ≠ 0
  nod : td.Nodup
  num : st.count true = td.length
  len : st.length = vs.length
  lel : lf.length = vs.length
  sub : ∀ y ∈ P, y ∈ td

theorem ph1_start (vs : List Va) : Ph1 vs 0 (List.replicate vs.length false) (List.replicate vs.length 0) [] := by
  refine ⟨fun j hj => ?_, fun j hj => ?_, fun y => ?_, List.nodup_nil, ?_, by simp, by simp⟩
  · rw [List.getElem?_replicate, if_pos hj]; rfl
  · rw [List.getElem?_replicate, if_pos hj]; rfl
  · constructor
    · intro h; exact absurd h List.not_mem_nil
    · rintro ⟨j, _, h, _⟩; omega
  · simp [List.count_replicate]
theorem use_start (vs : List Va) : UsesOk (List.replicate vs.length []) (use1 vs 0) 0 := by
  intro x l hl
  rw [List.getElem?_replicate] at hl
  split at hl
  · injection hl with hl; subst hl
    exact ⟨fun j => by rw [use1, if_neg (Nat.not_lt_zero _)]; rfl, fun y hy => absurd hy List.not_mem_nil⟩
  · cases hl
theorem use_inner (vs : List Va) (i : Nat) {us : List (List Int)} (h : UsesOk us (use1 vs i) i) : UsesOk us (use2 vs i []) (i + 1) := by
  intro x l hl
  obtain ⟨h1, h2⟩ := h x l hl
  refine ⟨fun j => ?_, fun y hy => ?_⟩
  · rw [h1 j, use1, use2]
    split
    · rfl
    · split <;> simp
  · have := h2 y hy; omega
theorem use_outer (vs : List Va) (i : Nat) {us : List (List Int)} (h : UsesOk us (use2 vs i (dl vs i)) (i + 1)) : UsesOk us (use1 vs (i + 1)) (i + 1) := by
  intro x l hl
  obtain ⟨h1, h2⟩ := h x l hl
  refine ⟨fun j => ?_, h2⟩
  rw [h1 j, use1, use2]
  by_cases h1 : j < i
  · rw [if_pos h1, if_pos (by omega)]
  · rw [if_neg h1]
    by_cases h3 : j = i
    · subst h3; rw [if_pos rfl, if_pos (by omega)]
    · rw [if_neg h3, if_neg (by omega)]
/-- One variable more stands in the value of variable i: x. -/
theorem use_step (vs : List Va) (i : Nat) (l : List Int) (x : Nat) {us : List (List Int)} (h : UsesOk us (use2 vs i l) (i + 1)) {m : List Int} (hm : us[x]? = some m) : UsesOk (us.set x (m ++ [(i : Int)])) (use2 vs i (l ++ [(x : Int)])) (i + 1) := by
  intro y k hk
  rw [List.getElem?_set] at hk
  split at hk
  · rename_i e
    subst e
    split at hk
    · injection hk with hk; subst hk
      obtain ⟨h1, h2⟩ := h _ m hm
      refine ⟨fun j => ?_, fun z hz => ?_⟩
      · rw [List.count_append, h1 j, use2, use2, List.count_append, List.count_singleton, List.count_singleton]
        by_cases c1 : j < i
        · rw [if_pos c1, if_pos c1, if_neg (by simp; omega)]; rfl
        · rw [if_neg c1, if_neg c1]
          by_cases c2 : j = i
          · subst c2; simp
          · rw [if_neg c2, if_neg c2, if_neg (by simp; omega)]
      · rcases List.mem_append.1 hz with hz | hz
        · exact h2 z hz
        · rw [List.mem_singleton.1 hz]; omega
    · cases hk
  · rename_i e
    obtain ⟨h1, h2⟩ := h y k hk
    refine ⟨fun j => ?_, h2⟩
    have hxy : (((x : Int)) == (y : Int)) = false := by simp; omega
    rw [h1 j, use2, use2, List.count_append, List.count_singleton, hxy]
    simp
theorem ph1_more (vs : List Va) (i : Nat) (hi : i < vs.length) {st : List Bool} {lf lf' td : List Int} (h : Ph1 vs i st lf td) (hl : lf' = if (valAt vs i).is then lf.set i ((dl vs i).length : Int) else lf) (hd : dl vs i ≠ []) : Ph1 vs (i + 1) st lf' td := by
  have hlf : ∀ j, j < vs.length → lf'[j]? = some (if j < i + 1 then ((dl vs j).length : Int) else 0) := by
    intro j hj
    have hi' : (valAt vs i).is = true := by
      cases e : (valAt vs i).is
      · exact absurd (by unfold dl; rw [e]; rfl) hd
      · rfl
    rw [hl, if_pos hi', List.getElem?_set]
    by_cases e : i = j
    · subst e; rw [if_pos rfl, if_pos (by rw [h.lel]; exact hj), if_pos (by omega)]
    · rw [if_neg e, h.lfs j hj]
      by_cases e2 : j < i
      · rw [if_pos e2, if_pos (by omega)]
      · rw [if_neg e2, if_neg (by omega)]
  refine ⟨hlf, fun j hj => ?_, fun y => ?_, h.nod, h.num, h.len, ?_⟩
  · rw [h.sts j hj]
    by_cases e : j = i
    · subst e
      have : (dl vs j).isEmpty = false := by cases hh : dl vs j with | nil => exact absurd hh hd | cons a b => rfl
      rw [this]; simp
    · have : decide (j < i) = decide (j < i + 1) := by rw [decide_eq_decide]; omega
      rw [this]
  · rw [h.mem y]
    constructor
    · rintro ⟨j, h1, h2, h3⟩; exact ⟨j, h1, by omega, h3⟩
    · rintro ⟨j, h1, h2, h3⟩
      refine ⟨j, h1, ?_, h3⟩
      by_cases e : j = i
      · subst e; exact absurd h3 hd
      · omega
  · rw [hl]; split
    · rw [List.length_set]; exact h.lel
    · exact h.lel
theorem count_set_true {st : List Bool} : ∀ {i : Nat}, st[i]? = some false → (st.set i true).count true = st.count true + 1 := by
  induction st with
  | nil => intro i h; simp at h
  | cons b st ih =>
    intro i h
    cases i with
    | zero => simp only [List.getElem?_cons_zero, Option.some.injEq] at h; subst h; simp
    | succ i =>
      rw [List.getElem?_cons_succ] at h
      rw [List.set_cons_succ, List.count_cons, List.count_cons, ih h]; omega
theorem ph1_settle (vs : List Va) (i : Nat) (hi : i < vs.length) {st : List Bool} {lf lf' td : List Int} (h : Ph1 vs i st lf td) (hl : lf' = if (valAt vs i).is then lf.set i ((dl vs i).length : Int) else lf) (hd : dl vs i = []) : Ph1 vs (i + 1) (st.set i true) lf' (td ++ [(i : Int)]) := by
  have hsi : st[i]? = some false := by rw [h.sts i hi]; simp
  refine ⟨fun j hj => ?_, fun j hj => ?_, fun y => ?_, ?_, ?_, ?_, ?_⟩
  · rw [hl]
    by_cases e : j = i
    · subst e
      rw [if_pos (by omega : j < j + 1), hd]
      split
      · rw [List.getElem?_set, if_pos rfl, if_pos (by rw [h.lel]; exact hj)]
      · rw [h.lfs j hj, if_neg (by omega)]; rfl
    · have hj' : lf[j]? = some (if j < i + 1 then ((dl vs j).length : Int) else 0) := by
        rw [h.lfs j hj]
        by_cases e2 : j < i
        · rw [if_pos e2, if_pos (by omega)]
        · rw [if_neg e2, if_neg (by omega)]
      split
      · rw [List.getElem?_set, if_neg (fun e' => e e'.symm)]; exact hj'
      · exact hj'
  · rw [List.getElem?_set]
    by_cases e : i = j
    · subst e; rw [if_pos rfl, if_pos (by rw [h.len]; exact hj), hd]; simp
    · rw [if_neg e, h.sts j hj]
      have : decide (j < i) = decide (j < i + 1) := by rw [decide_eq_decide]; omega
      rw [this]
  · rw [List.mem_append, h.mem y, List.mem_singleton]
    constructor
    · rintro (⟨j, h1, h2, h3⟩ | h1)
      · exact ⟨j, h1, by omega, h3⟩
      · exact ⟨i, h1, by omega, hd⟩
    · rintro ⟨j, h1, h2, h3⟩
      by_cases e : j = i
      · subst e; exact .inr h1
      · exact .inl ⟨j, h1, by omega, h3⟩
  · rw [List.nodup_append]
    refine ⟨h.nod, by simp, fun a ha b hb => ?_⟩
    obtain ⟨j, h1, h2, h3⟩ := (h.mem a).1 ha
    rw [List.mem_singleton] at hb
    omega
  · rw [count_set_true hsi, h.num, List.length_append]; rfl
  · rw [List.length_set]; exact h.len
  · rw [hl]; split
    · rw [List.length_set]; exact h.lel
    · exact h.lel
theorem ph2_start (vs : List Va) {st : List Bool} {lf td : List Int} (h : Ph1 vs vs.length st lf td) : Ph2 vs [] [] st lf td := by
  have hc : ∀ j : Nat, (dl vs j).countP (fun y => !([] : List Int).contains y) = (dl vs j).length := fun j => by
    rw [List.countP_eq_length]; intro a _; rfl
  refine ⟨fun j hj => ?_, fun j hj => ?_, fun y hy => ?_, fun j hj hn => ?_, h.nod, h.num, h.len, h.lel, fun y hy => absurd hy List.not_mem_nil⟩
  · rw [h.lfs j hj, if_pos hj, hc]; rfl
  · rw [h.sts j hj]
    congr 1
    rw [Bool.eq_iff_iff]
    simp only [Bool.and_eq_true, decide_eq_true_eq, List.isEmpty_iff, List.contains_iff_mem]
    rw [h.mem]
    constructor
    · rintro ⟨h1, h2⟩; exact ⟨j, rfl, hj, h2⟩
    · rintro ⟨k, h1, h2, h3⟩
      have : j = k := by omega
      subst this; exact ⟨hj, h3⟩
  · obtain ⟨j, h1, h2, h3⟩ := (h.mem y).1 hy
    subst h1
    exact ⟨acc_dl (fun k hk => by rw [h3] at hk; exact absurd hk List.not_mem_nil), by omega, by omega⟩
  · rw [hc]
    intro e
    apply hn
    rw [h.mem]
    exact ⟨j, rfl, hj, List.eq_nil_of_length_eq_zero (by omega)⟩
/-- The next one is taken: its uses are gone through. -/
theorem ph2_take {vs : List Va} {m : Nat} {x : Int} {st : List Bool} {lf td l : List Int} {us : List (List Int)} (h : Ph2 vs (td.take m) [] st lf td) (hx : td[m]? = some x) (hu : UsesOk us (use1 vs vs.length) vs.length) (hl : us[x.toNat]? = some l) : Ph2 vs (td.take (m + 1)) l st lf td := by
  have hxm : x ∈ td := List.mem_of_getElem? hx
  have hxr := (h.acc x hxm).2
  have htk : td.take (m + 1) = td.take m ++ [x] := by rw [List.take_add_one, hx]; rfl
  have hnot : x ∉ td.take m := by
    intro hin
    have hn := h.nod
    rw [← List.take_append_drop m td, List.nodup_append] at hn
    have hd : x ∈ td.drop m := by
      rw [List.drop_eq_getElem_cons (by rcases Nat.lt_or_ge m td.length with h | h; exact h; rw [List.getElem?_eq_none h] at hx; cases hx)]
      rw [List.getElem?_eq_getElem (by rcases Nat.lt_or_ge m td.length with h | h; exact h; rw [List.getElem?_eq_none h] at hx; cases hx)] at hx
      injection hx with hx
      rw [hx]; exact List.mem_cons_self ..
    exact hn.2.2 x hin x hd rfl
  have hcnt : ∀ j : Nat, j < vs.length → l.count (j : Int) = (dl vs j).count x := fun j hj => by
    rw [(hu _ _ hl).1 j, use1, if_pos hj, Int.toNat_of_nonneg hxr.1]
  have hsum : ∀ j : Nat, j < vs.length → (dl vs j).countP (fun y => !(td.take (m + 1)).contains y) + l.count (j : Int) = (dl vs j).countP (fun y => !(td.take m).contains y) := by
    intro j hj
    rw [hcnt j hj]
    induction dl vs j with
    | nil => rfl
    | cons y ys ih =>
      rw [List.countP_cons, List.countP_cons, List.count_cons]
      have hy : (td.take (m + 1)).contains y = ((td.take m).contains y || y == x) := by
        rw [htk, Bool.eq_iff_iff]
        simp
      rw [hy]
      cases hyx : (y == x)
      · rw [Bool.or_false]; simp only [Bool.false_eq_true, if_false]; omega
      · have e : y = x := by simpa using hyx
        subst e
        have : (td.take m).contains y = false := by
          rw [Bool.eq_false_iff]; intro hc; exact hnot (by simpa using hc)
        simp only [this, Bool.or_true, Bool.not_true, Bool.not_false, Bool.false_eq_true, if_false, if_true]; omega
  refine ⟨fun j hj => ?_, h.sts, h.acc, fun j hj hn => ?_, h.nod, h.num, h.len, h.lel, fun y hy => List.mem_of_mem_take hy⟩
  · rw [hsum j hj, h.lfs j hj]; rfl
  · rw [hsum j hj]; exact h.zer j hj hn
/-- One use is gone through. -/
theorem ph2_step {vs : List Va} (hp : PlainVals vs) {P rest : List Int} {y : Int} {st : List Bool} {lf td : List Int} (h : Ph2 vs P (y :: rest) st lf td) (h0 : 0 ≤ y) (hy : y < (vs.length : Int)) :
    ∃ (v : Nat) (b : Bool), lf[y.toNat]? = some ((v : Int) + 1) ∧ st[y.toNat]? = some b ∧ (b = false → v = 0 → Ph2 vs P rest (st.set y.toNat true) (lf.set y.toNat (v : Int)) (td ++ [y])) ∧ ((b = true ∨ v ≠ 0) → Ph2 vs P rest st (lf.set y.toNat (v : Int)) td) := by
  obtain ⟨i, rfl⟩ : ∃ i : Nat, y = i := ⟨y.toNat, by omega⟩
  have hi : i < vs.length := by omega
  rw [Int.toNat_natCast]
  have hc : ∀ j : Nat, ((i : Int) :: rest).count (j : Int) = rest.count (j : Int) + if i = j then 1 else 0 := fun j => by
    rw [List.count_cons]
    congr 1
    by_cases e : i = j
    · subst e; simp
    · rw [if_neg e, if_neg (by simp; omega)]
  have hli : lf[i]? = some ((((dl vs i).countP (fun y => !P.contains y) + rest.count (i : Int) : Nat) : Int) + 1) := by
    rw [h.lfs i hi, hc i, if_pos rfl]
    congr 1
  have hlf : ∀ j : Nat, j < vs.length → (lf.set i (((dl vs i).countP (fun y => !P.contains y) + rest.count (i : Int) : Nat) : Int))[j]? = some (((dl vs j).countP (fun y => !P.contains y) + rest.count (j : Int) : Nat) : Int) := by
    intro j hj
    rw [List.getElem?_set]
    by_cases e : i = j
    · subst e; rw [if_pos rfl, if_pos (by rw [h.lel]; exact hj)]
    · rw [if_neg e, h.lfs j hj, hc j, if_neg e]; rfl
  refine ⟨_, _, hli, h.sts i hi, fun hb hv => ?_, fun hb => ?_⟩
  · have hnm : (i : Int) ∉ td := by
      intro hm
      have : td.contains (i : Int) = true := by simpa using hm
      rw [this] at hb; cases hb
    refine ⟨hlf, fun j hj => ?_, fun z hz => ?_, fun j hj hn => ?_, ?_, ?_, ?_, ?_, fun z hz => List.mem_append_left _ (h.sub z hz)⟩
    · rw [List.getElem?_set]
      by_cases e : i = j
      · subst e; rw [if_pos rfl, if_pos (by rw [h.len]; exact hj)]; simp
      · rw [if_neg e, h.sts j hj]
        congr 1
        rw [Bool.eq_iff_iff]
        simp
        omega
    · rcases List.mem_append.1 hz with hz | hz
      · exact h.acc z hz
      · rw [List.mem_singleton] at hz
        subst hz
        refine ⟨acc_dl (fun k hk => ?_), by omega, by omega⟩
        have hP : k ∈ P := by
          have h3 : (dl vs i).countP (fun y => !P.contains y) = 0 := by omega
          rw [List.countP_eq_zero] at h3
          have := h3 k hk
          simpa using this
        exact (h.acc k (h.sub k hP)).1
    · have hji : j ≠ i := by intro e; subst e; exact hn (List.mem_append_right _ (List.mem_singleton.2 rfl))
      have := h.zer j hj (fun hm => hn (List.mem_append_left _ hm))
      rw [hc j, if_neg (fun e => hji e.symm)] at this
      exact this
    · rw [List.nodup_append]
      refine ⟨h.nod, by simp, fun a ha b hb e => ?_⟩
      rw [List.mem_singleton] at hb
      subst hb; subst e; exact hnm ha
    · rw [count_set_true (by rw [h.sts i hi, hb]), h.num, List.length_append]; rfl
    · rw [List.length_set]; exact h.len
    · rw [List.length_set]; exact h.lel
  · refine ⟨hlf, h.sts, h.acc, fun j hj hn => ?_, h.nod, h.num, h.len, by rw [List.length_set]; exact h.lel, h.sub⟩
    by_cases e : i = j
    · subst e
      rcases hb with hb | hb
      · exact absurd (by simpa using hb) hn
      · exact hb
    · have := h.zer j hj hn
      rw [hc j, if_neg e] at this
      exact this
theorem ph2_end {vs : List Va} (hp : PlainVals vs) {st : List Bool} {lf td : List Int} (h : Ph2 vs td [] st lf td) : decide (td.length < vs.length) = circlesF vs := by
  have hall : (∀ j : Nat, j < vs.length → Acc (Edge vs) j) → ∀ y, Acc (Edge vs) y → 0 ≤ y → y < (vs.length : Int) → y ∈ td := by
    intro ha y hy
    induction hy with
    | intro y _ ih =>
      intro h0 h1
      obtain ⟨i, rfl⟩ : ∃ i : Nat, y = i := ⟨y.toNat, by omega⟩
      apply Classical.byContradiction
      intro hn
      apply h.zer i (by omega) hn
      rw [List.count_nil, Nat.add_zero, List.countP_eq_zero]
      intro z hz
      have hl := hp.low i z (mem_dl.1 hz)
      have := ih z (mem_dl.1 hz) hl.1 hl.2
      simpa using this
  have hiff : td.length < vs.length ↔ ¬ circlesF vs = false := by
    rw [circles_acc hp]
    constructor
    · intro hlt ha
      have hst : st.count true = st.length := by
        rw [List.count_eq_length]
        intro b hb
        obtain ⟨j, hj, e⟩ := List.getElem_of_mem hb
        have hj' : j < vs.length := by rw [← h.len]; exact hj
        have h2 := h.sts j hj'
        rw [List.getElem?_eq_getElem hj, e] at h2
        injection h2 with h2
        rw [h2]
        have := hall ha j (ha j hj') (by omega) (by omega)
        symm
        simpa using this
      rw [h.num, h.len] at hst
      omega
    · intro hn
      apply Classical.byContradiction
      intro hge
      apply hn
      have hst : st.count true = st.length := by
        have h1 := List.count_le_length (a := true) (l := st)
        rw [h.num, h.len] at *
        omega
      rw [List.count_eq_length] at hst
      intro j hj
      have h2 := h.sts j hj
      have h3 := hst _ (List.mem_of_getElem? h2)
      have : (j : Int) ∈ td := by
        have h4 := h3.symm
        simpa using h4
      exact (h.acc j this).1
  cases hc : circlesF vs
  · rw [decide_eq_false_iff_not, hiff, hc]; simp
  · rw [decide_eq_true_eq, hiff, hc]; simp
end Go.Proofs.YthkjmiejaoomcaaGreat.Am
