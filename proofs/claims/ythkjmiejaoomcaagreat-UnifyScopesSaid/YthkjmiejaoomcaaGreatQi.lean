/- Part of the proof of a law of layer 5: own texts, joined. -/
import Derived.Test.YthkjmiejaoomcaaGreatQg
import Derived.Test.YthkjmiejaoomcaaGreatQh
set_option linter.unusedVariables false
set_option linter.unusedSimpArgs false
set_option linter.unnecessarySimpa false
namespace Go.Proofs.YthkjmiejaoomcaaGreat.Am
open Go Go.RowKit Go.Proofs
set_option linter.unusedVariables false
set_option linter.unusedSimpArgs false
set_option maxRecDepth 100000
set_option maxHeartbeats 1000000
attribute [local go_sem] cSeq cDr cOne cStays nthCO panK aKind gWanted panC cPanic cOp needsName cStep aop aEval argEnv List.getD_cons_zero List.getD_cons_succ AV.known AV.cells if_true if_false cond_true cond_false aPut true_and and_true ofConst ofLeaf true_imp false_imp true_imp' false_imp' btt btf
 aFieldAt aAssert aLoad aPick aBin aInt aShift aStr unSl aLen aBuiltin Option.map_some Option.map_none upd_same eupd_at Nat.reduceBEq List.drop_zero List.drop_succ_cons List.drop_nil List.take_succ_cons List.take_zero List.head?_cons List.length_cons List.length_nil Nat.reduceAdd Nat.reduceLeDiff Nat.reduceEqDiff List.map_cons List.map_nil Nat.zero_add Nat.add_zero reduceCtorEq Bool.false_eq_true
 aResL aRes1 true_implies false_implies implies_true forall_const and_self Bool.not_true Bool.not_false Bool.cond_self upd_if aExtract aNil aIface aMax aMin aNot List.getElem?_cons_zero List.getElem?_cons_succ aIndexAt aStore aSplice AV.flat List.all_cons List.all_nil Bool.and_true Bool.true_and Bool.and_false Bool.false_and Int.natCast_nonneg Int.ofNat_lt Int.toNat_natCast cCall Nat.le_add_left List.append_nil List.contains_cons List.contains_nil Bool.or_true Bool.or_false Bool.true_or Bool.false_or Nat.reduceBEq List.cons_append List.nil_append
 sz_1 by_1 ag_1 tk_1 ze_1 sz_3 by_3 ag_3 tk_3 ze_3 sz_4 by_4 ag_4 tk_4 ze_4 sz_9 by_9 ag_9 tk_9 ze_9
 sz_20 by_20 ag_20 tk_20 ze_20 sz_22 by_22 ag_22 tk_22 el_22 ze_22 sz_24 by_24 ag_24 tk_24 ze_24 fi_24_0 pl_24 sz_25 by_25
 ag_25 tk_25 el_25 ze_25 sz_27 by_27 ag_27 tk_27 ze_27 fi_27_0 fi_27_1 fi_27_2 fi_27_3 pl_27 sz_30 by_30 ag_30 tk_30 ze_30 sz_34
 by_34 ag_34 tk_34 ze_34 fi_34_0 fi_34_1 fi_34_2 fi_34_3 pl_34 sz_40 by_40 ag_40 tk_40 el_40 ze_40 sz_42 by_42 ag_42 tk_42 ze_42
 fi_42_0 fi_42_1 fi_42_2 pl_42 sz_52 by_52 ag_52 tk_52 ze_52 fi_52_0 fi_52_1 fi_52_2 fi_52_3 pl_52 sz_60 by_60 ag_60 tk_60 ze_60 fi_60_0
 fi_60_1 pl_60 sz_62 by_62 ag_62 tk_62 ze_62 fi_62_0 fi_62_1 fi_62_2 fi_62_3 pl_62 sz_68 by_68 ag_68 tk_68 ze_68 fi_68_0 fi_68_1 pl_68
 sz_70 by_70 ag_70 tk_70 el_70 ze_70 sz_77 by_77 ag_77 tk_77 el_77 ze_77 sz_80 by_80 ag_80 tk_80 ze_80 sz_83 by_83 ag_83
 tk_83 ze_83 fi_83_0 fi_83_1 pl_83 sz_95 by_95 ag_95 tk_95 ze_95 sz_97 by_97 ag_97 tk_97 ze_97 sz_99 by_99 ag_99 tk_99 mp_99
 ze_99 sz_101 by_101 ag_101 tk_101 ze_101 fi_101_0 fi_101_1 fi_101_2 pl_101 sz_104 by_104 ag_104 tk_104 ze_104 sz_106 by_106 ag_106 tk_106 ze_106
 fi_106_0 fi_106_1 fi_106_2 pl_106 sz_108 by_108 ag_108 tk_108 ze_108 sz_109 by_109 ag_109 tk_109 ze_109 sz_110 by_110 ag_110 tk_110 el_110 ze_110
 sz_112 by_112 ag_112 tk_112 ze_112 fi_112_0 fi_112_1 fi_112_2 fi_112_3 pl_112 sz_115 by_115 ag_115 tk_115 ze_115 fi_115_0 fi_115_1 pl_115 sz_121 by_121
 ag_121 tk_121 ze_121 sz_125 by_125 ag_125 tk_125 ze_125 sz_126 by_126 ag_126 tk_126 mp_126 ze_126 sz_128 by_128 ag_128 tk_128 ze_128 fi_128_0
 fi_128_1 fi_128_2 fi_128_3 pl_128 sz_136 by_136 ag_136 tk_136 el_136 ze_136 sz_140 by_140 ag_140 tk_140 mp_140 ze_140 sz_142 by_142 ag_142 tk_142
 ze_142 fi_142_0 fi_142_1 pl_142 sz_144 by_144 ag_144 tk_144 ze_144 sz_145 by_145 ag_145 tk_145 el_145 ze_145 sz_147 by_147 ag_147 tk_147 ze_147
 fi_147_0 fi_147_1 fi_147_2 fi_147_3 pl_147 sz_150 by_150 ag_150 tk_150 ze_150 pl_150 sz_152 by_152 ag_152 tk_152 ze_152 fi_152_0 pl_152 sz_156 by_156
 ag_156 tk_156 ze_156 sz_158 by_158 ag_158 tk_158 ze_158 fi_158_0 fi_158_1 fi_158_2 pl_158 sz_160 by_160 ag_160 tk_160 mp_160 ze_160 sz_162 by_162
 ag_162 tk_162 ze_162 sz_164 by_164 ag_164 tk_164 ze_164 fi_164_0 fi_164_1 fi_164_2 pl_164 sz_167 by_167 ag_167 tk_167 ze_167 fi_167_0 fi_167_1 pl_167
 sz_173 by_173 ag_173 tk_173 el_173 ze_173 sz_189 by_189 ag_189 tk_189 ze_189 sz_198 by_198 ag_198 tk_198 ze_198
theorem flat_splice {α : Type} {c : α → List AV} {z : Nat} (hz : ∀ x, (c x).length = z) : ∀ (l : List α) (k : Nat) {x : α}, l[k]? = some x → aSplice (l.flatMap c) (k * z) (c x) = l.flatMap c
 | [], k, x, hk => by simp at hk
 | y :: l, 0, x, hk => by
  simp only [List.getElem?_cons_zero, Option.some.injEq] at hk; subst hk
  simp [aSplice]
 | y :: l, k + 1, x, hk => by
  simp only [List.getElem?_cons_succ] at hk
  have ih := flat_splice hz l k hk
  have hl := hz x
  have hy := hz y
  simp only [aSplice, List.flatMap_cons] at ih ⊢
  rw [List.take_append, List.drop_append, hy, List.take_of_length_le (by rw [hy, Nat.add_mul]; omega), List.drop_eq_nil_of_le (by rw [hy, Nat.add_mul]; omega)]
  have e1 : (k + 1) * z - z = k * z := by rw [Nat.add_mul]; omega
  have e2 : (k + 1) * z + (c x).length - z = k * z + (c x).length := by rw [Nat.add_mul]; omega
  rw [e1, e2, List.nil_append, List.append_assoc, ih]
theorem encs_splice (l : List Term) (k : Nat) {x : Term} (hk : l[k]? = some x) : aSplice (encs l) (k * 4) (cellsT x) = encs l := by
 rw [encs_eq]
 exact flat_splice (z := 4) (fun _ => rfl) l k hk
theorem copied_am : ∀ (s : Nat) (t : Term) (h : AHeap) (Q : AOut → AHeap → Prop), t.size ≤ s → t.size ≤ 1000000000 → Q (.ret (enc t)) h → AmCalls Tryz.prog 105 [enc t] h Q := by
 intro s
 induction s with
 | zero => intro t h Q ht; obtain ⟨a, b, c, l⟩ := t; rw [Term.size] at ht; omega
 | succ s ih =>
  intro t h Q ht hb hq
  have hlen : t.args.length ≤ 1000000000 := by
   obtain ⟨k, n, nm, l⟩ := t
   rw [Term.size] at hb
   have : ∀ l : List Term, l.length ≤ sizes l := by
    intro l
    induction l with
    | nil => exact Nat.zero_le _
    | cons x l ih => obtain ⟨a, b, c, m⟩ := x; rw [sizes, Term.size, List.length_cons]; omega
   have := this l
   simp only
   omega
  refine AmCalls.of_sem (fn := Tryz.f105) Tryz.func105 rfl (by kernel_rfl) (by rw [Tryz.ntmps105]; simp) (enters_of Tryz.func105 (by kernel_rfl) (by kernel_rfl)) ?_
  repeat with_reducible refine run_seq fun bq hbq => ?_
  refine run_region (by simp only [compL, gtOf, nthDst]; exact rfl) ?_
  simp only [go_sem, ↓reduceIte]
  intro p hp q hq'
  obtain ⟨hne, hq0⟩ := fresh_two hq'
  refine run_next ?_; subst hbq
  let I : Nat → Env → AHeap → Prop := fun _ τ h' => τ 1 = .ptr p 0 ∧ τ 2 = .ptr q 0 ∧ HLess h' h ∧ (∃ c0, h' q = some (.cells c0 27) ∧ c0.length = 4) ∧ ∃ X, h' p = some (.cells [.int .i64 t.kind, .int .i64 t.n, .str t.name, X] 27) ∧ ((X = .list 4 [] 0 .full ∧ t.args = []) ∨ ∃ r, X = .sl r 0 t.args.length ∧ h' r = some (.cells (encs t.args) 27) ∧ h r = Option.none ∧ r ≠ p ∧ r ≠ q)
  refine run_cut (I 0) ?_ fun bq hbq τ h' hI => ?_
  ·repeat with_reducible refine run_seq fun bq hbq => ?_
   refine run_region (by simp only [compL, gtOf, nthDst]; exact rfl) ?_
   simp only [go_sem, ↓reduceIte, hne, hne.symm]
   refine clone98_am t.args _ _ hlen ?_ ?_
   ·intro hnil
    simp only [go_sem, ↓reduceIte, hne, hne.symm]
    refine run_endcut ?_
    refine ⟨rfl, rfl, (((HLess.refl h).new hp).new hq0).new hp, ⟨_, by rw [upd_other _ _ hne, upd_same], rfl⟩, _, upd_same _ _ _, .inl ⟨rfl, hnil⟩⟩
   ·intro hne' r hr
    have hrp : r ≠ p ∧ r ≠ q ∧ h r = Option.none := by
     obtain ⟨e1, h1⟩ := fresh_two (show upd (upd h p _) q (some _) r = Option.none from hr)
     obtain ⟨e2, h2⟩ := fresh_two h1
     exact ⟨e2, e1, h2⟩
    simp only [go_sem, ↓reduceIte, hne, hne.symm, hrp.1, hrp.1.symm, hrp.2.1, hrp.2.1.symm]
    refine run_endcut ?_
    refine ⟨rfl, rfl, ((((HLess.refl h).new hp).new hq0).new hrp.2.2).new hp, ⟨_, by rw [upd_other _ _ hne, upd_other _ _ hrp.2.1.symm, upd_same], rfl⟩, _, upd_same _ _ _, .inr ⟨r, rfl, ?_, hrp.2.2, hrp.1, hrp.2.1⟩⟩
    rw [upd_other _ _ hrp.1, upd_same]
  obtain ⟨e1, e2, hl, ⟨c0, lq, hc0⟩, X, lp, hX⟩ := hI
  subst hbq
  have hXl : aLen Tryz.prog 25 X = some (.int .i64 t.args.length) := by
   rcases hX with ⟨rfl, e⟩ | ⟨r, rfl, _⟩
   ·rw [e]
    simp only [go_sem, ↓reduceIte]
   ·simp only [go_sem, ↓reduceIte]
  repeat with_reducible refine run_seq fun bq hbq => ?_
  refine run_region (by simp only [compL, gtOf, nthDst]; exact rfl) ?_
  simp only [aLen, tk_25] at hXl
  simp only [go_sem, ↓reduceIte, e1, lp, hXl]
  refine run_next ?_; subst hbq
  repeat with_reducible refine run_seq fun bq hbq => ?_
  refine run_block fun cq hcq => ?_
  subst hcq
  refine run_loop (fun k τ h2 => ∃ i : Nat, k + i = t.args.length ∧ τ 1 = .ptr p 0 ∧ τ 2 = .ptr q 0 ∧ τ 10 = X ∧ τ 11 = .int .i64 t.args.length ∧ τ 12 = .int .i64 i ∧ HLess h2 h ∧ h2 q = some (.cells c0 27) ∧ h2 p = some (.cells [.int .i64 t.kind, .int .i64 t.n, .str t.name, X] 27) ∧ ((X = .list 4 [] 0 .full ∧ t.args = []) ∨ ∃ r, X = .sl r 0 t.args.length ∧ h2 r = some (.cells (encs t.args) 27) ∧ h r = Option.none ∧ r ≠ p ∧ r ≠ q)) t.args.length ?_ ?_
  ·refine ⟨0, rfl, ?_⟩
   simp only [go_sem, ↓reduceIte, e1, e2]
   exact ⟨rfl, hl, lq, lp, hX⟩
  ·intro c hc k τ h2 hI
   obtain ⟨i, hk, f1, f2, f10, f11, f12, hl2, mq, mp, hX2⟩ := hI
   subst hc
   repeat with_reducible refine run_seq fun bq hbq => ?_
   refine run_region (by simp only [compL, gtOf, nthDst]; exact rfl) ?_
   by_cases hi : i < t.args.length
   ·have hd : decide (i < t.args.length) = true := by simpa using hi
    obtain ⟨u, hu⟩ : ∃ u, t.args[i]? = some u := ⟨_, List.getElem?_eq_getElem hi⟩
    obtain ⟨rr, hrr⟩ := encs_at t.args i hu
    have hus := size_arg t i hu
    rcases hX2 with ⟨_, e⟩ | ⟨r, rfl, mr, nr, nrp, nrq⟩
    ·rw [e] at hi; exact absurd hi (Nat.not_lt_zero _)
    simp only [go_sem, ↓reduceIte, f11, f12, hd]
    refine run_next ?_; subst hbq
    repeat with_reducible refine run_seq fun bq hbq => ?_
    refine run_cond (t := true) (by simp only [go_sem, ↓reduceIte]) ?_ ?_
    ·intro _
     refine run_skip ?_
     refine run_next ?_; subst hbq
     repeat with_reducible refine run_seq fun bq hbq => ?_
     refine run_block fun cq hcq => ?_
     subst hcq
     repeat with_reducible refine run_seq fun bq hbq => ?_
     refine run_region (by simp only [compL, gtOf, nthDst]; exact rfl) ?_
     simp only [go_sem, ↓reduceIte, f10, f12, hi, mr, hrr]
     intro w hw
     have w1 := ne_of_new hw mp
     have w2 := ne_of_new hw mq
     have w3 := ne_of_new hw mr
     generalize hh3 : upd (upd h2 w _) w _ = h3
     have x3 := (congrFun hh3.symm w).trans (upd_same _ _ _)
     have p3 := (congrFun hh3.symm p).trans ((upd_other _ _ w1).trans ((upd_other _ _ w1).trans mp))
     have q3 := (congrFun hh3.symm q).trans ((upd_other _ _ w2).trans ((upd_other _ _ w2).trans mq))
     have r3 := (congrFun hh3.symm r).trans ((upd_other _ _ w3).trans ((upd_other _ _ w3).trans mr))
     have hl3 : HLess h3 h := by rw [← hh3]; exact (hl2.new (hl2.none hw)).new (hl2.none hw)
     clear hh3
     refine run_next ?_; subst hbq
     repeat with_reducible refine run_seq fun bq hbq => ?_
     refine run_draw (.take 0 (.take 1 (.take 2 (.take 3 (.one 4 [1] (.take 5 (.one 6 [] (.done)))))))) (by kernel_rfl) (by simp only [compL, gtOf, nthDst]; exact rfl) ?_
     simp only [go_sem, ↓reduceIte, f1, p3, x3]
     refine ih u _ _ (by omega) (by omega) ?_
     have hle : i * 4 + 4 ≤ (encs t.args).length := by rw [encs_length]; omega
     have hsp := encs_splice t.args i hu
     simp only [aSplice, List.length_cons, List.length_nil, List.cons_append, List.nil_append, Nat.reduceAdd] at hsp
     simp only [go_sem, ↓reduceIte, hi, r3, p3, x3, hle, hsp]
     refine run_endblock ?_
     refine run_next ?_; subst hbq
     repeat with_reducible refine run_seq fun bq hbq => ?_
     refine run_region (by simp only [compL, gtOf, nthDst]; exact rfl) ?_
     simp only [go_sem, ↓reduceIte, f12, wrapI ((i : Int) + 1) (by omega)]
     refine run_loopN (m := k - 1) (by omega) ⟨i + 1, by omega, ?_⟩
     simp only [go_sem, ↓reduceIte, f1, f2, f10, f11, nrq.symm, nrp.symm, p3, q3]
     exact ⟨rfl, hl3.new nr, .inr ⟨r, rfl, by simp, nr, nrp, nrq⟩⟩
    ·intro hf; cases hf
   ·have hd : decide (i < t.args.length) = false := by simpa using hi
    have hdr : List.drop 4 c0 = [] := List.drop_eq_nil_of_le (by omega)
    simp only [go_sem, ↓reduceIte, f11, f12, hd]
    refine run_next ?_; subst hbq
    repeat with_reducible refine run_seq fun bq hbq => ?_
    refine run_cond (t := false) (by simp only [go_sem, ↓reduceIte]) ?_ ?_
    ·intro hf; cases hf
    ·intro _
     refine run_exit ?_
     repeat first | (with_reducible refine seqK_exit ?_; clear hbq bq) | with_reducible refine cutK_exit ?_ | with_reducible refine loopK_exit ?_ | with_reducible refine run_exit_eq ?_ | (with_reducible refine blockK_ne ?_ ?_; focus rfl)
     refine run_next ?_; subst hbq
     repeat with_reducible refine run_seq fun bq hbq => ?_
     refine run_region (by simp only [compL, gtOf, nthDst]; exact rfl) ?_
     rcases hX2 with ⟨rfl, e⟩ | ⟨r, rfl, mr, nr, nrp, nrq⟩
     ·simp only [go_sem, ↓reduceIte, f1, f2, mp, mq, hc0, hdr]
      refine run_next ?_; subst hbq
      refine run_ret_as (v := enc t) (by rw [Tryz.results105]) (hl2.new hq0) ?_ hq
      simp only [go_sem, ↓reduceIte, f2, aPack, Option.some.injEq, exists_eq_left']
      show LeAV _ (AV.agg [_, _, _, AV.list 4 (encs t.args) t.args.length .none])
      rw [e, encs_nil]
      exact LeAV.agg (.cons (LeAV.refl _) (.cons (LeAV.refl _) (.cons (LeAV.refl _) (.cons (LeAV.list _ _ _ _) .nil))))
     ·simp only [go_sem, ↓reduceIte, f1, f2, mp, mq, hc0, hdr]
      refine run_next ?_; subst hbq
      refine run_ret_freeze (h' := h) (p := r) (z := 4) (n := t.args.length) (cs := encs t.args) (T := 27) (by rw [Tryz.results105]) ?_ (encs_length _) (encs_flat _) (hl2.new hq0) nr ?_ hq
      ·rw [upd_other _ _ nrq]; exact mr
      ·simp only [go_sem, ↓reduceIte, f2, aPack, Option.some.injEq, exists_eq_left']
       exact LeF.agg (.cons (LeF.refl _) (.cons (LeF.refl _) (.cons (LeF.refl _) (.cons LeF.here .nil))))
structure Ty where
 name : ByteArray
 args : List Ty
def encTs : List Ty → List AV
 | [] => []
 | ⟨s, l⟩ :: ts => .str s :: .list 2 (encTs l) l.length .none :: encTs ts
abbrev cellsTy (t : Ty) : List AV := [.str t.name, .list 2 (encTs t.args) t.args.length .none]
abbrev encTy (t : Ty) : AV := .agg (cellsTy t)
theorem encTs_cons (t : Ty) (ts : List Ty) : encTs (t :: ts) = .str t.name :: .list 2 (encTs t.args) t.args.length .none :: encTs ts := by cases t; rw [encTs]
theorem encTs_eq : ∀ ts : List Ty, encTs ts = ts.flatMap cellsTy
 | [] => by rw [encTs]; rfl
 | t :: ts => by rw [encTs_cons, encTs_eq ts]; rfl
theorem encTs_at (ts : List Ty) (k : Nat) {t : Ty} (hk : ts[k]? = some t) : ∃ r, (encTs ts).drop (k * 2) = .str t.name :: .list 2 (encTs t.args) t.args.length .none :: r := by
 rw [encTs_eq]
 exact flat_drop (z := 2) (fun _ => rfl) ts k hk
theorem encTs_nil : encTs [] = [] := by rw [encTs]
mutual
def Ty.size : Ty → Nat
 | ⟨_, l⟩ => sizeTs l + 1
def sizeTs : List Ty → Nat
 | [] => 0
 | t :: ts => t.size + sizeTs ts
end
theorem tsize_at : ∀ (l : List Ty) (k : Nat) {t : Ty}, l[k]? = some t → t.size ≤ sizeTs l
 | [], k, t, hk => by simp at hk
 | y :: l, 0, t, hk => by simp only [List.getElem?_cons_zero, Option.some.injEq] at hk; subst hk; rw [sizeTs]; omega
 | y :: l, k + 1, t, hk => by
  simp only [List.getElem?_cons_succ] at hk
  have := tsize_at l k hk
  rw [sizeTs]; omega
theorem tsize_arg (u : Ty) (k : Nat) {t : Ty} (hk : u.args[k]? = some t) : t.size < u.size := by
 have := tsize_at u.args k hk
 obtain ⟨c, l⟩ := u
 rw [Ty.size]
 exact Nat.lt_succ_of_le this
theorem build0_40 : aBuildSlice Tryz.prog 40 0 [] = some (.list 2 [] 0 .full) := by
 simp only [aBuildSlice, el_40, sz_60, ze_60, aFill]; rfl
theorem clone129_am (ts : List Ty) (h : AHeap) (Q : AOut → AHeap → Prop) (hn : ts.length ≤ 1000000000) (h0 : ts = [] → Q (.ret (.list 2 [] 0 .full)) h) (h1 : ts ≠ [] → ∀ p, h p = Option.none → Q (.ret (.sl p 0 ts.length)) (upd h p (some (.cells (encTs ts) 60)))) :
  AmCalls Tryz.prog 129 [.list 2 (encTs ts) ts.length .none] h Q := by
 refine AmCalls.of_sem (fn := Tryz.f129) Tryz.func129 rfl (by kernel_rfl) (by rw [Tryz.ntmps129]; simp) (enters_of Tryz.func129 (by kernel_rfl) (by kernel_rfl)) ?_
 repeat refine run_seq fun bq hbq => ?_
 refine run_region (by simp only [compL, gtOf, nthDst]; exact rfl) ?_
 simp only [go_sem, ↓reduceIte]
 refine run_next ?_; subst hbq
 repeat refine run_seq fun bq hbq => ?_
 refine run_region (by simp only [compL, gtOf, nthDst]; exact rfl) ?_
 by_cases hts : ts = []
 ·subst hts
  simp only [go_sem, ↓reduceIte]
  refine run_next ?_; subst hbq
  repeat refine run_seq fun bq hbq => ?_
  refine run_cond_any (by simp only [go_sem, ↓reduceIte]) ?_ ?_
  ·repeat refine run_seq fun bq hbq => ?_
   refine run_region (by simp only [compL, gtOf, nthDst]; exact rfl) ?_
   simp only [go_sem, ↓reduceIte]
   refine run_next ?_; subst hbq
   refine run_ret_in ?_
   repeat first | (refine seqK_ret ?_; clear hbq bq) | refine cutK_ret ?_ | refine loopK_ret ?_ | refine blockK_ret ?_
   refine last_as (v := .list 2 [] 0 .full) (by rw [Tryz.results129]) (HLess.refl h) ?_ (h0 rfl)
   simp only [go_sem, ↓reduceIte, aPack, Option.some.injEq, exists_eq_left']
   exact LeAV.nil_full _ _
  ·refine run_skip ?_
   refine run_next ?_; subst hbq
   repeat refine run_seq fun bq hbq => ?_
   refine run_region (by simp only [compL, gtOf, nthDst]; exact rfl) ?_
   simp only [go_sem, ↓reduceIte, build0_40]
   refine cAppend_list ?_
   simp only [go_sem, ↓reduceIte, build0_40]
   intro p hp
   rw [append_idle el_40 el_40 sz_60 by_60 ze_60 ⟨rfl, by decide⟩ (.inl rfl) (.inl rfl) (by decide)]
   refine run_next ?_; subst hbq
   refine run_ret_as (v := .list 2 [] 0 .full) (by rw [Tryz.results129]) (HLess.refl h) ?_ (h0 rfl)
   simp only [go_sem, ↓reduceIte, aPack, Option.some.injEq, exists_eq_left']
   exact LeAV.refl _
 ·have hl : ts.length ≠ 0 := by simpa using hts
  simp only [go_sem, ↓reduceIte, hl]
  refine run_next ?_; subst hbq
  repeat refine run_seq fun bq hbq => ?_
  refine run_cond (t := false) (by simp only [go_sem, ↓reduceIte]) ?_ ?_
  ·intro hf; cases hf
  ·intro _
   refine run_skip ?_
   refine run_next ?_; subst hbq
   repeat refine run_seq fun bq hbq => ?_
   refine run_region (by simp only [compL, gtOf, nthDst]; exact rfl) ?_
   simp only [go_sem, ↓reduceIte, build0_40]
   refine cAppend_own ?_
   simp only [go_sem, ↓reduceIte, cOwnStep, build0_40]
   intro p hp
   rw [own_new el_40 el_40 sz_60 by_60 ze_60 ⟨rfl, by decide⟩ (.inl rfl) (.inl rfl) rfl hl (by omega)]
   refine run_next ?_; subst hbq
   refine run_ret (by rw [Tryz.results129]) (HLess.refl _) ?_
   simp only [go_sem, ↓reduceIte, aPack, Option.some.injEq, exists_eq_left']
   exact h1 hts p hp
theorem encTs_length (l : List Ty) : (encTs l).length = l.length * 2 := by
 rw [encTs_eq, List.length_flatMap]
 induction l with
 | nil => rfl
 | cons t l ih => simp only [List.map_cons, List.sum_cons, List.length_cons, List.length_nil] at ih ⊢; omega
theorem encTs_flat : ∀ l : List Ty, (encTs l).all AV.flat = true
 | [] => by rw [encTs]; rfl
 | t :: l => by rw [encTs_cons]; simp only [List.all_cons, AV.flat, encTs_flat l, Bool.and_self]
theorem encTs_splice (l : List Ty) (k : Nat) {x : Ty} (hk : l[k]? = some x) : aSplice (encTs l) (k * 2) (cellsTy x) = encTs l := by
 rw [encTs_eq]
 exact flat_splice (z := 2) (fun _ => rfl) l k hk
theorem copyType_am : ∀ (s : Nat) (t : Ty) (h : AHeap) (Q : AOut → AHeap → Prop), t.size ≤ s → t.size ≤ 1000000000 → Q (.ret (encTy t)) h → AmCalls Tryz.prog 85 [encTy t] h Q := by
 intro s
 induction s with
 | zero => intro t h Q ht; obtain ⟨c, l⟩ := t; rw [Ty.size] at ht; omega
 | succ s ih =>
  intro t h Q ht hb hq
  have hlen : t.args.length ≤ 1000000000 := by
   obtain ⟨nm, l⟩ := t
   rw [Ty.size] at hb
   have : ∀ l : List Ty, l.length ≤ sizeTs l := by
    intro l
    induction l with
    | nil => exact Nat.zero_le _
    | cons x l ih => obtain ⟨c, m⟩ := x; rw [sizeTs, Ty.size, List.length_cons]; omega
   have := this l
   simp only
   omega
  refine AmCalls.of_sem (fn := Tryz.f85) Tryz.func85 rfl (by kernel_rfl) (by rw [Tryz.ntmps85]; simp) (enters_of Tryz.func85 (by kernel_rfl) (by kernel_rfl)) ?_
  repeat refine run_seq fun bq hbq => ?_
  refine run_region (by simp only [compL, gtOf, nthDst]; exact rfl) ?_
  simp only [go_sem, ↓reduceIte]
  intro p hp q hq'
  obtain ⟨hne, hq0⟩ := fresh_two hq'
  refine run_next ?_; subst hbq
  let I : Nat → Env → AHeap → Prop := fun _ τ h' => τ 1 = .ptr p 0 ∧ τ 2 = .ptr q 0 ∧ HLess h' h ∧ (∃ c0, h' q = some (.cells c0 60) ∧ c0.length = 2) ∧ ∃ X, h' p = some (.cells [.str t.name, X] 60) ∧ ((X = .list 2 [] 0 .full ∧ t.args = []) ∨ ∃ r, X = .sl r 0 t.args.length ∧ h' r = some (.cells (encTs t.args) 60) ∧ h r = Option.none ∧ r ≠ p ∧ r ≠ q)
  refine run_cut (I 0) ?_ fun bq hbq τ h' hI => ?_
  ·repeat refine run_seq fun bq hbq => ?_
   refine run_region (by simp only [compL, gtOf, nthDst]; exact rfl) ?_
   simp only [go_sem, ↓reduceIte, hne, hne.symm]
   refine clone129_am t.args _ _ hlen ?_ ?_
   ·intro hnil
    simp only [go_sem, ↓reduceIte, hne, hne.symm]
    refine run_endcut ?_
    refine ⟨rfl, rfl, (((HLess.refl h).new hp).new hq0).new hp, ⟨_, by rw [upd_other _ _ hne, upd_same], rfl⟩, _, upd_same _ _ _, .inl ⟨rfl, hnil⟩⟩
   ·intro hne' r hr
    have hrp : r ≠ p ∧ r ≠ q ∧ h r = Option.none := by
     obtain ⟨e1, h1⟩ := fresh_two (show upd (upd h p _) q (some _) r = Option.none from hr)
     obtain ⟨e2, h2⟩ := fresh_two h1
     exact ⟨e2, e1, h2⟩
    simp only [go_sem, ↓reduceIte, hne, hne.symm, hrp.1, hrp.1.symm, hrp.2.1, hrp.2.1.symm]
    refine run_endcut ?_
    refine ⟨rfl, rfl, ((((HLess.refl h).new hp).new hq0).new hrp.2.2).new hp, ⟨_, by rw [upd_other _ _ hne, upd_other _ _ hrp.2.1.symm, upd_same], rfl⟩, _, upd_same _ _ _, .inr ⟨r, rfl, ?_, hrp.2.2, hrp.1, hrp.2.1⟩⟩
    rw [upd_other _ _ hrp.1, upd_same]
  obtain ⟨e1, e2, hl, ⟨c0, lq, hc0⟩, X, lp, hX⟩ := hI
  subst hbq
  have hXl : aLen Tryz.prog 40 X = some (.int .i64 t.args.length) := by
   rcases hX with ⟨rfl, e⟩ | ⟨r, rfl, _⟩
   ·rw [e]
    simp only [go_sem, ↓reduceIte]
   ·simp only [go_sem, ↓reduceIte]
  repeat refine run_seq fun bq hbq => ?_
  refine run_region (by simp only [compL, gtOf, nthDst]; exact rfl) ?_
  simp only [aLen, tk_40] at hXl
  simp only [go_sem, ↓reduceIte, e1, lp, hXl]
  refine run_next ?_; subst hbq
  repeat refine run_seq fun bq hbq => ?_
  refine run_block fun cq hcq => ?_
  subst hcq
  refine run_loop (fun k τ h2 => ∃ i : Nat, k + i = t.args.length ∧ τ 1 = .ptr p 0 ∧ τ 2 = .ptr q 0 ∧ τ 10 = X ∧ τ 11 = .int .i64 t.args.length ∧ τ 12 = .int .i64 i ∧ HLess h2 h ∧ h2 q = some (.cells c0 60) ∧ h2 p = some (.cells [.str t.name, X] 60) ∧ ((X = .list 2 [] 0 .full ∧ t.args = []) ∨ ∃ r, X = .sl r 0 t.args.length ∧ h2 r = some (.cells (encTs t.args) 60) ∧ h r = Option.none ∧ r ≠ p ∧ r ≠ q)) t.args.length ?_ ?_
  ·refine ⟨0, rfl, ?_⟩
   simp only [go_sem, ↓reduceIte, e1, e2]
   exact ⟨rfl, hl, lq, lp, hX⟩
  ·intro c hc k τ h2 hI
   obtain ⟨i, hk, f1, f2, f10, f11, f12, hl2, mq, mp, hX2⟩ := hI
   subst hc
   repeat refine run_seq fun bq hbq => ?_
   refine run_region (by simp only [compL, gtOf, nthDst]; exact rfl) ?_
   by_cases hi : i < t.args.length
   ·have hd : decide (i < t.args.length) = true := by simpa using hi
    obtain ⟨u, hu⟩ : ∃ u, t.args[i]? = some u := ⟨_, List.getElem?_eq_getElem hi⟩
    obtain ⟨rr, hrr⟩ := encTs_at t.args i hu
    have hus := tsize_arg t i hu
    rcases hX2 with ⟨_, e⟩ | ⟨r, rfl, mr, nr, nrp, nrq⟩
    ·rw [e] at hi; exact absurd hi (Nat.not_lt_zero _)
    simp only [go_sem, ↓reduceIte, f11, f12, hd]
    refine run_next ?_; subst hbq
    repeat refine run_seq fun bq hbq => ?_
    refine run_cond (t := true) (by simp only [go_sem, ↓reduceIte]) ?_ ?_
    ·intro _
     refine run_skip ?_
     refine run_next ?_; subst hbq
     repeat refine run_seq fun bq hbq => ?_
     refine run_block fun cq hcq => ?_
     subst hcq
     repeat refine run_seq fun bq hbq => ?_
     refine run_region (by simp only [compL, gtOf, nthDst]; exact rfl) ?_
     simp only [go_sem, ↓reduceIte, f10, f12, hi, mr, hrr]
     intro w hw
     have w1 := ne_of_new hw mp
     have w2 := ne_of_new hw mq
     have w3 := ne_of_new hw mr
     generalize hh3 : upd (upd h2 w _) w _ = h3
     have x3 := (congrFun hh3.symm w).trans (upd_same _ _ _)
     have p3 := (congrFun hh3.symm p).trans ((upd_other _ _ w1).trans ((upd_other _ _ w1).trans mp))
     have q3 := (congrFun hh3.symm q).trans ((upd_other _ _ w2).trans ((upd_other _ _ w2).trans mq))
     have r3 := (congrFun hh3.symm r).trans ((upd_other _ _ w3).trans ((upd_other _ _ w3).trans mr))
     have hl3 : HLess h3 h := by rw [← hh3]; exact (hl2.new (hl2.none hw)).new (hl2.none hw)
     clear hh3
     refine run_next ?_; subst hbq
     repeat refine run_seq fun bq hbq => ?_
     refine run_draw (.take 0 (.take 1 (.take 2 (.take 3 (.one 4 [1] (.take 5 (.one 6 [] (.done)))))))) (by kernel_rfl) (by simp only [compL, gtOf, nthDst]; exact rfl) ?_
     simp only [go_sem, ↓reduceIte, f1, p3, x3]
     refine ih u _ _ (by omega) (by omega) ?_
     have hle : i * 2 + 2 ≤ (encTs t.args).length := by rw [encTs_length]; omega
     have hsp := encTs_splice t.args i hu
     simp only [aSplice, List.length_cons, List.length_nil, List.cons_append, List.nil_append, Nat.reduceAdd] at hsp
     simp only [go_sem, ↓reduceIte, hi, r3, p3, x3, hle, hsp]
     refine run_endblock ?_
     refine run_next ?_; subst hbq
     repeat refine run_seq fun bq hbq => ?_
     refine run_region (by simp only [compL, gtOf, nthDst]; exact rfl) ?_
     simp only [go_sem, ↓reduceIte, f12, wrapI ((i : Int) + 1) (by omega)]
     refine run_loopN (m := k - 1) (by omega) ⟨i + 1, by omega, ?_⟩
     simp only [go_sem, ↓reduceIte, f1, f2, f10, f11, nrq.symm, nrp.symm, p3, q3]
     exact ⟨rfl, hl3.new nr, .inr ⟨r, rfl, by simp, nr, nrp, nrq⟩⟩
    ·intro hf; cases hf
   ·have hd : decide (i < t.args.length) = false := by simpa using hi
    have hdr : List.drop 2 c0 = [] := List.drop_eq_nil_of_le (by omega)
    simp only [go_sem, ↓reduceIte, f11, f12, hd]
    refine run_next ?_; subst hbq
    repeat refine run_seq fun bq hbq => ?_
    refine run_cond (t := false) (by simp only [go_sem, ↓reduceIte]) ?_ ?_
    ·intro hf; cases hf
    ·intro _
     refine run_exit ?_
     repeat first | (refine seqK_exit ?_; clear hbq bq) | refine cutK_exit ?_ | refine loopK_exit ?_ | refine run_exit_eq ?_ | refine blockK_ne rfl ?_
     refine run_next ?_; subst hbq
     repeat refine run_seq fun bq hbq => ?_
     refine run_region (by simp only [compL, gtOf, nthDst]; exact rfl) ?_
     rcases hX2 with ⟨rfl, e⟩ | ⟨r, rfl, mr, nr, nrp, nrq⟩
     ·simp only [go_sem, ↓reduceIte, f1, f2, mp, mq, hc0, hdr]
      refine run_next ?_; subst hbq
      refine run_ret_as (v := encTy t) (by rw [Tryz.results85]) (hl2.new hq0) ?_ hq
      simp only [go_sem, ↓reduceIte, f2, aPack, Option.some.injEq, exists_eq_left']
      show LeAV _ (AV.agg [_, AV.list 2 (encTs t.args) t.args.length .none])
      rw [e, encTs_nil]
      exact LeAV.agg (.cons (LeAV.refl _) (.cons (LeAV.list _ _ _ _) .nil))
     ·simp only [go_sem, ↓reduceIte, f1, f2, mp, mq, hc0, hdr]
      refine run_next ?_; subst hbq
      refine run_ret_freeze (h' := h) (p := r) (z := 2) (n := t.args.length) (cs := encTs t.args) (T := 60) (by rw [Tryz.results85]) ?_ (encTs_length _) (encTs_flat _) (hl2.new hq0) nr ?_ hq
      ·rw [upd_other _ _ nrq]; exact mr
      ·simp only [go_sem, ↓reduceIte, f2, aPack, Option.some.injEq, exists_eq_left']
       exact LeF.agg (.cons (LeF.refl _) (.cons LeF.here .nil))
structure Va where
 level : Int
 type : Ty
 is : Bool
 t : Term
abbrev cellsV (v : Va) : List AV := [.int .i64 v.level, .str v.type.name, .list 2 (encTs v.type.args) v.type.args.length .none, .bool v.is, .int .i64 v.t.kind, .int .i64 v.t.n, .str v.t.name, .list 4 (encs v.t.args) v.t.args.length .none]
abbrev encV (v : Va) : AV := .agg (cellsV v)
def encVs (l : List Va) : List AV := l.flatMap cellsV
theorem encVs_at (ts : List Va) (k : Nat) {v : Va} (hk : ts[k]? = some v) : ∃ r, (encVs ts).drop (k * 8) = cellsV v ++ r := flat_drop (z := 8) (fun _ => rfl) ts k hk
theorem encVs_length (l : List Va) : (encVs l).length = l.length * 8 := by
 rw [encVs, List.length_flatMap]
 induction l with
 | nil => rfl
 | cons t l ih => simp only [List.map_cons, List.sum_cons, List.length_cons, List.length_nil] at ih ⊢; omega
theorem encVs_flat : ∀ l : List Va, (encVs l).all AV.flat = true
 | [] => rfl
 | t :: l => by
  have := encVs_flat l
  unfold encVs at this ⊢
  rw [List.flatMap_cons, List.all_append, this]; rfl
theorem splice_same {l m : List AV} {off : Nat} (h : (l.drop off).take m.length = m) : aSplice l off m = l := by
 unfold aSplice
 have h1 : m ++ l.drop (off + m.length) = l.drop off := by
  rw [← List.drop_drop]
  conv => lhs; lhs; rw [← h]
  exact List.take_append_drop _ _
 rw [h1]
 exact List.take_append_drop _ _
theorem build0_22 : aBuildSlice Tryz.prog 22 0 [] = some (.list 8 [] 0 .full) := by
 simp only [aBuildSlice, el_22, sz_62, ze_62, aFill]; rfl
theorem clone104_am (ts : List Va) (h : AHeap) (Q : AOut → AHeap → Prop) (hn : ts.length ≤ 1000000000) (h0 : ts = [] → Q (.ret (.list 8 [] 0 .full)) h) (h1 : ts ≠ [] → ∀ p, h p = Option.none → Q (.ret (.sl p 0 ts.length)) (upd h p (some (.cells (encVs ts) 62)))) :
  AmCalls Tryz.prog 104 [.list 8 (encVs ts) ts.length .none] h Q := by
 refine AmCalls.of_sem (fn := Tryz.f104) Tryz.func104 rfl (by kernel_rfl) (by rw [Tryz.ntmps104]; simp) (enters_of Tryz.func104 (by kernel_rfl) (by kernel_rfl)) ?_
 repeat refine run_seq fun bq hbq => ?_
 refine run_region (by simp only [compL, gtOf, nthDst]; exact rfl) ?_
 simp only [go_sem, ↓reduceIte]
 refine run_next ?_; subst hbq
 repeat refine run_seq fun bq hbq => ?_
 refine run_region (by simp only [compL, gtOf, nthDst]; exact rfl) ?_
 by_cases hts : ts = []
 ·subst hts
  simp only [go_sem, ↓reduceIte]
  refine run_next ?_; subst hbq
  repeat refine run_seq fun bq hbq => ?_
  refine run_cond_any (by simp only [go_sem, ↓reduceIte]) ?_ ?_
  ·repeat refine run_seq fun bq hbq => ?_
   refine run_region (by simp only [compL, gtOf, nthDst]; exact rfl) ?_
   simp only [go_sem, ↓reduceIte]
   refine run_next ?_; subst hbq
   refine run_ret_in ?_
   repeat first | (refine seqK_ret ?_; clear hbq bq) | refine cutK_ret ?_ | refine loopK_ret ?_ | refine blockK_ret ?_
   refine last_as (v := .list 8 [] 0 .full) (by rw [Tryz.results104]) (HLess.refl h) ?_ (h0 rfl)
   simp only [go_sem, ↓reduceIte, aPack, Option.some.injEq, exists_eq_left']
   exact LeAV.nil_full _ _
  ·refine run_skip ?_
   refine run_next ?_; subst hbq
   repeat refine run_seq fun bq hbq => ?_
   refine run_region (by simp only [compL, gtOf, nthDst]; exact rfl) ?_
   simp only [go_sem, ↓reduceIte, build0_22]
   refine cAppend_list ?_
   simp only [go_sem, ↓reduceIte, build0_22]
   intro p hp
   rw [append_idle el_22 el_22 sz_62 by_62 ze_62 ⟨rfl, by decide⟩ (.inl rfl) (.inl rfl) (by decide)]
   refine run_next ?_; subst hbq
   refine run_ret_as (v := .list 8 [] 0 .full) (by rw [Tryz.results104]) (HLess.refl h) ?_ (h0 rfl)
   simp only [go_sem, ↓reduceIte, aPack, Option.some.injEq, exists_eq_left']
   exact LeAV.refl _
 ·have hl : ts.length ≠ 0 := by simpa using hts
  simp only [go_sem, ↓reduceIte, hl]
  refine run_next ?_; subst hbq
  repeat refine run_seq fun bq hbq => ?_
  refine run_cond (t := false) (by simp only [go_sem, ↓reduceIte]) ?_ ?_
  ·intro hf; cases hf
  ·intro _
   refine run_skip ?_
   refine run_next ?_; subst hbq
   repeat refine run_seq fun bq hbq => ?_
   refine run_region (by simp only [compL, gtOf, nthDst]; exact rfl) ?_
   simp only [go_sem, ↓reduceIte, build0_22]
   refine cAppend_own ?_
   simp only [go_sem, ↓reduceIte, cOwnStep, build0_22]
   intro p hp
   rw [own_new el_22 el_22 sz_62 by_62 ze_62 ⟨rfl, by decide⟩ (.inl rfl) (.inl rfl) rfl hl (by omega)]
   refine run_next ?_; subst hbq
   refine run_ret (by rw [Tryz.results104]) (HLess.refl _) ?_
   simp only [go_sem, ↓reduceIte, aPack, Option.some.injEq, exists_eq_left']
   exact h1 hts p hp
theorem encVs_part (vs : List Va) (i : Nat) {v : Va} (hv : vs[i]? = some v) (o n : Nat) (hn : o + n ≤ 8) : (List.drop (i * 8 + o) (encVs vs)).take n = ((cellsV v).drop o).take n := by
 obtain ⟨r, hr⟩ := encVs_at vs i hv
 rw [← List.drop_drop, hr, List.drop_append, List.take_append]
 have : (cellsV v).length = 8 := rfl
 rw [show n - ((cellsV v).drop o).length = 0 by rw [List.length_drop, this]; omega]
 simp
theorem build24_list (sz : Nat) (c : List AV) (n : Nat) (t : Tok) : aBuild Tryz.prog 24 [(0, .list sz c n t)] = some (.agg [.list sz c n t]) := by
 simp only [aBuild, ze_24, pl_24, aFill]
 rfl
theorem build24_sl (r n : Nat) : aBuild Tryz.prog 24 [(0, .sl r 0 n)] = some (.agg [.sl r 0 n]) := by
 simp only [aBuild, ze_24, pl_24, aFill]
 rfl
theorem copiedStore_am (vs : List Va) (h : AHeap) (Q : AOut → AHeap → Prop) (hn : vs.length ≤ 1000000000) (hs : ∀ v ∈ vs, v.type.size ≤ 1000000000 ∧ v.t.size ≤ 1000000000) (h0 : vs = [] → Q (.ret (.agg [.list 8 [] 0 .full])) h)
  (h1 : vs ≠ [] → ∀ p, h p = Option.none → Q (.ret (.agg [.sl p 0 vs.length])) (upd h p (some (.cells (encVs vs) 62)))) : AmCalls Tryz.prog 58 [.agg [.list 8 (encVs vs) vs.length .none]] h Q := by
 refine AmCalls.of_sem (fn := Tryz.f58) Tryz.func58 rfl (by kernel_rfl) (by rw [Tryz.ntmps58]; simp) (enters_of Tryz.func58 (by kernel_rfl) (by kernel_rfl)) ?_
 repeat refine run_seq fun bq hbq => ?_
 refine run_region (by simp only [compL, gtOf, nthDst]; exact rfl) ?_
 simp only [go_sem, ↓reduceIte]
 intro p hp q hq'
 obtain ⟨hne, hq0⟩ := fresh_two hq'
 refine run_next ?_; subst hbq
 let I : Env → AHeap → Prop := fun τ h' => τ 2 = .ptr q 0 ∧ HLess h' h ∧ (∃ c0, h' q = some (.cells c0 24) ∧ c0.length = 1) ∧ ((τ 3 = .list 8 [] 0 .full ∧ vs = []) ∨ ∃ r, τ 3 = .sl r 0 vs.length ∧ h' r = some (.cells (encVs vs) 62) ∧ h r = Option.none ∧ r ≠ q ∧ vs ≠ [])
 refine run_cut (I) ?_ fun bq hbq τ h' hI => ?_
 ·repeat refine run_seq fun bq hbq => ?_
  refine run_region (by simp only [compL, gtOf, nthDst]; exact rfl) ?_
  simp only [go_sem, ↓reduceIte, hne, hne.symm]
  refine clone104_am vs _ _ hn ?_ ?_
  ·intro hnil
   simp only [go_sem, ↓reduceIte, hne, hne.symm]
   refine run_endcut ?_
   exact ⟨rfl, ((HLess.refl h).new hp).new hq0, ⟨_, by rw [upd_same], rfl⟩, .inl ⟨rfl, hnil⟩⟩
  ·intro hne' r hr
   have hrp : r ≠ p ∧ r ≠ q ∧ h r = Option.none := by
    obtain ⟨e1, h1⟩ := fresh_two (show upd (upd h p _) q (some _) r = Option.none from hr)
    obtain ⟨e2, h2⟩ := fresh_two h1
    exact ⟨e2, e1, h2⟩
   simp only [go_sem, ↓reduceIte, hne, hne.symm, hrp.1, hrp.1.symm, hrp.2.1, hrp.2.1.symm]
   refine run_endcut ?_
   exact ⟨rfl, (((HLess.refl h).new hp).new hq0).new hrp.2.2, ⟨_, by rw [upd_other _ _ hrp.2.1.symm, upd_same], rfl⟩, .inr ⟨r, rfl, upd_same _ _ _, hrp.2.2, hrp.2.1, hne'⟩⟩
 obtain ⟨e2, hl, ⟨c0, lq, hc0⟩, hX⟩ := hI
 subst hbq
 have hdr : List.drop 1 c0 = [] := List.drop_eq_nil_of_le (by omega)
 repeat refine run_seq fun bq hbq => ?_
 refine run_region (by simp only [compL, gtOf, nthDst]; exact rfl) ?_
 rcases hX with ⟨e3, hnil⟩ | ⟨r, e3, lr, nr, nrq, hne'⟩
 ·simp only [go_sem, ↓reduceIte, e3]
  refine run_next ?_; subst hbq
  repeat refine run_seq fun bq hbq => ?_
  refine run_block fun cq hcq => ?_
  subst hcq
  refine run_loop (fun k τ h2 => τ 2 = .ptr q 0 ∧ τ 3 = .list 8 [] 0 .full ∧ τ 10 = .int .i64 0 ∧ τ 11 = .int .i64 0 ∧ h2 = h') 0 ?_ ?_
  ·simp only [go_sem, ↓reduceIte, e2, e3]
   exact rfl
  ·intro c hc k τ h2 hI
   obtain ⟨f2, f3, f10, f11, rfl⟩ := hI
   subst hc
   repeat refine run_seq fun bq hbq => ?_
   refine run_region (by simp only [compL, gtOf, nthDst]; exact rfl) ?_
   simp only [go_sem, ↓reduceIte, f10, f11, Int.lt_irrefl, Nat.lt_irrefl, decide_false]
   refine run_next ?_; subst hbq
   repeat refine run_seq fun bq hbq => ?_
   refine run_cond (t := false) (by simp only [go_sem, ↓reduceIte]) ?_ ?_
   ·intro hf; cases hf
   ·intro _
    refine run_exit ?_
    repeat first | (refine seqK_exit ?_; clear hbq bq) | refine cutK_exit ?_ | refine loopK_exit ?_ | refine run_exit_eq ?_ | refine blockK_ne rfl ?_
    refine run_next ?_; subst hbq
    repeat refine run_seq fun bq hbq => ?_
    refine run_region (by simp only [compL, gtOf, nthDst]; exact rfl) ?_
    simp only [go_sem, ↓reduceIte, f2, f3, lq, hc0, hdr, build24_list]
    refine run_next ?_; subst hbq
    refine run_ret_as (v := .agg [.list 8 [] 0 .full]) (by rw [Tryz.results58]) (hl.new hq0) ?_ (h0 hnil)
    simp only [go_sem, ↓reduceIte, f2, f10, f11, aPack, Option.some.injEq, exists_eq_left']
    exact LeAV.refl _
 ·simp only [go_sem, ↓reduceIte, e3]
  refine run_next ?_; subst hbq
  repeat refine run_seq fun bq hbq => ?_
  refine run_block fun cq hcq => ?_
  subst hcq
  refine run_loop (fun k τ h2 => ∃ i : Nat, k + i = vs.length ∧ τ 2 = .ptr q 0 ∧ τ 3 = .sl r 0 vs.length ∧ τ 9 = .sl r 0 vs.length ∧ τ 10 = .int .i64 vs.length ∧ τ 11 = .int .i64 i ∧ HLess h2 h ∧ h2 q = some (.cells c0 24) ∧ h2 r = some (.cells (encVs vs) 62)) vs.length ?_ ?_
  ·refine ⟨0, rfl, ?_⟩
   simp only [go_sem, ↓reduceIte, e2, e3]
   exact ⟨rfl, hl, lq, lr⟩
  ·intro c hc k τ h2 hI
   obtain ⟨i, hk, f2, f3, f9, f10, f11, hl2, mq, mr⟩ := hI
   subst hc
   repeat refine run_seq fun bq hbq => ?_
   refine run_region (by simp only [compL, gtOf, nthDst]; exact rfl) ?_
   by_cases hi : i < vs.length
   ·have hd : decide (i < vs.length) = true := by simpa using hi
    obtain ⟨u, hu⟩ : ∃ u, vs[i]? = some u := ⟨_, List.getElem?_eq_getElem hi⟩
    obtain ⟨rr, hrr⟩ := encVs_at vs i hu
    have hsz := hs u (List.mem_of_getElem? hu)
    simp only [go_sem, ↓reduceIte, f10, f11, hd]
    refine run_next ?_; subst hbq
    repeat refine run_seq fun bq hbq => ?_
    refine run_cond (t := true) (by simp only [go_sem, ↓reduceIte]) ?_ ?_
    ·intro _
     refine run_skip ?_
     refine run_next ?_; subst hbq
     repeat refine run_seq fun bq hbq => ?_
     refine run_block fun cq hcq => ?_
     subst hcq
     repeat refine run_seq fun bq hbq => ?_
     refine run_region (by simp only [compL, gtOf, nthDst]; exact rfl) ?_
     simp only [go_sem, ↓reduceIte, f9, f11, hi, mr, hrr]
     intro w hw
     have w2 := ne_of_new hw mq
     have w3 := ne_of_new hw mr
     generalize hh3 : upd (upd h2 w _) w _ = h3
     have x3 := (congrFun hh3.symm w).trans (upd_same _ _ _)
     have q3 := (congrFun hh3.symm q).trans ((upd_other _ _ w2).trans ((upd_other _ _ w2).trans mq))
     have r3 := (congrFun hh3.symm r).trans ((upd_other _ _ w3).trans ((upd_other _ _ w3).trans mr))
     have hl3 : HLess h3 h := by rw [← hh3]; exact (hl2.new (hl2.none hw)).new (hl2.none hw)
     clear hh3
     refine run_next ?_; subst hbq
     repeat refine run_seq fun bq hbq => ?_
     refine run_draw (.take 0 (.take 1 (.take 2 (.take 3 (.take 4 (.take 5 (.take 7 (.take 8 (.one 6 [8] (.one 9 [] (.take 10 (.take 11 (.one 12 [] (.take 13 (.take 14 (.one 15 [] (.done))))))))))))))))) (by kernel_rfl) (by simp only [compL, gtOf, nthDst]; exact rfl) ?_
     simp only [go_sem, ↓reduceIte, f3, x3]
     refine copyType_am u.type.size u.type _ _ (Nat.le_refl _) hsz.1 ?_
     simp only [go_sem, ↓reduceIte, x3]
     refine copied_am u.t.size u.t _ _ (Nat.le_refl _) hsz.2 ?_
     have p1 := encVs_part vs i hu 1 2 (by omega)
     have p2 := encVs_part vs i hu 4 4 (by omega)
     have s1 : aSplice (encVs vs) (i * 8 + 1) (cellsTy u.type) = encVs vs := splice_same p1
     have s2 : aSplice (encVs vs) (i * 8 + 4) (cellsT u.t) = encVs vs := splice_same p2
     simp only [aSplice, List.length_cons, List.length_nil, List.cons_append, List.nil_append, Nat.reduceAdd] at s1 s2
     have hle1 : i * 8 + 1 + 2 ≤ (encVs vs).length := by rw [encVs_length]; omega
     have hle2 : i * 8 + 4 + 4 ≤ (encVs vs).length := by rw [encVs_length]; omega
     simp only [go_sem, ↓reduceIte, f3, hi, r3, x3, hle1, hle2, s1, s2]
     refine run_endblock ?_
     refine run_next ?_; subst hbq
     repeat refine run_seq fun bq hbq => ?_
     refine run_region (by simp only [compL, gtOf, nthDst]; exact rfl) ?_
     simp only [go_sem, ↓reduceIte, f11, wrapI ((i : Int) + 1) (by omega)]
     refine run_loopN (m := k - 1) (by omega) ⟨i + 1, by omega, ?_⟩
     simp only [go_sem, ↓reduceIte, f2, f3, f9, f10, nrq.symm, q3]
     exact ⟨rfl, (hl3.new nr).new nr⟩
    ·intro hf; cases hf
   ·have hd : decide (i < vs.length) = false := by simpa using hi
    simp only [go_sem, ↓reduceIte, f10, f11, hd]
    refine run_next ?_; subst hbq
    repeat refine run_seq fun bq hbq => ?_
    refine run_cond (t := false) (by simp only [go_sem, ↓reduceIte]) ?_ ?_
    ·intro hf; cases hf
    ·intro _
     refine run_exit ?_
     repeat first | (refine seqK_exit ?_; clear hbq bq) | refine cutK_exit ?_ | refine loopK_exit ?_ | refine run_exit_eq ?_ | refine blockK_ne rfl ?_
     refine run_next ?_; subst hbq
     repeat refine run_seq fun bq hbq => ?_
     refine run_region (by simp only [compL, gtOf, nthDst]; exact rfl) ?_
     simp only [go_sem, ↓reduceIte, f2, f3, mq, hc0, hdr, build24_sl]
     refine run_next ?_; subst hbq
     refine run_ret_as (v := .agg [.sl r 0 vs.length]) (by rw [Tryz.results58]) ((hl2.with mr).new (by rw [upd_other _ _ nrq.symm]; exact hq0)) ?_ (h1 hne' r nr)
     simp only [go_sem, ↓reduceIte, f2, aPack, Option.some.injEq, exists_eq_left']
     exact LeAV.refl _
def isBaseF (t : Ty) : Bool := (t.args.length : Int) == 0 && !(t.name.toList == (⟨#[45, 62]⟩ : ByteArray).toList) && decide ((t.name.size : Int) > 0) && decide ((t.name.size : Int) ≤ 40)
theorem isBase_am (t : Ty) (h : AHeap) (Q : AOut → AHeap → Prop) (hq : Q (.ret (.bool (isBaseF t))) h) : AmCalls Tryz.prog 83 [encTy t] h Q := by
 refine AmCalls.of_sem (fn := Tryz.f83) Tryz.func83 rfl (by kernel_rfl) (by rw [Tryz.ntmps83]; simp) (enters_of Tryz.func83 (by kernel_rfl) (by kernel_rfl)) ?_
 repeat refine run_seq fun bq hbq => ?_
 refine run_region (by simp only [compL, gtOf, nthDst]; exact rfl) ?_
 simp only [go_sem, ↓reduceIte]
 intro p hp
 refine run_next ?_; subst hbq
 repeat refine run_seq fun bq hbq => ?_
 refine run_region (by simp only [compL, gtOf, nthDst]; exact rfl) ?_
 have fin : HLess (upd h p (some (AObj.cells (cellsTy t) 60))) h := HLess.one hp
 cases h1 : ((t.args.length : Int) == 0) <;> cases h2 : (t.name.toList == (⟨#[45, 62]⟩ : ByteArray).toList) <;> cases h3 : decide ((t.name.size : Int) > 0)
 all_goals
  simp only [go_sem, ↓reduceIte, h1, h2, h3]
  refine run_next ?_; subst hbq
  refine run_ret (by rw [Tryz.results83]) fin ?_
  simp only [go_sem, ↓reduceIte, aPack, Option.some.injEq, exists_eq_left']
  exact ret_as (by simp only [isBaseF, h1, h2, h3, Bool.and_false, Bool.false_and, Bool.true_and, Bool.not_true, Bool.not_false]) hq
def isZeroF (t : Term) : Bool := t.kind == 0 && t.n == 0 && t.name.toList == (⟨#[]⟩ : ByteArray).toList && (t.args.length : Int) == 0
theorem isZero_am (t : Term) (h : AHeap) (Q : AOut → AHeap → Prop) (hq : Q (.ret (.bool (isZeroF t))) h) : AmCalls Tryz.prog 117 [enc t] h Q := by
 refine AmCalls.of_sem (fn := Tryz.f117) Tryz.func117 rfl (by kernel_rfl) (by rw [Tryz.ntmps117]; simp) (enters_of Tryz.func117 (by kernel_rfl) (by kernel_rfl)) ?_
 repeat refine run_seq fun bq hbq => ?_
 refine run_region (by simp only [compL, gtOf, nthDst]; exact rfl) ?_
 simp only [go_sem, ↓reduceIte]
 intro p hp
 refine run_next ?_; subst hbq
 repeat refine run_seq fun bq hbq => ?_
 refine run_region (by simp only [compL, gtOf, nthDst]; exact rfl) ?_
 have fin : HLess (upd h p (some (AObj.cells (cellsT t) 27))) h := HLess.one hp
 cases h1 : (t.kind == 0) <;> cases h2 : (t.n == 0) <;> cases h3 : (t.name.toList == (⟨#[]⟩ : ByteArray).toList)
 all_goals
  simp only [go_sem, ↓reduceIte, h1, h2, h3]
  refine run_next ?_; subst hbq
  refine run_ret (by rw [Tryz.results117]) fin ?_
  simp only [go_sem, ↓reduceIte, aPack, Option.some.injEq, exists_eq_left']
  exact ret_as (by simp only [isZeroF, h1, h2, h3, Bool.and_false, Bool.false_and, Bool.true_and]) hq
def targetF : Ty → Ty
 | ⟨n, [a, b]⟩ => targetF b
 | ⟨n, l⟩ => ⟨n, l⟩
theorem targetF_two {t : Ty} (h : ((t.args.length : Int) == 2) = true) : ∃ a b, t.args = [a, b] ∧ targetF t = targetF b ∧ b.size < t.size := by
 obtain ⟨n, l⟩ := t
 match l, h with
 | [a, b], _ => exact ⟨a, b, rfl, by rw [targetF], tsize_arg ⟨n, [a, b]⟩ 1 rfl⟩
 | [], h => simp at h
 | [a], h => simp at h
 | a :: b :: c :: l, h => simp at h; omega
theorem targetF_end {t : Ty} (h : ((t.args.length : Int) == 2) = false) : targetF t = t := by
 obtain ⟨n, l⟩ := t
 match l, h with
 | [a, b], h => simp at h
 | [], _ => rw [targetF]; intro a b e; cases e
 | [a], _ => rw [targetF]; intro a b e; cases e
 | a :: b :: c :: l, _ => rw [targetF]; intro a b e; cases e
theorem target_am (t : Ty) (h : AHeap) (Q : AOut → AHeap → Prop) (hq : Q (.ret (encTy (targetF t))) h) : AmCalls Tryz.prog 159 [encTy t] h Q := by
 refine AmCalls.of_sem (fn := Tryz.f159) Tryz.func159 rfl (by kernel_rfl) (by rw [Tryz.ntmps159]; simp) (enters_of Tryz.func159 (by kernel_rfl) (by kernel_rfl)) ?_
 repeat with_reducible refine run_seq fun bq hbq => ?_
 refine run_region (by simp only [compL, gtOf, nthDst]; exact rfl) ?_
 simp only [go_sem, ↓reduceIte]
 intro p hp q hq'
 obtain ⟨hne, hq0⟩ := fresh_two hq'
 refine run_next ?_; subst hbq
 repeat with_reducible refine run_seq fun bq hbq => ?_
 refine run_block fun cq hcq => ?_
 subst hcq
 refine run_loop (fun k τ h' => ∃ u : Ty, k = u.size ∧ targetF u = targetF t ∧ τ 1 = .ptr p 0 ∧ τ 2 = .ptr q 0 ∧ HLess h' h ∧ h' p = some (.cells (cellsTy u) 60) ∧ ∃ c0, h' q = some (.cells c0 60) ∧ c0.length = 2) t.size ?_ ?_
 ·refine ⟨t, rfl, rfl, rfl, rfl, ((HLess.refl h).new hp).new hq0, by rw [upd_other _ _ hne.symm, upd_same], _, upd_same _ _ _, rfl⟩
 ·intro c hc k τ h2 hI
  obtain ⟨u, rfl, hu, e1, e2, hl, lp, c0, lq, hc0⟩ := hI
  subst hc
  have hdr : List.drop 2 c0 = [] := List.drop_eq_nil_of_le (by omega)
  repeat with_reducible refine run_seq fun bq hbq => ?_
  refine run_region (by simp only [compL, gtOf, nthDst]; exact rfl) ?_
  cases hk : ((u.args.length : Int) == 2)
  ·simp only [go_sem, ↓reduceIte, e1, lp, hk]
   refine run_next ?_; subst hbq
   repeat with_reducible refine run_seq fun bq hbq => ?_
   refine run_cond (t := false) (by simp only [go_sem, ↓reduceIte]) ?_ ?_
   ·intro hf; cases hf
   ·intro _
    refine run_exit ?_
    repeat first | (with_reducible refine seqK_exit ?_; clear hbq bq) | with_reducible refine cutK_exit ?_ | with_reducible refine loopK_exit ?_ | with_reducible refine run_exit_eq ?_ | (with_reducible refine blockK_ne ?_ ?_; focus rfl)
    refine run_next ?_; subst hbq
    repeat with_reducible refine run_seq fun bq hbq => ?_
    refine run_region (by simp only [compL, gtOf, nthDst]; exact rfl) ?_
    simp only [go_sem, ↓reduceIte, e1, e2, lp, lq, hc0, hdr]
    refine run_next ?_; subst hbq
    rw [← hu, targetF_end hk] at hq
    refine run_ret_as (h' := h) (v := encTy u) (by rw [Tryz.results159]) (hl.new hq0) ?_ hq
    simp only [go_sem, ↓reduceIte, e2, aPack, Option.some.injEq, exists_eq_left']
    exact LeAV.refl _
  ·simp only [go_sem, ↓reduceIte, e1, lp, hk]
   refine run_next ?_; subst hbq
   repeat with_reducible refine run_seq fun bq hbq => ?_
   refine run_cond (t := true) (by simp only [go_sem, ↓reduceIte]) ?_ ?_
   ·intro _
    refine run_skip ?_
    refine run_next ?_; subst hbq
    obtain ⟨a, b, hab, ht, hsz⟩ := targetF_two hk
    repeat with_reducible refine run_seq fun bq hbq => ?_
    refine run_block fun cq hcq => ?_
    subst hcq
    repeat with_reducible refine run_seq fun bq hbq => ?_
    refine run_region (by simp only [compL, gtOf, nthDst]; exact rfl) ?_
    obtain ⟨r, hr⟩ := encTs_at [a, b] 1 (t := b) rfl
    have lp' : h2 p = some (.cells [.str u.name, .list 2 (encTs [a, b]) 2 .none] 60) := by rw [lp]; show _ = some (AObj.cells [_, AV.list 2 (encTs [a, b]) [a, b].length .none] 60); rw [← hab]
    simp only [Nat.reduceMul] at hr
    simp only [go_sem, ↓reduceIte, e1, lp', show (0 : Int) ≤ 1 from by decide, show (1 : Int) < ((2 : Nat) : Int) from by decide, show (1 : Int).toNat = 1 from rfl, Nat.reduceMul, hr]
    refine run_endblock ?_
    refine run_loopN hsz ⟨b, rfl, by rw [← ht, hu], ?_⟩
    simp only [go_sem, ↓reduceIte, e1, e2, hne, lq]
    exact ⟨hl.new hp, c0, rfl, hc0⟩
   ·intro hf; cases hf
def noTerm : Term := ⟨0, 0, ⟨#[]⟩, []⟩
def putHead (k n : Int) (s : ByteArray) (args : List Term) (d : Int) : Int × Int × ByteArray :=
 if k == 2 && decide (n ≥ d) then
  let a := args.getD ((args.length : Int) - 1 - (n - d)).toNat noTerm
  (a.kind, if a.kind == 2 then a.n + d else a.n, a.name)
 else (k, n, s)
mutual
def filledF : Term → List Term → Int → Term
 | ⟨k, n, s, l⟩, us, d => ⟨(putHead k n s us d).1, (putHead k n s us d).2.1, (putHead k n s us d).2.2, filledL l us (inner k d)⟩
def filledL : List Term → List Term → Int → List Term
 | [], _, _ => []
 | t :: ts, us, d => filledF t us d :: filledL ts us d
end
mutual
def fillOk : Term → Nat → Int → Bool
 | ⟨k, n, _, l⟩, m, d => (k != 2 || decide (n < d + m)) && fillOkL l m (inner k d)
def fillOkL : List Term → Nat → Int → Bool
 | [], _, _ => true
 | t :: ts, m, d => fillOk t m d && fillOkL ts m d
end
theorem filledL_at : ∀ (l us : List Term) (d : Int) (i : Nat), (filledL l us d)[i]? = (l[i]?).map fun t => filledF t us d
 | [], us, d, i => by simp [filledL]
 | t :: l, us, d, 0 => by simp [filledL]
 | t :: l, us, d, i + 1 => by simp [filledL, filledL_at l us d i]
theorem filledL_length : ∀ (l us : List Term) (d : Int), (filledL l us d).length = l.length
 | [], us, d => by simp [filledL]
 | t :: l, us, d => by simp [filledL, filledL_length l us d]
theorem fillOkL_at : ∀ (l : List Term) (m : Nat) (d : Int) (i : Nat) {t : Term}, fillOkL l m d = true → l[i]? = some t → fillOk t m d = true
 | [], m, d, i, t, _, hi => by simp at hi
 | u :: l, m, d, 0, t, ho, hi => by
  simp only [List.getElem?_cons_zero, Option.some.injEq] at hi; subst hi
  rw [fillOkL, Bool.and_eq_true] at ho; exact ho.1
 | u :: l, m, d, i + 1, t, ho, hi => by
  simp only [List.getElem?_cons_succ] at hi
  rw [fillOkL, Bool.and_eq_true] at ho; exact fillOkL_at l m d i ho.2 hi
theorem filled_am : ∀ (s : Nat) (t : Term) (us : List Term) (d : Int) (h : AHeap) (Q : AOut → AHeap → Prop), t.size ≤ s → 0 ≤ d → d + t.size ≤ 1000000000 → us.length ≤ 1000000000 → (∀ a ∈ us, -1000000000 ≤ a.n ∧ a.n ≤ 1000000000) → fillOk t us.length d = true →
  Q (.ret (enc (filledF t us d))) h → AmCalls Tryz.prog 143 [enc t, .list 4 (encs us) us.length .none, .int .i64 d] h Q := by
 intro s
 induction s with
 | zero => intro t us d h Q ht; obtain ⟨a, b, c, l⟩ := t; rw [Term.size] at ht; omega
 | succ s ih =>
  intro t us d h Q ht hd0 hd1 has hn hok hq
  refine AmCalls.of_sem (fn := Tryz.f143) Tryz.func143 rfl (by kernel_rfl) (by rw [Tryz.ntmps143]; simp) (enters_of Tryz.func143 (by kernel_rfl) (by kernel_rfl)) ?_
  repeat with_reducible refine run_seq fun bq hbq => ?_
  refine run_region (by simp only [compL, gtOf, nthDst]; exact rfl) ?_
  simp only [go_sem, ↓reduceIte]
  intro p hp q hq'
  have hne := fresh_two hq'
  refine run_next ?_; subst hbq
  repeat with_reducible refine run_seq fun bq hbq => ?_
  refine run_region (by simp only [compL, gtOf, nthDst]; exact rfl) ?_
  simp only [go_sem, ↓reduceIte, hne.1, hne.1.symm]
  intro r hr
  have hrp : r ≠ p ∧ r ≠ q ∧ h r = Option.none := by
   by_cases e1 : r = q
   ·subst e1; rw [if_pos rfl] at hr; cases hr
   ·by_cases e2 : r = p
    ·subst e2; rw [if_neg e1, if_pos rfl] at hr; cases hr
    ·rw [if_neg e1, if_neg e2] at hr; exact ⟨e2, e1, hr⟩
  refine run_next ?_; subst hbq
  refine run_cut (fun τ h' => τ 1 = .list 4 (encs us) us.length .none ∧ τ 3 = .ptr p 0 ∧ τ 6 = .ptr q 0 ∧ τ 7 = .ptr r 0 ∧ τ 8 = .int .i64 (inner t.kind d) ∧ HLess h' h ∧ h' p = some (.cells (cellsT t) 27) ∧ (∃ c0, h' q = some (.cells c0 27) ∧ c0.length = 4) ∧ ∃ lst, h' r = some (.cells [.int .i64 (putHead t.kind t.n t.name us d).1, .int .i64 (putHead t.kind t.n t.name us d).2.1, .str (putHead t.kind t.n t.name us d).2.2, lst] 27)) ?_ fun bq hbq τ h' hI => ?_
  ·repeat with_reducible refine run_seq fun bq hbq => ?_
   refine run_block fun cq hcq => ?_
   subst hcq
   repeat with_reducible refine run_seq fun bq hbq => ?_
   refine run_region (by simp only [compL, gtOf, nthDst]; exact rfl) ?_
   simp only [go_sem, ↓reduceIte, hne.1, hne.1.symm, hrp.1, hrp.1.symm, hrp.2.1, hrp.2.1.symm]
   refine run_next ?_; subst hbq
   repeat with_reducible refine run_seq fun bq hbq => ?_
   refine run_cond (t := t.kind == 5) (by simp only [go_sem, ↓reduceIte]) ?_ ?_
   ·intro hk5
    have hk2 : (t.kind == 2) = false := by simp only [beq_iff_eq] at hk5; rw [hk5]; rfl
    repeat with_reducible refine run_seq fun bq hbq => ?_
    refine run_region (by simp only [compL, gtOf, nthDst]; exact rfl) ?_
    simp only [go_sem, ↓reduceIte, wrapI (d + 1) (by omega)]
    refine run_endblock ?_
    refine run_endcut ?_
    simp only [go_sem, ↓reduceIte, hne.1, hne.1.symm, hrp.1, hrp.1.symm, hrp.2.1, hrp.2.1.symm, inner, hk5, putHead, hk2]
    exact ⟨((HLess.refl h).new hp |>.new hne.2 |>.new hrp.2.2 |>.new hrp.2.2), ⟨_, rfl, rfl⟩, _, rfl⟩
   ·intro hk5
    have hinn : inner t.kind d = d := by unfold inner; rw [hk5]; rfl
    repeat with_reducible refine run_seq fun bq hbq => ?_
    refine run_region (by simp only [compL, gtOf, nthDst]; exact rfl) ?_
    cases hk2 : (t.kind == 2)
    ·simp only [go_sem, ↓reduceIte, hne.1, hne.1.symm, hrp.1, hrp.1.symm, hrp.2.1, hrp.2.1.symm, hk2]
     refine run_next ?_; subst hbq
     repeat with_reducible refine run_seq fun bq hbq => ?_
     refine run_cond (t := false) (by simp only [go_sem, ↓reduceIte]) ?_ ?_
     ·intro hf; cases hf
     ·intro _
      refine run_skip ?_
      refine run_endblock ?_
      refine run_endcut ?_
      simp only [go_sem, ↓reduceIte, hne.1, hne.1.symm, hrp.1, hrp.1.symm, hrp.2.1, hrp.2.1.symm, hinn, putHead, hk2]
      exact ⟨((HLess.refl h).new hp |>.new hne.2 |>.new hrp.2.2 |>.new hrp.2.2), ⟨_, rfl, rfl⟩, _, rfl⟩
    ·simp only [go_sem, ↓reduceIte, hne.1, hne.1.symm, hrp.1, hrp.1.symm, hrp.2.1, hrp.2.1.symm, hk2]
     refine run_next ?_; subst hbq
     repeat with_reducible refine run_seq fun bq hbq => ?_
     refine run_cond (t := decide (t.n ≥ d)) (by simp only [go_sem, ↓reduceIte]) ?_ ?_
     ·intro hge
      have hge' : d ≤ t.n := by simpa using hge
      have hlt : t.n < d + us.length := by
       obtain ⟨k, n, nm, l⟩ := t
       rw [fillOk, Bool.and_eq_true] at hok
       have := hok.1
       simp only [bne, hk2, Bool.not_true, Bool.false_or, decide_eq_true_eq] at this
       exact this
      obtain ⟨j, hj⟩ : ∃ j : Nat, (us.length : Int) - 1 - (t.n - d) = j := ⟨_, (Int.toNat_of_nonneg (by omega)).symm⟩
      have hjl : j < us.length := by omega
      obtain ⟨u, hu⟩ : ∃ u, us[j]? = some u := ⟨_, List.getElem?_eq_getElem hjl⟩
      obtain ⟨rr, hrr⟩ := encs_at us j hu
      have hum := hn u (List.mem_of_getElem? hu)
      have hput : putHead t.kind t.n t.name us d = (u.kind, (if u.kind == 2 then u.n + d else u.n), u.name) := by
       unfold putHead
       rw [hk2, hge, Bool.and_true, if_pos rfl, hj, Int.toNat_natCast, List.getD_eq_getElem?_getD, hu]
       rfl
      repeat with_reducible refine run_seq fun bq hbq => ?_
      refine run_region (by simp only [compL, gtOf, nthDst]; exact rfl) ?_
      simp only [go_sem, ↓reduceIte, hne.1, hne.1.symm, hrp.1, hrp.1.symm, hrp.2.1, hrp.2.1.symm, wrapI ((us.length : Int) - 1) (by omega), wrapI (t.n - d) (by omega), hj, wrapI ((j : Int)) (by omega), hjl, hrr]
      refine run_next ?_; subst hbq
      repeat with_reducible refine run_seq fun bq hbq => ?_
      refine run_region (by simp only [compL, gtOf, nthDst]; exact rfl) ?_
      simp only [go_sem, ↓reduceIte]
      refine run_next ?_; subst hbq
      repeat with_reducible refine run_seq fun bq hbq => ?_
      refine run_cond (t := u.kind == 2) (by simp only [go_sem, ↓reduceIte]) ?_ ?_
      ·intro hu2
       repeat with_reducible refine run_seq fun bq hbq => ?_
       refine run_region (by simp only [compL, gtOf, nthDst]; exact rfl) ?_
       simp only [go_sem, ↓reduceIte, wrapI (u.n + d) (by omega)]
       refine run_endblock ?_
       refine run_endcut ?_
       simp only [go_sem, ↓reduceIte, hne.1, hne.1.symm, hrp.1, hrp.1.symm, hrp.2.1, hrp.2.1.symm, hinn, hput, hu2]
       exact ⟨((HLess.refl h).new hp |>.new hne.2 |>.new hrp.2.2 |>.new hrp.2.2 |>.new hrp.2.2 |>.new hrp.2.2), ⟨_, rfl, rfl⟩, _, rfl⟩
      ·intro hu2
       refine run_skip ?_
       refine run_endblock ?_
       refine run_endcut ?_
       simp only [go_sem, ↓reduceIte, hne.1, hne.1.symm, hrp.1, hrp.1.symm, hrp.2.1, hrp.2.1.symm, hinn, hput, hu2]
       exact ⟨((HLess.refl h).new hp |>.new hne.2 |>.new hrp.2.2 |>.new hrp.2.2 |>.new hrp.2.2), ⟨_, rfl, rfl⟩, _, rfl⟩
     ·intro hge
      refine run_skip ?_
      refine run_endblock ?_
      refine run_endcut ?_
      simp only [go_sem, ↓reduceIte, hne.1, hne.1.symm, hrp.1, hrp.1.symm, hrp.2.1, hrp.2.1.symm, hinn, putHead, hk2, hge]
      exact ⟨((HLess.refl h).new hp |>.new hne.2 |>.new hrp.2.2 |>.new hrp.2.2), ⟨_, rfl, rfl⟩, _, rfl⟩
  ·obtain ⟨e1, e3, e6, e7, e8, hl, lp, ⟨c0, lq, hc0⟩, lst, lr⟩ := hI
   subst hbq
   repeat with_reducible refine run_seq fun bq hbq => ?_
   refine run_region (by simp only [compL, gtOf, nthDst]; exact rfl) ?_
   simp only [go_sem, ↓reduceIte, e7, lr]
   refine run_next ?_; subst hbq
   repeat with_reducible refine run_seq fun bq hbq => ?_
   refine run_region (by simp only [compL, gtOf, nthDst]; exact rfl) ?_
   simp only [go_sem, ↓reduceIte, e3, hrp.1.symm, lp]
   refine run_next ?_; subst hbq
   have hsz := t.size
   generalize hK : (putHead t.kind t.n t.name us d).1 = K at lr ⊢
   generalize hN : (putHead t.kind t.n t.name us d).2.1 = N at lr ⊢
   generalize hS : (putHead t.kind t.n t.name us d).2.2 = S at lr ⊢
   generalize hD : inner t.kind d = D at e8 ⊢
   have hDb : 0 ≤ D ∧ D ≤ d + 1 := by rw [← hD]; unfold inner; split <;> omega
   have hfill : filledF t us d = ⟨K, N, S, filledL t.args us D⟩ := by
    rw [← hK, ← hN, ← hS, ← hD]; obtain ⟨k, n, nm, l⟩ := t; rw [filledF]
   have hok2 : fillOkL t.args us.length D = true := by
    rw [← hD]; obtain ⟨k, n, nm, l⟩ := t
    rw [fillOk, Bool.and_eq_true] at hok; exact hok.2
   have hlen : t.args.length ≤ t.size := by
    obtain ⟨k, n, nm, l⟩ := t
    rw [Term.size]
    have : ∀ l : List Term, l.length ≤ sizes l := by
     intro l
     induction l with
     | nil => exact Nat.zero_le _
     | cons x l ih => obtain ⟨a, b, c, m⟩ := x; rw [sizes, Term.size, List.length_cons]; omega
    exact Nat.le_succ_of_le (this l)
   repeat with_reducible refine run_seq fun bq hbq => ?_
   refine run_block fun cq hcq => ?_
   subst hcq
   refine run_loop (fun k τ h2 => ∃ (i sz : Nat) (tok : Tok), k + i = t.args.length ∧ τ 1 = .list 4 (encs us) us.length .none ∧ τ 6 = .ptr q 0 ∧ τ 7 = .ptr r 0 ∧ τ 8 = .int .i64 D ∧ τ 50 = .list 4 (encs t.args) t.args.length .none ∧ τ 51 = .int .i64 t.args.length ∧ τ 52 = .int .i64 i ∧ HLess h2 h ∧ h2 q = some (.cells c0 27) ∧ h2 r = some (.cells [.int .i64 K, .int .i64 N, .str S, .list sz (encs ((filledL t.args us D).take i)) i tok] 27) ∧ Grow 27 h h2 tok ∧ (i = 0 ∨ sz = 4)) t.args.length ?_ ?_
   ·refine ⟨0, 0, .nil, rfl, ?_⟩
    simp only [go_sem, ↓reduceIte, e1, e3, e6, e7, e8, hrp.2.1.symm, lq, List.take_zero, encs_nil]
    exact ⟨rfl, hl.new hrp.2.2, .inl (.inr rfl), by simp⟩
   ·intro c hc k τ h2 hI
    obtain ⟨i, sz, tok, hk, f1, f6, f7, f8, f50, f51, f52, hl2, mq, mr, hg, hsz0⟩ := hI
    subst hc
    repeat with_reducible refine run_seq fun bq hbq => ?_
    refine run_region (by simp only [compL, gtOf, nthDst]; exact rfl) ?_
    by_cases hi : i < t.args.length
    ·have hd : decide (i < t.args.length) = true := by simpa using hi
     obtain ⟨u, hu⟩ : ∃ u, t.args[i]? = some u := ⟨_, List.getElem?_eq_getElem hi⟩
     obtain ⟨rr, hrr⟩ := encs_at t.args i hu
     have hus := size_arg t i hu
     simp only [go_sem, ↓reduceIte, f51, f52, hd]
     refine run_next ?_; subst hbq
     repeat with_reducible refine run_seq fun bq hbq => ?_
     refine run_cond (t := true) (by simp only [go_sem, ↓reduceIte]) ?_ ?_
     ·intro _
      refine run_skip ?_
      refine run_next ?_; subst hbq
      repeat with_reducible refine run_seq fun bq hbq => ?_
      refine run_block fun cq hcq => ?_
      subst hcq
      repeat with_reducible refine run_seq fun bq hbq => ?_
      refine run_region (by simp only [compL, gtOf, nthDst]; exact rfl) ?_
      simp only [go_sem, ↓reduceIte, f50, f52, hi, hrr]
      intro w hw
      have hwq := ne_of_new hw mq
      have hwr := ne_of_new hw mr
      generalize hh3 : upd (upd h2 w _) w _ = h3
      have w3 : h3 w = some (.cells (cellsT u) 27) := by rw [← hh3, upd_same]
      have r3 := (congrFun hh3.symm r).trans ((upd_other _ _ hwr).trans ((upd_other _ _ hwr).trans mr))
      have q3 := (congrFun hh3.symm q).trans ((upd_other _ _ hwq).trans ((upd_other _ _ hwq).trans mq))
      have hl3 : HLess h3 h := by rw [← hh3]; exact (hl2.new (hl2.none hw)).new (hl2.none hw)
      have hg3 : Grow 27 h h3 tok := by
       rw [← hh3]
       rcases hg with e | ⟨f, ef, hf, hf0⟩
       ·exact .inl e
       ·exact .inr ⟨f, ef, by rw [upd_other _ _ (ne_of_new hw hf), upd_other _ _ (ne_of_new hw hf)]; exact hf, hf0⟩
      clear hh3
      refine run_next ?_; subst hbq
      repeat with_reducible refine run_seq fun bq hbq => ?_
      refine run_draw (.take 0 (.take 1 (.take 2 (.take 3 (.take 4 (.one 5 [1] (.take 6 (.one 7 [] (.take 8 (.one 9 [] (.done))))))))))) (by kernel_rfl) (by simp only [compL, gtOf, nthDst]; exact rfl) ?_
      simp only [go_sem, ↓reduceIte, f1, f7, f8, w3, r3]
      refine ih u us D _ _ (by omega) (by omega) (by omega) has hn (fillOkL_at _ _ _ i hok2 hu) ?_
      simp only [go_sem, ↓reduceIte, build_term, r3]
      refine cAppend_list ?_
      simp only [go_sem, ↓reduceIte, build_term, r3]
      intro a ha
      obtain ⟨h4, ea, hg4, hl4, keep⟩ := append_grow el_25 el_25 sz_27 by_27 ze_27 ⟨rfl, by decide⟩ hl3 ha (c1 := encs ((filledL t.args us D).take i)) (c2 := cellsT (filledF u us D)) (n2 := 1) (t2 := .full) hg3 hsz0 (sz2 := 4) rfl (by decide) (by omega)
      have r4 := keep _ _ _ r3
      have q4 := keep _ _ _ q3
      simp only [go_sem, ↓reduceIte, ea, r4, f7]
      refine run_endblock ?_
      refine run_next ?_; subst hbq
      repeat with_reducible refine run_seq fun bq hbq => ?_
      refine run_region (by simp only [compL, gtOf, nthDst]; exact rfl) ?_
      simp only [go_sem, ↓reduceIte, f52, wrapI ((i : Int) + 1) (by omega)]
      refine run_loopN (m := k - 1) (by omega) ⟨i + 1, 4, .id a, by omega, ?_⟩
      simp only [go_sem, ↓reduceIte, f1, f6, f7, f8, f50, f51, hrp.2.1.symm, q4]
      rw [encs_take _ i (x := filledF u us D) (by rw [filledL_at, hu]; rfl)]
      refine ⟨rfl, hl4.new hrp.2.2, rfl, ?_, by simp⟩
      rcases hg4 with e | ⟨f, ef, hf, hf0⟩
      ·rcases e with e | e <;> cases e
      ·injection ef with ef; subst ef
       exact .inr ⟨a, rfl, by rw [upd_other _ _ (by intro e; rw [e, r4] at hf; cases hf)]; exact hf, hf0⟩
     ·intro hf; cases hf
    ·have hd : decide (i < t.args.length) = false := by simpa using hi
     simp only [go_sem, ↓reduceIte, f51, f52, hd]
     refine run_next ?_; subst hbq
     repeat with_reducible refine run_seq fun bq hbq => ?_
     refine run_cond (t := false) (by simp only [go_sem, ↓reduceIte]) ?_ ?_
     ·intro hf; cases hf
     ·intro _
      refine run_exit ?_
      repeat first | (with_reducible refine seqK_exit ?_; clear hbq bq) | with_reducible refine cutK_exit ?_ | with_reducible refine loopK_exit ?_ | with_reducible refine run_exit_eq ?_ | (with_reducible refine blockK_ne ?_ ?_; focus rfl)
      refine run_next ?_; subst hbq
      repeat with_reducible refine run_seq fun bq hbq => ?_
      refine run_region (by simp only [compL, gtOf, nthDst]; exact rfl) ?_
      simp only [go_sem, ↓reduceIte, f6, f7, mr, mq, hc0]
      refine run_next ?_; subst hbq
      have hil : i = t.args.length := by omega
      refine run_ret_as (h' := h) (v := enc (filledF t us d)) (by rw [Tryz.results143]) (hl2.new hne.2) ?_ hq
      rw [hfill]
      simp only [go_sem, ↓reduceIte, f6, aPack, Option.some.injEq, exists_eq_left']
      rw [List.take_of_length_le (by rw [filledL_length]; omega)]
      refine LeAV.agg (.cons (LeAV.refl _) (.cons (LeAV.refl _) (.cons (LeAV.refl _) (.cons ?_ .nil))))
      rw [filledL_length, ← hil]
      rcases hsz0 with h0 | h4
      ·have hnil : filledL t.args us D = [] := List.eq_nil_of_length_eq_zero (by rw [filledL_length]; omega)
       rw [hnil, h0, encs_nil]
       exact LeAV.nil _ _ _
      ·rw [h4]; exact LeAV.list _ _ _ _
def noLam (t : Term) : Bool := t.kind != 5 || (t.n != 0 || (!(t.name.toList == (⟨#[]⟩ : ByteArray).toList) || (t.args.length : Int) != 1))
def bodyF : Nat → Term → Term × Bool
 | 0, t => (t, t.kind != 5)
 | k + 1, t => if noLam t then (t, false) else bodyF k (t.args.headD noTerm)
theorem noLam_one {t : Term} (h : noLam t = false) : ∃ u, t.args = [u] := by
 simp only [noLam, Bool.or_eq_false_iff] at h
 have h3 := h.2.2.2
 have : t.args.length = 1 := by simp at h3; omega
 match hl : t.args, this with
 | [u], _ => exact ⟨u, rfl⟩
theorem body_am (t : Term) (n : Int) (h : AHeap) (Q : AOut → AHeap → Prop) (hn : n ≤ 1000000000) (hq : Q (.ret (.tuple [enc (bodyF n.toNat t).1, .bool (bodyF n.toNat t).2])) h) : AmCalls Tryz.prog 118 [enc t, .int .i64 n] h Q := by
 refine AmCalls.of_sem (fn := Tryz.f118) Tryz.func118 rfl (by kernel_rfl) (by rw [Tryz.ntmps118]; simp) (enters_of Tryz.func118 (by kernel_rfl) (by kernel_rfl)) ?_
 repeat refine run_seq fun bq hbq => ?_
 refine run_region (by simp only [compL, gtOf, nthDst]; exact rfl) ?_
 simp only [go_sem, ↓reduceIte]
 intro p hp q hq'
 obtain ⟨hne, hq0⟩ := fresh_two hq'
 refine run_next ?_; subst hbq
 repeat refine run_seq fun bq hbq => ?_
 refine run_region (by simp only [compL, gtOf, nthDst]; exact rfl) ?_
 simp only [go_sem, ↓reduceIte]
 refine run_next ?_; subst hbq
 repeat refine run_seq fun bq hbq => ?_
 refine run_block fun cq hcq => ?_
 subst hcq
 refine run_loop (fun k τ h' => ∃ (i : Nat) (u : Term), k = n.toNat - i ∧ ((i : Int) ≤ n ∨ i = 0) ∧ bodyF (n.toNat - i) u = bodyF n.toNat t ∧ τ 2 = .ptr p 0 ∧ τ 4 = .ptr q 0 ∧ τ 6 = .int .i64 n ∧ τ 7 = .int .i64 i ∧ HLess h' h ∧ h' p = some (.cells (cellsT u) 27) ∧ ∃ c0, h' q = some (.cells c0 27) ∧ c0.length = 4) n.toNat ?_ ?_
 ·exact ⟨0, t, rfl, .inr rfl, rfl, rfl, rfl, rfl, rfl, ((HLess.refl h).new hp).new hq0, by rw [upd_other _ _ hne.symm, upd_same], _, upd_same _ _ _, rfl⟩
 ·intro c hc k τ h2 hI
  obtain ⟨i, u, rfl, hin, hu, e2, e4, e6, e7, hl, lp, c0, lq, hc0⟩ := hI
  subst hc
  have hdr : List.drop 4 c0 = [] := List.drop_eq_nil_of_le (by omega)
  repeat refine run_seq fun bq hbq => ?_
  refine run_region (by simp only [compL, gtOf, nthDst]; exact rfl) ?_
  simp only [go_sem, ↓reduceIte, e6, e7]
  refine run_next ?_; subst hbq
  repeat refine run_seq fun bq hbq => ?_
  refine run_cond (t := decide ((i : Int) < n)) (by simp only [go_sem, ↓reduceIte]) ?_ ?_
  ·intro hlt
   have hlt' : (i : Int) < n := by simpa using hlt
   obtain ⟨k, hk⟩ : ∃ k, n.toNat - i = k + 1 := ⟨n.toNat - i - 1, by omega⟩
   rw [hk, bodyF] at hu
   refine run_skip ?_
   refine run_next ?_; subst hbq
   repeat refine run_seq fun bq hbq => ?_
   refine run_block fun cq hcq => ?_
   subst hcq
   refine run_seq fun bq hbq => ?_
   refine run_cut (fun τ' h' => h' = h2 ∧ τ' 2 = .ptr p 0 ∧ τ' 4 = .ptr q 0 ∧ τ' 6 = .int .i64 n ∧ τ' 7 = .int .i64 i ∧ τ' 27 = .bool (noLam u)) ?_ fun bq hbq τ h' hI => ?_
   ·repeat refine run_seq fun bq hbq => ?_
    refine run_region (by simp only [compL, gtOf, nthDst]; exact rfl) ?_
    cases h1 : (u.kind != 5) <;> cases h2 : (u.n != 0) <;> cases h3 : (u.name.toList == (⟨#[]⟩ : ByteArray).toList) <;> cases h4 : ((u.args.length : Int) != 1)
    all_goals
     simp only [go_sem, ↓reduceIte, e2, lp, h1, h2, h3, h4]
     refine run_endcut ?_
     simp only [go_sem, ↓reduceIte, e2, e4, e6, e7, noLam, h1, h2, h3, h4, Bool.or_self]
   ·obtain ⟨rfl, g2, g4, g6, g7, g27⟩ := hI
    subst hbq
    refine run_cond g27 ?_ ?_
    ·intro hno
     rw [if_pos hno] at hu
     repeat refine run_seq fun bq hbq => ?_
     refine run_region (by simp only [compL, gtOf, nthDst]; exact rfl) ?_
     simp only [go_sem, ↓reduceIte, g2, g4, lp, lq, hc0, hdr]
     refine run_next ?_; subst hbq
     refine run_ret_in ?_
     repeat first | (refine seqK_ret ?_; clear hbq bq) | refine cutK_ret ?_ | refine loopK_ret ?_ | refine blockK_ret ?_
     rw [← hu] at hq
     refine last_as (h' := h) (by rw [Tryz.results118]) (hl.new hq0) ?_ hq
     simp only [go_sem, ↓reduceIte, g4, aPack, Option.some.injEq, exists_eq_left']
     exact LeAV.refl _
    ·intro hno
     rw [if_neg (by rw [hno]; decide)] at hu
     obtain ⟨x, hx⟩ := noLam_one hno
     have lp' : h' p = some (.cells [.int .i64 u.kind, .int .i64 u.n, .str u.name, .list 4 (encs [x]) 1 .none] 27) := by rw [lp]; show _ = some (AObj.cells [_, _, _, AV.list 4 (encs [x]) [x].length .none] 27); rw [← hx]
     refine run_skip ?_
     refine run_next ?_; subst hbq
     repeat refine run_seq fun bq hbq => ?_
     refine run_region (by simp only [compL, gtOf, nthDst]; exact rfl) ?_
     simp only [go_sem, ↓reduceIte, g2, lp', show (0 : Int) ≤ 0 from by decide, show (0 : Int) < ((1 : Nat) : Int) from by decide, show (0 : Int).toNat = 0 from rfl, Nat.zero_mul, encs_cons]
     refine run_endblock ?_
     refine run_next ?_; subst hbq
     repeat refine run_seq fun bq hbq => ?_
     refine run_region (by simp only [compL, gtOf, nthDst]; exact rfl) ?_
     simp only [go_sem, ↓reduceIte, g7, wrapI ((i : Int) + 1) (by omega)]
     refine run_loopN (m := n.toNat - (i + 1)) (by omega) ⟨i + 1, x, rfl, .inl (by omega), ?_, ?_⟩
     ·rw [hx] at hu
      rw [← hu, show n.toNat - (i + 1) = k by omega]
      rfl
     ·simp only [go_sem, ↓reduceIte, g2, g4, g6, hne, lq]
      exact ⟨rfl, hl.new hp, c0, rfl, hc0⟩
  ·intro hlt
   have hlt' : ¬ (i : Int) < n := by simpa using hlt
   rw [show n.toNat - i = 0 by omega, bodyF] at hu
   refine run_exit ?_
   repeat first | (refine seqK_exit ?_; clear hbq bq) | refine cutK_exit ?_ | refine loopK_exit ?_ | refine run_exit_eq ?_ | refine blockK_ne rfl ?_
   refine run_next ?_; subst hbq
   repeat refine run_seq fun bq hbq => ?_
   refine run_draw (.take 0 (.take 1 (.take 2 (.take 3 (.one 4 [2] (.take 5 (.done))))))) (by kernel_rfl) (by simp only [compL, gtOf, nthDst]; exact rfl) ?_
   simp only [go_sem, ↓reduceIte, e2, e4, lp, lq, hc0, hdr, hne, hne.symm]
   refine run_next ?_; subst hbq
   rw [← hu] at hq
   refine run_ret_as (h' := h) (by rw [Tryz.results118]) (hl.new hq0) ?_ hq
   simp only [go_sem, ↓reduceIte, e4, aPack, Option.some.injEq, exists_eq_left']
   exact LeAV.refl _
abbrev encS (l : List ByteArray) : List AV := l.map AV.str
def isArrow (n : ByteArray) : Bool := n.toList == (⟨#[45, 62]⟩ : ByteArray).toList
def argsEnd (t : Ty) (out : List ByteArray) : Option (List ByteArray) := if isBaseF t then some out else none
def argsGo : Ty → List ByteArray → Option (List ByteArray)
 | ⟨n, [a, b]⟩, out => if isArrow n then (if !isBaseF a || (out.length : Int) == 8 then none else argsGo b (out ++ [a.name])) else argsEnd ⟨n, [a, b]⟩ out
 | ⟨n, l⟩, out => argsEnd ⟨n, l⟩ out
def argsF (t : Ty) : Option (List ByteArray) := argsGo t []
def argsV (r : Option (List ByteArray)) : AV := match r with
 | some l => .tuple [.list 1 (encS l) l.length .none, .bool true]
 | Option.none => .tuple [.list 1 [] 0 .none, .bool false]
theorem argsGo_two {t : Ty} (out : List ByteArray) (h1 : isArrow t.name = true) (h : ((t.args.length : Int) == 2) = true) : ∃ a b, t.args = [a, b] ∧ argsGo t out = (if !isBaseF a || (out.length : Int) == 8 then none else argsGo b (out ++ [a.name])) ∧ b.size < t.size := by
 obtain ⟨n, l⟩ := t
 match l, h with
 | [a, b], _ => exact ⟨a, b, rfl, by rw [argsGo, if_pos h1], tsize_arg ⟨n, [a, b]⟩ 1 rfl⟩
 | [], h => simp at h
 | [a], h => simp at h
 | a :: b :: c :: l, h => simp at h; omega
theorem argsGo_end {t : Ty} (out : List ByteArray) (h : (isArrow t.name && (t.args.length : Int) == 2) = false) : argsGo t out = argsEnd t out := by
 obtain ⟨n, l⟩ := t
 match l, h with
 | [a, b], h =>
  have : isArrow n = false := by simpa using h
  rw [argsGo, if_neg (by rw [this]; decide)]
 | [], _ => rw [argsGo]; intro a b e; cases e
 | [a], _ => rw [argsGo]; intro a b e; cases e
 | a :: b :: c :: l, _ => rw [argsGo]; intro a b e; cases e
theorem build_str (s : ByteArray) : aBuildSlice Tryz.prog 70 1 [(0, .str s)] = some (.list 1 [.str s] 1 .full) := build1 el_70 sz_9 ze_9 rfl rfl rfl (by decide)
theorem args_am (t : Ty) (h : AHeap) (Q : AOut → AHeap → Prop) (hq : Q (.ret (argsV (argsF t))) h) : AmCalls Tryz.prog 33 [encTy t] h Q := by
 refine AmCalls.of_sem (fn := Tryz.f33) Tryz.func33 rfl (by kernel_rfl) (by rw [Tryz.ntmps33]; simp) (enters_of Tryz.func33 (by kernel_rfl) (by kernel_rfl)) ?_
 repeat refine run_seq fun bq hbq => ?_
 refine run_region (by simp only [compL, gtOf, nthDst]; exact rfl) ?_
 simp only [go_sem, ↓reduceIte]
 intro p hp
 refine run_next ?_; subst hbq
 repeat refine run_seq fun bq hbq => ?_
 refine run_region (by simp only [compL, gtOf, nthDst]; exact rfl) ?_
 simp only [go_sem, ↓reduceIte]
 refine run_next ?_; subst hbq
 repeat refine run_seq fun bq hbq => ?_
 repeat refine run_seq fun bq hbq => ?_
 refine run_block fun cq hcq => ?_
 subst hcq
 refine run_loop (fun k τ h' => ∃ (u : Ty) (out : List ByteArray) (sz : Nat) (tok : Tok), k = u.size ∧ argsGo u out = argsF t ∧ τ 1 = .ptr p 0 ∧ τ 4 = .list sz (encS out) out.length tok ∧ (out = [] ∨ sz = 1) ∧ out.length ≤ 8 ∧ HLess h' h ∧ h' p = some (.cells (cellsTy u) 60) ∧ Grow 9 h h' tok) t.size ?_ ?_
 ·exact ⟨t, [], 0, .nil, rfl, rfl, rfl, rfl, .inl rfl, by decide, (HLess.refl h).new hp, upd_same _ _ _, .inl (.inr rfl)⟩
 ·intro c hc k τ h' hI
  obtain ⟨u, out, sz, tok, rfl, hu, e1, e4, hsz, hout, hl, lp, hg⟩ := hI
  subst hc
  repeat refine run_seq fun bq hbq => ?_
  refine run_region (by simp only [compL, gtOf, nthDst]; exact rfl) ?_
  have arrow : ∀ b, isArrow u.name = b → (u.name.toList == (⟨#[45, 62]⟩ : ByteArray).toList) = b := fun b hb => hb
  cases h1 : isArrow u.name <;> cases h2 : ((u.args.length : Int) == 2)
  case true.true =>
   have h1' := arrow _ h1
   simp only [go_sem, ↓reduceIte, e1, lp, h1', h2]
   refine run_next ?_; subst hbq
   repeat refine run_seq fun bq hbq => ?_
   refine run_cond (t := true) (by simp only [go_sem, ↓reduceIte]) ?_ ?_
   ·intro _
    obtain ⟨a, b, hab, hgo, hsb⟩ := argsGo_two out h1 h2
    rw [hgo] at hu
    have lp' : h' p = some (.cells [.str u.name, .list 2 (encTs [a, b]) 2 .none] 60) := by rw [lp]; show _ = some (AObj.cells [_, AV.list 2 (encTs [a, b]) [a, b].length .none] 60); rw [← hab]
    have z0 := show (0 : Int) ≤ 0 from by decide
    have z1 := show (0 : Int) < ((2 : Nat) : Int) from by decide
    have z2 := show (0 : Int).toNat = 0 from rfl
    refine run_skip ?_
    refine run_next ?_; subst hbq
    repeat refine run_seq fun bq hbq => ?_
    refine run_block fun cq hcq => ?_
    subst hcq
    repeat refine run_seq fun bq hbq => ?_
    refine run_region (by simp only [compL, gtOf, nthDst]; exact rfl) ?_
    simp only [go_sem, ↓reduceIte, e1, lp', z0, z1, z2, Nat.zero_mul, encTs_cons]
    refine isBase_am a _ _ ?_
    cases hb : isBaseF a
    ·rw [hb] at hu
     simp only [go_sem, ↓reduceIte, e4]
     refine run_next ?_; subst hbq
     repeat refine run_seq fun bq hbq => ?_
     refine run_cond (t := true) (by simp only [go_sem, ↓reduceIte]) ?_ ?_
     ·intro _
      repeat refine run_seq fun bq hbq => ?_
      refine run_region (by simp only [compL, gtOf, nthDst]; exact rfl) ?_
      simp only [go_sem, ↓reduceIte]
      refine run_next ?_; subst hbq
      refine run_ret_in ?_
      repeat first | (refine seqK_ret ?_; clear hbq bq) | refine cutK_ret ?_ | refine loopK_ret ?_ | refine blockK_ret ?_
      have hu' : argsF t = Option.none := by rw [← hu]; rfl
      rw [hu'] at hq
      refine last_as (h' := h) (by rw [Tryz.results33]) (hl.trans (HLess.refl h)) ?_ hq
      simp only [go_sem, ↓reduceIte, aPack, Option.some.injEq, exists_eq_left']
      exact LeAV.tuple (.cons (LeAV.nil _ _ _) (.cons (LeAV.refl _) .nil))
     ·intro hf; cases hf
    ·rw [hb] at hu
     cases h8 : ((out.length : Int) == 8)
     ·rw [h8] at hu
      simp only [go_sem, ↓reduceIte, e4, List.length_map, h8]
      refine run_next ?_; subst hbq
      repeat refine run_seq fun bq hbq => ?_
      refine run_cond (t := false) (by simp only [go_sem, ↓reduceIte]) ?_ ?_
      ·intro hf; cases hf
      ·intro _
       refine run_skip ?_
       refine run_next ?_; subst hbq
       repeat refine run_seq fun bq hbq => ?_
       refine run_region (by simp only [compL, gtOf, nthDst]; exact rfl) ?_
       simp only [go_sem, ↓reduceIte, e1, e4, lp', z0, z1, z2, Nat.zero_mul, encTs_cons, build_str]
       refine cAppend_list ?_
       simp only [go_sem, ↓reduceIte, build_str, e4]
       intro w hw
       have h8' : ¬ out.length = 8 := by simp at h8; omega
       obtain ⟨h4, ea, hg4, hl4, keep⟩ := append_grow el_70 el_70 sz_9 by_9 ze_9 ⟨rfl, by decide⟩ hl hw (sz1 := sz) (n1 := out.length) (c1 := encS out) (c2 := [.str a.name]) (n2 := 1) (t2 := .full) hg (by rcases hsz with e | e <;> simp [e]) (sz2 := 1) rfl (by decide) (by omega)
       have p4 := keep _ _ _ lp'
       simp only [go_sem, ↓reduceIte, ea]
       refine run_next ?_; subst hbq
       repeat refine run_seq fun bq hbq => ?_
       refine run_region (by simp only [compL, gtOf, nthDst]; exact rfl) ?_
       obtain ⟨rb, hrb⟩ := encTs_at [a, b] 1 (t := b) rfl
       simp only [Nat.reduceMul] at hrb
       simp only [go_sem, ↓reduceIte, e1, p4, show (0 : Int) ≤ 1 from by decide, show (1 : Int) < ((2 : Nat) : Int) from by decide, show (1 : Int).toNat = 1 from rfl, Nat.reduceMul, hrb]
       refine run_endblock ?_
       have hgo2 : argsGo b (out ++ [a.name]) = argsF t := by rw [← hu]; rfl
       refine run_loopN hsb ⟨b, out ++ [a.name], 1, .id w, rfl, hgo2, ?_⟩
       simp only [go_sem, ↓reduceIte, e1]
       refine ⟨by simp [encS], by simp, by simp; omega, hl4.new hp, ?_⟩
       rcases hg4 with e | ⟨f, ef, hf, hf0⟩
       ·rcases e with e | e <;> cases e
       ·injection ef with ef; subst ef
        exact .inr ⟨w, rfl, by rw [upd_other _ _ (by intro e; rw [e, p4] at hf; cases hf)]; exact hf, hf0⟩
     ·rw [h8] at hu
      simp only [go_sem, ↓reduceIte, e4, h8]
      refine run_next ?_; subst hbq
      repeat refine run_seq fun bq hbq => ?_
      refine run_cond (t := true) (by simp only [go_sem, ↓reduceIte]) ?_ ?_
      ·intro _
       repeat refine run_seq fun bq hbq => ?_
       refine run_region (by simp only [compL, gtOf, nthDst]; exact rfl) ?_
       simp only [go_sem, ↓reduceIte]
       refine run_next ?_; subst hbq
       refine run_ret_in ?_
       repeat first | (refine seqK_ret ?_; clear hbq bq) | refine cutK_ret ?_ | refine loopK_ret ?_ | refine blockK_ret ?_
       have hu' : argsF t = Option.none := by rw [← hu]; rfl
       rw [hu'] at hq
       refine last_as (h' := h) (by rw [Tryz.results33]) (hl.trans (HLess.refl h)) ?_ hq
       simp only [go_sem, ↓reduceIte, aPack, Option.some.injEq, exists_eq_left']
       exact LeAV.tuple (.cons (LeAV.nil _ _ _) (.cons (LeAV.refl _) .nil))
      ·intro hf; cases hf
   ·intro hf; cases hf
  all_goals
   have h1' := arrow _ h1
   have hend : argsGo u out = argsEnd u out := argsGo_end out (by rw [h1, h2]; rfl)
   rw [hend] at hu
   simp only [go_sem, ↓reduceIte, e1, lp, h1', h2]
   refine run_next ?_; subst hbq
   repeat refine run_seq fun bq hbq => ?_
   refine run_cond (t := false) (by simp only [go_sem, ↓reduceIte]) ?_ ?_
   ·intro hf; cases hf
   ·intro _
    refine run_exit ?_
    repeat first | (refine seqK_exit ?_; clear hbq bq) | refine cutK_exit ?_ | refine loopK_exit ?_ | refine run_exit_eq ?_ | refine blockK_ne rfl ?_
    refine run_next ?_; subst hbq
    repeat refine run_seq fun bq hbq => ?_
    refine run_region (by simp only [compL, gtOf, nthDst]; exact rfl) ?_
    simp only [go_sem, ↓reduceIte, e1, lp]
    refine isBase_am u _ _ ?_
    cases hb : isBaseF u
    ·simp only [go_sem, ↓reduceIte]
     refine run_next ?_; subst hbq
     repeat refine run_seq fun bq hbq => ?_
     refine run_cond (t := true) (by simp only [go_sem, ↓reduceIte]) ?_ ?_
     ·intro _
      repeat refine run_seq fun bq hbq => ?_
      refine run_region (by simp only [compL, gtOf, nthDst]; exact rfl) ?_
      simp only [go_sem, ↓reduceIte]
      refine run_next ?_; subst hbq
      refine run_ret_in ?_
      repeat first | (refine seqK_ret ?_; clear hbq bq) | refine cutK_ret ?_ | refine loopK_ret ?_ | refine blockK_ret ?_
      have hu' : argsF t = Option.none := by rw [← hu, argsEnd, hb]; rfl
      rw [hu'] at hq
      refine last_as (h' := h) (by rw [Tryz.results33]) (hl.trans (HLess.refl h)) ?_ hq
      simp only [go_sem, ↓reduceIte, aPack, Option.some.injEq, exists_eq_left']
      exact LeAV.tuple (.cons (LeAV.nil _ _ _) (.cons (LeAV.refl _) .nil))
     ·intro hf; cases hf
    ·simp only [go_sem, ↓reduceIte]
     refine run_next ?_; subst hbq
     repeat refine run_seq fun bq hbq => ?_
     refine run_cond (t := false) (by simp only [go_sem, ↓reduceIte]) ?_ ?_
     ·intro hf; cases hf
     ·intro _
      refine run_skip ?_
      refine run_next ?_; subst hbq
      repeat refine run_seq fun bq hbq => ?_
      refine run_region (by simp only [compL, gtOf, nthDst]; exact rfl) ?_
      simp only [go_sem, ↓reduceIte, e4]
      refine run_next ?_; subst hbq
      have hu' : argsF t = some out := by rw [← hu, argsEnd, hb]; rfl
      rw [hu'] at hq
      refine run_ret_as (h' := h) (by rw [Tryz.results33]) hl ?_ hq
      simp only [go_sem, ↓reduceIte, aPack, Option.some.injEq, exists_eq_left']
      refine LeAV.tuple (.cons ?_ (.cons (LeAV.refl _) .nil))
      rcases hsz with e | e
      ·rw [e]; exact LeAV.nil _ _ _
      ·rw [e]; exact LeAV.list _ _ _ _
theorem indexFuncV_am (l : List Va) (g : FuncId) (first cap : List AV) (f : Va → Bool) (h : AHeap) (Q : AOut → AHeap → Prop) (hl : l.length ≤ 1000000000) (hf : Asks Tryz.prog encV g first cap l f h) (hq : Q (.ret (.int .i64 (indexF f l 0))) h) :
  AmCalls Tryz.prog 116 [.list 8 (encVs l) l.length .none, .func (.func g) first cap] h Q := by
 refine AmCalls.of_sem (fn := Tryz.f116) Tryz.func116 rfl (by kernel_rfl) (by rw [Tryz.ntmps116]; simp) (enters_of Tryz.func116 (by kernel_rfl) (by kernel_rfl)) ?_
 repeat with_reducible refine run_seq fun bq hbq => ?_
 refine run_region (by simp only [compL, gtOf, nthDst]; exact rfl) ?_
 simp only [go_sem, ↓reduceIte]
 refine run_next ?_; subst hbq
 repeat with_reducible refine run_seq fun bq hbq => ?_
 refine run_region (by simp only [compL, gtOf, nthDst]; exact rfl) ?_
 simp only [go_sem, ↓reduceIte]
 refine run_next ?_; subst hbq
 repeat with_reducible refine run_seq fun bq hbq => ?_
 repeat with_reducible refine run_seq fun bq hbq => ?_
 refine run_block fun cq hcq => ?_
 subst hcq
 refine run_loop (fun k τ h' => ∃ i : Nat, k + i = l.length ∧ τ 0 = .list 8 (encVs l) l.length .none ∧ τ 1 = .func (.func g) first cap ∧ τ 7 = .int .i64 l.length ∧ τ 8 = .int .i64 i ∧ HLess h' h ∧ (∀ (j : Nat) (v : Va), j < i → l[j]? = some v → f v = false) ∧ indexF f (l.drop i) i = indexF f l 0) l.length ?_ ?_
 ·exact ⟨0, rfl, rfl, rfl, rfl, rfl, HLess.refl h, fun j v hj => absurd hj (Nat.not_lt_zero _), rfl⟩
 ·intro c hc k τ h' hI
  obtain ⟨i, hk, e0, e1, e7, e8, hless, hno, hix⟩ := hI
  subst hc
  repeat with_reducible refine run_seq fun bq hbq => ?_
  refine run_region (by simp only [compL, gtOf, nthDst]; exact rfl) ?_
  by_cases hi : i < l.length
  ·have hd : decide (i < l.length) = true := by simpa using hi
   obtain ⟨u, hu⟩ : ∃ u, l[i]? = some u := ⟨_, List.getElem?_eq_getElem hi⟩
   obtain ⟨r, hr⟩ := encVs_at l i hu
   have hdrop : l.drop i = u :: l.drop (i + 1) := by
    rw [List.drop_eq_getElem_cons hi]
    rw [List.getElem?_eq_getElem hi] at hu; injection hu with hu; rw [hu]
   rw [hdrop, indexF] at hix
   simp only [go_sem, ↓reduceIte, e7, e8, hd]
   refine run_next ?_; subst hbq
   repeat with_reducible refine run_seq fun bq hbq => ?_
   refine run_cond (t := true) (by simp only [go_sem, ↓reduceIte]) ?_ ?_
   ·intro _
    refine run_skip ?_
    refine run_next ?_; subst hbq
    repeat with_reducible refine run_seq fun bq hbq => ?_
    refine run_block fun cq hcq => ?_
    subst hcq
    repeat with_reducible refine run_seq fun bq hbq => ?_
    refine run_region (by simp only [compL, gtOf, nthDst]; exact rfl) ?_
    simp only [go_sem, ↓reduceIte, e8]
    refine run_next ?_; subst hbq
    repeat with_reducible refine run_seq fun bq hbq => ?_
    refine run_region (by simp only [compL, gtOf, nthDst]; exact rfl) ?_
    simp only [go_sem, ↓reduceIte, e0, e1, hi, hr, List.cons_append, List.nil_append]
    refine hf i u hu hno _ _ hless ?_
    simp only [go_sem, ↓reduceIte]
    refine run_next ?_; subst hbq
    repeat with_reducible refine run_seq fun bq hbq => ?_
    refine run_cond (t := f u) (by simp only [go_sem, ↓reduceIte]) ?_ ?_
    ·intro hfu
     rw [if_pos hfu] at hix
     repeat with_reducible refine run_seq fun bq hbq => ?_
     refine run_region (by simp only [compL, gtOf, nthDst]; exact rfl) ?_
     simp only [go_sem, ↓reduceIte]
     refine run_next ?_; subst hbq
     refine run_ret_in ?_
     repeat first | (with_reducible refine seqK_ret ?_; clear hbq bq) | with_reducible refine cutK_ret ?_ | with_reducible refine loopK_ret ?_ | with_reducible refine blockK_ret ?_
     rw [← hix] at hq
     refine last_as (h' := h) (by rw [Tryz.results116]) hless ?_ hq
     simp only [go_sem, ↓reduceIte, aPack, Option.some.injEq, exists_eq_left']
     exact LeAV.refl _
    ·intro hfu
     rw [if_neg (by rw [hfu]; decide)] at hix
     refine run_skip ?_
     refine run_endblock ?_
     refine run_next ?_; subst hbq
     repeat with_reducible refine run_seq fun bq hbq => ?_
     refine run_region (by simp only [compL, gtOf, nthDst]; exact rfl) ?_
     simp only [go_sem, ↓reduceIte, e8, wrapI ((i : Int) + 1) (by omega)]
     refine run_loopN (m := k - 1) (by omega) ⟨i + 1, by omega, ?_⟩
     simp only [go_sem, ↓reduceIte, e0, e1, e7]
     refine ⟨rfl, hless, fun j v hj hv => ?_, hix⟩
     by_cases e : j = i
     ·subst e; rw [hu] at hv; injection hv with hv; subst hv; exact hfu
     ·exact hno j v (by omega) hv
   ·intro hf; cases hf
  ·have hd : decide (i < l.length) = false := by simpa using hi
   rw [List.drop_eq_nil_of_le (by omega), indexF] at hix
   simp only [go_sem, ↓reduceIte, e7, e8, hd]
   refine run_next ?_; subst hbq
   repeat with_reducible refine run_seq fun bq hbq => ?_
   refine run_cond (t := false) (by simp only [go_sem, ↓reduceIte]) ?_ ?_
   ·intro hf; cases hf
   ·intro _
    refine run_exit ?_
    repeat first | (with_reducible refine seqK_exit ?_; clear hbq bq) | with_reducible refine cutK_exit ?_ | with_reducible refine loopK_exit ?_ | with_reducible refine run_exit_eq ?_ | (with_reducible refine blockK_ne ?_ ?_; focus rfl)
    refine run_next ?_; subst hbq
    repeat with_reducible refine run_seq fun bq hbq => ?_
    refine run_region (by simp only [compL, gtOf, nthDst]; exact rfl) ?_
    simp only [go_sem, ↓reduceIte]
    refine run_next ?_; subst hbq
    rw [← hix] at hq
    refine run_ret_as (h' := h) (by rw [Tryz.results116]) hless ?_ hq
    simp only [go_sem, ↓reduceIte, aPack, Option.some.injEq, exists_eq_left']
    exact LeAV.refl _
theorem containsFuncV_am (l : List Va) (g : FuncId) (first cap : List AV) (f : Va → Bool) (h : AHeap) (Q : AOut → AHeap → Prop) (hl : l.length ≤ 1000000000) (hf : Asks Tryz.prog encV g first cap l f h) (hq : Q (.ret (.bool (l.any f))) h) :
  AmCalls Tryz.prog 71 [.list 8 (encVs l) l.length .none, .func (.func g) first cap] h Q := by
 refine AmCalls.of_sem (fn := Tryz.f71) Tryz.func71 rfl (by kernel_rfl) (by rw [Tryz.ntmps71]; simp) (enters_of Tryz.func71 (by kernel_rfl) (by kernel_rfl)) ?_
 repeat with_reducible refine run_seq fun bq hbq => ?_
 refine run_region (by simp only [compL, gtOf, nthDst]; exact rfl) ?_
 simp only [go_sem, ↓reduceIte]
 refine run_next ?_; subst hbq
 repeat with_reducible refine run_seq fun bq hbq => ?_
 refine run_region (by simp only [compL, gtOf, nthDst]; exact rfl) ?_
 simp only [go_sem, ↓reduceIte]
 refine indexFuncV_am l g first cap f h _ hl hf ?_
 simp only [go_sem, ↓reduceIte]
 refine run_next ?_; subst hbq
 refine run_ret (by rw [Tryz.results71]) (HLess.refl h) ?_
 simp only [go_sem, ↓reduceIte, aPack, Option.some.injEq, exists_eq_left']
 exact ret_as (by rw [← indexF_any f l 0 (by decide)]) hq
end Go.Proofs.YthkjmiejaoomcaaGreat.Am
